/-
  Choices, as plain lists: of narrow domains, of a domain of one number; sums.
-/
import Derived.Test.YtnhamdkpeefioaaNarrowM
namespace Go.Proofs.Ytnhamdkpeefioaa

theorem choi_pre {D : List (List Int)} : ∀ (f : Nat) (now s : List Int), s ∈ choi D f now → ∀ i, i < now.length → s.getD i 0 = now.getD i 0
  | 0, now, s, hs, i, hi => by simp only [choi, List.mem_singleton] at hs; subst hs; rfl
  | f + 1, now, s, hs, i, hi => by
    simp only [choi, List.mem_flatMap] at hs
    obtain ⟨n, hn, hs⟩ := hs
    split at hs
    · simp at hs
    · rw [choi_pre f _ s hs i (by simp; omega)]
      simp [List.getElem?_append_left hi]
theorem choi_at {D : List (List Int)} {f : Nat} {now s : List Int} {n : Int} (hs : s ∈ choi D f (now ++ [n])) : s.getD now.length 0 = n := by
  rw [choi_pre f _ s hs now.length (by simp)]
  simp

theorem flatMap_ext {α β : Type} {l : List α} {F G : α → List β} (h : ∀ a ∈ l, F a = G a) : l.flatMap F = l.flatMap G := by
  induction l with
  | nil => rfl
  | cons a l ih => rw [List.flatMap_cons, List.flatMap_cons, h a (by simp), ih fun b hb => h b (by simp [hb])]
theorem flatMap_filter {α β : Type} (p : α → Bool) (l : List α) (F : α → List β) (h : ∀ a ∈ l, p a = false → F a = []) : (l.filter p).flatMap F = l.flatMap F := by
  induction l with
  | nil => rfl
  | cons a l ih =>
    have ih := ih fun b hb => h b (by simp [hb])
    rw [List.flatMap_cons, List.filter_cons]
    split
    · rw [List.flatMap_cons, ih]
    · next hp => rw [h a (by simp) (by simpa using hp), ih]; rfl

theorem nrAll_at {D : List (List Int)} {i : Nat} (hi : i < D.length) : (nrAll D).getD i [] = nrRow D i := by simp [nrAll, hi]
theorem nrAll_len' (D : List (List Int)) : (nrAll D).length = D.length := by simp [nrAll]

/-- Narrow domains have the same choices. -/
theorem choi_narrow (D : List (List Int)) : ∀ (f : Nat) (now : List Int), now.length + f = D.length → (∀ s ∈ choi D f now, s ∈ allC D) → choi (nrAll D) f now = choi D f now
  | 0, now, _, _ => rfl
  | f + 1, now, hl, hs => by
    have hi : now.length < D.length := by omega
    simp only [choi]
    rw [nrAll_at hi]
    have e1 : (nrRow D now.length).flatMap (fun n => if now.contains n then [] else choi (nrAll D) f (now ++ [n])) = (nrRow D now.length).flatMap (fun n => if now.contains n then [] else choi D f (now ++ [n])) := by
      apply flatMap_ext
      intro n hn
      split
      · rfl
      · next hc =>
        refine choi_narrow D f (now ++ [n]) (by simp; omega) (fun s h => hs s ?_)
        simp only [choi, List.mem_flatMap]
        exact ⟨n, (List.mem_filter.1 hn).1, by rw [if_neg hc]; exact h⟩
    rw [e1]
    refine flatMap_filter _ _ _ (fun n hn hp => ?_)
    split
    · rfl
    · next hc =>
      cases hq : choi D f (now ++ [n]) with
      | nil => rfl
      | cons s r =>
        exfalso
        have hm : s ∈ choi D f (now ++ [n]) := by rw [hq]; simp
        have ha : s ∈ allC D := hs s (by
          simp only [choi, List.mem_flatMap]
          exact ⟨n, hn, by rw [if_neg hc]; exact hm⟩)
        have he := choi_at hm
        unfold colB at hp
        rw [List.any_eq_false] at hp
        exact hp s ha (by rw [he]; simp)
theorem allC_narrow (D : List (List Int)) : allC (nrAll D) = allC D := by
  unfold allC
  rw [nrAll_len']
  exact choi_narrow D D.length [] (by simp) (fun s h => h)

theorem set_at {D : List (List Int)} {i : Nat} {z : List Int} (hi : i < D.length) : (D.set i z).getD i [] = z := by simp [hi]
theorem set_off {D : List (List Int)} {i j : Nat} {z : List Int} (h : i ≠ j) : (D.set i z).getD j [] = D.getD j [] := by simp [List.getElem?_set_ne h]

/-- Behind a domain that is set, nothing turns. -/
theorem choi_behind (D : List (List Int)) (i : Nat) (z : List Int) : ∀ (f : Nat) (now : List Int), i < now.length → choi (D.set i z) f now = choi D f now
  | 0, now, _ => rfl
  | f + 1, now, h => by
    simp only [choi]
    rw [set_off (by omega)]
    apply flatMap_ext
    intro n _
    split
    · rfl
    · exact choi_behind D i z f _ (by simp; omega)

theorem flatMap_one {β : Type} (F : Int → List β) (x : Int) : ∀ (l : List Int), l.Nodup → x ∈ l → l.flatMap (fun n => if n = x then F n else []) = F x
  | [], _, h => by simp at h
  | a :: l, hn, h => by
    rw [List.nodup_cons] at hn
    rw [List.flatMap_cons]
    by_cases he : a = x
    · subst he
      rw [if_pos rfl]
      have : l.flatMap (fun n => if n = a then F n else []) = [] := by
        rw [List.flatMap_eq_nil_iff]
        intro b hb
        rw [if_neg (by rintro rfl; exact hn.1 hb)]
      rw [this, List.append_nil]
    · rw [if_neg he, List.nil_append]
      refine flatMap_one F x l hn.2 ?_
      rcases List.mem_cons.1 h with e | h
      · exact absurd e.symm he
      · exact h

/-- A domain of one number: the choices with this number. -/
theorem choi_fixed (D : List (List Int)) (i : Nat) (x : Int) (hi : i < D.length) (hx : x ∈ D.getD i []) (hn : (D.getD i []).Nodup) : ∀ (f : Nat) (now : List Int), now.length ≤ i → now.length + f = D.length →
    choi (D.set i [x]) f now = (choi D f now).filter (fun ch => ch.getD i 0 == x)
  | 0, now, h, hl => by omega
  | f + 1, now, h, hl => by
    simp only [choi]
    rw [List.filter_flatMap]
    by_cases he : now.length = i
    · subst he
      rw [set_at hi]
      have e1 : (D.getD now.length []).flatMap (fun n => ((if now.contains n then [] else choi D f (now ++ [n])) : List (List Int)).filter (fun ch => ch.getD now.length 0 == x)) = (D.getD now.length []).flatMap (fun n => if n = x then (if now.contains n then [] else choi D f (now ++ [n])) else []) := by
        apply flatMap_ext
        intro n _
        by_cases hc : now.contains n = true
        · rw [if_pos hc, List.filter_nil]; split <;> rfl
        · rw [if_neg hc]
          by_cases hnx : n = x
          · rw [if_pos hnx, List.filter_eq_self]
            intro s hs
            rw [choi_at hs]; simpa using hnx
          · rw [if_neg hnx, List.filter_eq_nil_iff]
            intro s hs
            rw [choi_at hs]; simpa using hnx
      rw [e1, flatMap_one _ x _ hn hx]
      simp only [List.flatMap_cons, List.flatMap_nil, List.append_nil]
      split
      · rfl
      · exact choi_behind D now.length [x] f _ (by simp)
    · rw [set_off (Ne.symm he)]
      apply flatMap_ext
      intro n _
      split
      · rfl
      · exact choi_fixed D i x hi hx hn f _ (by simp; omega) (by simp; omega)
theorem allC_fixed {D : List (List Int)} (hD : ValD D) {i : Nat} (hi : i < D.length) {x : Int} (hx : x ∈ D.getD i []) : allC (D.set i [x]) = (allC D).filter (fun ch => ch.getD i 0 == x) := by
  unfold allC
  rw [List.length_set]
  have hn : (D.getD i []).Nodup := ((hD.2.2 i hi).pair).imp (fun h => by omega)
  exact choi_fixed D i x hi hx hn D.length [] (by simp) (by simp)

/-- The numbers of choices, over all numbers of a domain. -/
def fixSum (l : List (List Int)) (i : Nat) (d : List Int) (k : Nat) : Nat := ((d.take k).map fun x => (l.filter (fun ch => ch.getD i 0 == x)).length).sum
theorem fixSum_succ (l : List (List Int)) (i : Nat) (d : List Int) (k : Nat) (h : k < d.length) : fixSum l i d (k + 1) = fixSum l i d k + (l.filter (fun ch => ch.getD i 0 == d.getD k 0)).length := by
  unfold fixSum
  rw [List.take_add_one, List.map_append, List.sum_append]
  have e : d[k]? = some (d.getD k 0) := by simp [h]
  rw [e]
  simp
theorem zero_sum (d : List Int) : (d.map fun _ => (0 : Nat)).sum = 0 := by
  induction d with
  | nil => rfl
  | cons a d ih => rw [List.map_cons, List.sum_cons, ih]
theorem none_sum (g : Int) : ∀ (d : List Int), g ∉ d → (d.map fun x => if (g == x) = true then 1 else 0).sum = 0
  | [], _ => rfl
  | b :: d, h => by
    simp only [List.mem_cons, not_or] at h
    rw [List.map_cons, List.sum_cons, none_sum g d h.2]
    simp [h.1]
theorem one_sum (g : Int) : ∀ (d : List Int), d.Nodup → g ∈ d → (d.map fun x => if (g == x) = true then 1 else 0).sum = 1
  | [], _, h => by simp at h
  | a :: d, hn, h => by
    rw [List.nodup_cons] at hn
    rw [List.map_cons, List.sum_cons]
    by_cases he : g = a
    · subst he
      rw [none_sum g d hn.1]; simp
    · rcases List.mem_cons.1 h with e | h
      · exact absurd e he
      · rw [one_sum g d hn.2 h]; simp [he]
theorem cons_sum (i : Nat) (ch : List Int) (l : List (List Int)) : ∀ (d : List Int), (d.map fun x => ((ch :: l).filter (fun ch => ch.getD i 0 == x)).length).sum = (d.map fun x => if (ch.getD i 0 == x) = true then 1 else 0).sum + (d.map fun x => (l.filter (fun ch => ch.getD i 0 == x)).length).sum
  | [] => rfl
  | a :: d => by
    have fc : ((ch :: l).filter (fun ch => ch.getD i 0 == a)).length = (if (ch.getD i 0 == a) = true then 1 else 0) + (l.filter (fun ch => ch.getD i 0 == a)).length := by
      rw [List.filter_cons]
      split
      · rw [List.length_cons]; omega
      · omega
    rw [List.map_cons, List.map_cons, List.map_cons, List.sum_cons, List.sum_cons, List.sum_cons, cons_sum i ch l d, fc]
    omega
theorem fixSum_all (i : Nat) (d : List Int) (hn : d.Nodup) : ∀ (l : List (List Int)), (∀ ch ∈ l, ch.getD i 0 ∈ d) → fixSum l i d d.length = l.length := by
  intro l
  unfold fixSum
  rw [List.take_length]
  induction l with
  | nil => intro _; exact zero_sum d
  | cons ch l ih =>
    intro h
    have h1 := ih fun c hc => h c (by simp [hc])
    have h2 := one_sum (ch.getD i 0) d hn (h ch (by simp))
    rw [cons_sum, h1, h2, List.length_cons]; omega

end Go.Proofs.Ytnhamdkpeefioaa
