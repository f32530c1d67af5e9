/-
  FnMachines: texts joined: JbB, Has, Fin, Dot.
-/
import Derived.Deep.RegionHeld3
import Derived.Test.YtfdaifmfecfchaaMFnMachinesAB
import Derived.Test.YtfdaifmfecfchaaMFnMachinesAC
import Derived.Test.YtfdaifmfecfchaaMFnMachinesAF
namespace Go.Proofs.Ytfdaifmfecfchaa
open Go.RowKit Go.Sort

/-- Every job of a list ends on time, from a time on. -/
def okP (l d : Nat → Int) (t : Int) : List Nat → Prop
  | [] => True
  | x :: r => t + l x ≤ d x ∧ okP l d (t + l x) r
theorem okP_app {l d : Nat → Int} : ∀ {t : Int} {a b : List Nat}, okP l d t (a ++ b) ↔ okP l d t a ∧ okP l d (t + sumF l a) b
  | t, [], b => by simp [okP, sumF]
  | t, x :: a, b => by
    have e := okP_app (l := l) (d := d) (t := t + l x) (a := a) (b := b)
    rw [Int.add_assoc t] at e
    simp only [List.cons_append, okP, sumF, e]
    constructor
    · rintro ⟨h1, h2, h3⟩; exact ⟨⟨h1, h2⟩, h3⟩
    · rintro ⟨⟨h1, h2⟩, h3⟩; exact ⟨h1, h2, h3⟩
theorem okP_mono {l d : Nat → Int} : ∀ {t u : Int} {a : List Nat}, u ≤ t → okP l d t a → okP l d u a
  | _, _, [], _, _ => trivial
  | t, u, x :: a, h, ⟨h1, h2⟩ => ⟨by omega, okP_mono (by omega) h2⟩
theorem okP_last {l d : Nat → Int} {m : Int} : ∀ {t : Int} {a : List Nat}, a ≠ [] → okP l d t a → (∀ y ∈ a, d y ≤ m) → t + sumF l a ≤ m
  | t, [], h, _, _ => absurd rfl h
  | t, [x], _, ⟨h1, _⟩, h => by
    have := h x (List.mem_cons_self ..)
    simp only [sumF]
    omega
  | t, x :: y :: a, _, ⟨_, h2⟩, h => by
    have := okP_last (a := y :: a) (by simp) h2 (fun z hz => h z (List.mem_cons_of_mem _ hz))
    simp only [sumF] at this ⊢
    omega
theorem okP_take {l d : Nat → Int} : ∀ {t : Int} {a : List Nat} {i : Nat}, okP l d t a → i < a.length → t + sumF l (a.take (i + 1)) ≤ d (a.getD i 0)
  | t, [], i, _, h => by simp at h
  | t, x :: a, 0, ⟨h1, _⟩, _ => by simpa [sumF] using h1
  | t, x :: a, i + 1, ⟨_, h2⟩, h => by
    have := okP_take (i := i) h2 (by simpa using h)
    simp only [List.take_succ_cons, sumF, List.getD_cons_succ]
    omega

theorem mostN_ge (f : Nat → Int) : ∀ k i, i < k → f i ≤ f (mostN f k)
  | 0, i, h => by omega
  | k + 1, i, h => by
    simp only [mostN]
    by_cases e : i = k
    · subst e
      split
      · exact Int.le_refl _
      · omega
    · have := mostN_ge f k i (by omega)
      split <;> omega
theorem getD_in {L : List Nat} {i : Nat} (h : i < L.length) : L.getD i 0 ∈ L := by
  rw [List.getD_eq_getElem?_getD, List.getElem?_eq_getElem h]
  exact List.getElem_mem _
theorem in_getD {L : List Nat} {x : Nat} (h : x ∈ L) : ∃ i, i < L.length ∧ L.getD i 0 = x := by
  obtain ⟨i, hi, e⟩ := List.getElem_of_mem h
  refine ⟨i, hi, ?_⟩
  rw [List.getD_eq_getElem?_getD, List.getElem?_eq_getElem hi]
  exact e
theorem split_at {L : List Nat} {i : Nat} (h : i < L.length) : L = L.take i ++ L.getD i 0 :: L.drop (i + 1) := by
  rw [List.getD_eq_getElem?_getD, List.getElem?_eq_getElem h]
  simp
/-- What one step does to what is kept. -/
theorem ot_cut (js : List JobD) (K : List Nat) (i : Nat) : ∃ a x b, K ++ [i] = a ++ x :: b ∧ (K ++ [i]).eraseIdx (longest js (K ++ [i])) = a ++ b ∧ (K ++ [i]).getD (longest js (K ++ [i])) 0 = x ∧ ∀ y ∈ K ++ [i], longK js y ≤ longK js x := by
  have hm := mostN_lt (keptLong js (K ++ [i])) (K ++ [i]).length (by simp)
  refine ⟨(K ++ [i]).take (longest js (K ++ [i])), (K ++ [i]).getD (longest js (K ++ [i])) 0, (K ++ [i]).drop (longest js (K ++ [i]) + 1), split_at hm, ?_, rfl, fun y hy => ?_⟩
  · rw [List.eraseIdx_eq_take_drop_succ]
  · obtain ⟨k, hk, e⟩ := in_getD hy
    have := mostN_ge (keptLong js (K ++ [i])) _ k hk
    unfold keptLong at this
    rw [e] at this
    exact this

/-- Where the work stands: what is kept ends on time, and is none worse than what of an other order is. -/
structure Moo (js : List JobD) (P : Nat → Bool) (C K A : List Nat) : Prop where
  perm : (K ++ A).Perm C
  ok : okP (longK js) (fun x => (js.getD x J0).due) 0 K
  T : ∃ T : List Nat, T.Nodup ∧ (∀ x ∈ T, x ∈ K) ∧ T.length = (C.filter P).length ∧ sumF (longK js) T ≤ sumF (longK js) (C.filter P)

theorem Moo.next {js : List JobD} {P : Nat → Bool} {C K A : List Nat} {t : Int} {j : Nat} (h : Moo js P C K A) (ht : t = sumF (longK js) K) (hn : (C ++ [j]).Nodup) (hl : ∀ x ∈ C ++ [j], 0 ≤ longK js x)
    (hd : ∀ x ∈ C ++ [j], (js.getD x J0).due ≤ (js.getD j J0).due)
    (hP : ∀ B : List Nat, B.Nodup → B ≠ [] → (∀ x ∈ B, P x = true ∧ x ∈ C ++ [j]) → ∃ x ∈ B, sumF (longK js) B ≤ (js.getD x J0).due) :
    Moo js P (C ++ [j]) (otStep js K A t j).1 (otStep js K A t j).2.1 ∧ (otStep js K A t j).2.2 = sumF (longK js) (otStep js K A t j).1 := by
  obtain ⟨hp, hok, T, hT1, hT2, hT3, hT4⟩ := h
  have hKC : ∀ x ∈ K, x ∈ C := fun x hx => hp.mem_iff.1 (List.mem_append_left _ hx)
  have hjC : j ∉ C := fun e => (List.nodup_append.1 hn).2.2 j e j (by simp) rfl
  have hjK : j ∉ K := fun e => hjC (hKC j e)
  have hKA : (K ++ A).Nodup := hp.nodup_iff.2 (List.nodup_append.1 hn).1
  have hKn : K.Nodup := (List.nodup_append.1 hKA).1
  have hKj : (K ++ [j]).Nodup := by
    rw [List.nodup_append]
    refine ⟨hKn, by simp, fun x hx y hy e => ?_⟩
    rw [List.mem_singleton.1 hy] at e
    exact hjK (e ▸ hx)
  -- what is kept with the new one is none worse than what of the other order is
  have hT' : ∃ T : List Nat, T.Nodup ∧ (∀ x ∈ T, x ∈ K ++ [j]) ∧ T.length = ((C ++ [j]).filter P).length ∧ sumF (longK js) T ≤ sumF (longK js) ((C ++ [j]).filter P) := by
    by_cases hPj : P j = true
    · refine ⟨T ++ [j], ?_, ?_, ?_, ?_⟩
      · rw [List.nodup_append]
        refine ⟨hT1, by simp, fun x hx y hy e => ?_⟩
        rw [List.mem_singleton.1 hy] at e
        exact hjK (e ▸ hT2 x hx)
      · intro x hx
        rcases List.mem_append.1 hx with h | h
        · exact List.mem_append_left _ (hT2 x h)
        · exact List.mem_append_right _ h
      · rw [List.filter_append, List.filter_cons_of_pos hPj]; simp [hT3]
      · rw [List.filter_append, List.filter_cons_of_pos hPj, sumF_app, sumF_app]; simp only [List.filter_nil, sumF]; omega
    · refine ⟨T, hT1, fun x hx => List.mem_append_left _ (hT2 x hx), ?_, ?_⟩
      · rw [List.filter_append, List.filter_cons_of_neg hPj]; simp [hT3]
      · rw [List.filter_append, List.filter_cons_of_neg hPj]; simpa using hT4
  by_cases ht' : t + longK js j ≤ (js.getD j J0).due
  · have e : otStep js K A t j = (K ++ [j], A, t + longK js j) := if_pos ht'
    rw [e]
    refine ⟨(?_ : Moo js P (C ++ [j]) (K ++ [j]) A), ?_⟩
    refine ⟨?_, ?_, hT'⟩
    · refine (List.Perm.trans ?_ (hp.append_right [j]))
      rw [List.append_assoc, List.append_assoc]
      exact (List.perm_append_comm (l₁ := [j]) (l₂ := A)).append_left K
    · exact okP_app.2 ⟨hok, by rw [← ht]; simp only [okP, Int.zero_add, and_true]; exact ht'⟩
    · rw [sumF_app, ht]; simp [sumF]
  · have e := (show otStep js K A t j = _ from if_neg ht')
    rw [e]
    obtain ⟨a, x, b, e1, e2, e3, e4⟩ := ot_cut js K j
    rw [e2, e3]
    have hsum : sumF (longK js) (K ++ [j]) = t + longK js j := by rw [sumF_app, ht]; simp [sumF]
    have hsab : sumF (longK js) (a ++ b) = t + longK js j - longK js x := by
      rw [← hsum, e1, sumF_app, sumF_app]
      simp only [sumF]
      omega
    have hlj := hl j (by simp)
    obtain ⟨T, hT1, hT2, hT3, hT4⟩ := hT'
    have hxin : x ∈ K ++ [j] := by rw [e1]; simp
    have hmem : ∀ y, y ∈ K ++ [j] → y ≠ x → y ∈ a ++ b := fun y hy hne => by
      rw [e1] at hy
      rcases List.mem_append.1 hy with h | h
      · exact List.mem_append_left _ h
      · rcases List.mem_cons.1 h with h | h
        · exact absurd h hne
        · exact List.mem_append_right _ h
    refine ⟨(?_ : Moo js P (C ++ [j]) (a ++ b) (A ++ [x])), hsab.symm⟩
    refine ⟨?_, ?_, ?_⟩
    · -- all jobs are there
      have p1 : (a ++ b ++ (A ++ [x])).Perm (a ++ x :: b ++ A) := by
        rw [← List.append_assoc]
        refine (List.perm_append_comm (l₂ := [x])).trans ?_
        simp only [List.nil_append, List.append_assoc, List.cons_append]
        exact List.perm_middle.symm
      refine p1.trans ?_
      rw [← e1, List.append_assoc]
      refine List.Perm.trans ?_ (hp.append_right [j])
      rw [List.append_assoc]
      exact (List.perm_append_comm (l₁ := [j]) (l₂ := A)).append_left K
    · -- what is kept ends on time
      rcases List.eq_nil_or_concat b with hb | ⟨b', y, hb⟩
      · -- the last one goes
        subst hb
        have hax : K = a := by
          have := congrArg List.dropLast e1
          simpa using this
        rw [List.append_nil, ← hax]
        exact hok
      · rw [List.concat_eq_append] at hb
        rw [hb] at e1 hsab ⊢
        have hax : K = a ++ x :: b' ∧ j = y := by
          have h1 : K ++ [j] = (a ++ x :: b') ++ [y] := by rw [e1]; simp
          have h2 := List.append_inj' h1 rfl
          exact ⟨h2.1, by simpa using h2.2⟩
        obtain ⟨hK, rfl⟩ := hax
        have hok' := hok
        rw [hK, okP_app] at hok'
        obtain ⟨o1, o2, o3⟩ := hok'
        rw [← List.append_assoc]
        have hlx : 0 ≤ longK js x := by
          refine hl x ?_
          rcases List.mem_append.1 hxin with h | h
          · exact List.mem_append_left _ (hKC x h)
          · exact List.mem_append_right _ h
        refine okP_app.2 ⟨okP_app.2 ⟨o1, okP_mono (by omega) o3⟩, ?_⟩
        have hKl := okP_last (m := (js.getD j J0).due) (t := 0) (a := K) (by rw [hK]; simp) hok (fun z hz => hd z (List.mem_append_left _ (hKC z hz)))
        have h4 := e4 j (by simp)
        have hs2 : sumF (longK js) (a ++ b') = sumF (longK js) K - longK js x := by
          rw [hK, sumF_app, sumF_app]
          simp only [sumF]
          omega
        simp only [okP, and_true]
        omega
    · -- none worse
      by_cases hxT : x ∈ T
      · by_cases hall : ∀ y ∈ K ++ [j], y ∈ T
        · exfalso
          have hpT : (K ++ [j]).Perm T := nodup_sub_perm hKj hall (nodup_sub_len hT1 hT2)
          have h1 := sumF_perm (longK js) hpT
          have hne : (C ++ [j]).filter P ≠ [] := fun e0 => by
            rw [e0] at hT3
            have h2 := hpT.length_eq
            rw [hT3] at h2
            simp at h2
          obtain ⟨z, hz, hz2⟩ := hP ((C ++ [j]).filter P) (hn.filter P) hne (fun z hz => ⟨(List.mem_filter.1 hz).2, (List.mem_filter.1 hz).1⟩)
          have h3 := hd z (List.mem_filter.1 hz).1
          omega
        · obtain ⟨y, hy⟩ := Classical.not_forall.1 hall
          obtain ⟨hy1, hy2⟩ := Classical.not_imp.1 hy
          have hyx : y ≠ x := fun e0 => hy2 (e0 ▸ hxT)
          refine ⟨y :: T.erase x, ?_, ?_, ?_, ?_⟩
          · exact List.nodup_cons.2 ⟨fun h => hy2 (List.mem_of_mem_erase h), hT1.erase x⟩
          · intro z hz
            rcases List.mem_cons.1 hz with h | h
            · rw [h]; exact hmem y hy1 hyx
            · have := (hT1.mem_erase_iff).1 h
              exact hmem z (hT2 z this.2) this.1
          · rw [List.length_cons, List.length_erase_of_mem hxT, ← hT3]
            have := List.length_pos_of_mem hxT
            omega
          · have h1 := sumF_erase (longK js) hxT
            have h2 := e4 y hy1
            simp only [sumF]
            omega
      · exact ⟨T, hT1, fun y hy => hmem y (hT2 y hy) (fun e0 => hxT (e0 ▸ hy)), hT3, hT4⟩

theorem Moo.run {js : List JobD} {P : Nat → Bool} {D : List Nat} (hn : D.Nodup) (hl : ∀ x ∈ D, 0 ≤ longK js x) (hd : D.Pairwise fun x y => (js.getD x J0).due ≤ (js.getD y J0).due)
    (hP : ∀ B : List Nat, B.Nodup → B ≠ [] → (∀ x ∈ B, P x = true ∧ x ∈ D) → ∃ x ∈ B, sumF (longK js) B ≤ (js.getD x J0).due) :
    ∀ (r C K A : List Nat) (t : Int), D = C ++ r → Moo js P C K A → t = sumF (longK js) K → Moo js P D (otRun js r K A t).1 (otRun js r K A t).2
  | [], C, K, A, t, e, h, _ => by rw [e, List.append_nil]; exact h
  | j :: r, C, K, A, t, e, h, ht => by
    have hsub : (C ++ [j]).Sublist D := by
      rw [e]
      exact (List.Sublist.cons_cons j (List.nil_sublist r)).append_left C
    have hmem : ∀ x ∈ C ++ [j], x ∈ D := fun x hx => hsub.subset hx
    have hpw := hd.sublist hsub
    obtain ⟨h1, h2⟩ := h.next (j := j) ht (hn.sublist hsub) (fun x hx => hl x (hmem x hx)) (fun x hx => by
      rcases List.mem_append.1 hx with h3 | h3
      · exact (List.pairwise_append.1 hpw).2.2 x h3 j (by simp)
      · rw [List.mem_singleton.1 h3]; exact Int.le_refl _) (fun B b1 b2 b3 => hP B b1 b2 fun x hx => ⟨(b3 x hx).1, hmem x (b3 x hx).2⟩)
    rw [otRun]
    exact Moo.run hn hl hd hP r (C ++ [j]) _ _ _ (by rw [e]; simp) h1 h2
theorem Moo.start (js : List JobD) (P : Nat → Bool) : Moo js P [] [] [] := ⟨List.Perm.refl _, trivial, [], List.nodup_nil, by simp, by simp, by simp⟩

/-- How many of an order are late, and how many are on time. -/
theorem late_count (c d : Nat → Int) : ∀ L : List Nat, sumF (fun x => if d x < c x then 1 else 0) L + ((L.filter fun x => decide (c x ≤ d x)).length : Int) = L.length
  | [] => by simp [sumF]
  | x :: L => by
    have ih := late_count c d L
    by_cases h : c x ≤ d x
    · rw [List.filter_cons_of_pos (by simpa using h)]
      simp only [sumF, List.length_cons]
      rw [if_neg (by omega)]
      push_cast
      omega
    · rw [List.filter_cons_of_neg (by simpa using h)]
      simp only [sumF, List.length_cons]
      rw [if_pos (by omega)]
      push_cast
      omega

/-- What the order with the most jobs on time keeps: they are on time; and no order has more of them on time. -/
theorem ot_best {js : List JobD} (hl : ∀ x, x < js.length → 0 ≤ longK js x) (hd : (ordJ js).Pairwise fun x y => (js.getD x J0).due ≤ (js.getD y J0).due) :
    ((otEnd js).1 ++ (otEnd js).2).Perm (List.range js.length) ∧ okP (longK js) (fun x => (js.getD x J0).due) 0 (otEnd js).1 ∧
    ∀ L : List Nat, L.Perm (List.range js.length) → (L.filter fun x => decide (cEnd (longK js) L x ≤ (js.getD x J0).due)).length ≤ (otEnd js).1.length := by
  have hpD : (ordJ js).Perm (List.range js.length) := ordL_perm _ _
  have hnD : (ordJ js).Nodup := hpD.nodup_iff.2 List.nodup_range
  have hlD : ∀ x ∈ ordJ js, 0 ≤ longK js x := fun x hx => hl x (List.mem_range.1 (hpD.mem_iff.1 hx))
  have key : ∀ L : List Nat, L.Perm (List.range js.length) → Moo js (fun x => decide (cEnd (longK js) L x ≤ (js.getD x J0).due)) (ordJ js) (otEnd js).1 (otEnd js).2 := fun L hL => by
    have hnL : L.Nodup := hL.nodup_iff.2 List.nodup_range
    refine Moo.run hnD hlD hd (fun B b1 b2 b3 => ?_) (ordJ js) [] [] [] 0 rfl (Moo.start js _) rfl
    obtain ⟨x, hx, hle⟩ := core_end L (fun x hx => hl x (List.mem_range.1 (hL.mem_iff.1 hx))) hnL B b1 b2 (fun x hx => hL.mem_iff.2 (hpD.mem_iff.1 (b3 x hx).2))
    have h1 := (b3 x hx).1
    simp only [decide_eq_true_eq] at h1
    exact ⟨x, hx, Int.le_trans hle h1⟩
  have h0 := key (List.range js.length) (List.Perm.refl _)
  refine ⟨h0.perm.trans hpD, h0.ok, fun L hL => ?_⟩
  obtain ⟨T, hT1, hT2, hT3, _⟩ := (key L hL).T
  have h1 := nodup_sub_len hT1 hT2
  have h2 := ((hL.trans hpD.symm).filter (fun x => decide (cEnd (longK js) L x ≤ (js.getD x J0).due))).length_eq
  omega

end Go.Proofs.Ytfdaifmfecfchaa

namespace Go.Proofs.Ytfdaifmfecfchaa
open Go.RowKit

def hasB (l : List Int) (x : Int) : Bool := l.contains x
theorem hasB_yes {l : List Int} {x : Int} {j : Nat} (hj : j < l.length) (h : l.getD j 0 = x) : hasB l x = true := by
  unfold hasB; rw [List.contains_iff_mem]
  have : l.getD j 0 = l[j] := by simp [hj]
  rw [this] at h; rw [← h]; exact List.getElem_mem hj
theorem hasB_no {l : List Int} {x : Int} (h : ∀ j, j < l.length → l.getD j 0 ≠ x) : hasB l x = false := by
  unfold hasB; rw [Bool.eq_false_iff]; intro hc
  rw [List.contains_iff_mem] at hc
  obtain ⟨j, hj, e⟩ := List.getElem_of_mem hc
  exact h j hj (by simp [hj, e])

set_option maxHeartbeats 400000 in
theorem has_any (v : Value) (l : List Int) (x : Int) (w : World) (h : RdI w v l) :
    Calls Try.prog 88 #[v, .int .i64 x] w fun e w' => e = .returned (.bool (hasB l x)) ∧ w = w' := by
  obtain ⟨a, c, rfl⟩ := h.shape
  have hl := h.len
  unfold maxLen at hl
  have HS := Lib.hid h
  clear h
  go_enter Try.func88, Try.ntmps88
  go_wp2_with fail
  go_loop [9] (fun i => ∃ k : Nat, i = .int .i64 k ∧ k ≤ l.length ∧ Hid (∀ j, j < k → l.getD j 0 ≠ x)) (fun i => l.length - (intOf i).toNat)
  case atStart => exact ⟨0, rfl, Nat.zero_le _, fun j hj => by omega⟩
  case round =>
    obtain ⟨k, rfl, hk, hno⟩ := hrel
    by_cases hlt : k < l.length
    · obtain ⟨b, off, rfl, _, hc⟩ := HS.out.at hlt
      obtain ⟨y, hy⟩ : ∃ y, y = l.getD k 0 := ⟨_, rfl⟩
      rw [← hy] at hc
      by_cases he : y = x
      · have he' : (y == x) = true := by simp [he]
        have HY := Lib.hid (show hasB l x = true from hasB_yes hlt (hy.symm.trans he))
        clear he hy
        go_wp2_with fail
        go_ret
        exact ⟨by rw [HY.out]; rfl, rfl⟩
      · have he' : (y == x) = false := by simp [he]
        have HE := Lib.hid (show l.getD k 0 ≠ x by rw [← hy]; exact he)
        clear he hy
        go_wp2_with fail
        go_round
        case rel => exact ⟨k + 1, by go_num, by omega, fun j hj => by
          rcases Nat.lt_succ_iff_lt_or_eq.1 hj with h | rfl
          · exact hno.out j h
          · exact HE.out⟩
        case measure => simp [intOf]; omega
    · obtain rfl : k = l.length := by omega
      go_wp2_with fail
      go_ret
      exact ⟨by rw [hasB_no hno.out]; rfl, rfl⟩

end Go.Proofs.Ytfdaifmfecfchaa

namespace Go.Proofs.Ytfdaifmfecfchaa
open Go.RowKit

theorem drewN_one (w : World) : w.drew = w.drewN 1 := rfl
theorem ord00 : FloatKind.f32.format.order 0 0 = some .eq := by decide +kernel

theorem IsFinite_any (x : Nat) (w : World) : Calls Try.prog 65 #[.float .f32 x] w fun e w' => e = .returned (.bool (fin32 x)) ∧ ∃ m, w' = w.drewN m := by
  by_cases h : fin32 x = true
  · have hs := fun (W : World) => run_sub_some (P := Try.prog) 53 x x 0 (sub_fin h) W
    have h0 := ord00
    rw [h]
    clear h
    go_enter Try.func65, Try.ntmps65
    go_wp2_with fail
    go_ret
    exact ⟨rfl, 0, rfl⟩
  · rw [Bool.not_eq_true] at h
    have hs := fun (W : World) => run_sub_none (P := Try.prog) 53 x x (sub_not h) W
    have h0 := fun (W : World) => (show FloatKind.f32.format.order (tape32 (.nanBits .f32 x x) W) 0 = none from order_nanL _ _ _ (tape32_nan x x W))
    rw [h]
    clear h
    go_enter Try.func65, Try.ntmps65
    go_wp2_with fail
    go_ret
    exact ⟨rfl, 1, rfl⟩
def allFin (xs : List Nat) : Bool := xs.all fin32
theorem allFin_yes {xs : List Nat} (h : ∀ i, i < xs.length → fin32 (xs.getD i 0) = true) : allFin xs = true := by
  unfold allFin; rw [List.all_eq_true]
  intro x hx
  obtain ⟨i, hi, rfl⟩ := List.getElem_of_mem hx
  have := h i hi
  simpa [hi] using this
theorem allFin_no {xs : List Nat} {i : Nat} (hi : i < xs.length) (h : fin32 (xs.getD i 0) = false) : allFin xs = false := by
  unfold allFin; rw [List.all_eq_false]
  refine ⟨xs[i], List.getElem_mem hi, ?_⟩
  have : xs.getD i 0 = xs[i] := by simp [hi]
  rw [this] at h
  simp [h]
theorem allFin_get {xs : List Nat} (h : allFin xs = true) {i : Nat} (hi : i < xs.length) : fin32 (xs.getD i 0) = true := by
  unfold allFin at h
  rw [List.all_eq_true] at h
  have : xs.getD i 0 = xs[i] := by simp [hi]
  rw [this]
  exact h _ (List.getElem_mem hi)

theorem drewN_then {w a b : World} (h1 : ∃ m, a = w.drewN m) (h2 : ∃ m, b = a.drewN m) : ∃ m, b = w.drewN m := by
  obtain ⟨m, rfl⟩ := h1
  obtain ⟨n, rfl⟩ := h2
  exact ⟨m + n, World.drewN_drewN _ _ _⟩
theorem rdF_drew {w a : World} {v : Value} {xs : List Nat} (h : RdF w v xs) (hd : ∃ m, a = w.drewN m) : RdF a v xs := by
  obtain ⟨m, rfl⟩ := hd
  exact h.drewN m

set_option maxHeartbeats 400000 in
theorem areFinite_any (v : Value) (xs : List Nat) (w : World) (h : RdF w v xs) :
    Calls Try.prog 71 #[v] w fun e w' => e = .returned (.bool (allFin xs)) ∧ ∃ m, w' = w.drewN m := by
  obtain ⟨a, c, rfl⟩ := h.shape
  have hl := h.len
  unfold maxLen at hl
  have HS := Lib.hid h
  clear h
  go_enter Try.func71, Try.ntmps71
  go_wp2_with fail
  go_loopw [7] (fun i wr => ∃ k : Nat, i = .int .i64 k ∧ k ≤ xs.length ∧ Hid (∀ j, j < k → fin32 (xs.getD j 0) = true) ∧ Hid (∃ m, wr = w.drewN m)) (fun i _ => xs.length - (intOf i).toNat)
  case atStart => exact ⟨0, rfl, Nat.zero_le _, fun j hj => by omega, 0, rfl⟩
  case round =>
    obtain ⟨k, rfl, hk, hall, hd⟩ := hrel
    by_cases hlt : k < xs.length
    · obtain ⟨b, off, rfl, _, hc⟩ := (rdF_drew HS.out hd.out).at hlt
      obtain ⟨x, hx⟩ : ∃ x, x = xs.getD k 0 := ⟨_, rfl⟩
      rw [← hx] at hc
      have HX := Lib.hid hx
      clear hx
      go_wp2_with fail
      refine (IsFinite_any x wr).mono ?_
      rintro e w1 ⟨rfl, hd1⟩
      have HD := Lib.hid (drewN_then hd.out hd1)
      clear hd1 hc
      by_cases hf : fin32 x = true
      · rw [hf]
        go_wp2_with fail
        go_roundw
        case rel => exact ⟨k + 1, by go_num, by omega, fun j hj => by
          rcases Nat.lt_succ_iff_lt_or_eq.1 hj with h | rfl
          · exact hall.out j h
          · rw [← HX.out]; exact hf, HD.out⟩
        case measure => simp [intOf]; omega
      · rw [Bool.not_eq_true] at hf
        rw [hf]
        have HF := Lib.hid (allFin_no hlt (by rw [← HX.out]; exact hf))
        go_wp2_with fail
        go_ret
        exact ⟨by rw [HF.out]; rfl, HD.out⟩
    · obtain rfl : k = xs.length := by omega
      go_wp2_with fail
      go_ret
      exact ⟨by rw [allFin_yes hall.out]; rfl, hd.out⟩

theorem areFinite_qs (v : Value) (xs : List Nat) (w : World) (n : Nat) (h : RdF w v xs) :
    Calls Try.prog 71 #[v] (w.drewN n) fun e w'' => e = .returned (.bool (allFin xs)) ∧ ∃ m, w'' = w.drewN m := by
  refine (areFinite_any v xs _ (h.drewN n)).mono ?_
  rintro e w' ⟨rfl, hd⟩
  exact ⟨rfl, drewN_then ⟨n, rfl⟩ hd⟩

/-- At least nothing. -/
def geq0 (x : Nat) : Bool := FloatKind.f32.format.order x 0 == some .gt || FloatKind.f32.format.order x 0 == some .eq
def least (x : Nat) : Bool := fin32 x && geq0 x
theorem lt_geq {x : Nat} (h : fin32 x = true) : (FloatKind.f32.format.order x 0 == some .lt) = !geq0 x := by
  unfold geq0
  have e : ∃ o, FloatKind.f32.format.order x 0 = some o := by
    unfold fin32 at h
    show ∃ o, Ieee.Format.order Ieee.single x 0 = some o
    unfold Ieee.Format.order
    have e0 : Ieee.single.read 0 = .number false 0 (-149) := by decide +kernel
    rw [e0]
    cases hr : Ieee.single.read x with
    | nan a b => rw [hr] at h; simp at h
    | infinity s => rw [hr] at h; simp at h
    | number s m e => exact ⟨_, rfl⟩
  obtain ⟨o, ho⟩ := e
  rw [ho]
  cases o <;> rfl

end Go.Proofs.Ytfdaifmfecfchaa

namespace Go.Proofs.Ytfdaifmfecfchaa
open Go.RowKit

/-- The sum of the first k products; none where it is no number. -/
def dotO (a b : List Nat) : Nat → Option Nat
  | 0 => some 0
  | k + 1 => (dotO a b k).bind fun s => (Ieee.single.mul (a.getD k 0) (b.getD k 0)).bind fun p => Ieee.single.add s p
/-- The bits are those told, or some NaN where none are. -/
def Mt (o : Option Nat) (s : Nat) : Prop := (∀ r, o = some r → s = r) ∧ (o = none → nan32 s = true)
def finO (o : Option Nat) : Bool := match o with
  | some r => fin32 r
  | none => false

theorem drewN_on {w W : World} (h : ∃ m, W = w.drewN m) (n : Nat) : ∃ m, W.drewN n = w.drewN m := by obtain ⟨m, rfl⟩ := h; exact ⟨m + n, World.drewN_drewN _ _ _⟩
theorem fin_of_nan {x : Nat} (h : nan32 x = true) : fin32 x = false := by
  unfold nan32 at h
  unfold fin32
  cases hr : Ieee.single.read x with
  | nan a b => rfl
  | infinity s => rfl
  | number s m e => rw [hr] at h; simp [Ieee.Datum.isNaN] at h
theorem Mt.fin {o : Option Nat} {s : Nat} (h : Mt o s) : fin32 s = finO o := by
  cases o with
  | none => exact fin_of_nan (h.2 rfl)
  | some r => rw [h.1 r rfl]; rfl
theorem Mt.of_some {r s : Nat} (h : Mt (some r) s) : s = r := h.1 r rfl
theorem Mt.some' (r : Nat) : Mt (some r) r := ⟨fun _ h => (Option.some.inj h), fun h => nomatch h⟩
theorem mul_fin {x y : Nat} (hx : fin32 x = true) (hy : fin32 y = true) : ∃ p, Ieee.single.mul x y = some p := by
  unfold fin32 at hx hy
  unfold Ieee.Format.mul
  cases hr : Ieee.single.read x with
  | nan a b => rw [hr] at hx; simp at hx
  | infinity s => rw [hr] at hx; simp at hx
  | number s m e =>
    cases hq : Ieee.single.read y with
    | nan a b => rw [hq] at hy; simp at hy
    | infinity s => rw [hq] at hy; simp at hy
    | number s' m' e' => exact ⟨_, rfl⟩
theorem add_nanL {x y : Nat} (h : nan32 x = true) : Ieee.single.add x y = none := by
  unfold nan32 at h
  unfold Ieee.Format.add
  cases hr : Ieee.single.read x with
  | nan a b => simp [Ieee.Datum.sum]
  | infinity s => rw [hr] at h; simp [Ieee.Datum.isNaN] at h
  | number s m e => rw [hr] at h; simp [Ieee.Datum.isNaN] at h
theorem Mt_some {a b : List Nat} {k s p r : Nat} (h : Mt (dotO a b k) s) (hp : Ieee.single.mul (a.getD k 0) (b.getD k 0) = some p) (hr : Ieee.single.add s p = some r) : Mt (dotO a b (k + 1)) r := by
  cases hd : dotO a b k with
  | none => rw [hd] at h; rw [add_nanL (h.2 rfl)] at hr; cases hr
  | some s' =>
    rw [hd] at h
    rw [h.of_some] at hr
    simp only [dotO, hd, Option.bind_some, hp, hr]
    exact Mt.some' r
theorem Mt_none {a b : List Nat} {k s p : Nat} (h : Mt (dotO a b k) s) (hp : Ieee.single.mul (a.getD k 0) (b.getD k 0) = some p) (hr : Ieee.single.add s p = none) (q : Nat) (hq : nan32 q = true) : Mt (dotO a b (k + 1)) q := by
  have : dotO a b (k + 1) = none := by
    cases hd : dotO a b k with
    | none => simp only [dotO, hd, Option.bind_none]
    | some s' =>
      rw [hd] at h
      rw [h.of_some] at hr
      simp only [dotO, hd, Option.bind_some, hp, hr]
  rw [this]
  exact ⟨fun r h => by simp at h, fun _ => hq⟩

theorem run_mul_some {P : Program} (t : TypeId) (x y r : Nat) (h : Ieee.single.mul x y = some r) (w : World) :
    (binOp .mul t (.float .f32 x) (.float .f32 y)).run P w = .ok (.float .f32 r) w := run_float_arith w .mul t .f32 x y r h
theorem run_add_some {P : Program} (t : TypeId) (x y r : Nat) (h : Ieee.single.add x y = some r) (w : World) :
    (binOp .add t (.float .f32 x) (.float .f32 y)).run P w = .ok (.float .f32 r) w := run_float_arith w .add t .f32 x y r h
theorem run_add_none {P : Program} (t : TypeId) (x y : Nat) (h : Ieee.single.add x y = none) (w : World) :
    (binOp .add t (.float .f32 x) (.float .f32 y)).run P w = .ok (.float .f32 (tape32 (.nanBits .f32 x y) w)) w.drew := by
  have h' : FloatKind.f32.format.add x y = none := h
  simp [binOp, Op.floatArith, h', tape32, Question.forced, Result.andThen]

set_option maxHeartbeats 2000000 in
theorem dot_any (v u : Value) (x y : List Nat) (w : World) (h : RdF w v x) (hu : RdF w u y) (hxy : x.length ≤ y.length) (fx : allFin x = true) (fy : allFin y = true) :
    Calls Try.prog 87 #[v, u] w fun e w' => ∃ s, e = .returned (.float .f32 s) ∧ Mt (dotO x y x.length) s ∧ ∃ m, w' = w.drewN m := by
  obtain ⟨a, c, rfl⟩ := h.shape
  obtain ⟨a', c', rfl⟩ := hu.shape
  have hm := h.len
  simp only [maxLen] at hm
  have H1 := Lib.hid h
  have H2 := Lib.hid hu
  have FX := Lib.hid fx
  have FY := Lib.hid fy
  clear h hu fx fy
  go_enter Try.func87, Try.ntmps87
  go_wp2_with fail
  go_loopw [5, 9] (fun sv i wr => ∃ k s : Nat, i = .int .i64 k ∧ k ≤ x.length ∧ sv = .float .f32 s ∧ Hid (Mt (dotO x y k) s) ∧ Hid (∃ n, wr = w.drewN n)) (fun _ i _ => x.length - (intOf i).toNat)
  case atStart => exact ⟨0, 0, rfl, Nat.zero_le _, rfl, Mt.some' 0, 0, rfl⟩
  case round =>
    obtain ⟨k, s, rfl, hk, rfl, hmt, hw⟩ := hrel
    by_cases hlt : k < x.length
    · have hlt2 : k < y.length := by omega
      obtain ⟨b, off, rfl, hb, hc⟩ := (rdF_drew H1.out hw.out).at hlt
      obtain ⟨b', off', rfl, hb', hc'⟩ := (rdF_drew H2.out hw.out).at hlt2
      have hlt2' : (k : Int) < y.length := by omega
      obtain ⟨p, hp⟩ := mul_fin (allFin_get FX.out hlt) (allFin_get FY.out hlt2)
      have hmul := fun (W : World) => run_mul_some (P := Try.prog) 53 _ _ p hp W
      have HP := Lib.hid hp
      clear hp
      generalize hx0 : x.getD k 0 = x0 at *
      generalize hy0 : y.getD k 0 = y0 at *
      have HX := Lib.hid hx0
      have HY := Lib.hid hy0
      clear hx0 hy0
      cases hq : Ieee.single.add s p with
      | some r =>
        have hadd := fun (W : World) => run_add_some (P := Try.prog) 53 _ _ r hq W
        have HQ := Lib.hid hq
        clear hq
        go_wp2_with fail
        go_quiet (fail)
        go_wp2_with fail
        go_roundw
        case rel => exact ⟨k + 1, r, by go_num, by omega, rfl, Mt_some hmt.out (by rw [HX.out, HY.out]; exact HP.out) HQ.out, drewN_on hw.out _⟩
        case measure => simp [intOf]; omega
      | none =>
        have hadd := fun (W : World) => run_add_none (P := Try.prog) 53 _ _ hq W
        have HQ := Lib.hid hq
        clear hq
        go_wp2_with fail
        go_region_with (fail)
        all_goals
          go_wp2_with fail
          go_roundw
          case rel => exact ⟨k + 1, _, by go_num, by omega, rfl, Mt_none hmt.out (by rw [HX.out, HY.out]; exact HP.out) HQ.out _ (tape32_nan _ _ _), drewN_on (drewN_on hw.out 1) 1⟩
          case measure => simp [intOf]; omega
    · obtain rfl : k = x.length := by omega
      go_wp2_with fail
      go_ret
      exact ⟨s, rfl, hmt.out, hw.out⟩

end Go.Proofs.Ytfdaifmfecfchaa
