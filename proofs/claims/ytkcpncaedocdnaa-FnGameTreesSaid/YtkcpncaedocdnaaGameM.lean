/-
  Trees: what one looks tells is the worth; the way of the best leads to an end of this worth.
-/
import Derived.Test.YtkcpncaedocdnaaWayM
import Derived.Test.YtkcpncaedocdnaaTreeEnds
import Derived.Test.YtkcpncaedocdnaaLook
namespace Go.Proofs.Ytkcpncaedocdnaa

def clampB (lo hi x : Int) : Int := max lo (min hi x)

/-- One node that takes the greatest. -/
theorem fold_up (F : Nat → Int → Int → Int × Nat) (W : Nat → Int) : ∀ (l : List Nat) (s : Int × Int × Nat), (∀ k ∈ l, ∀ lo hi, lo < hi → clampB lo hi (F k lo hi).1 = clampB lo hi (W k)) →
    let r := l.foldl (fun (s : Int × Int × Nat) k => if s.1 < s.2.1 then (max s.1 (F k s.1 s.2.1).1, s.2.1, s.2.2 + (F k s.1 s.2.1).2) else s) s
    r.2.1 = s.2.1 ∧ s.1 ≤ r.1 ∧ min s.2.1 r.1 = min s.2.1 (l.foldl (fun b k => max b (W k)) s.1)
  | [], s, _ => ⟨rfl, by simp, rfl⟩
  | k :: l, s, h => by
    simp only [List.foldl_cons]
    have mono : ∀ (l : List Nat) (b c : Int), b ≤ c → b ≤ l.foldl (fun b k => max b (W k)) c := by
      intro l
      induction l with
      | nil => intro b c h; exact h
      | cons k l ih => intro b c h; rw [List.foldl_cons]; exact ih _ _ (by omega)
    have clip : ∀ (l : List Nat) (H b c : Int), min H b = min H c → min H (l.foldl (fun b k => max b (W k)) b) = min H (l.foldl (fun b k => max b (W k)) c) := by
      intro l
      induction l with
      | nil => intro H b c h; exact h
      | cons k l ih => intro H b c h; rw [List.foldl_cons, List.foldl_cons]; exact ih _ _ _ (by omega)
    by_cases hs : s.1 < s.2.1
    · rw [if_pos hs]
      have hk := h k (by simp) s.1 s.2.1 hs
      unfold clampB at hk
      obtain ⟨h1, h2, h3⟩ := fold_up F W l (max s.1 (F k s.1 s.2.1).1, s.2.1, s.2.2 + (F k s.1 s.2.1).2) (fun k hk => h k (by simp [hk]))
      simp only at h1 h2 h3
      refine ⟨h1, by omega, ?_⟩
      rw [h3]
      exact clip l _ _ _ (by omega)
    · rw [if_neg hs]
      obtain ⟨h1, h2, h3⟩ := fold_up F W l s (fun k hk => h k (by simp [hk]))
      refine ⟨h1, h2, ?_⟩
      have m1 := mono l s.1 s.1 (Int.le_refl _)
      have m2 := mono l s.1 (max s.1 (W k)) (by omega)
      omega

theorem fold_dn (F : Nat → Int → Int → Int × Nat) (W : Nat → Int) : ∀ (l : List Nat) (s : Int × Int × Nat), (∀ k ∈ l, ∀ lo hi, lo < hi → clampB lo hi (F k lo hi).1 = clampB lo hi (W k)) →
    let r := l.foldl (fun (s : Int × Int × Nat) k => if s.1 < s.2.1 then (s.1, min s.2.1 (F k s.1 s.2.1).1, s.2.2 + (F k s.1 s.2.1).2) else s) s
    r.1 = s.1 ∧ r.2.1 ≤ s.2.1 ∧ max s.1 r.2.1 = max s.1 (l.foldl (fun b k => min b (W k)) s.2.1)
  | [], s, _ => ⟨rfl, by simp, rfl⟩
  | k :: l, s, h => by
    simp only [List.foldl_cons]
    have mono : ∀ (l : List Nat) (b c : Int), c ≤ b → l.foldl (fun b k => min b (W k)) c ≤ b := by
      intro l
      induction l with
      | nil => intro b c h; exact h
      | cons k l ih => intro b c h; rw [List.foldl_cons]; exact ih _ _ (by omega)
    have clip : ∀ (l : List Nat) (H b c : Int), max H b = max H c → max H (l.foldl (fun b k => min b (W k)) b) = max H (l.foldl (fun b k => min b (W k)) c) := by
      intro l
      induction l with
      | nil => intro H b c h; exact h
      | cons k l ih => intro H b c h; rw [List.foldl_cons, List.foldl_cons]; exact ih _ _ _ (by omega)
    by_cases hs : s.1 < s.2.1
    · rw [if_pos hs]
      have hk := h k (by simp) s.1 s.2.1 hs
      unfold clampB at hk
      obtain ⟨h1, h2, h3⟩ := fold_dn F W l (s.1, min s.2.1 (F k s.1 s.2.1).1, s.2.2 + (F k s.1 s.2.1).2) (fun k hk => h k (by simp [hk]))
      simp only at h1 h2 h3
      refine ⟨h1, by omega, ?_⟩
      rw [h3]
      exact clip l _ _ _ (by omega)
    · rw [if_neg hs]
      obtain ⟨h1, h2, h3⟩ := fold_dn F W l s (fun k hk => h k (by simp [hk]))
      refine ⟨h1, h2, ?_⟩
      have m1 := mono l s.2.1 s.2.1 (Int.le_refl _)
      have m2 := mono l s.2.1 (min s.2.1 (W k)) (by omega)
      omega

theorem foldl_max_first (W : Nat → Int) : ∀ (l : List Nat) (lo b : Int), max lo (l.foldl (fun b k => max b (W k)) b) = l.foldl (fun b k => max b (W k)) (max lo b)
  | [], lo, b => rfl
  | k :: l, lo, b => by
    rw [List.foldl_cons, List.foldl_cons, foldl_max_first W l]
    congr 1; omega
theorem foldl_min_first (W : Nat → Int) : ∀ (l : List Nat) (lo b : Int), min lo (l.foldl (fun b k => min b (W k)) b) = l.foldl (fun b k => min b (W k)) (min lo b)
  | [], lo, b => rfl
  | k :: l, lo, b => by
    rw [List.foldl_cons, List.foldl_cons, foldl_min_first W l]
    congr 1; omega

/-- What one looks tells, between its bounds, is the worth. -/
theorem look_clamp (P V : List Int) : ∀ (f i : Nat) (e : Bool) (lo hi : Int), lo < hi → clampB lo hi (lookT P V f i e lo hi).1 = clampB lo hi (worthT P V f i e)
  | 0, i, e, lo, hi, _ => rfl
  | f + 1, i, e, lo, hi, h => by
    by_cases hk : kids P i = []
    · rw [lookT_none _ _ _ _ _ _ _ hk, worthT_none _ _ _ _ _ hk]
    · have ih : ∀ k ∈ kids P i, ∀ lo hi, lo < hi → clampB lo hi (lookT P V f k (!e) lo hi).1 = clampB lo hi (worthT P V f k (!e)) := fun k _ lo hi h => look_clamp P V f k (!e) lo hi h
      rw [lookT_some _ _ _ _ _ _ _ hk, worthT_some _ _ _ _ _ hk]
      simp only [lookPart, worthPart, List.take_length]
      cases hl : kids P i with
      | nil => exact absurd hl hk
      | cons k0 r =>
        rw [hl] at ih
        cases e with
        | true =>
          obtain ⟨h1, h2, h3⟩ := fold_up (fun k lo hi => lookT P V f k (!true) lo hi) (fun k => worthT P V f k (!true)) (k0 :: r) (lo, hi, 0) ih
          simp only [if_true] at h1 h2 h3 ⊢
          have h4 := foldl_max_first (fun k => worthT P V f k (!true)) (k0 :: r) lo (worthT P V f k0 (!true))
          have h5 : (k0 :: r).foldl (fun b k => max b (worthT P V f k (!true))) (max lo (worthT P V f k0 (!true))) = (k0 :: r).foldl (fun b k => max b (worthT P V f k (!true))) lo := by
            simp only [List.foldl_cons]; congr 1; omega
          rw [h5] at h4
          simp only [List.getD_cons_zero] at *
          unfold clampB
          omega
        | false =>
          obtain ⟨h1, h2, h3⟩ := fold_dn (fun k lo hi => lookT P V f k (!false) lo hi) (fun k => worthT P V f k (!false)) (k0 :: r) (lo, hi, 0) ih
          simp only [Bool.false_eq_true, if_false] at h1 h2 h3 ⊢
          have h4 := foldl_min_first (fun k => worthT P V f k (!false)) (k0 :: r) hi (worthT P V f k0 (!false))
          have h5 : (k0 :: r).foldl (fun b k => min b (worthT P V f k (!false))) (min hi (worthT P V f k0 (!false))) = (k0 :: r).foldl (fun b k => min b (worthT P V f k (!false))) hi := by
            simp only [List.foldl_cons]; congr 1; omega
          rw [h5] at h4
          simp only [List.getD_cons_zero] at *
          unfold clampB
          omega

/-- Between its bounds: an inner node stays. -/
theorem look_in (P V : List Int) (f i : Nat) (lo hi : Int) (h : lo < hi) (hk : kids P i ≠ []) : lo ≤ (lookT P V (f + 1) i true lo hi).1 := by
  rw [lookT_some _ _ _ _ _ _ _ hk]
  simp only [lookPart, List.take_length, if_true]
  exact (fold_up (fun k lo hi => lookT P V f k (!true) lo hi) (fun k => worthT P V f k (!true)) (kids P i) (lo, hi, 0) (fun k _ lo hi h => look_clamp P V f k (!true) lo hi h)).2.1

theorem look_worth {t : List Int × List Int} (hv : ValT t) : (lookT t.1 t.2 t.1.length 0 true (-2000000) 2000000).1 = worthT t.1 t.2 t.1.length 0 true := by
  have h1 := hv.1
  have hb := worth_bound hv t.1.length 0 true (by omega)
  by_cases hk : kids t.1 0 = []
  · rw [lookT_none _ _ _ _ _ _ _ hk, worthT_none _ _ _ _ _ hk]
  · have hc := look_clamp t.1 t.2 t.1.length 0 true (-2000000) 2000000 (by omega)
    unfold clampB at hc
    omega

theorem look_some (P V : List Int) : ∀ (f i : Nat) (e : Bool) (lo hi : Int), lo < hi → 1 ≤ (lookT P V f i e lo hi).2
  | 0, i, e, lo, hi, _ => Nat.le_refl _
  | f + 1, i, e, lo, hi, h => by
    have grow : ∀ (l : List Nat) (s : Int × Int × Nat), s.2.2 ≤ (l.foldl (fun (s : Int × Int × Nat) k => if s.1 < s.2.1 then
        (let x := lookT P V f k (!e) s.1 s.2.1
         if e then (max s.1 x.1, s.2.1, s.2.2 + x.2) else (s.1, min s.2.1 x.1, s.2.2 + x.2)) else s) s).2.2 := by
      intro l
      induction l with
      | nil => intro s; exact Nat.le_refl _
      | cons k l ih =>
        intro s
        rw [List.foldl_cons]
        refine Nat.le_trans ?_ (ih _)
        split
        · cases e <;> simp
        · exact Nat.le_refl _
    by_cases hk : kids P i = []
    · rw [lookT_none _ _ _ _ _ _ _ hk]; exact Nat.le_refl _
    · rw [lookT_some _ _ _ _ _ _ _ hk]
      simp only [lookPart, List.take_length]
      cases hl : kids P i with
      | nil => exact absurd hl hk
      | cons k0 r =>
        rw [List.foldl_cons]
        refine Nat.le_trans ?_ (grow r _)
        have := look_some P V f k0 (!e) lo hi h
        simp only [h, if_true]
        cases e <;> simp <;> simp at this <;> omega

theorem looks_leaves {t : List Int × List Int} (hv : ValT t) : (lookT t.1 t.2 t.1.length 0 true (-2000000) 2000000).2 ≤ (leaves t.1).length :=
  Nat.le_trans (look_le _ _ _ _ _ _ _) (ends_le hv.goodP _ _ (by omega) hv.1)

/-- The way: each index is of the tree, each one's parent is the one before, the last one is an end of this worth. -/
def WayOk (P V : List Int) (W : Int) (i : Nat) (l : List Nat) : Prop :=
  l.getD 0 0 = i ∧ 0 < l.length ∧ (∀ k, k < l.length → l.getD k 0 < P.length ∧ (0 < k → P.getD (l.getD k 0) 0 = (l.getD (k - 1) 0 : Nat))) ∧ kids P (l.getD (l.length - 1) 0) = [] ∧ V.getD (l.getD (l.length - 1) 0) 0 = W

theorem way_ok {P : List Int} (h : GoodP P) (V : List Int) (W : Int) : ∀ (f i : Nat) (e : Bool), P.length ≤ i + f → i < P.length → worthT P V f i e = W → WayOk P V W i (wayT P V W f i e)
  | 0, i, e, h1, h2, _ => by omega
  | f + 1, i, e, h1, h2, hw => by
    by_cases hk : kids P i = []
    · rw [wayT_end hk]
      rw [worthT_none _ _ _ _ _ hk] at hw
      refine ⟨rfl, by simp, fun k hk => ?_, hk, hw⟩
      simp at hk
      subst hk
      exact ⟨h2, fun h => by omega⟩
    · cases hf : (kids P i).find? (fun k => worthT P V f k (!e) == W) with
      | none =>
        exfalso
        rw [List.find?_eq_none] at hf
        obtain ⟨k, hm, hkw⟩ := worth_kid P V f i e hk
        have := hf k hm
        rw [hkw, hw] at this
        simp at this
      | some k =>
        rw [wayT_step hf]
        have hm := List.mem_of_find?_eq_some hf
        have hp := List.find?_some hf
        simp only [beq_iff_eq] at hp
        have hg := kid_gt h hm
        obtain ⟨q1, q2, q3, q4, q5⟩ := way_ok h V W f k (!e) (by omega) hg.2 hp
        have hl : (i :: wayT P V W f k (!e)).length - 1 = (wayT P V W f k (!e)).length - 1 + 1 := by simp; omega
        refine ⟨rfl, by simp, fun j hj => ?_, ?_, ?_⟩
        · cases j with
          | zero => exact ⟨h2, fun h => by omega⟩
          | succ j =>
            simp only [List.length_cons] at hj
            obtain ⟨r1, r2⟩ := q3 j (by omega)
            refine ⟨by simpa using r1, fun _ => ?_⟩
            cases j with
            | zero =>
              have := (kid_iff.1 hm).2
              simp only [List.getD_cons_succ, Nat.add_sub_cancel, List.getD_cons_zero]
              rw [q1]; exact this
            | succ j =>
              have := r2 (by omega)
              simp only [Nat.add_sub_cancel] at this
              simpa using this
        · rw [hl]; simpa using q4
        · rw [hl]; simpa using q5

theorem worth_const {P V : List Int} {c : Int} (hg : GoodP P) (hv : ∀ i, i < P.length → V.getD i 0 = c) : ∀ (f i : Nat) (e : Bool), i < P.length → worthT P V f i e = c
  | 0, i, e, hi => hv i hi
  | f + 1, i, e, hi => by
    by_cases hk : kids P i = []
    · rw [worthT_none _ _ _ _ _ hk]; exact hv i hi
    · obtain ⟨k, hm, hkw⟩ := worth_kid P V f i e hk
      rw [← hkw]
      exact worth_const hg hv f k (!e) (kid_gt hg hm).2

end Go.Proofs.Ytkcpncaedocdnaa
