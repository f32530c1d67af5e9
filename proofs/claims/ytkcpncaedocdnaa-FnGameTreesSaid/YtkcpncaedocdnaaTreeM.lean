/-
  Trees: children, worths, looks, ends and ways, as plain lists.
-/
import Derived.Test.YtkcpncaedocdnaaValT
namespace Go.Proofs.Ytkcpncaedocdnaa

/-- The children of an index, among the first m. -/
def kidsTo (P : List Int) (i m : Nat) : List Nat := (List.range m).filter fun k => P.getD k 0 == (i : Int)
def kids (P : List Int) (i : Nat) : List Nat := kidsTo P i P.length
theorem kidsTo_succ (P : List Int) (i m : Nat) : kidsTo P i (m + 1) = kidsTo P i m ++ if P.getD m 0 == (i : Int) then [m] else [] := by
  simp only [kidsTo, List.range_succ, List.filter_append, List.filter_cons, List.filter_nil]
theorem kidsTo_len (P : List Int) (i m : Nat) : (kidsTo P i m).length ≤ m := by
  have := List.length_filter_le (fun k => P.getD k 0 == (i : Int)) (List.range m)
  simpa [kidsTo] using this

/-- What is known of the parents. -/
def GoodP (P : List Int) : Prop := P.getD 0 0 = -1 ∧ ∀ k, 0 < k → k < P.length → 0 ≤ P.getD k 0 ∧ P.getD k 0 < k
theorem ValT.goodP {t : List Int × List Int} (h : ValT t) : GoodP t.1 := by
  refine ⟨h.2.2.2.1, fun k h1 h2 => ?_⟩
  have := (h.2.2.2.2 k h2).1 h1
  simp only [inB, Bool.and_eq_true, decide_eq_true_eq] at this
  omega
theorem ValT.val {t : List Int × List Int} (h : ValT t) {i : Nat} (hi : i < t.1.length) : -1000000 ≤ t.2.getD i 0 ∧ t.2.getD i 0 ≤ 1000000 := by
  have := (h.2.2.2.2 i hi).2
  simpa only [inB, Bool.and_eq_true, decide_eq_true_eq] using this

theorem kid_iff {P : List Int} {i k : Nat} : k ∈ kids P i ↔ k < P.length ∧ P.getD k 0 = i := by
  simp [kids, kidsTo]
theorem kid_gt {P : List Int} (h : GoodP P) {i k : Nat} (hk : k ∈ kids P i) : i < k ∧ k < P.length := by
  obtain ⟨h1, h2⟩ := kid_iff.1 hk
  refine ⟨?_, h1⟩
  by_cases h0 : k = 0
  · subst h0; rw [h.1] at h2; omega
  · have := h.2 k (by omega) h1; omega

/-- The worth of an index. -/
def worthT (P V : List Int) : Nat → Nat → Bool → Int
  | 0, i, _ => V.getD i 0
  | f + 1, i, e => match kids P i with
    | [] => V.getD i 0
    | k :: r => (k :: r).foldl (fun b k => if e then max b (worthT P V f k (!e)) else min b (worthT P V f k (!e))) (worthT P V f k (!e))

theorem foldl_bound (g : Nat → Int) (e : Bool) (lo hi : Int) : ∀ (l : List Nat) (b : Int), lo ≤ b → b ≤ hi → (∀ k ∈ l, lo ≤ g k ∧ g k ≤ hi) → lo ≤ l.foldl (fun b k => if e then max b (g k) else min b (g k)) b ∧ l.foldl (fun b k => if e then max b (g k) else min b (g k)) b ≤ hi
  | [], b, h1, h2, _ => ⟨h1, h2⟩
  | k :: l, b, h1, h2, h => by
    have hk := h k (by simp)
    refine foldl_bound g e lo hi l _ ?_ ?_ (fun k hk => h k (by simp [hk]))
    · cases e <;> simp <;> omega
    · cases e <;> simp <;> omega

theorem worth_bound {t : List Int × List Int} (h : ValT t) : ∀ (f i : Nat) (e : Bool), i < t.1.length → -1000000 ≤ worthT t.1 t.2 f i e ∧ worthT t.1 t.2 f i e ≤ 1000000
  | 0, i, e, hi => h.val hi
  | f + 1, i, e, hi => by
    simp only [worthT]
    split
    · exact h.val hi
    · next k r hk =>
      have hb : ∀ j ∈ k :: r, -1000000 ≤ worthT t.1 t.2 f j (!e) ∧ worthT t.1 t.2 f j (!e) ≤ 1000000 := fun j hj => worth_bound h f j (!e) (kid_gt h.goodP (by rw [hk]; exact hj)).2
      exact foldl_bound (fun j => worthT t.1 t.2 f j (!e)) e _ _ _ _ (hb k (by simp)).1 (hb k (by simp)).2 hb

/-- The worth with parts of the children. -/
def worthPart (P V : List Int) (f i : Nat) (e : Bool) (j : Nat) : Int :=
  ((kids P i).take j).foldl (fun b k => if e then max b (worthT P V f k (!e)) else min b (worthT P V f k (!e))) (worthT P V f ((kids P i).getD 0 0) (!e))
theorem worthPart_succ (P V : List Int) (f i : Nat) (e : Bool) (j : Nat) (hj : j < (kids P i).length) :
    worthPart P V f i e (j + 1) = if e then max (worthPart P V f i e j) (worthT P V f ((kids P i).getD j 0) (!e)) else min (worthPart P V f i e j) (worthT P V f ((kids P i).getD j 0) (!e)) := by
  simp only [worthPart]
  rw [List.take_add_one, List.foldl_append]
  simp [hj]
theorem worthT_none (P V : List Int) (f i : Nat) (e : Bool) (h : kids P i = []) : worthT P V f i e = V.getD i 0 := by
  cases f with
  | zero => rfl
  | succ f => simp only [worthT, h]
theorem worthT_some (P V : List Int) (f i : Nat) (e : Bool) (h : kids P i ≠ []) : worthT P V (f + 1) i e = worthPart P V f i e (kids P i).length := by
  simp only [worthT, worthPart, List.take_length]
  cases hk : kids P i with
  | nil => exact absurd hk h
  | cons k r => simp

theorem foldl_mem (g : Nat → Int) (e : Bool) : ∀ (l : List Nat) (b : Int), l.foldl (fun b k => if e then max b (g k) else min b (g k)) b = b ∨ ∃ k ∈ l, l.foldl (fun b k => if e then max b (g k) else min b (g k)) b = g k
  | [], b => .inl rfl
  | k :: l, b => by
    rw [List.foldl_cons]
    rcases foldl_mem g e l (if e then max b (g k) else min b (g k)) with h | ⟨j, hj, h⟩
    · have h2 : (if e then max b (g k) else min b (g k)) = b ∨ (if e then max b (g k) else min b (g k)) = g k := by
        cases e <;> simp <;> omega
      rcases h2 with h2 | h2
      · left; rw [h, h2]
      · right; exact ⟨k, by simp, by rw [h, h2]⟩
    · right; exact ⟨j, by simp [hj], h⟩

/-- One of the children has the worth. -/
theorem worth_kid (P V : List Int) (f i : Nat) (e : Bool) (h : kids P i ≠ []) : ∃ k ∈ kids P i, worthT P V f k (!e) = worthT P V (f + 1) i e := by
  simp only [worthT]
  cases hk : kids P i with
  | nil => exact absurd hk h
  | cons k r =>
    rcases foldl_mem (fun k => worthT P V f k (!e)) e (k :: r) (worthT P V f k (!e)) with h | ⟨j, hj, h⟩
    · exact ⟨k, by simp, h.symm⟩
    · exact ⟨j, hj, h.symm⟩

/-- What is looked at: the state is (low, high, how many ends). -/
def lookT (P V : List Int) : Nat → Nat → Bool → Int → Int → Int × Nat
  | 0, i, _, _, _ => (V.getD i 0, 1)
  | f + 1, i, e, lo, hi => match kids P i with
    | [] => (V.getD i 0, 1)
    | k :: r =>
      let s := (k :: r).foldl (fun (s : Int × Int × Nat) k => if s.1 < s.2.1 then
        (let x := lookT P V f k (!e) s.1 s.2.1
         if e then (max s.1 x.1, s.2.1, s.2.2 + x.2) else (s.1, min s.2.1 x.1, s.2.2 + x.2)) else s) (lo, hi, 0)
      (if e then s.1 else s.2.1, s.2.2)

/-- The state after j children. -/
def lookPart (P V : List Int) (f i : Nat) (e : Bool) (lo hi : Int) (j : Nat) : Int × Int × Nat :=
  ((kids P i).take j).foldl (fun (s : Int × Int × Nat) k => if s.1 < s.2.1 then
        (let x := lookT P V f k (!e) s.1 s.2.1
         if e then (max s.1 x.1, s.2.1, s.2.2 + x.2) else (s.1, min s.2.1 x.1, s.2.2 + x.2)) else s) (lo, hi, 0)
theorem lookPart_succ (P V : List Int) (f i : Nat) (e : Bool) (lo hi : Int) (j : Nat) (hj : j < (kids P i).length) :
    lookPart P V f i e lo hi (j + 1) = if (lookPart P V f i e lo hi j).1 < (lookPart P V f i e lo hi j).2.1 then
        (let x := lookT P V f ((kids P i).getD j 0) (!e) (lookPart P V f i e lo hi j).1 (lookPart P V f i e lo hi j).2.1
         if e then (max (lookPart P V f i e lo hi j).1 x.1, (lookPart P V f i e lo hi j).2.1, (lookPart P V f i e lo hi j).2.2 + x.2)
         else ((lookPart P V f i e lo hi j).1, min (lookPart P V f i e lo hi j).2.1 x.1, (lookPart P V f i e lo hi j).2.2 + x.2)) else lookPart P V f i e lo hi j := by
  simp only [lookPart]
  rw [List.take_add_one, List.foldl_append]
  simp [hj]
theorem lookT_none (P V : List Int) (f i : Nat) (e : Bool) (lo hi : Int) (h : kids P i = []) : lookT P V f i e lo hi = (V.getD i 0, 1) := by
  cases f with
  | zero => rfl
  | succ f => simp only [lookT, h]
theorem lookT_some (P V : List Int) (f i : Nat) (e : Bool) (lo hi : Int) (h : kids P i ≠ []) : lookT P V (f + 1) i e lo hi =
    (if e then (lookPart P V f i e lo hi (kids P i).length).1 else (lookPart P V f i e lo hi (kids P i).length).2.1, (lookPart P V f i e lo hi (kids P i).length).2.2) := by
  simp only [lookT, lookPart, List.take_length]
  cases hk : kids P i with
  | nil => exact absurd hk h
  | cons k r => simp
theorem lookPart_stop (P V : List Int) (f i : Nat) (e : Bool) (lo hi : Int) (j : Nat) (h : ¬ (lookPart P V f i e lo hi j).1 < (lookPart P V f i e lo hi j).2.1) : ∀ d, j + d ≤ (kids P i).length → lookPart P V f i e lo hi (j + d) = lookPart P V f i e lo hi j
  | 0, _ => rfl
  | d + 1, hd => by
    have h1 := lookPart_stop P V f i e lo hi j h d (by omega)
    rw [← Nat.add_assoc, lookPart_succ _ _ _ _ _ _ _ _ (by omega), h1, if_neg h]

/-- The ends under an index. -/
def endsT (P : List Int) : Nat → Nat → Nat
  | 0, _ => 1
  | f + 1, i => match kids P i with
    | [] => 1
    | k :: r => ((k :: r).map (endsT P f)).sum

theorem look_le (P V : List Int) : ∀ (f i : Nat) (e : Bool) (lo hi : Int), (lookT P V f i e lo hi).2 ≤ endsT P f i
  | 0, i, e, lo, hi => Nat.le_refl _
  | f + 1, i, e, lo, hi => by
    have step : ∀ (l : List Nat) (s : Int × Int × Nat), (l.foldl (fun (s : Int × Int × Nat) k => if s.1 < s.2.1 then
        (let x := lookT P V f k (!e) s.1 s.2.1
         if e then (max s.1 x.1, s.2.1, s.2.2 + x.2) else (s.1, min s.2.1 x.1, s.2.2 + x.2)) else s) s).2.2 ≤ s.2.2 + (l.map (endsT P f)).sum := by
      intro l
      induction l with
      | nil => intro s; simp
      | cons k l ih =>
        intro s
        rw [List.foldl_cons]
        refine Nat.le_trans (ih _) ?_
        have hx := look_le P V f k (!e) s.1 s.2.1
        simp only [List.map_cons, List.sum_cons]
        split
        · cases e <;> simp <;> simp at hx <;> omega
        · omega
    cases hk : kids P i with
    | nil => rw [lookT_none _ _ _ _ _ _ _ hk]; simp only [endsT, hk]; exact Nat.le_refl _
    | cons k r =>
      have := step (k :: r) (lo, hi, 0)
      simp only [lookT, endsT, hk]
      simpa using this

end Go.Proofs.Ytkcpncaedocdnaa
