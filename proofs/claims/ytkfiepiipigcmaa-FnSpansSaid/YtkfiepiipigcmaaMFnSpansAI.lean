/-
  FnSpans: texts joined: BspM, FspM, RoomM.
-/
import Derived.Test.YtkfiepiipigcmaaMFnSpansAH
namespace Go.Proofs.Ytkfiepiipigcmaa
open Go.RowKit Go.Sort

def gaK (ps : List SpanD) (x : Nat) : Int := (ps.getD (x % ps.length) P0).gain
/-- How many of the first k of an order end at most at a time. -/
def befK (en : Nat → Int) (L : List Nat) (t : Int) : Nat → Nat
  | 0 => 0
  | k + 1 => befK en L t k + if en (L.getD k 0) ≤ t then 1 else 0
theorem befK_le (en : Nat → Int) (L : List Nat) (t : Int) : ∀ k, befK en L t k ≤ k
  | 0 => Nat.le_refl _
  | k + 1 => by
    have := befK_le en L t k
    simp only [befK]
    split <;> omega
theorem befK_stop {en : Nat → Int} {L : List Nat} {t : Int} {k : Nat} (h1 : ∀ j, j < k → en (L.getD j 0) ≤ t) : ∀ i, k ≤ i → (∀ j, k ≤ j → j < i → t < en (L.getD j 0)) → befK en L t i = k
  | 0, hk, _ => by simp only [befK]; omega
  | i + 1, hk, h2 => by
    simp only [befK]
    by_cases e : k = i + 1
    · subst e
      rw [befK_stop (k := i) (fun j hj => h1 j (by omega)) i (Nat.le_refl _) (fun j h h' => by omega), if_pos (h1 i (by omega))]
    · rw [befK_stop h1 i (by omega) (fun j h h' => h2 j h (by omega)), if_neg (by have := h2 i (by omega) (by omega); omega)]
      rfl
/-- The greatest sums of gains among the first spans of an order. -/
def sumK (st en ga : Nat → Int) (L : List Nat) : Nat → List Int
  | 0 => [0]
  | k + 1 => sumK st en ga L k ++ [max ((sumK st en ga L k).getD k 0) ((sumK st en ga L k).getD (befK en L (st (L.getD k 0)) k) 0 + ga (L.getD k 0))]
theorem sumK_len (st en ga : Nat → Int) (L : List Nat) : ∀ k, (sumK st en ga L k).length = k + 1
  | 0 => rfl
  | k + 1 => by simp only [sumK]; rw [List.length_append, sumK_len st en ga L k]; rfl
def sumV (st en ga : Nat → Int) (L : List Nat) (k : Nat) : Int := (sumK st en ga L k).getD k 0
theorem sumK_at (st en ga : Nat → Int) (L : List Nat) (i : Nat) : ∀ k, i ≤ k → (sumK st en ga L k).getD i 0 = sumV st en ga L i
  | 0, h => by obtain rfl : i = 0 := by omega
               rfl
  | k + 1, h => by
    by_cases e : i = k + 1
    · subst e; rfl
    · have ih := sumK_at st en ga L i k (by omega)
      rw [← ih]
      simp only [sumK]
      rw [List.getD_eq_getElem?_getD, List.getElem?_append_left (by rw [sumK_len]; omega), ← List.getD_eq_getElem?_getD]
def befI (st en : Nat → Int) (L : List Nat) (k : Nat) : Nat := befK en L (st (L.getD k 0)) k
theorem befI_le (st en : Nat → Int) (L : List Nat) (k : Nat) : befI st en L k ≤ k := befK_le _ _ _ _
theorem sumV_succ (st en ga : Nat → Int) (L : List Nat) (k : Nat) : sumV st en ga L (k + 1) = max (sumV st en ga L k) (sumV st en ga L (befI st en L k) + ga (L.getD k 0)) := by
  have e := sumK_at st en ga L (befI st en L k) k (befI_le st en L k)
  unfold befI at e
  unfold sumV
  simp only [sumK]
  rw [List.getD_eq_getElem?_getD, List.getElem?_append_right (by rw [sumK_len]; omega), sumK_len, e]
  simp [befI, sumV]
theorem sumK_succ (st en ga : Nat → Int) (L : List Nat) (k : Nat) : sumK st en ga L (k + 1) = sumK st en ga L k ++ [sumV st en ga L (k + 1)] := by
  rw [sumV_succ]
  have e := sumK_at st en ga L (befI st en L k) k (befI_le st en L k)
  unfold befI at e
  simp only [sumK]
  rw [e]
  rfl
theorem sumV_rng (st en ga : Nat → Int) (L : List Nat) (hg : ∀ x, 0 ≤ ga x ∧ ga x ≤ 1000) : ∀ F k, k ≤ F → 0 ≤ sumV st en ga L k ∧ sumV st en ga L k ≤ 1000 * k
  | _, 0, _ => by show (0 : Int) ≤ 0 ∧ (0 : Int) ≤ _; omega
  | 0, k + 1, h => by omega
  | F + 1, k + 1, h => by
    have h1 := sumV_rng st en ga L hg F k (by omega)
    have hb := befI_le st en L k
    have h2 := sumV_rng st en ga L hg F (befI st en L k) (by omega)
    have h3 := hg (L.getD k 0)
    rw [sumV_succ]
    omega
theorem sumV_mono (st en ga : Nat → Int) (L : List Nat) (k : Nat) : sumV st en ga L k ≤ sumV st en ga L (k + 1) := by rw [sumV_succ]; omega
/-- What is taken, from the last one on. -/
def tkF (st en ga : Nat → Int) (L : List Nat) : Nat → Nat → List Nat
  | 0, _ => []
  | _ + 1, 0 => []
  | F + 1, i + 1 => if sumV st en ga L i < sumV st en ga L (i + 1) then L.getD i 0 :: tkF st en ga L F (befI st en L i) else tkF st en ga L F i
def tkL (st en ga : Nat → Int) (L : List Nat) (i : Nat) : List Nat := tkF st en ga L i i
theorem tkF_more (st en ga : Nat → Int) (L : List Nat) : ∀ F i, i ≤ F → tkF st en ga L F i = tkL st en ga L i
  | 0, i, h => by obtain rfl : i = 0 := by omega
                  rfl
  | F + 1, 0, _ => rfl
  | F + 1, i + 1, h => by
    have hb := befI_le st en L i
    have h1 := tkF_more st en ga L F i (by omega)
    have h2 := tkF_more st en ga L F (befI st en L i) (by omega)
    unfold tkL
    simp only [tkF]
    by_cases e : F = i
    · subst e; rfl
    · have h3 := tkF_more st en ga L i i (Nat.le_refl _)
      have h4 : tkF st en ga L i (befI st en L i) = tkL st en ga L (befI st en L i) := tkF_more st en ga L i (befI st en L i) hb
      rw [h1, h2, h3, h4]
termination_by F => F
theorem tkL_zero (st en ga : Nat → Int) (L : List Nat) : tkL st en ga L 0 = [] := rfl
theorem tkL_succ (st en ga : Nat → Int) (L : List Nat) (i : Nat) : tkL st en ga L (i + 1) = if sumV st en ga L i < sumV st en ga L (i + 1) then L.getD i 0 :: tkL st en ga L (befI st en L i) else tkL st en ga L i := by
  have hb := befI_le st en L i
  show tkF st en ga L (i + 1) (i + 1) = _
  simp only [tkF]
  rw [tkF_more st en ga L i (befI st en L i) hb, tkF_more st en ga L i i (Nat.le_refl _)]
theorem tkL_sub (st en ga : Nat → Int) (L : List Nat) : ∀ F i, i ≤ F → i ≤ L.length → (tkL st en ga L i).reverse.Sublist (L.take i)
  | _, 0, _, _ => by simp [tkL_zero]
  | 0, i + 1, h, _ => by omega
  | F + 1, i + 1, h, hl => by
    have hb := befI_le st en L i
    have h1 := tkL_sub st en ga L F i (by omega) (by omega)
    have h2 := tkL_sub st en ga L F (befI st en L i) (by omega) (by omega)
    have e : L.take (i + 1) = L.take i ++ [L.getD i 0] := by
      rw [List.take_add_one, List.getElem?_eq_getElem (by omega), List.getD_eq_getElem?_getD, List.getElem?_eq_getElem (by omega)]
      rfl
    rw [tkL_succ, e]
    split
    · rw [List.reverse_cons]
      refine List.Sublist.append (h2.trans ?_) (List.Sublist.refl _)
      exact List.take_sublist_take_left hb
    · exact h1.trans (List.sublist_append_left _ _)
theorem tkL_len (st en ga : Nat → Int) (L : List Nat) (i : Nat) (h : i ≤ L.length) : (tkL st en ga L i).length ≤ i := by
  have := (tkL_sub st en ga L i i (Nat.le_refl _) h).length_le
  rw [List.length_take, List.length_reverse] at this
  omega
/-- The order's keys ascend. -/
theorem ordL_asc (key : Nat → Int) (n i j : Nat) (h : i < j) (hj : j < n) : key ((ordL key n).getD i 0) ≤ key ((ordL key n).getD j 0) := by
  have hs := (insertionSort_holds (swo_ltK key) (Array.range n) 0 n (Nat.zero_le _) (by simp)).2 i j (Nat.zero_le _) h hj
  have hz := ordA_size key n
  have g : ∀ k, k < n → (insertionSort (ltK key) (Array.range n) 0 n)[k]! = (ordL key n).getD k 0 := by
    intro k hk
    show (ordA key n)[k]! = _
    unfold ordL
    rw [getElem!_pos (ordA key n) k (by omega), List.getD_eq_getElem?_getD, List.getElem?_eq_getElem (by rw [Array.length_toList]; omega)]
    rfl
  rw [g i (by omega), g j hj] at hs
  simp only [ltK, decide_eq_false_iff_not] at hs
  omega
/-- The program's list of how many end ahead of each one. -/
def befL (st en : Nat → Int) (L : List Nat) : Nat → List Int
  | 0 => [0]
  | k + 1 => befL st en L k ++ [(befI st en L k : Int)]
theorem befL_len (st en : Nat → Int) (L : List Nat) : ∀ k, (befL st en L k).length = k + 1
  | 0 => rfl
  | k + 1 => by simp only [befL]; rw [List.length_append, befL_len st en L k]; rfl
theorem befL_at (st en : Nat → Int) (L : List Nat) (i : Nat) : ∀ k, i < k → (befL st en L k).getD (i + 1) 0 = (befI st en L i : Int)
  | 0, h => by omega
  | k + 1, h => by
    simp only [befL]
    by_cases e : i = k
    · subst e
      rw [List.getD_eq_getElem?_getD, List.getElem?_append_right (by rw [befL_len]; omega), befL_len]
      simp
    · have ih := befL_at st en L i k (by omega)
      rw [← ih, List.getD_eq_getElem?_getD, List.getElem?_append_left (by rw [befL_len]; omega), ← List.getD_eq_getElem?_getD]
theorem sumK_cell (st en ga : Nat → Int) (L : List Nat) {i k : Nat} (h : i ≤ k) : ((sumK st en ga L k).map I64)[i]? = some (.int .i64 (sumV st en ga L i)) := by
  have h2 : i < (sumK st en ga L k).length := by rw [sumK_len]; omega
  rw [List.getElem?_map, List.getElem?_eq_getElem h2, ← sumK_at st en ga L i k h, List.getD_eq_getElem?_getD, List.getElem?_eq_getElem h2]
  rfl
theorem befL_cell (st en : Nat → Int) (L : List Nat) {i k : Nat} (h : i < k) : ((befL st en L k).map I64)[i + 1]? = some (.int .i64 (befI st en L i : Nat)) := by
  have h2 : i + 1 < (befL st en L k).length := by rw [befL_len]; omega
  rw [List.getElem?_map, List.getElem?_eq_getElem h2, ← befL_at st en L i k h, List.getD_eq_getElem?_getD, List.getElem?_eq_getElem h2]
  rfl
noncomputable def bspT (ps : List SpanD) : List Nat := tkL (stK ps) (toK ps) (gaK ps) (ordL (toK ps) ps.length) ps.length
noncomputable def bspL (ps : List SpanD) : List Int := if areSpansB ps = true then idxs (setL ps.length (bspT ps)) else []
noncomputable def bspG (ps : List SpanD) : Int := if areSpansB ps = true then sumV (stK ps) (toK ps) (gaK ps) (ordL (toK ps) ps.length) ps.length else 0
theorem bspT_nodup (ps : List SpanD) : (bspT ps).Nodup := by
  have hs := tkL_sub (stK ps) (toK ps) (gaK ps) (ordL (toK ps) ps.length) ps.length ps.length (Nat.le_refl _) (by rw [ordL_len]; exact Nat.le_refl _)
  have := hs.nodup ((List.take_sublist _ _).nodup ((ordL_perm (toK ps) ps.length).nodup_iff.2 List.nodup_range))
  exact (List.reverse_perm _).nodup_iff.1 this
theorem bspT_lt (ps : List SpanD) : ∀ x ∈ bspT ps, x < ps.length := by
  intro x hx
  have hs := tkL_sub (stK ps) (toK ps) (gaK ps) (ordL (toK ps) ps.length) ps.length ps.length (Nat.le_refl _) (by rw [ordL_len]; exact Nat.le_refl _)
  exact ordL_lt _ _ x (List.mem_of_mem_take (hs.subset (List.mem_reverse.2 hx)))
theorem gaK_rng {ps : List SpanD} (h : areSpansB ps = true) (x : Nat) : 0 ≤ gaK ps x ∧ gaK ps x ≤ 1000 := by
  unfold areSpansB at h
  rw [Bool.and_eq_true, allB_iff, inB_iff] at h
  have h2 := h.2 (x % ps.length) (Nat.mod_lt _ (by omega))
  unfold spanB at h2
  rw [Bool.and_eq_true, Bool.and_eq_true, Bool.and_eq_true, inB_iff, inB_iff, inB_iff] at h2
  exact h2.2.2.2
theorem bspL_cnt (ps : List SpanD) : cntI (bspL ps) ≤ 1048576 := by
  unfold cntI bspL
  split
  · rename_i h
    unfold areSpansB at h
    rw [Bool.and_eq_true, inB_iff] at h
    rw [idxs_len]
    have h2 : (setL ps.length (bspT ps)).length ≤ ps.length := by
      unfold setL
      refine Nat.le_trans (List.length_filter_le _ _) ?_
      rw [List.length_range]
      exact Nat.le_refl _
    omega
  · simp

end Go.Proofs.Ytkfiepiipigcmaa

namespace Go.Proofs.Ytkfiepiipigcmaa
open Go.RowKit Go.Sort

section
variable {st en ga : Nat → Int} {L : List Nat}
/-- The ends ascend along the first n of the order. -/
def AscL (en : Nat → Int) (L : List Nat) (n : Nat) : Prop := ∀ i j, i ≤ j → j < n → en (L.getD i 0) ≤ en (L.getD j 0)

theorem befK_ge {t : Int} {m : Nat} (h : ∀ i, i ≤ m → en (L.getD i 0) ≤ t) : ∀ k, m < k → m + 1 ≤ befK en L t k
  | 0, h0 => by omega
  | k + 1, h0 => by
    simp only [befK]
    by_cases e : m = k
    · subst e
      have := befK_all h m (by omega)
      rw [if_pos (h m (Nat.le_refl _))]
      omega
    · have := befK_ge h k (by omega)
      split <;> omega
where befK_all {t : Int} {m : Nat} (h : ∀ i, i ≤ m → en (L.getD i 0) ≤ t) : ∀ k, k ≤ m → befK en L t k = k
  | 0, _ => rfl
  | k + 1, h0 => by
    simp only [befK]
    rw [befK_all h k (by omega), if_pos (h k (by omega))]
theorem befK_lt {t : Int} {m : Nat} : ∀ k, (∀ i, m ≤ i → i < k → t < en (L.getD i 0)) → befK en L t k ≤ m
  | 0, _ => Nat.zero_le _
  | k + 1, h => by
    have ih := befK_lt (m := m) k (fun i h1 h2 => h i h1 (by omega))
    simp only [befK]
    by_cases e : m ≤ k
    · rw [if_neg (by have := h k e (by omega); omega)]
      exact ih
    · have := befK_le en L t k
      split <;> omega
theorem befK_in {n : Nat} (hs : AscL en L n) {t : Int} {k i : Nat} (hk : k ≤ n) (h : i < befK en L t k) : en (L.getD i 0) ≤ t := by
  have hb := befK_le en L t k
  refine Int.not_lt.1 fun c => ?_
  have := befK_lt (en := en) (L := L) (t := t) (m := i) k (fun j h1 h2 => by have := hs i j h1 (by omega); omega)
  omega

theorem grK_pre (st en : Nat → Int) (L : List Nat) (e0 : Int) (k : Nat) : (grK st en L e0 k).1 <+: (grK st en L e0 (k + 1)).1 := by
  simp only [grK]
  split
  · exact List.prefix_append _ _
  · exact List.prefix_refl _
theorem grK_mono (st en : Nat → Int) (L : List Nat) (e0 : Int) (j : Nat) : ∀ k, j ≤ k → (grK st en L e0 j).1.length ≤ (grK st en L e0 k).1.length
  | 0, h => by obtain rfl : j = 0 := by omega
               exact Nat.le_refl _
  | k + 1, h => by
    by_cases e : j = k + 1
    · subst e; exact Nat.le_refl _
    · exact Nat.le_trans (grK_mono st en L e0 j k (by omega)) (grK_pre st en L e0 k).length_le
/-- The last one that was taken, if one was. -/
theorem grK_last (st en : Nat → Int) (L : List Nat) (e0 : Int) : ∀ k, grK st en L e0 k = ([], e0) ∨ ∃ m, m < k ∧ grK st en L e0 k = grK st en L e0 (m + 1) ∧ grK st en L e0 (m + 1) = ((grK st en L e0 m).1 ++ [L.getD m 0], en (L.getD m 0))
  | 0 => .inl rfl
  | k + 1 => by
    by_cases c : (grK st en L e0 k).2 ≤ st (L.getD k 0)
    · have e : grK st en L e0 (k + 1) = ((grK st en L e0 k).1 ++ [L.getD k 0], en (L.getD k 0)) := by simp only [grK]; rw [if_pos c]
      exact .inr ⟨k, by omega, rfl, e⟩
    · have e : grK st en L e0 (k + 1) = grK st en L e0 k := by simp only [grK]; rw [if_neg c]
      rcases grK_last st en L e0 k with h | ⟨m, h1, h2, h3⟩
      · exact .inl (e.trans h)
      · exact .inr ⟨m, by omega, e.trans h2, h3⟩

/-- The greedy one takes as many as can be. -/
theorem sum_ones {n : Nat} (hs : AscL en L n) (h0 : ∀ x, 0 ≤ st x) (h1 : ∀ x, ga x = 1) : ∀ F k, k ≤ F → k ≤ n → sumV st en ga L k = ((grK st en L (-1) k).1.length : Int)
  | _, 0, _, _ => rfl
  | 0, k + 1, h, _ => by omega
  | F + 1, k + 1, h, hn => by
    have hb := befI_le st en L k
    have i1 := sum_ones hs h0 h1 F k (by omega) (by omega)
    have i2 := sum_ones hs h0 h1 F (befI st en L k) (by omega) (by omega)
    rw [sumV_succ, i1, i2, h1]
    have hm := grK_mono st en L (-1) (befI st en L k) k hb
    by_cases c : (grK st en L (-1) k).2 ≤ st (L.getD k 0)
    · have e : grK st en L (-1) (k + 1) = ((grK st en L (-1) k).1 ++ [L.getD k 0], en (L.getD k 0)) := by simp only [grK]; rw [if_pos c]
      rw [e]
      have hq : (grK st en L (-1) k).1.length ≤ (grK st en L (-1) (befI st en L k)).1.length := by
        rcases grK_last st en L (-1) k with g | ⟨m, g1, g2, g3⟩
        · rw [g]; exact Nat.zero_le _
        · rw [g2]
          refine grK_mono st en L (-1) (m + 1) _ ?_
          refine befK_ge (fun i hi => ?_) k g1
          have q := hs i m hi (by omega)
          rw [g2, g3] at c
          simp only at c
          omega
      simp only [List.length_append, List.length_cons, List.length_nil]
      omega
    · have e : grK st en L (-1) (k + 1) = grK st en L (-1) k := by simp only [grK]; rw [if_neg c]
      rw [e]
      rcases grK_last st en L (-1) k with g | ⟨m, g1, g2, g3⟩
      · rw [g] at c
        have := h0 (L.getD k 0)
        simp only at c
        omega
      · have hq : befI st en L k ≤ m := by
          refine befK_lt k (fun i hi1 hi2 => ?_)
          have q := hs m i hi1 (by omega)
          rw [g2, g3] at c
          simp only at c
          omega
        have h2 := grK_mono st en L (-1) _ m hq
        have h3 : (grK st en L (-1) k).1.length = (grK st en L (-1) m).1.length + 1 := by rw [g2, g3]; simp
        omega

def sumG (ga : Nat → Int) : List Nat → Int
  | [] => 0
  | x :: r => ga x + sumG ga r
theorem sumG_app (ga : Nat → Int) : ∀ (a b : List Nat), sumG ga (a ++ b) = sumG ga a + sumG ga b
  | [], b => by simp [sumG]
  | x :: r, b => by simp only [List.cons_append, sumG]; rw [sumG_app ga r b]; omega
theorem sumG_perm (ga : Nat → Int) {a b : List Nat} (h : a.Perm b) : sumG ga a = sumG ga b := by
  induction h with
  | nil => rfl
  | cons x _ ih => simp only [sumG, ih]
  | swap x y l => simp only [sumG]; omega
  | trans _ _ h1 h2 => exact h1.trans h2
theorem sumV_up (st en ga : Nat → Int) (L : List Nat) (j : Nat) : ∀ k, j ≤ k → sumV st en ga L j ≤ sumV st en ga L k
  | 0, h => by obtain rfl : j = 0 := by omega
               exact Int.le_refl _
  | k + 1, h => by
    by_cases e : j = k + 1
    · subst e; exact Int.le_refl _
    · exact Int.le_trans (sumV_up st en ga L j k (by omega)) (sumV_mono st en ga L k)
theorem sumV_pos (st en ga : Nat → Int) (L : List Nat) (k : Nat) : 0 ≤ sumV st en ga L k := sumV_up st en ga L 0 k (Nat.zero_le _)
/-- What the greedy one takes gains no more than the greatest sum. -/
theorem greedy_gain {n : Nat} (hs : AscL en L n) : ∀ F k, k ≤ F → k ≤ n → sumG ga (grK st en L (-1) k).1 ≤ sumV st en ga L k
  | _, 0, _, _ => by show (0 : Int) ≤ 0; omega
  | 0, k + 1, h, _ => by omega
  | F + 1, k + 1, h, hn => by
    by_cases c : (grK st en L (-1) k).2 ≤ st (L.getD k 0)
    · have e : grK st en L (-1) (k + 1) = ((grK st en L (-1) k).1 ++ [L.getD k 0], en (L.getD k 0)) := by simp only [grK]; rw [if_pos c]
      rw [e]
      simp only [sumG_app, sumG]
      rw [sumV_succ]
      have hq : sumG ga (grK st en L (-1) k).1 ≤ sumV st en ga L (befI st en L k) := by
        rcases grK_last st en L (-1) k with g | ⟨m, g1, g2, g3⟩
        · rw [g]; exact sumV_pos _ _ _ _ _
        · rw [g2]
          refine Int.le_trans (greedy_gain hs F (m + 1) (by omega) (by omega)) (sumV_up st en ga L _ _ ?_)
          refine befK_ge (fun i hi => ?_) k g1
          have q := hs i m hi (by omega)
          rw [g2, g3] at c
          simp only at c
          omega
      omega
    · have e : grK st en L (-1) (k + 1) = grK st en L (-1) k := by simp only [grK]; rw [if_neg c]
      rw [e]
      exact Int.le_trans (greedy_gain hs F k (by omega) (by omega)) (sumV_mono st en ga L k)
/-- What is taken gains the greatest sum. -/
theorem taken_gain : ∀ F k, k ≤ F → sumG ga (tkL st en ga L k) = sumV st en ga L k
  | _, 0, _ => rfl
  | 0, k + 1, h => by omega
  | F + 1, k + 1, h => by
    have hb := befI_le st en L k
    have i1 := taken_gain F k (by omega)
    have i2 := taken_gain F (befI st en L k) (by omega)
    rw [tkL_succ]
    have hv := sumV_succ st en ga L k
    split
    · simp only [sumG]; rw [i2]; omega
    · rw [i1]
      have := sumV_mono st en ga L k
      omega
theorem one_gain (hg : ∀ x, 0 ≤ ga x) {n i : Nat} (hi : i < n) : ga (L.getD i 0) ≤ sumV st en ga L n := by
  have h1 := sumV_up st en ga L (i + 1) n (by omega)
  have h2 := sumV_succ st en ga L i
  have h3 := sumV_pos st en ga L (befI st en L i)
  omega
/-- Of a set no two meet. -/
def ApartS (st en : Nat → Int) (S : List Nat) : Prop := S.Pairwise fun a b => en a ≤ st b ∨ en b ≤ st a
theorem apart_perm {S T : List Nat} (h : S.Perm T) (hs : ApartS st en S) : ApartS st en T := h.pairwise hs (fun h => h.symm)
theorem greedy_ends (hse : ∀ x, st x ≤ en x) : ∀ k, ∀ a ∈ (grK st en L (-1) k).1, en a ≤ (grK st en L (-1) k).2
  | 0, a, ha => by cases ha
  | k + 1, a, ha => by
    have ih := greedy_ends hse k
    by_cases c : (grK st en L (-1) k).2 ≤ st (L.getD k 0)
    · have e : grK st en L (-1) (k + 1) = ((grK st en L (-1) k).1 ++ [L.getD k 0], en (L.getD k 0)) := by simp only [grK]; rw [if_pos c]
      rw [e] at ha ⊢
      simp only [List.mem_append, List.mem_singleton] at ha ⊢
      rcases ha with ha | ha
      · have := ih a ha
        have := hse (L.getD k 0)
        omega
      · subst ha; exact Int.le_refl _
    · have e : grK st en L (-1) (k + 1) = grK st en L (-1) k := by simp only [grK]; rw [if_neg c]
      rw [e] at ha ⊢
      exact ih a ha
theorem greedy_apart (hse : ∀ x, st x ≤ en x) : ∀ k, ApartS st en (grK st en L (-1) k).1
  | 0 => List.Pairwise.nil
  | k + 1 => by
    have ih := greedy_apart hse k
    by_cases c : (grK st en L (-1) k).2 ≤ st (L.getD k 0)
    · have e : grK st en L (-1) (k + 1) = ((grK st en L (-1) k).1 ++ [L.getD k 0], en (L.getD k 0)) := by simp only [grK]; rw [if_pos c]
      rw [e]
      unfold ApartS at ih ⊢
      rw [List.pairwise_append]
      refine ⟨ih, List.pairwise_singleton _ _, fun a ha b hb => ?_⟩
      rw [List.mem_singleton] at hb
      subst hb
      refine .inl ?_
      have := greedy_ends hse k a ha
      omega
    · have e : grK st en L (-1) (k + 1) = grK st en L (-1) k := by simp only [grK]; rw [if_neg c]
      rw [e]
      exact ih
/-- What is taken has indices of the order. -/
theorem taken_in : ∀ F k, k ≤ F → ∀ a ∈ tkL st en ga L k, ∃ i, i < k ∧ a = L.getD i 0
  | _, 0, _, a, ha => by cases ha
  | 0, k + 1, h, _, _ => by omega
  | F + 1, k + 1, h, a, ha => by
    have hb := befI_le st en L k
    rw [tkL_succ] at ha
    split at ha
    · rcases List.mem_cons.1 ha with e | ha
      · exact ⟨k, by omega, e⟩
      · obtain ⟨i, h1, h2⟩ := taken_in F (befI st en L k) (by omega) a ha
        exact ⟨i, by omega, h2⟩
    · obtain ⟨i, h1, h2⟩ := taken_in F k (by omega) a ha
      exact ⟨i, by omega, h2⟩
theorem taken_apart {n : Nat} (hs : AscL en L n) : ∀ F k, k ≤ F → k ≤ n → ApartS st en (tkL st en ga L k)
  | _, 0, _, _ => List.Pairwise.nil
  | 0, k + 1, h, _ => by omega
  | F + 1, k + 1, h, hn => by
    have hb := befI_le st en L k
    rw [tkL_succ]
    split
    · unfold ApartS
      rw [List.pairwise_cons]
      refine ⟨fun b hb2 => ?_, taken_apart hs F _ (by omega) (by omega)⟩
      obtain ⟨i, h1, rfl⟩ := taken_in F _ (by omega) b hb2
      exact .inr (befK_in hs (show k ≤ n by omega) h1)
    · exact taken_apart hs F k (by omega) (by omega)
end

end Go.Proofs.Ytkfiepiipigcmaa

namespace Go.Proofs.Ytkfiepiipigcmaa
open Go.RowKit Go.Sort

theorem nodup_inj {L : List Nat} (h : L.Nodup) (i j : Nat) (hi : i < L.length) (hj : j < L.length) (e : L[i] = L[j]) : i = j := by
  have h2 := List.pairwise_iff_getElem.1 h
  rcases Nat.lt_trichotomy i j with c | c | c
  · exact absurd e (h2 i j hi hj c)
  · exact c
  · exact absurd e.symm (h2 j i hj hi c)
def frK (ps : List SpanD) (x : Nat) : Int := (ps.getD (x % ps.length) P0).start
/-- The first room that is free at a time. -/
def freeI (E : List Int) (t : Int) : Nat := E.findIdx fun e => decide (e ≤ t)
theorem freeI_le (E : List Int) (t : Int) : freeI E t ≤ E.length := List.findIdx_le_length
theorem freeI_at {E : List Int} {t : Int} (h : freeI E t < E.length) : E.getD (freeI E t) 0 ≤ t := by
  have := List.findIdx_getElem (w := h)
  rw [decide_eq_true_eq] at this
  rw [List.getD_eq_getElem?_getD, List.getElem?_eq_getElem h]
  exact this
theorem freeI_ahead {E : List Int} {t : Int} {r : Nat} (h : r < freeI E t) : t < E.getD r 0 := by
  have h2 := freeI_le E t
  have := List.not_of_lt_findIdx (p := fun e => decide (e ≤ t)) (xs := E) (i := r) h
  simp only [decide_eq_false_iff_not] at this
  rw [List.getD_eq_getElem?_getD, List.getElem?_eq_getElem (by omega)]
  simpa using this
theorem freeI_stop {E : List Int} {t : Int} {k : Nat} (hk : k ≤ E.length) (h1 : ∀ r, r < k → t < E.getD r 0) (h2 : k = E.length ∨ E.getD k 0 ≤ t) : freeI E t = k := by
  have h3 := freeI_le E t
  rcases Nat.lt_trichotomy (freeI E t) k with h | h | h
  · have := h1 _ h
    have := freeI_at (E := E) (t := t) (by omega)
    omega
  · exact h
  · have := freeI_ahead h
    rcases h2 with e | e <;> omega
/-- When the rooms' last spans end. -/
def rmE (st en : Nat → Int) (L : List Nat) : Nat → List Int
  | 0 => []
  | k + 1 => if freeI (rmE st en L k) (st (L.getD k 0)) = (rmE st en L k).length then rmE st en L k ++ [en (L.getD k 0)] else (rmE st en L k).set (freeI (rmE st en L k) (st (L.getD k 0))) (en (L.getD k 0))
/-- The room of the k-th span of the order. -/
def rmR (st en : Nat → Int) (L : List Nat) (k : Nat) : Nat := freeI (rmE st en L k) (st (L.getD k 0))
def rmO (st en : Nat → Int) (L : List Nat) (n : Nat) : Nat → List Int
  | 0 => List.replicate n 0
  | k + 1 => (rmO st en L n k).set (L.getD k 0) (rmR st en L k)
theorem rmO_len (st en : Nat → Int) (L : List Nat) (n : Nat) : ∀ k, (rmO st en L n k).length = n
  | 0 => List.length_replicate
  | k + 1 => by simp only [rmO]; rw [List.length_set, rmO_len st en L n k]
theorem rmR_le (st en : Nat → Int) (L : List Nat) (k : Nat) : rmR st en L k ≤ (rmE st en L k).length := freeI_le _ _
theorem rmE_succ (st en : Nat → Int) (L : List Nat) (k : Nat) : rmE st en L (k + 1) = if rmR st en L k = (rmE st en L k).length then rmE st en L k ++ [en (L.getD k 0)] else (rmE st en L k).set (rmR st en L k) (en (L.getD k 0)) := rfl
theorem rmE_len (st en : Nat → Int) (L : List Nat) (k : Nat) : (rmE st en L (k + 1)).length = if rmR st en L k = (rmE st en L k).length then (rmE st en L k).length + 1 else (rmE st en L k).length := by
  rw [rmE_succ]
  split
  · rw [List.length_append]; rfl
  · rw [List.length_set]
theorem rmE_at (st en : Nat → Int) (L : List Nat) (k r : Nat) : (rmE st en L (k + 1)).getD r 0 = if r = rmR st en L k then en (L.getD k 0) else (rmE st en L k).getD r 0 := by
  have h0 := rmR_le st en L k
  rw [rmE_succ]
  by_cases e : rmR st en L k = (rmE st en L k).length
  · rw [if_pos e]
    by_cases c : r = rmR st en L k
    · rw [if_pos c, List.getD_eq_getElem?_getD, List.getElem?_append_right (by omega), c, e, Nat.sub_self]
      rfl
    · rw [if_neg c]
      by_cases d : r < (rmE st en L k).length
      · rw [List.getD_eq_getElem?_getD, List.getElem?_append_left d, ← List.getD_eq_getElem?_getD]
      · have a1 : (rmE st en L k ++ [en (L.getD k 0)]).getD r 0 = 0 := by
          rw [List.getD_eq_getElem?_getD, List.getElem?_eq_none (by rw [List.length_append, List.length_singleton]; omega)]; rfl
        have a2 : (rmE st en L k).getD r 0 = 0 := by
          rw [List.getD_eq_getElem?_getD, List.getElem?_eq_none (by omega)]; rfl
        rw [a1, a2]
  · rw [if_neg e]
    by_cases c : r = rmR st en L k
    · rw [if_pos c, List.getD_eq_getElem?_getD, c, List.getElem?_set_self (by omega)]
      rfl
    · rw [if_neg c, List.getD_eq_getElem?_getD, List.getElem?_set_ne (fun h => c h.symm), ← List.getD_eq_getElem?_getD]
theorem rmE_mono (st en : Nat → Int) (L : List Nat) (j : Nat) : ∀ k, j ≤ k → (rmE st en L j).length ≤ (rmE st en L k).length
  | 0, h => by obtain rfl : j = 0 := by omega
               exact Nat.le_refl _
  | k + 1, h => by
    by_cases e : j = k + 1
    · subst e; exact Nat.le_refl _
    · refine Nat.le_trans (rmE_mono st en L j k (by omega)) ?_
      rw [rmE_len]
      split <;> omega
theorem rmE_cnt (st en : Nat → Int) (L : List Nat) : ∀ k, (rmE st en L k).length ≤ k
  | 0 => Nat.le_refl _
  | k + 1 => by
    have := rmE_cnt st en L k
    rw [rmE_len]
    split <;> omega
theorem rmR_lt (st en : Nat → Int) (L : List Nat) {j k : Nat} (h : j < k) : rmR st en L j < (rmE st en L k).length := by
  have h1 := rmE_mono st en L (j + 1) k (by omega)
  have h2 := rmE_len st en L j
  have h3 := rmR_le st en L j
  split at h2 <;> omega

section
variable {st en : Nat → Int} {L : List Nat}
theorem rmE_ge (hse : ∀ x, st x < en x) : ∀ k, ∀ j, j < k → en (L.getD j 0) ≤ (rmE st en L k).getD (rmR st en L j) 0
  | 0, j, h => by omega
  | k + 1, j, h => by
    rw [rmE_at]
    by_cases e : j = k
    · subst e
      rw [if_pos rfl]
      exact Int.le_refl _
    · have ih := rmE_ge hse k j (by omega)
      have hl := rmR_lt st en L (show j < k by omega)
      split
      · rename_i c
        have := freeI_at (E := rmE st en L k) (t := st (L.getD k 0)) (by show rmR st en L k < _; omega)
        have q := hse (L.getD k 0)
        rw [c] at ih
        unfold rmR at ih
        omega
      · exact ih
/-- Two spans in one room do not meet. -/
theorem rooms_apart (hse : ∀ x, st x < en x) {j k : Nat} (h : j < k) (hr : rmR st en L j = rmR st en L k) : en (L.getD j 0) ≤ st (L.getD k 0) := by
  have h1 := rmE_ge (L := L) hse k j h
  have h2 := rmR_lt st en L h
  have h3 := freeI_at (E := rmE st en L k) (t := st (L.getD k 0)) (by show rmR st en L k < _; omega)
  rw [hr] at h1
  unfold rmR at h1
  omega
/-- Who was last in a room. -/
theorem rmE_who : ∀ k, ∀ r, r < (rmE st en L k).length → ∃ j, j < k ∧ rmR st en L j = r ∧ (rmE st en L k).getD r 0 = en (L.getD j 0)
  | 0, r, h => by cases h
  | k + 1, r, h => by
    rw [rmE_at]
    by_cases c : r = rmR st en L k
    · rw [if_pos c]
      exact ⟨k, by omega, c.symm, rfl⟩
    · rw [if_neg c]
      have h2 := rmE_len st en L k
      have h3 := rmR_le st en L k
      obtain ⟨j, h4, h5, h6⟩ := rmE_who k r (by split at h2 <;> omega)
      exact ⟨j, by omega, h5, h6⟩
end
/-- How many of n spans hold the time at which the i-th one begins. -/
def deepL (st en : Nat → Int) (n i : Nat) : List Nat := (List.range n).filter fun k => decide (st k ≤ st i ∧ st i < en k)
theorem nodup_sub : ∀ (a b : List Nat), a.Nodup → (∀ x ∈ a, x ∈ b) → a.length ≤ b.length
  | [], _, _, _ => Nat.zero_le _
  | x :: r, b, hn, h => by
    rw [List.nodup_cons] at hn
    have hx := h x (by simp)
    have ih := nodup_sub r (b.erase x) hn.2 (fun y hy => by
      have : y ≠ x := fun e => hn.1 (e ▸ hy)
      exact (List.mem_erase_of_ne this).2 (h y (by simp [hy])))
    rw [List.length_erase_of_mem hx] at ih
    have := List.length_pos_of_mem hx
    simp only [List.length_cons]
    omega
/-- There are no more rooms than spans that hold one time. -/
theorem rooms_deep {st en : Nat → Int} {L : List Nat} {n : Nat} (hp : L.Perm (List.range n)) (hs : ∀ i j, i ≤ j → j < n → st (L.getD i 0) ≤ st (L.getD j 0)) (hse : ∀ x, st x < en x) :
    ∀ k, k ≤ n → k = 0 ∨ ∃ i, i < k ∧ (rmE st en L k).length ≤ (deepL st en n (L.getD i 0)).length
  | 0, _ => .inl rfl
  | k + 1, hk => by
    have hll : L.length = n := by rw [hp.length_eq, List.length_range]
    have hnd : L.Nodup := hp.nodup_iff.2 List.nodup_range
    have hlt : ∀ j, j < n → L.getD j 0 < n := fun j hj => by
      rw [List.getD_eq_getElem?_getD, List.getElem?_eq_getElem (by omega)]
      exact List.mem_range.1 (hp.mem_iff.1 (List.getElem_mem _))
    refine .inr ?_
    have hl := rmE_len st en L k
    by_cases c : rmR st en L k = (rmE st en L k).length
    · refine ⟨k, by omega, ?_⟩
      rw [if_pos c] at hl
      rw [hl]
      have hw : ∀ r, ∃ j, r < (rmE st en L k).length → j < k ∧ rmR st en L j = r ∧ (rmE st en L k).getD r 0 = en (L.getD j 0) := fun r => by
        by_cases hr : r < (rmE st en L k).length
        · obtain ⟨j, h⟩ := rmE_who k r hr
          exact ⟨j, fun _ => h⟩
        · exact ⟨0, fun h => absurd h hr⟩
      obtain ⟨f, hf⟩ := Classical.axiomOfChoice hw
      have hinj : ∀ i j, i < n → j < n → L.getD i 0 = L.getD j 0 → i = j := fun i j hi hj e => by
        rw [List.getD_eq_getElem?_getD, List.getElem?_eq_getElem (by omega), List.getD_eq_getElem?_getD, List.getElem?_eq_getElem (by omega)] at e
        exact nodup_inj hnd _ _ (by omega) (by omega) e
      have hsub := nodup_sub ((List.range (rmE st en L k).length).map (fun r => L.getD (f r) 0) ++ [L.getD k 0]) (deepL st en n (L.getD k 0)) ?_ ?_
      · rw [List.length_append, List.length_map, List.length_range] at hsub
        exact hsub
      · rw [List.nodup_append]
        refine ⟨?_, by simp, ?_⟩
        · unfold List.Nodup
          rw [List.pairwise_map]
          refine List.Pairwise.imp_of_mem ?_ List.nodup_range
          intro a b ha hb hab e
          have h1 := hf a (List.mem_range.1 ha)
          have h2 := hf b (List.mem_range.1 hb)
          have := hinj _ _ (by omega) (by omega) e
          rw [this] at h1
          exact hab (h1.2.1.symm.trans h2.2.1)
        · intro a ha b hb e
          rw [List.mem_singleton] at hb
          rw [List.mem_map] at ha
          obtain ⟨r, hr, rfl⟩ := ha
          subst hb
          have h1 := hf r (List.mem_range.1 hr)
          have := hinj _ _ (by omega) (by omega) e
          omega
      · intro x hx
        unfold deepL
        rw [List.mem_filter, List.mem_range, decide_eq_true_eq]
        rw [List.mem_append, List.mem_singleton, List.mem_map] at hx
        rcases hx with ⟨r, hr, rfl⟩ | rfl
        · have hr := List.mem_range.1 hr
          have h1 := hf r hr
          refine ⟨hlt _ (by omega), hs _ _ (by omega) (by omega), ?_⟩
          rw [← h1.2.2]
          exact freeI_ahead (by show r < rmR st en L k; omega)
        · exact ⟨hlt _ (by omega), Int.le_refl _, hse _⟩
    · rw [if_neg c] at hl
      rw [hl]
      rcases rooms_deep hp hs hse k (by omega) with h | ⟨i, h1, h2⟩
      · subst h
        exact absurd (Nat.le_antisymm (rmR_le st en L 0) (Nat.zero_le _)) c
      · exact ⟨i, by omega, h2⟩
/-- The room of a span. -/
theorem rmO_at {st en : Nat → Int} {L : List Nat} {n : Nat} (hp : L.Perm (List.range n)) {j k : Nat} (hj : j < k) : k ≤ n → (rmO st en L n k).getD (L.getD j 0) 0 = (rmR st en L j : Int) := by
  have hll : L.length = n := by rw [hp.length_eq, List.length_range]
  have hnd : L.Nodup := hp.nodup_iff.2 List.nodup_range
  have hlt : ∀ j, j < n → L.getD j 0 < n := fun j hj => by
    rw [List.getD_eq_getElem?_getD, List.getElem?_eq_getElem (by omega)]
    exact List.mem_range.1 (hp.mem_iff.1 (List.getElem_mem _))
  have hinj : ∀ i j, i < n → j < n → L.getD i 0 = L.getD j 0 → i = j := fun i j hi hj e => by
    rw [List.getD_eq_getElem?_getD, List.getElem?_eq_getElem (by omega), List.getD_eq_getElem?_getD, List.getElem?_eq_getElem (by omega)] at e
    exact nodup_inj hnd _ _ (by omega) (by omega) e
  induction k with
  | zero => omega
  | succ k ih =>
    intro hk
    simp only [rmO]
    by_cases e : j = k
    · subst e
      rw [List.getD_eq_getElem?_getD, List.getElem?_set_self (by rw [rmO_len]; exact hlt _ (by omega))]
      rfl
    · have h1 := ih (by omega) (by omega)
      rw [List.getD_eq_getElem?_getD, List.getElem?_set_ne (fun h => e (hinj _ _ (by omega) (by omega) h).symm), ← List.getD_eq_getElem?_getD]
      exact h1
noncomputable def roomsL (ps : List SpanD) : List Int := if areSpansB ps = true then rmO (frK ps) (toK ps) (ordL (frK ps) ps.length) ps.length ps.length else []
noncomputable def roomsN (ps : List SpanD) : Int := if areSpansB ps = true then ((rmE (frK ps) (toK ps) (ordL (frK ps) ps.length) ps.length).length : Int) else 0

end Go.Proofs.Ytkfiepiipigcmaa
