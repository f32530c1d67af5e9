/-
  FnExactBestSpans: texts joined: BspM, SymM, SymI.
-/
import Derived.Sort.Lot0
import Derived.Lib.OwnBridge
import Derived.BigQuiet
import Derived.BigRegion
import Derived.Sort.Row
import Derived.Test.YtkfiepiipigcmaaMEBestSpansAA
import Derived.Test.YtkfiepiipigcmaaMEBestSpansAD
import Derived.Test.YtkfiepiipigcmaaMEBestSpansAH
namespace Go.Proofs.Ytkfiepiipigcmaa
open Go.RowKit Go.Sort

def gaK (ps : List SpanD) (x : Nat) : Int := (ps.getD (x % ps.length) P0).gain
/-- How many of the first k of an order end at most at a time. -/
def befK (en : Nat → Int) (L : List Nat) (t : Int) : Nat → Nat
  | 0 => 0
  | k + 1 => befK en L t k + if en (L.getD k 0) ≤ t then 1 else 0
theorem befK_le (en : Nat → Int) (L : List Nat) (t : Int) : ∀ k, befK en L t k ≤ k
  | 0 => Nat.le_refl _
  | k + 1 => by
    have := befK_le en L t k
    simp only [befK]
    split <;> omega
theorem befK_stop {en : Nat → Int} {L : List Nat} {t : Int} {k : Nat} (h1 : ∀ j, j < k → en (L.getD j 0) ≤ t) : ∀ i, k ≤ i → (∀ j, k ≤ j → j < i → t < en (L.getD j 0)) → befK en L t i = k
  | 0, hk, _ => by simp only [befK]; omega
  | i + 1, hk, h2 => by
    simp only [befK]
    by_cases e : k = i + 1
    · subst e
      rw [befK_stop (k := i) (fun j hj => h1 j (by omega)) i (Nat.le_refl _) (fun j h h' => by omega), if_pos (h1 i (by omega))]
    · rw [befK_stop h1 i (by omega) (fun j h h' => h2 j h (by omega)), if_neg (by have := h2 i (by omega) (by omega); omega)]
      rfl
/-- The greatest sums of gains among the first spans of an order. -/
def sumK (st en ga : Nat → Int) (L : List Nat) : Nat → List Int
  | 0 => [0]
  | k + 1 => sumK st en ga L k ++ [max ((sumK st en ga L k).getD k 0) ((sumK st en ga L k).getD (befK en L (st (L.getD k 0)) k) 0 + ga (L.getD k 0))]
theorem sumK_len (st en ga : Nat → Int) (L : List Nat) : ∀ k, (sumK st en ga L k).length = k + 1
  | 0 => rfl
  | k + 1 => by simp only [sumK]; rw [List.length_append, sumK_len st en ga L k]; rfl
def sumV (st en ga : Nat → Int) (L : List Nat) (k : Nat) : Int := (sumK st en ga L k).getD k 0
theorem sumK_at (st en ga : Nat → Int) (L : List Nat) (i : Nat) : ∀ k, i ≤ k → (sumK st en ga L k).getD i 0 = sumV st en ga L i
  | 0, h => by obtain rfl : i = 0 := by omega
               rfl
  | k + 1, h => by
    by_cases e : i = k + 1
    · subst e; rfl
    · have ih := sumK_at st en ga L i k (by omega)
      rw [← ih]
      simp only [sumK]
      rw [List.getD_eq_getElem?_getD, List.getElem?_append_left (by rw [sumK_len]; omega), ← List.getD_eq_getElem?_getD]
def befI (st en : Nat → Int) (L : List Nat) (k : Nat) : Nat := befK en L (st (L.getD k 0)) k
theorem befI_le (st en : Nat → Int) (L : List Nat) (k : Nat) : befI st en L k ≤ k := befK_le _ _ _ _
theorem sumV_succ (st en ga : Nat → Int) (L : List Nat) (k : Nat) : sumV st en ga L (k + 1) = max (sumV st en ga L k) (sumV st en ga L (befI st en L k) + ga (L.getD k 0)) := by
  have e := sumK_at st en ga L (befI st en L k) k (befI_le st en L k)
  unfold befI at e
  unfold sumV
  simp only [sumK]
  rw [List.getD_eq_getElem?_getD, List.getElem?_append_right (by rw [sumK_len]; omega), sumK_len, e]
  simp [befI, sumV]
theorem sumK_succ (st en ga : Nat → Int) (L : List Nat) (k : Nat) : sumK st en ga L (k + 1) = sumK st en ga L k ++ [sumV st en ga L (k + 1)] := by
  rw [sumV_succ]
  have e := sumK_at st en ga L (befI st en L k) k (befI_le st en L k)
  unfold befI at e
  simp only [sumK]
  rw [e]
  rfl
theorem sumV_rng (st en ga : Nat → Int) (L : List Nat) (hg : ∀ x, 0 ≤ ga x ∧ ga x ≤ 1000) : ∀ F k, k ≤ F → 0 ≤ sumV st en ga L k ∧ sumV st en ga L k ≤ 1000 * k
  | _, 0, _ => by show (0 : Int) ≤ 0 ∧ (0 : Int) ≤ _; omega
  | 0, k + 1, h => by omega
  | F + 1, k + 1, h => by
    have h1 := sumV_rng st en ga L hg F k (by omega)
    have hb := befI_le st en L k
    have h2 := sumV_rng st en ga L hg F (befI st en L k) (by omega)
    have h3 := hg (L.getD k 0)
    rw [sumV_succ]
    omega
theorem sumV_mono (st en ga : Nat → Int) (L : List Nat) (k : Nat) : sumV st en ga L k ≤ sumV st en ga L (k + 1) := by rw [sumV_succ]; omega
/-- What is taken, from the last one on. -/
def tkF (st en ga : Nat → Int) (L : List Nat) : Nat → Nat → List Nat
  | 0, _ => []
  | _ + 1, 0 => []
  | F + 1, i + 1 => if sumV st en ga L i < sumV st en ga L (i + 1) then L.getD i 0 :: tkF st en ga L F (befI st en L i) else tkF st en ga L F i
def tkL (st en ga : Nat → Int) (L : List Nat) (i : Nat) : List Nat := tkF st en ga L i i
theorem tkF_more (st en ga : Nat → Int) (L : List Nat) : ∀ F i, i ≤ F → tkF st en ga L F i = tkL st en ga L i
  | 0, i, h => by obtain rfl : i = 0 := by omega
                  rfl
  | F + 1, 0, _ => rfl
  | F + 1, i + 1, h => by
    have hb := befI_le st en L i
    have h1 := tkF_more st en ga L F i (by omega)
    have h2 := tkF_more st en ga L F (befI st en L i) (by omega)
    unfold tkL
    simp only [tkF]
    by_cases e : F = i
    · subst e; rfl
    · have h3 := tkF_more st en ga L i i (Nat.le_refl _)
      have h4 : tkF st en ga L i (befI st en L i) = tkL st en ga L (befI st en L i) := tkF_more st en ga L i (befI st en L i) hb
      rw [h1, h2, h3, h4]
termination_by F => F
theorem tkL_zero (st en ga : Nat → Int) (L : List Nat) : tkL st en ga L 0 = [] := rfl
theorem tkL_succ (st en ga : Nat → Int) (L : List Nat) (i : Nat) : tkL st en ga L (i + 1) = if sumV st en ga L i < sumV st en ga L (i + 1) then L.getD i 0 :: tkL st en ga L (befI st en L i) else tkL st en ga L i := by
  have hb := befI_le st en L i
  show tkF st en ga L (i + 1) (i + 1) = _
  simp only [tkF]
  rw [tkF_more st en ga L i (befI st en L i) hb, tkF_more st en ga L i i (Nat.le_refl _)]
theorem tkL_sub (st en ga : Nat → Int) (L : List Nat) : ∀ F i, i ≤ F → i ≤ L.length → (tkL st en ga L i).reverse.Sublist (L.take i)
  | _, 0, _, _ => by simp [tkL_zero]
  | 0, i + 1, h, _ => by omega
  | F + 1, i + 1, h, hl => by
    have hb := befI_le st en L i
    have h1 := tkL_sub st en ga L F i (by omega) (by omega)
    have h2 := tkL_sub st en ga L F (befI st en L i) (by omega) (by omega)
    have e : L.take (i + 1) = L.take i ++ [L.getD i 0] := by
      rw [List.take_add_one, List.getElem?_eq_getElem (by omega), List.getD_eq_getElem?_getD, List.getElem?_eq_getElem (by omega)]
      rfl
    rw [tkL_succ, e]
    split
    · rw [List.reverse_cons]
      refine List.Sublist.append (h2.trans ?_) (List.Sublist.refl _)
      exact List.take_sublist_take_left hb
    · exact h1.trans (List.sublist_append_left _ _)
theorem tkL_len (st en ga : Nat → Int) (L : List Nat) (i : Nat) (h : i ≤ L.length) : (tkL st en ga L i).length ≤ i := by
  have := (tkL_sub st en ga L i i (Nat.le_refl _) h).length_le
  rw [List.length_take, List.length_reverse] at this
  omega
/-- The order's keys ascend. -/
theorem ordL_asc (key : Nat → Int) (n i j : Nat) (h : i < j) (hj : j < n) : key ((ordL key n).getD i 0) ≤ key ((ordL key n).getD j 0) := by
  have hs := (insertionSort_holds (swo_ltK key) (Array.range n) 0 n (Nat.zero_le _) (by simp)).2 i j (Nat.zero_le _) h hj
  have hz := ordA_size key n
  have g : ∀ k, k < n → (insertionSort (ltK key) (Array.range n) 0 n)[k]! = (ordL key n).getD k 0 := by
    intro k hk
    show (ordA key n)[k]! = _
    unfold ordL
    rw [getElem!_pos (ordA key n) k (by omega), List.getD_eq_getElem?_getD, List.getElem?_eq_getElem (by rw [Array.length_toList]; omega)]
    rfl
  rw [g i (by omega), g j hj] at hs
  simp only [ltK, decide_eq_false_iff_not] at hs
  omega
/-- The program's list of how many end ahead of each one. -/
def befL (st en : Nat → Int) (L : List Nat) : Nat → List Int
  | 0 => [0]
  | k + 1 => befL st en L k ++ [(befI st en L k : Int)]
theorem befL_len (st en : Nat → Int) (L : List Nat) : ∀ k, (befL st en L k).length = k + 1
  | 0 => rfl
  | k + 1 => by simp only [befL]; rw [List.length_append, befL_len st en L k]; rfl
theorem befL_at (st en : Nat → Int) (L : List Nat) (i : Nat) : ∀ k, i < k → (befL st en L k).getD (i + 1) 0 = (befI st en L i : Int)
  | 0, h => by omega
  | k + 1, h => by
    simp only [befL]
    by_cases e : i = k
    · subst e
      rw [List.getD_eq_getElem?_getD, List.getElem?_append_right (by rw [befL_len]; omega), befL_len]
      simp
    · have ih := befL_at st en L i k (by omega)
      rw [← ih, List.getD_eq_getElem?_getD, List.getElem?_append_left (by rw [befL_len]; omega), ← List.getD_eq_getElem?_getD]
theorem sumK_cell (st en ga : Nat → Int) (L : List Nat) {i k : Nat} (h : i ≤ k) : ((sumK st en ga L k).map I64)[i]? = some (.int .i64 (sumV st en ga L i)) := by
  have h2 : i < (sumK st en ga L k).length := by rw [sumK_len]; omega
  rw [List.getElem?_map, List.getElem?_eq_getElem h2, ← sumK_at st en ga L i k h, List.getD_eq_getElem?_getD, List.getElem?_eq_getElem h2]
  rfl
theorem befL_cell (st en : Nat → Int) (L : List Nat) {i k : Nat} (h : i < k) : ((befL st en L k).map I64)[i + 1]? = some (.int .i64 (befI st en L i : Nat)) := by
  have h2 : i + 1 < (befL st en L k).length := by rw [befL_len]; omega
  rw [List.getElem?_map, List.getElem?_eq_getElem h2, ← befL_at st en L i k h, List.getD_eq_getElem?_getD, List.getElem?_eq_getElem h2]
  rfl
noncomputable def bspT (ps : List SpanD) : List Nat := tkL (stK ps) (toK ps) (gaK ps) (ordL (toK ps) ps.length) ps.length
noncomputable def bspL (ps : List SpanD) : List Int := if areSpansB ps = true then idxs (setL ps.length (bspT ps)) else []
noncomputable def bspG (ps : List SpanD) : Int := if areSpansB ps = true then sumV (stK ps) (toK ps) (gaK ps) (ordL (toK ps) ps.length) ps.length else 0
theorem bspT_nodup (ps : List SpanD) : (bspT ps).Nodup := by
  have hs := tkL_sub (stK ps) (toK ps) (gaK ps) (ordL (toK ps) ps.length) ps.length ps.length (Nat.le_refl _) (by rw [ordL_len]; exact Nat.le_refl _)
  have := hs.nodup ((List.take_sublist _ _).nodup ((ordL_perm (toK ps) ps.length).nodup_iff.2 List.nodup_range))
  exact (List.reverse_perm _).nodup_iff.1 this
theorem bspT_lt (ps : List SpanD) : ∀ x ∈ bspT ps, x < ps.length := by
  intro x hx
  have hs := tkL_sub (stK ps) (toK ps) (gaK ps) (ordL (toK ps) ps.length) ps.length ps.length (Nat.le_refl _) (by rw [ordL_len]; exact Nat.le_refl _)
  exact ordL_lt _ _ x (List.mem_of_mem_take (hs.subset (List.mem_reverse.2 hx)))
theorem gaK_rng {ps : List SpanD} (h : areSpansB ps = true) (x : Nat) : 0 ≤ gaK ps x ∧ gaK ps x ≤ 1000 := by
  unfold areSpansB at h
  rw [Bool.and_eq_true, allB_iff, inB_iff] at h
  have h2 := h.2 (x % ps.length) (Nat.mod_lt _ (by omega))
  unfold spanB at h2
  rw [Bool.and_eq_true, Bool.and_eq_true, Bool.and_eq_true, inB_iff, inB_iff, inB_iff] at h2
  exact h2.2.2.2
theorem bspL_cnt (ps : List SpanD) : cntI (bspL ps) ≤ 1048576 := by
  unfold cntI bspL
  split
  · rename_i h
    unfold areSpansB at h
    rw [Bool.and_eq_true, inB_iff] at h
    rw [idxs_len]
    have h2 : (setL ps.length (bspT ps)).length ≤ ps.length := by
      unfold setL
      refine Nat.le_trans (List.length_filter_le _ _) ?_
      rw [List.length_range]
      exact Nat.le_refl _
    omega
  · simp

end Go.Proofs.Ytkfiepiipigcmaa

namespace Go.Proofs.Ytkfiepiipigcmaa
open Go.RowKit Go.Sort

/-- Keys first, then the indices themselves. -/
def lx (key : Nat → Int) (x y : Nat) : Bool := decide (key x < key y ∨ (key x = key y ∧ x < y))
theorem lx_false {key : Nat → Int} {x y : Nat} : lx key x y = false ↔ key y < key x ∨ (key y = key x ∧ y ≤ x) := by
  unfold lx
  rw [decide_eq_false_iff_not]
  omega
theorem lx_true {key : Nat → Int} {x y : Nat} : lx key x y = true ↔ key x < key y ∨ (key x = key y ∧ x < y) := by
  unfold lx
  rw [decide_eq_true_iff]
theorem swo_lx (key : Nat → Int) : SWO (lx key) where
  irrefl x := by rw [lx_false]; omega
  trans x y z h1 h2 := by rw [lx_true] at *; omega
  ntrans x y z h1 h2 := by rw [lx_false] at *; omega
theorem lx_eq {key : Nat → Int} {x y : Nat} (h1 : lx key x y = false) (h2 : lx key y x = false) : x = y := by
  rw [lx_false] at h1 h2
  omega

/-! ### Insertion of a block whose indices ascend -/
theorem insInner_eq (l1 l2 : Nat → Nat → Bool) (a : Nat) : ∀ (j : Nat) (d : Array Nat), j < d.size → (∀ k, a ≤ k → k < j → l1 d[j]! d[k]! = l2 d[j]! d[k]!) → insInner l1 a j d = insInner l2 a j d
  | 0, d, _, _ => rfl
  | j + 1, d, hj, h => by
    unfold insInner
    by_cases ha : j + 1 > a
    · have h1 := h j (by omega) (by omega)
      rw [h1]
      by_cases hl : (decide (j + 1 > a) && l2 d[j + 1]! d[j]!) = true
      · rw [if_pos hl, if_pos hl]
        refine insInner_eq l1 l2 a j _ (by rw [size_swp]; omega) fun k hk1 hk2 => ?_
        rw [swp_right d (j + 1) j (by omega), swp_other d (j + 1) j k (by omega) (by omega)]
        exact h k hk1 (by omega)
      · rw [if_neg hl, if_neg hl]
    · have e : decide (j + 1 > a) = false := decide_eq_false ha
      rw [e, Bool.false_and, Bool.false_and, if_neg (by decide), if_neg (by decide)]
theorem insInner_perm (lt : Nat → Nat → Bool) (a b i : Nat) (hib : i < b) : ∀ (j : Nat) (d : Array Nat), a ≤ j → j ≤ i → b ≤ d.size → PermIn a (i + 1) d (insInner lt a j d)
  | 0, d, _, _, _ => permIn_refl d a (i + 1)
  | j + 1, d, haj, hji, hb => by
    unfold insInner
    split
    · rename_i hc
      simp only [Bool.and_eq_true, decide_eq_true_eq] at hc
      exact permIn_trans _ _ _ a (i + 1) (swp_permIn d a (i + 1) (j + 1) j (by omega) (by omega) (by omega) (by omega) (by omega)) (insInner_perm lt a b i hib j _ (by omega) (by omega) (by rw [size_swp]; exact hb))
    · exact permIn_refl d a (i + 1)
theorem insOuter_eq (key : Nat → Int) (a b : Nat) : ∀ (n i : Nat) (d : Array Nat), b - i ≤ n → a ≤ i → b ≤ d.size → (∀ k l, a ≤ k → k < l → l < b → i ≤ l → d[k]! < d[l]!) → insOuter (ltK key) a b i d = insOuter (lx key) a b i d
  | 0, i, d, hn, _, _, _ => by rw [insOuter_stop _ _ _ _ _ (by omega), insOuter_stop _ _ _ _ _ (by omega)]
  | n + 1, i, d, hn, hai, hb, H => by
    by_cases hlt : i < b
    · rw [insOuter_go _ _ _ _ _ hlt, insOuter_go _ _ _ _ _ hlt]
      have e : insInner (ltK key) a i d = insInner (lx key) a i d := insInner_eq _ _ a i d (by omega) fun k h1 h2 => by
        have := H k i h1 h2 hlt (Nat.le_refl _)
        unfold ltK lx
        congr 1
        refine propext ⟨fun h => .inl h, fun h => ?_⟩
        omega
      rw [e]
      have hp := insInner_perm (lx key) a b i hlt i d hai (Nat.le_refl _) hb
      refine insOuter_eq key a b n (i + 1) _ (by omega) (by omega) (by rw [hp.1]; exact hb) fun k l h1 h2 h3 h4 => ?_
      have el : (insInner (lx key) a i d)[l]! = d[l]! := hp.2.1 l (.inr h4)
      rw [el]
      by_cases hk : k < i + 1
      · exact permIn_all d _ a (i + 1) (fun x => x < d[l]!) (by omega) hp (fun q hq1 hq2 => H q l hq1 (by omega) h3 (by omega)) k h1 hk
      · rw [hp.2.1 k (.inr (by omega))]
        exact H k l h1 h2 h3 (by omega)
    · rw [insOuter_stop _ _ _ _ _ hlt, insOuter_stop _ _ _ _ _ hlt]
/-- A block whose indices ascend, sorted by keys, is sorted by keys and indices. -/
theorem insertion_lx (key : Nat → Int) (d : Array Nat) (a b : Nat) (hab : a ≤ b) (hb : b ≤ d.size) (H : ∀ k l, a ≤ k → k < l → l < b → d[k]! < d[l]!) :
    PermIn a b d (insertionSort (ltK key) d a b) ∧ SortedIn (lx key) a b (insertionSort (ltK key) d a b) := by
  have e : insertionSort (ltK key) d a b = insertionSort (lx key) d a b := insOuter_eq key a b (b - (a + 1)) (a + 1) d (Nat.le_refl _) (by omega) hb fun k l h1 h2 h3 _ => H k l h1 h2 h3
  rw [e]
  exact insertionSort_holds (swo_lx key) d a b hab hb
/-- Whatever is sorted by keys and indices, and holds the indices below n, is the list of the reference. -/
theorem ord_unique (key : Nat → Int) (n : Nat) (d : Array Nat) (hp : PermIn 0 n (Array.range n) d) (hs : SortedIn (lx key) 0 n d) : d = ordA key n := by
  have hsz : (Array.range n).size = n := Array.size_range
  have h1 := insertion_lx key (Array.range n) 0 n (Nat.zero_le _) (by rw [hsz]; exact Nat.le_refl _) fun k l _ h2 h3 => by
    rw [getElem!_pos (Array.range n) k (by rw [hsz]; omega), getElem!_pos (Array.range n) l (by rw [hsz]; omega)]
    simpa using h2
  have u : ∀ d' : Array Nat, PermIn 0 n (Array.range n) d' → SortedIn (lx key) 0 n d' → d'.toList = (Array.range n).toList.mergeSort (fun x y => !lx key y x) := fun d' hp' hs' =>
    sorted_unique_holds (swo_lx key) (fun x y h1 h2 => lx_eq h1 h2) (Array.range n) d' (by rw [hsz]; exact hp') (by rw [hsz]; exact hs')
  apply Array.ext'
  rw [u d hp hs]
  exact (u (ordA key n) h1.1 h1.2).symm

/-! ### Ranges that change places -/
def SwapIn (a b n : Nat) (d d' : Array Nat) : Prop := d'.size = d.size ∧ ∀ k, d'[k]! = if a ≤ k ∧ k < a + n then d[k - a + b]! else if b ≤ k ∧ k < b + n then d[k - b + a]! else d[k]!
def RotIn (a m b : Nat) (d d' : Array Nat) : Prop := d'.size = d.size ∧ ∀ k, d'[k]! = if a ≤ k ∧ k < b then (if k < a + (b - m) then d[m + (k - a)]! else d[k - (b - m)]!) else d[k]!
theorem swapIn_zero (a b : Nat) (d : Array Nat) : SwapIn a b 0 d d := by
  refine ⟨rfl, fun k => ?_⟩
  rw [if_neg (by omega), if_neg (by omega)]
theorem swapIn_succ {a b n : Nat} {d d' : Array Nat} (h : SwapIn a b n d d') (hd : a + n + 1 ≤ b ∨ b + n + 1 ≤ a) (ha : a + n < d.size) (hb : b + n < d.size) : SwapIn a b (n + 1) d (swp d' (a + n) (b + n)) := by
  refine ⟨by rw [size_swp, h.1], fun k => ?_⟩
  by_cases h1 : k = a + n
  · subst h1
    rw [swp_left d' _ _ (by rw [h.1]; omega) (by omega), h.2 (b + n), if_neg (by omega), if_neg (by omega), if_pos (by omega)]
    congr 1
    omega
  · by_cases h2 : k = b + n
    · subst h2
      rw [swp_right d' _ _ (by rw [h.1]; omega), h.2 (a + n), if_neg (by omega), if_neg (by omega), if_neg (by omega), if_pos (by omega)]
      congr 1
      omega
    · rw [swp_other d' _ _ k h1 h2, h.2 k]
      by_cases c1 : a ≤ k ∧ k < a + n
      · rw [if_pos c1, if_pos (by omega)]
      · by_cases c2 : b ≤ k ∧ k < b + n
        · rw [if_neg c1, if_pos c2, if_neg (by omega), if_pos (by omega)]
        · rw [if_neg c1, if_neg c2, if_neg (by omega), if_neg (by omega)]
theorem rot_more {m i j : Nat} {d d1 d2 : Array Nat} (hi : i ≤ m) (hij : j < i) (h1 : SwapIn (m - i) m j d d1) (h2 : RotIn (m - (i - j)) m (m + j) d1 d2) : RotIn (m - i) m (m + j) d d2 := by
  refine ⟨h2.1.trans h1.1, fun k => ?_⟩
  rw [h2.2 k]
  by_cases c1 : m - i ≤ k ∧ k < m + j
  · rw [if_pos c1]
    by_cases c2 : k < m - i + (m + j - m)
    · rw [if_pos c2, if_neg (by omega), h1.2 k, if_pos (by omega)]
      congr 1
      omega
    · rw [if_neg c2, if_pos (by omega)]
      by_cases c3 : k < m - (i - j) + (m + j - m)
      · rw [if_pos c3, h1.2 _, if_neg (by omega), if_pos (by omega)]
        congr 1
        omega
      · rw [if_neg c3, h1.2 _, if_neg (by omega), if_neg (by omega)]
  · rw [if_neg c1, if_neg (by omega), h1.2 k, if_neg (by omega), if_neg (by omega)]
theorem rot_less {m i j : Nat} {d d1 d2 : Array Nat} (hi : i ≤ m) (hij : i < j) (h1 : SwapIn (m - i) (m + j - i) i d d1) (h2 : RotIn (m - i) m (m + (j - i)) d1 d2) : RotIn (m - i) m (m + j) d d2 := by
  refine ⟨h2.1.trans h1.1, fun k => ?_⟩
  rw [h2.2 k]
  by_cases c1 : m - i ≤ k ∧ k < m + j
  · rw [if_pos c1]
    by_cases c2 : k < m - i + (m + j - m)
    · rw [if_pos c2, if_pos (by omega)]
      by_cases c3 : k < m - i + (m + (j - i) - m)
      · rw [if_pos c3, h1.2 _, if_neg (by omega), if_neg (by omega)]
      · rw [if_neg c3, h1.2 _, if_pos (by omega)]
        congr 1
        omega
    · rw [if_neg c2]
      by_cases c4 : m - i ≤ k ∧ k < m + (j - i)
      · omega
      · rw [if_neg c4, h1.2 k, if_neg (by omega), if_pos (by omega)]
        congr 1
        omega
  · rw [if_neg c1, if_neg (by omega), h1.2 k, if_neg (by omega), if_neg (by omega)]
theorem rot_last {m i : Nat} {d d1 : Array Nat} (hi : i ≤ m) (h1 : SwapIn (m - i) m i d d1) : RotIn (m - i) m (m + i) d d1 := by
  refine ⟨h1.1, fun k => ?_⟩
  rw [h1.2 k]
  by_cases c1 : m - i ≤ k ∧ k < m + i
  · rw [if_pos c1]
    by_cases c2 : k < m - i + (m + i - m)
    · rw [if_pos (by omega), if_pos c2]
      congr 1
      omega
    · rw [if_neg (by omega), if_pos (by omega), if_neg c2]
      congr 1
      omega
  · rw [if_neg (by omega), if_neg (by omega), if_neg c1]
theorem rot_none {a m b : Nat} {d : Array Nat} (h : a = m ∨ m = b) (hab : a ≤ m) (hmb : m ≤ b) : RotIn a m b d d := by
  refine ⟨rfl, fun k => ?_⟩
  by_cases c1 : a ≤ k ∧ k < b
  · rw [if_pos c1]
    by_cases c2 : k < a + (b - m)
    · rw [if_pos c2]; congr 1; omega
    · rw [if_neg c2]; congr 1; omega
  · rw [if_neg c1]

/-! ### The merge -/
/-- Equal keys: what stands ahead has the lesser index. -/
def Tie (key : Nat → Int) (a m b : Nat) (d : Array Nat) : Prop := ∀ i j, a ≤ i → i < m → m ≤ j → j < b → key d[i]! = key d[j]! → d[i]! < d[j]!
/-- All of the first part are at most all of the second. -/
def Cross (key : Nat → Int) (a c b : Nat) (d : Array Nat) : Prop := ∀ i j, a ≤ i → i < c → c ≤ j → j < b → lx key d[j]! d[i]! = false
theorem sorted_le {key : Nat → Int} {a b : Nat} {d : Array Nat} (h : SortedIn (lx key) a b d) {i j : Nat} (h1 : a ≤ i) (h2 : i ≤ j) (h3 : j < b) : lx key d[j]! d[i]! = false := by
  by_cases e : i = j
  · subst e
    exact (swo_lx key).irrefl _
  · exact h i j h1 (by omega) h3
theorem cross_join {key : Nat → Int} {a c b : Nat} {d d2 d3 : Array Nat} (hac : a ≤ c) (hcb : c ≤ b) (hb : b ≤ d.size) (hx : Cross key a c b d) (p2 : PermIn a c d d2) (s2 : SortedIn (lx key) a c d2) (p3 : PermIn c b d2 d3) (s3 : SortedIn (lx key) c b d3) : PermIn a b d d3 ∧ SortedIn (lx key) a b d3 := by
  have hb2 : b ≤ d2.size := by rw [p2.1]; exact hb
  have q2 : PermIn a b d d2 := permIn_mono d d2 a c a b (Nat.le_refl _) hcb hb p2
  have q3 : PermIn a b d2 d3 := permIn_mono d2 d3 c b a b hac (Nat.le_refl _) hb2 p3
  refine ⟨permIn_trans _ _ _ a b q2 q3, fun i j h1 h2 h3 => ?_⟩
  by_cases c1 : j < c
  · rw [p3.2.1 i (.inl (by omega)), p3.2.1 j (.inl c1)]
    exact s2 i j h1 h2 c1
  · by_cases c2 : i < c
    · rw [p3.2.1 i (.inl c2)]
      have hall : ∀ jj, c ≤ jj → jj < b → lx key d3[jj]! d2[i]! = false := permIn_all d2 d3 c b (fun x => lx key x d2[i]! = false) hb2 p3 fun k hk1 hk2 => by
        rw [p2.2.1 k (.inr hk1)]
        exact permIn_all d d2 a c (fun y => lx key d[k]! y = false) (by omega) p2 (fun l hl1 hl2 => hx l k hl1 hl2 hk1 hk2) i h1 c2
      exact hall j (by omega) h3
    · exact s3 i j (by omega) h2 h3
/-- What stands where behind a rotation. -/
theorem rot_at {s m e : Nat} {d d1 : Array Nat} (h : RotIn s m e d d1) (hsm : s ≤ m) (hme : m ≤ e) :
    (∀ k, s ≤ k → k < s + (e - m) → d1[k]! = d[k + (m - s)]!) ∧ (∀ k, s + (e - m) ≤ k → k < e → d1[k]! = d[k - (e - m)]!) ∧ (∀ k, k < s ∨ e ≤ k → d1[k]! = d[k]!) := by
  refine ⟨fun k h1 h2 => ?_, fun k h1 h2 => ?_, fun k hk => ?_⟩
  · rw [h.2 k, if_pos (by omega), if_pos h2]
    congr 1
    omega
  · rw [h.2 k, if_pos (by omega), if_neg (by omega)]
  · rw [h.2 k, if_neg (by omega)]
/-- A rotation that brings all lesser ones ahead. -/
theorem rot_parts {key : Nat → Int} {a s m e b c : Nat} {d d1 : Array Nat} (has : a ≤ s) (hsm : s ≤ m) (hme : m ≤ e) (heb : e ≤ b) (hc : c = s + (e - m))
    (sA : SortedIn (lx key) a m d) (sB : SortedIn (lx key) m b d) (h1 : ∀ i j, a ≤ i → i < s → e ≤ j → j < b → lx key d[j]! d[i]! = false) (h2 : ∀ i j, s ≤ i → i < m → m ≤ j → j < e → lx key d[i]! d[j]! = false) (hr : RotIn s m e d d1) :
    Cross key a c b d1 ∧ SortedIn (lx key) a s d1 ∧ SortedIn (lx key) s c d1 ∧ SortedIn (lx key) c e d1 ∧ SortedIn (lx key) e b d1 := by
  obtain ⟨r1, r2, r3⟩ := rot_at hr hsm hme
  subst hc
  refine ⟨fun i j hi1 hi2 hj1 hj2 => ?_, fun i j hi1 hi2 hi3 => ?_, fun i j hi1 hi2 hi3 => ?_, fun i j hi1 hi2 hi3 => ?_, fun i j hi1 hi2 hi3 => ?_⟩
  · by_cases c1 : i < s
    · rw [r3 i (.inl c1)]
      by_cases c2 : j < e
      · rw [r2 j hj1 c2]
        exact sorted_le sA hi1 (by omega) (by omega)
      · rw [r3 j (.inr (by omega))]
        exact h1 i j hi1 c1 (by omega) hj2
    · rw [r1 i (by omega) hi2]
      by_cases c2 : j < e
      · rw [r2 j hj1 c2]
        exact h2 _ _ (by omega) (by omega) (by omega) (by omega)
      · rw [r3 j (.inr (by omega))]
        exact sorted_le sB (by omega) (by omega) hj2
  · rw [r3 i (.inl (by omega)), r3 j (.inl (by omega))]
    exact sA i j hi1 hi2 (by omega)
  · rw [r1 i hi1 (by omega), r1 j (by omega) hi3]
    exact sB _ _ (by omega) (by omega) (by omega)
  · rw [r2 i hi1 (by omega), r2 j (by omega) hi3]
    exact sA _ _ (by omega) (by omega) (by omega)
  · rw [r3 i (.inr (by omega)), r3 j (.inr (by omega))]
    exact sB i j (by omega) hi2 hi3
theorem rot_ties {key : Nat → Int} {a s m e b c : Nat} {d d1 : Array Nat} (has : a ≤ s) (hsm : s ≤ m) (hme : m ≤ e) (heb : e ≤ b) (hc : c = s + (e - m)) (ht : Tie key a m b d) (hr : RotIn s m e d d1) : Tie key a s c d1 ∧ Tie key c e b d1 := by
  obtain ⟨r1, r2, r3⟩ := rot_at hr hsm hme
  subst hc
  refine ⟨fun i j h1 h2 h3 h4 hk => ?_, fun i j h1 h2 h3 h4 hk => ?_⟩
  · rw [r3 i (.inl h2), r1 j h3 h4] at hk ⊢
    exact ht _ _ h1 (by omega) (by omega) (by omega) hk
  · rw [r2 i h1 h2, r3 j (.inr h3)] at hk ⊢
    exact ht _ _ (by omega) (by omega) (by omega) h4 hk
theorem tie_perm {key : Nat → Int} {a m b : Nat} {d d' : Array Nat} (hb : b ≤ d.size) (h : Tie key a m b d) (he : ∀ k, a ≤ k → k < b → d'[k]! = d[k]!) : Tie key a m b d' := by
  intro i j h1 h2 h3 h4 hk
  rw [he i h1 (by omega), he j (by omega) h4] at hk ⊢
  exact h i j h1 h2 h3 h4 hk
theorem sorted_same {key : Nat → Int} {a b : Nat} {d d' : Array Nat} (h : SortedIn (lx key) a b d) (he : ∀ k, a ≤ k → k < b → d'[k]! = d[k]!) : SortedIn (lx key) a b d' := by
  intro i j h1 h2 h3
  rw [he i h1 (by omega), he j (by omega) h3]
  exact h i j h1 h2 h3
/-- Where the search of the merge ends: all of the one side's rest, all of the other's beginning. -/
theorem search_end {key : Nat → Int} {a m b mid start lo hi : Nat} {d : Array Nat} (ham : a < m) (hmb : m < b) (hmid : mid = (a + b) / 2)
    (hlo : lo = if mid < m then mid + m - b else a) (hhi : hi = if mid < m then mid else m) (h1 : lo ≤ start) (h2 : start ≤ hi)
    (sA : SortedIn (lx key) a m d) (sB : SortedIn (lx key) m b d) (ht : Tie key a m b d)
    (hL : start = lo ∨ ¬ key d[mid + m - 1 - (start - 1)]! < key d[start - 1]!) (hR : start = hi ∨ key d[mid + m - 1 - start]! < key d[start]!) :
    a ≤ start ∧ start ≤ m ∧ m ≤ mid + m - start ∧ mid + m - start ≤ b ∧
    (∀ i j, a ≤ i → i < start → mid + m - start ≤ j → j < b → lx key d[j]! d[i]! = false) ∧ (∀ i j, start ≤ i → i < m → m ≤ j → j < mid + m - start → lx key d[i]! d[j]! = false) := by
  have q1 : a ≤ start := by split at hlo <;> omega
  have q2 : start ≤ m := by split at hhi <;> omega
  have q3 : start ≤ mid := by split at hhi <;> omega
  have q4 : mid + m - start ≤ b := by split at hlo <;> omega
  refine ⟨q1, q2, by omega, q4, fun i j hi1 hi2 hj1 hj2 => ?_, fun i j hi1 hi2 hj1 hj2 => ?_⟩
  · have hne : start ≠ lo := by
      intro e
      split at hlo <;> omega
    have hk := hL.resolve_left hne
    have e : mid + m - 1 - (start - 1) = mid + m - start := by omega
    rw [e] at hk
    have t := ht (start - 1) (mid + m - start) (by omega) (by omega) (by omega) (by omega)
    have x1 : lx key d[mid + m - start]! d[start - 1]! = false := by rw [lx_false]; omega
    have x2 := sorted_le sA (i := i) (j := start - 1) hi1 (by omega) (by omega)
    have x3 := sorted_le sB (i := mid + m - start) (j := j) (by omega) hj1 hj2
    exact (swo_lx key).ntrans _ _ _ x3 ((swo_lx key).ntrans _ _ _ x1 x2)
  · have hne : start ≠ hi := by
      intro e
      split at hhi <;> omega
    have hk := hR.resolve_left hne
    have x1 : lx key d[start]! d[mid + m - 1 - start]! = false := by rw [lx_false]; omega
    have x2 := sorted_le sA (i := start) (j := i) q1 hi1 hi2
    have x3 := sorted_le sB (i := j) (j := mid + m - 1 - start) hj1 (by omega) (by omega)
    exact (swo_lx key).ntrans _ _ _ x2 ((swo_lx key).ntrans _ _ _ x1 x3)
/-- One element ahead of a sorted part. -/
theorem one_ahead {key : Nat → Int} {a b i : Nat} {d d1 : Array Nat} (hai : a + 1 ≤ i) (hib : i ≤ b) (sB : SortedIn (lx key) (a + 1) b d) (ht : Tie key a (a + 1) b d)
    (hL : i = a + 1 ∨ key d[i - 1]! < key d[a]!) (hR : i = b ∨ ¬ key d[i]! < key d[a]!) (hr : RotIn a (a + 1) i d d1) : SortedIn (lx key) a b d1 := by
  have h := rot_parts (key := key) (a := a) (s := a) (m := a + 1) (e := i) (b := b) (c := a + (i - (a + 1))) (Nat.le_refl _) (by omega) hai hib rfl (fun p q h1 h2 h3 => by omega) sB (fun p q h1 h2 => by omega) (fun p q h1 h2 h3 h4 => by
    obtain rfl : p = a := by omega
    have x := sorted_le sB (i := q) (j := i - 1) (by omega) (by omega) (by omega)
    have hk := hL.resolve_left (by omega)
    exact (swo_lx key).ntrans _ _ _ (show lx key d[p]! d[i - 1]! = false by rw [lx_false]; omega) x) hr
  obtain ⟨hx, _, s1, s2, s3⟩ := h
  obtain ⟨r1, r2, r3⟩ := rot_at hr (by omega) hai
  intro p q h1 h2 h3
  by_cases c1 : q < a + (i - (a + 1))
  · exact s1 p q h1 h2 c1
  · by_cases c2 : p < a + (i - (a + 1))
    · exact hx p q h1 c2 (by omega) h3
    · by_cases c3 : i ≤ p
      · exact s3 p q c3 h2 h3
      · obtain rfl : p = i - 1 := by omega
        rw [r3 q (.inr (by omega)), r2 (i - 1) (by omega) (by omega), show i - 1 - (i - (a + 1)) = a by omega]
        have hk := hR.resolve_left (by omega)
        have t := ht a i (by omega) (by omega) (by omega) (by omega)
        have x := sorted_le sB (i := i) (j := q) (by omega) (by omega) h3
        exact (swo_lx key).ntrans _ _ _ x (show lx key d[i]! d[a]! = false by rw [lx_false]; omega)
/-- One element behind a sorted part. -/
theorem one_behind {key : Nat → Int} {a m i : Nat} {d d1 : Array Nat} (hai : a ≤ i) (him : i ≤ m) (sA : SortedIn (lx key) a m d) (ht : Tie key a m (m + 1) d)
    (hL : i = a ∨ ¬ key d[m]! < key d[i - 1]!) (hR : i = m ∨ key d[m]! < key d[i]!) (hr : RotIn i m (m + 1) d d1) : SortedIn (lx key) a (m + 1) d1 := by
  have h := rot_parts (key := key) (a := a) (s := i) (m := m) (e := m + 1) (b := m + 1) (c := i + 1) hai him (by omega) (Nat.le_refl _) (by omega) sA (fun p q h1 h2 h3 => by omega) (fun p q h1 h2 h3 h4 => by omega) (fun p q h1 h2 h3 h4 => by
    obtain rfl : q = m := by omega
    have hk := hR.resolve_left (by omega)
    have x := sorted_le sA (i := i) (j := p) hai h1 h2
    exact (swo_lx key).ntrans _ _ _ x (show lx key d[i]! d[q]! = false by rw [lx_false]; omega)) hr
  obtain ⟨hx, s0, s1, s2, _⟩ := h
  obtain ⟨r1, r2, r3⟩ := rot_at hr him (by omega)
  intro p q h1 h2 h3
  by_cases c1 : p < i + 1
  · by_cases c2 : i + 1 ≤ q
    · exact hx p q h1 c1 c2 h3
    · by_cases c3 : q < i
      · exact s0 p q h1 h2 c3
      · obtain rfl : q = i := by omega
        rw [r3 p (.inl h2), r1 q (Nat.le_refl _) (by omega), show q + (m - q) = m by omega]
        have hk := hL.resolve_left (by omega)
        have t := ht (q - 1) m (by omega) (by omega) (by omega) (by omega)
        have x := sorted_le sA (i := p) (j := q - 1) h1 (by omega) (by omega)
        exact (swo_lx key).ntrans _ _ _ (show lx key d[m]! d[q - 1]! = false by rw [lx_false]; omega) x
  · exact s2 p q (by omega) h2 h3

end Go.Proofs.Ytkfiepiipigcmaa

namespace Go.Proofs.Ytkfiepiipigcmaa
open Go.RowKit Go.Sort

def encS (n x : Nat) : Value := .int .i64 ((x % n : Nat) : Int)
/-- The world with another row in block g. -/
def RowW (w0 : World) (g n : Nat) (d : Array Nat) (W : World) : Prop := d.size = n ∧ ∃ q, W = (putRow (encS n) w0 g 0 d).drewN q
theorem RowW.cell {w0 W : World} {g n : Nat} {d0 d : Array Nat} (h0 : Holds (encS n) w0 g 0 d0) (hs : d0.size = n) (h : RowW w0 g n d W) {i : Nat} (hi : i < n) : W.cell? ⟨g, i, none⟩ = some (.int .i64 ((d[i]! % n : Nat) : Int)) := by
  obtain ⟨hsz, q, rfl⟩ := h
  have := cell?_putRow (encS n) w0 g 0 d0 d h0 (by omega) i (by omega)
  rw [Nat.zero_add] at this
  exact this
theorem RowW.free {w0 W : World} {g n : Nat} {d0 d : Array Nat} (h0 : Holds (encS n) w0 g 0 d0) (hs : d0.size = n) (h : RowW w0 g n d W) {i : Nat} (hi : i < n) : W.frozen? ⟨g, i, none⟩ = false := by
  obtain ⟨hsz, q, rfl⟩ := h
  have := (h0 i (by omega)).2
  rw [Nat.zero_add] at this
  show (putRow (encS n) w0 g 0 d).frozen? _ = false
  rw [frozen?_putRow]
  exact this
theorem RowW.drew {w0 W : World} {g n : Nat} {d : Array Nat} (h : RowW w0 g n d W) : RowW w0 g n d W.drew := by
  obtain ⟨hsz, q, rfl⟩ := h
  exact ⟨hsz, q + 1, by unfold World.drewN World.drew; simp [Nat.add_assoc]⟩
theorem RowW.drewN {w0 W : World} {g n : Nat} {d : Array Nat} (h : RowW w0 g n d W) (m : Nat) : RowW w0 g n d (W.drewN m) := by
  obtain ⟨hsz, q, rfl⟩ := h
  exact ⟨hsz, q + m, by unfold World.drewN; simp [Nat.add_assoc]⟩
theorem RowW.swap {w0 W : World} {g n : Nat} {d : Array Nat} (h : RowW w0 g n d W) {i j : Nat} (hi : i < n) (hj : j < n) :
    RowW w0 g n (swp d i j) ((W.setCell ⟨g, i, none⟩ (.int .i64 ((d[j]! % n : Nat) : Int))).setCell ⟨g, j, none⟩ (.int .i64 ((d[i]! % n : Nat) : Int))) := by
  obtain ⟨hsz, q, rfl⟩ := h
  refine ⟨by rw [size_swp, hsz], q, ?_⟩
  have := putRow_swp (encS n) w0 g 0 d i j (by omega) (by omega)
  rw [Nat.zero_add, Nat.zero_add] at this
  rw [← this]
  rfl

set_option maxHeartbeats 2000000 in
theorem swapRange_any (fv : Value) (w0 : World) (g n cap : Nat) (d0 : Array Nat) (h0 : Holds (encS n) w0 g 0 d0) (hs0 : d0.size = n) (hn : n ≤ 1000) (a b cnt lo hi : Nat) (d : Array Nat) (w : World) (hd : a + cnt ≤ b ∨ b + cnt ≤ a) (hla : lo ≤ a) (hlb : lo ≤ b) (hha : a + cnt ≤ hi) (hhb : b + cnt ≤ hi) (hhn : hi ≤ n) (hw : RowW w0 g n d w) :
    Calls Try.prog 182 #[.slice (some ⟨g, 0, none⟩) n cap, .int .i64 a, .int .i64 b, .int .i64 cnt, fv] w fun e w' => e = .returned (.tuple #[]) ∧ ∃ d', SwapIn a b cnt d d' ∧ PermIn lo hi d d' ∧ RowW w0 g n d' w' := by
  have H0 := Lib.hid h0
  have HW := Lib.hid hw
  have hsz := hw.1
  clear h0 hw
  go_enter Try.func182, Try.ntmps182
  go_wp2_with fail
  go_loopw [10] (fun iv wr => ∃ (k : Nat) (d1 : Array Nat), iv = .int .i64 k ∧ k ≤ cnt ∧ Hid (SwapIn a b k d d1) ∧ Hid (PermIn lo hi d d1) ∧ Hid (RowW w0 g n d1 wr)) (fun iv _ => cnt + 1 - (intOf iv).toNat)
  case atStart => exact ⟨0, d, rfl, Nat.zero_le _, Lib.hid (swapIn_zero _ _ _), Lib.hid (permIn_refl _ _ _), HW⟩
  case round =>
    clear HW
    obtain ⟨k, d1, rfl, hk, HSW, HP, HR⟩ := hrel
    by_cases hlt : k < cnt
    · have hltI : (k : Int) < (cnt : Int) := by omega
      have hs1 := HR.out.1
      obtain ⟨i, hi'⟩ : ∃ i, i = a + k := ⟨_, rfl⟩
      obtain ⟨j, hj'⟩ : ∃ j, j = b + k := ⟨_, rfl⟩
      have hin : i < n := by omega
      have hjn : j < n := by omega
      have hw1 : IntKind.i64.wrap ((a : Int) + (k : Int)) = (i : Int) := by rw [show ((a : Int) + (k : Int)) = (i : Int) by omega]; exact IntWalk.i64_in _ (by omega)
      have hw2 : IntKind.i64.wrap ((b : Int) + (k : Int)) = (j : Int) := by rw [show ((b : Int) + (k : Int)) = (j : Int) by omega]; exact IntWalk.i64_in _ (by omega)
      have g1 : (i : Int) < (n : Int) := by omega
      have g2 : (j : Int) < (n : Int) := by omega
      have c1 := HR.out.cell H0.out hs0 hin
      have c2 := HR.out.cell H0.out hs0 hjn
      have f1 := HR.out.free H0.out hs0 hin
      have f2 := HR.out.free H0.out hs0 hjn
      have HS := Lib.hid (HR.out.drew.swap hin hjn)
      have HSN := Lib.hid (show SwapIn a b (k + 1) d (swp d1 i j) by rw [hi', hj']; exact swapIn_succ HSW.out (by omega) (by omega) (by omega))
      have HPN := Lib.hid (permIn_trans _ _ _ lo hi HP.out (swp_permIn d1 lo hi i j (by omega) (by omega) (by omega) (by omega) (by omega)))
      obtain ⟨x, hx⟩ : ∃ x : Int, x = ((d1[i]! % n : Nat) : Int) := ⟨_, rfl⟩
      obtain ⟨y, hy⟩ : ∃ y : Int, y = ((d1[j]! % n : Nat) : Int) := ⟨_, rfl⟩
      rw [← hx] at c1 HS
      rw [← hy] at c2 HS
      have c3 : (wr.setCell ⟨g, i, none⟩ (.int .i64 y)).cell? ⟨g, j, none⟩ = some (.int .i64 y) := by
        rw [World.cell?_setCell_other _ _ _ _ (by intro e; injection e with _ e _; omega)]
        exact c2
      clear hx hy hi' hj'
      go_wp2_with fail
      go_region
      all_goals
        go_wp2_with fail
        go_roundw
        case rel => exact ⟨k + 1, swp d1 i j, by go_num, by omega, HSN, HPN, HS⟩
        case measure => simp [intOf]; omega
    · obtain rfl : k = cnt := by omega
      go_wp2_with fail
      go_end0
      exact ⟨rfl, d1, HSW.out, HP.out, HR.out⟩

set_option maxHeartbeats 2000000 in
theorem rotate_any (fv : Value) (w0 : World) (g n cap : Nat) (d0 : Array Nat) (h0 : Holds (encS n) w0 g 0 d0) (hs0 : d0.size = n) (hn : n ≤ 1000) (a m b : Nat) (d : Array Nat) (w : World) (ham : a < m) (hmb : m < b) (hbn : b ≤ n) (hw : RowW w0 g n d w) :
    Calls Try.prog 175 #[.slice (some ⟨g, 0, none⟩) n cap, .int .i64 a, .int .i64 m, .int .i64 b, fv] w fun e w' => e = .returned (.tuple #[]) ∧ ∃ d', RotIn a m b d d' ∧ PermIn a b d d' ∧ RowW w0 g n d' w' := by
  have HSWP := Lib.hid (fun a' b' cnt d1 W => swapRange_any fv w0 g n cap d0 h0 hs0 hn a' b' cnt a b d1 W)
  have HW := Lib.hid hw
  clear h0 hw
  obtain ⟨i0, hi0⟩ : ∃ i0, i0 = m - a := ⟨_, rfl⟩
  obtain ⟨j0, hj0⟩ : ∃ j0, j0 = b - m := ⟨_, rfl⟩
  have hw1 : IntKind.i64.wrap ((m : Int) - (a : Int)) = (i0 : Int) := by rw [show ((m : Int) - (a : Int)) = (i0 : Int) by omega]; exact IntWalk.i64_in _ (by omega)
  have hw2 : IntKind.i64.wrap ((b : Int) - (m : Int)) = (j0 : Int) := by rw [show ((b : Int) - (m : Int)) = (j0 : Int) by omega]; exact IntWalk.i64_in _ (by omega)
  have HI0 := Lib.hid hi0
  have HJ0 := Lib.hid hj0
  clear hi0 hj0
  go_enter Try.func175, Try.ntmps175
  go_wp2_with fail
  go_loopw [10, 11] (fun iv jv wr => ∃ (i j : Nat) (d1 : Array Nat), iv = .int .i64 i ∧ jv = .int .i64 j ∧ Hid (1 ≤ i ∧ 1 ≤ j ∧ a + i ≤ m ∧ m + j ≤ b) ∧ Hid (∀ d2, RotIn (m - i) m (m + j) d1 d2 → RotIn a m b d d2) ∧ Hid (PermIn a b d d1) ∧ Hid (RowW w0 g n d1 wr)) (fun iv jv _ => (intOf iv).toNat + (intOf jv).toNat)
  case atStart => exact ⟨i0, j0, d, rfl, rfl, Lib.hid (by have := HI0.out; have := HJ0.out; omega), Lib.hid (fun d2 h => by rw [HI0.out, HJ0.out, show m - (m - a) = a by omega, show m + (b - m) = b by omega] at h; exact h), Lib.hid (permIn_refl _ _ _), HW⟩
  case round =>
    clear HW HI0 HJ0 hw1 hw2
    obtain ⟨i, j, d1, rfl, rfl, HB, HROT, HP, HR⟩ := hrel
    have hbd := HB.out
    obtain ⟨mi, hmi⟩ : ∃ mi, mi = m - i := ⟨_, rfl⟩
    have hw3 : IntKind.i64.wrap ((m : Int) - (i : Int)) = (mi : Int) := by rw [show ((m : Int) - (i : Int)) = (mi : Int) by omega]; exact IntWalk.i64_in _ (by omega)
    have HMI := Lib.hid hmi
    rcases (show i = j ∨ j < i ∨ i < j by omega) with he | hlt | hlt
    · subst he
      have e1 : ((i : Int) != (i : Int)) = false := by simp
      have HC := Lib.hid (HSWP.out mi m i d1 wr (by omega) (by omega) (by omega) (by omega) (by omega) (by omega) HR.out)
      clear hmi hbd
      go_wp2_with (go_at_call 182; refine HC.out.mono ?_; rintro e w1 ⟨rfl, d2, hsw, hp2, hr2⟩)
      go_end0
      refine ⟨rfl, d2, HROT.out d2 (rot_last (by have := HB.out; omega) ?_), permIn_trans _ _ _ a b HP.out hp2, hr2⟩
      rw [← HMI.out]
      exact hsw
    · have e1 : ((i : Int) != (j : Int)) = true := by simp; omega
      have e2 : decide ((j : Int) < (i : Int)) = true := decide_eq_true (by omega)
      have HC := Lib.hid (HSWP.out mi m j d1 wr (by omega) (by omega) (by omega) (by omega) (by omega) (by omega) HR.out)
      obtain ⟨i', hi'⟩ : ∃ i', i' = i - j := ⟨_, rfl⟩
      have hw4 : IntKind.i64.wrap ((i : Int) - (j : Int)) = (i' : Int) := by rw [show ((i : Int) - (j : Int)) = (i' : Int) by omega]; exact IntWalk.i64_in _ (by omega)
      have HI' := Lib.hid hi'
      clear hmi hbd hi'
      go_wp2_with (go_at_call 182; refine HC.out.mono ?_; rintro e w1 ⟨rfl, d2, hsw, hp2, hr2⟩)
      go_roundw
      case rel => exact ⟨i', j, d2, by go_num, by go_num, Lib.hid (by have := HB.out; have := HI'.out; omega), Lib.hid (fun d3 h3 => HROT.out d3 (rot_more (by have := HB.out; omega) hlt (by rw [← HMI.out]; exact hsw) (by rw [← HI'.out]; exact h3))), Lib.hid (permIn_trans _ _ _ a b HP.out hp2), Lib.hid hr2⟩
      case measure => have := HI'.out; have := HB.out; simp [intOf]; omega
    · have e1 : ((i : Int) != (j : Int)) = true := by simp; omega
      have e2 : decide ((j : Int) < (i : Int)) = false := decide_eq_false (by omega)
      obtain ⟨s, hs⟩ : ∃ s, s = m + j := ⟨_, rfl⟩
      obtain ⟨r, hr⟩ : ∃ r, r = s - i := ⟨_, rfl⟩
      have hw5 : IntKind.i64.wrap ((m : Int) + (j : Int)) = (s : Int) := by rw [show ((m : Int) + (j : Int)) = (s : Int) by omega]; exact IntWalk.i64_in _ (by omega)
      have hw6 : IntKind.i64.wrap ((s : Int) - (i : Int)) = (r : Int) := by rw [show ((s : Int) - (i : Int)) = (r : Int) by omega]; exact IntWalk.i64_in _ (by omega)
      have HC := Lib.hid (HSWP.out mi r i d1 wr (by omega) (by omega) (by omega) (by omega) (by omega) (by omega) HR.out)
      obtain ⟨j', hj'⟩ : ∃ j', j' = j - i := ⟨_, rfl⟩
      have hw4 : IntKind.i64.wrap ((j : Int) - (i : Int)) = (j' : Int) := by rw [show ((j : Int) - (i : Int)) = (j' : Int) by omega]; exact IntWalk.i64_in _ (by omega)
      have HJ' := Lib.hid hj'
      have HRR := Lib.hid (show r = m + j - i by omega)
      clear hmi hbd hj' hs hr
      go_wp2_with (go_at_call 182; refine HC.out.mono ?_; rintro e w1 ⟨rfl, d2, hsw, hp2, hr2⟩)
      go_roundw
      case rel => exact ⟨i, j', d2, by go_num, by go_num, Lib.hid (by have := HB.out; have := HJ'.out; omega), Lib.hid (fun d3 h3 => HROT.out d3 (rot_less (by have := HB.out; omega) hlt (by rw [← HMI.out, ← HRR.out]; exact hsw) (by rw [← HJ'.out]; exact h3))), Lib.hid (permIn_trans _ _ _ a b HP.out hp2), Lib.hid hr2⟩
      case measure => have := HJ'.out; have := HB.out; simp [intOf]; omega

end Go.Proofs.Ytkfiepiipigcmaa
