/-
  FnSpans: texts joined: SymM, SymI, SymW.
-/
import Derived.Sort.Lot0
import Derived.Lib.OwnBridge
import Derived.BigQuiet
import Derived.BigRegion
import Derived.Sort.Row
import Derived.Shelf.Abstract
import Derived.Test.YtkfiepiipigcmaaMFnSpansAA
import Derived.Test.YtkfiepiipigcmaaMFnSpansAD
namespace Go.Proofs.Ytkfiepiipigcmaa
open Go.RowKit Go.Sort

/-- Keys first, then the indices themselves. -/
def lx (key : Nat → Int) (x y : Nat) : Bool := decide (key x < key y ∨ (key x = key y ∧ x < y))
theorem lx_false {key : Nat → Int} {x y : Nat} : lx key x y = false ↔ key y < key x ∨ (key y = key x ∧ y ≤ x) := by
  unfold lx
  rw [decide_eq_false_iff_not]
  omega
theorem lx_true {key : Nat → Int} {x y : Nat} : lx key x y = true ↔ key x < key y ∨ (key x = key y ∧ x < y) := by
  unfold lx
  rw [decide_eq_true_iff]
theorem swo_lx (key : Nat → Int) : SWO (lx key) where
  irrefl x := by rw [lx_false]; omega
  trans x y z h1 h2 := by rw [lx_true] at *; omega
  ntrans x y z h1 h2 := by rw [lx_false] at *; omega
theorem lx_eq {key : Nat → Int} {x y : Nat} (h1 : lx key x y = false) (h2 : lx key y x = false) : x = y := by
  rw [lx_false] at h1 h2
  omega

/-! ### Insertion of a block whose indices ascend -/
theorem insInner_eq (l1 l2 : Nat → Nat → Bool) (a : Nat) : ∀ (j : Nat) (d : Array Nat), j < d.size → (∀ k, a ≤ k → k < j → l1 d[j]! d[k]! = l2 d[j]! d[k]!) → insInner l1 a j d = insInner l2 a j d
  | 0, d, _, _ => rfl
  | j + 1, d, hj, h => by
    unfold insInner
    by_cases ha : j + 1 > a
    · have h1 := h j (by omega) (by omega)
      rw [h1]
      by_cases hl : (decide (j + 1 > a) && l2 d[j + 1]! d[j]!) = true
      · rw [if_pos hl, if_pos hl]
        refine insInner_eq l1 l2 a j _ (by rw [size_swp]; omega) fun k hk1 hk2 => ?_
        rw [swp_right d (j + 1) j (by omega), swp_other d (j + 1) j k (by omega) (by omega)]
        exact h k hk1 (by omega)
      · rw [if_neg hl, if_neg hl]
    · have e : decide (j + 1 > a) = false := decide_eq_false ha
      rw [e, Bool.false_and, Bool.false_and, if_neg (by decide), if_neg (by decide)]
theorem insInner_perm (lt : Nat → Nat → Bool) (a b i : Nat) (hib : i < b) : ∀ (j : Nat) (d : Array Nat), a ≤ j → j ≤ i → b ≤ d.size → PermIn a (i + 1) d (insInner lt a j d)
  | 0, d, _, _, _ => permIn_refl d a (i + 1)
  | j + 1, d, haj, hji, hb => by
    unfold insInner
    split
    · rename_i hc
      simp only [Bool.and_eq_true, decide_eq_true_eq] at hc
      exact permIn_trans _ _ _ a (i + 1) (swp_permIn d a (i + 1) (j + 1) j (by omega) (by omega) (by omega) (by omega) (by omega)) (insInner_perm lt a b i hib j _ (by omega) (by omega) (by rw [size_swp]; exact hb))
    · exact permIn_refl d a (i + 1)
theorem insOuter_eq (key : Nat → Int) (a b : Nat) : ∀ (n i : Nat) (d : Array Nat), b - i ≤ n → a ≤ i → b ≤ d.size → (∀ k l, a ≤ k → k < l → l < b → i ≤ l → d[k]! < d[l]!) → insOuter (ltK key) a b i d = insOuter (lx key) a b i d
  | 0, i, d, hn, _, _, _ => by rw [insOuter_stop _ _ _ _ _ (by omega), insOuter_stop _ _ _ _ _ (by omega)]
  | n + 1, i, d, hn, hai, hb, H => by
    by_cases hlt : i < b
    · rw [insOuter_go _ _ _ _ _ hlt, insOuter_go _ _ _ _ _ hlt]
      have e : insInner (ltK key) a i d = insInner (lx key) a i d := insInner_eq _ _ a i d (by omega) fun k h1 h2 => by
        have := H k i h1 h2 hlt (Nat.le_refl _)
        unfold ltK lx
        congr 1
        refine propext ⟨fun h => .inl h, fun h => ?_⟩
        omega
      rw [e]
      have hp := insInner_perm (lx key) a b i hlt i d hai (Nat.le_refl _) hb
      refine insOuter_eq key a b n (i + 1) _ (by omega) (by omega) (by rw [hp.1]; exact hb) fun k l h1 h2 h3 h4 => ?_
      have el : (insInner (lx key) a i d)[l]! = d[l]! := hp.2.1 l (.inr h4)
      rw [el]
      by_cases hk : k < i + 1
      · exact permIn_all d _ a (i + 1) (fun x => x < d[l]!) (by omega) hp (fun q hq1 hq2 => H q l hq1 (by omega) h3 (by omega)) k h1 hk
      · rw [hp.2.1 k (.inr (by omega))]
        exact H k l h1 h2 h3 (by omega)
    · rw [insOuter_stop _ _ _ _ _ hlt, insOuter_stop _ _ _ _ _ hlt]
/-- A block whose indices ascend, sorted by keys, is sorted by keys and indices. -/
theorem insertion_lx (key : Nat → Int) (d : Array Nat) (a b : Nat) (hab : a ≤ b) (hb : b ≤ d.size) (H : ∀ k l, a ≤ k → k < l → l < b → d[k]! < d[l]!) :
    PermIn a b d (insertionSort (ltK key) d a b) ∧ SortedIn (lx key) a b (insertionSort (ltK key) d a b) := by
  have e : insertionSort (ltK key) d a b = insertionSort (lx key) d a b := insOuter_eq key a b (b - (a + 1)) (a + 1) d (Nat.le_refl _) (by omega) hb fun k l h1 h2 h3 _ => H k l h1 h2 h3
  rw [e]
  exact insertionSort_holds (swo_lx key) d a b hab hb
/-- Whatever is sorted by keys and indices, and holds the indices below n, is the list of the reference. -/
theorem ord_unique (key : Nat → Int) (n : Nat) (d : Array Nat) (hp : PermIn 0 n (Array.range n) d) (hs : SortedIn (lx key) 0 n d) : d = ordA key n := by
  have hsz : (Array.range n).size = n := Array.size_range
  have h1 := insertion_lx key (Array.range n) 0 n (Nat.zero_le _) (by rw [hsz]; exact Nat.le_refl _) fun k l _ h2 h3 => by
    rw [getElem!_pos (Array.range n) k (by rw [hsz]; omega), getElem!_pos (Array.range n) l (by rw [hsz]; omega)]
    simpa using h2
  have u : ∀ d' : Array Nat, PermIn 0 n (Array.range n) d' → SortedIn (lx key) 0 n d' → d'.toList = (Array.range n).toList.mergeSort (fun x y => !lx key y x) := fun d' hp' hs' =>
    sorted_unique_holds (swo_lx key) (fun x y h1 h2 => lx_eq h1 h2) (Array.range n) d' (by rw [hsz]; exact hp') (by rw [hsz]; exact hs')
  apply Array.ext'
  rw [u d hp hs]
  exact (u (ordA key n) h1.1 h1.2).symm

/-! ### Ranges that change places -/
def SwapIn (a b n : Nat) (d d' : Array Nat) : Prop := d'.size = d.size ∧ ∀ k, d'[k]! = if a ≤ k ∧ k < a + n then d[k - a + b]! else if b ≤ k ∧ k < b + n then d[k - b + a]! else d[k]!
def RotIn (a m b : Nat) (d d' : Array Nat) : Prop := d'.size = d.size ∧ ∀ k, d'[k]! = if a ≤ k ∧ k < b then (if k < a + (b - m) then d[m + (k - a)]! else d[k - (b - m)]!) else d[k]!
theorem swapIn_zero (a b : Nat) (d : Array Nat) : SwapIn a b 0 d d := by
  refine ⟨rfl, fun k => ?_⟩
  rw [if_neg (by omega), if_neg (by omega)]
theorem swapIn_succ {a b n : Nat} {d d' : Array Nat} (h : SwapIn a b n d d') (hd : a + n + 1 ≤ b ∨ b + n + 1 ≤ a) (ha : a + n < d.size) (hb : b + n < d.size) : SwapIn a b (n + 1) d (swp d' (a + n) (b + n)) := by
  refine ⟨by rw [size_swp, h.1], fun k => ?_⟩
  by_cases h1 : k = a + n
  · subst h1
    rw [swp_left d' _ _ (by rw [h.1]; omega) (by omega), h.2 (b + n), if_neg (by omega), if_neg (by omega), if_pos (by omega)]
    congr 1
    omega
  · by_cases h2 : k = b + n
    · subst h2
      rw [swp_right d' _ _ (by rw [h.1]; omega), h.2 (a + n), if_neg (by omega), if_neg (by omega), if_neg (by omega), if_pos (by omega)]
      congr 1
      omega
    · rw [swp_other d' _ _ k h1 h2, h.2 k]
      by_cases c1 : a ≤ k ∧ k < a + n
      · rw [if_pos c1, if_pos (by omega)]
      · by_cases c2 : b ≤ k ∧ k < b + n
        · rw [if_neg c1, if_pos c2, if_neg (by omega), if_pos (by omega)]
        · rw [if_neg c1, if_neg c2, if_neg (by omega), if_neg (by omega)]
theorem rot_more {m i j : Nat} {d d1 d2 : Array Nat} (hi : i ≤ m) (hij : j < i) (h1 : SwapIn (m - i) m j d d1) (h2 : RotIn (m - (i - j)) m (m + j) d1 d2) : RotIn (m - i) m (m + j) d d2 := by
  refine ⟨h2.1.trans h1.1, fun k => ?_⟩
  rw [h2.2 k]
  by_cases c1 : m - i ≤ k ∧ k < m + j
  · rw [if_pos c1]
    by_cases c2 : k < m - i + (m + j - m)
    · rw [if_pos c2, if_neg (by omega), h1.2 k, if_pos (by omega)]
      congr 1
      omega
    · rw [if_neg c2, if_pos (by omega)]
      by_cases c3 : k < m - (i - j) + (m + j - m)
      · rw [if_pos c3, h1.2 _, if_neg (by omega), if_pos (by omega)]
        congr 1
        omega
      · rw [if_neg c3, h1.2 _, if_neg (by omega), if_neg (by omega)]
  · rw [if_neg c1, if_neg (by omega), h1.2 k, if_neg (by omega), if_neg (by omega)]
theorem rot_less {m i j : Nat} {d d1 d2 : Array Nat} (hi : i ≤ m) (hij : i < j) (h1 : SwapIn (m - i) (m + j - i) i d d1) (h2 : RotIn (m - i) m (m + (j - i)) d1 d2) : RotIn (m - i) m (m + j) d d2 := by
  refine ⟨h2.1.trans h1.1, fun k => ?_⟩
  rw [h2.2 k]
  by_cases c1 : m - i ≤ k ∧ k < m + j
  · rw [if_pos c1]
    by_cases c2 : k < m - i + (m + j - m)
    · rw [if_pos c2, if_pos (by omega)]
      by_cases c3 : k < m - i + (m + (j - i) - m)
      · rw [if_pos c3, h1.2 _, if_neg (by omega), if_neg (by omega)]
      · rw [if_neg c3, h1.2 _, if_pos (by omega)]
        congr 1
        omega
    · rw [if_neg c2]
      by_cases c4 : m - i ≤ k ∧ k < m + (j - i)
      · omega
      · rw [if_neg c4, h1.2 k, if_neg (by omega), if_pos (by omega)]
        congr 1
        omega
  · rw [if_neg c1, if_neg (by omega), h1.2 k, if_neg (by omega), if_neg (by omega)]
theorem rot_last {m i : Nat} {d d1 : Array Nat} (hi : i ≤ m) (h1 : SwapIn (m - i) m i d d1) : RotIn (m - i) m (m + i) d d1 := by
  refine ⟨h1.1, fun k => ?_⟩
  rw [h1.2 k]
  by_cases c1 : m - i ≤ k ∧ k < m + i
  · rw [if_pos c1]
    by_cases c2 : k < m - i + (m + i - m)
    · rw [if_pos (by omega), if_pos c2]
      congr 1
      omega
    · rw [if_neg (by omega), if_pos (by omega), if_neg c2]
      congr 1
      omega
  · rw [if_neg (by omega), if_neg (by omega), if_neg c1]
theorem rot_none {a m b : Nat} {d : Array Nat} (h : a = m ∨ m = b) (hab : a ≤ m) (hmb : m ≤ b) : RotIn a m b d d := by
  refine ⟨rfl, fun k => ?_⟩
  by_cases c1 : a ≤ k ∧ k < b
  · rw [if_pos c1]
    by_cases c2 : k < a + (b - m)
    · rw [if_pos c2]; congr 1; omega
    · rw [if_neg c2]; congr 1; omega
  · rw [if_neg c1]

/-! ### The merge -/
/-- Equal keys: what stands ahead has the lesser index. -/
def Tie (key : Nat → Int) (a m b : Nat) (d : Array Nat) : Prop := ∀ i j, a ≤ i → i < m → m ≤ j → j < b → key d[i]! = key d[j]! → d[i]! < d[j]!
/-- All of the first part are at most all of the second. -/
def Cross (key : Nat → Int) (a c b : Nat) (d : Array Nat) : Prop := ∀ i j, a ≤ i → i < c → c ≤ j → j < b → lx key d[j]! d[i]! = false
theorem sorted_le {key : Nat → Int} {a b : Nat} {d : Array Nat} (h : SortedIn (lx key) a b d) {i j : Nat} (h1 : a ≤ i) (h2 : i ≤ j) (h3 : j < b) : lx key d[j]! d[i]! = false := by
  by_cases e : i = j
  · subst e
    exact (swo_lx key).irrefl _
  · exact h i j h1 (by omega) h3
theorem cross_join {key : Nat → Int} {a c b : Nat} {d d2 d3 : Array Nat} (hac : a ≤ c) (hcb : c ≤ b) (hb : b ≤ d.size) (hx : Cross key a c b d) (p2 : PermIn a c d d2) (s2 : SortedIn (lx key) a c d2) (p3 : PermIn c b d2 d3) (s3 : SortedIn (lx key) c b d3) : PermIn a b d d3 ∧ SortedIn (lx key) a b d3 := by
  have hb2 : b ≤ d2.size := by rw [p2.1]; exact hb
  have q2 : PermIn a b d d2 := permIn_mono d d2 a c a b (Nat.le_refl _) hcb hb p2
  have q3 : PermIn a b d2 d3 := permIn_mono d2 d3 c b a b hac (Nat.le_refl _) hb2 p3
  refine ⟨permIn_trans _ _ _ a b q2 q3, fun i j h1 h2 h3 => ?_⟩
  by_cases c1 : j < c
  · rw [p3.2.1 i (.inl (by omega)), p3.2.1 j (.inl c1)]
    exact s2 i j h1 h2 c1
  · by_cases c2 : i < c
    · rw [p3.2.1 i (.inl c2)]
      have hall : ∀ jj, c ≤ jj → jj < b → lx key d3[jj]! d2[i]! = false := permIn_all d2 d3 c b (fun x => lx key x d2[i]! = false) hb2 p3 fun k hk1 hk2 => by
        rw [p2.2.1 k (.inr hk1)]
        exact permIn_all d d2 a c (fun y => lx key d[k]! y = false) (by omega) p2 (fun l hl1 hl2 => hx l k hl1 hl2 hk1 hk2) i h1 c2
      exact hall j (by omega) h3
    · exact s3 i j (by omega) h2 h3
/-- What stands where behind a rotation. -/
theorem rot_at {s m e : Nat} {d d1 : Array Nat} (h : RotIn s m e d d1) (hsm : s ≤ m) (hme : m ≤ e) :
    (∀ k, s ≤ k → k < s + (e - m) → d1[k]! = d[k + (m - s)]!) ∧ (∀ k, s + (e - m) ≤ k → k < e → d1[k]! = d[k - (e - m)]!) ∧ (∀ k, k < s ∨ e ≤ k → d1[k]! = d[k]!) := by
  refine ⟨fun k h1 h2 => ?_, fun k h1 h2 => ?_, fun k hk => ?_⟩
  · rw [h.2 k, if_pos (by omega), if_pos h2]
    congr 1
    omega
  · rw [h.2 k, if_pos (by omega), if_neg (by omega)]
  · rw [h.2 k, if_neg (by omega)]
/-- A rotation that brings all lesser ones ahead. -/
theorem rot_parts {key : Nat → Int} {a s m e b c : Nat} {d d1 : Array Nat} (has : a ≤ s) (hsm : s ≤ m) (hme : m ≤ e) (heb : e ≤ b) (hc : c = s + (e - m))
    (sA : SortedIn (lx key) a m d) (sB : SortedIn (lx key) m b d) (h1 : ∀ i j, a ≤ i → i < s → e ≤ j → j < b → lx key d[j]! d[i]! = false) (h2 : ∀ i j, s ≤ i → i < m → m ≤ j → j < e → lx key d[i]! d[j]! = false) (hr : RotIn s m e d d1) :
    Cross key a c b d1 ∧ SortedIn (lx key) a s d1 ∧ SortedIn (lx key) s c d1 ∧ SortedIn (lx key) c e d1 ∧ SortedIn (lx key) e b d1 := by
  obtain ⟨r1, r2, r3⟩ := rot_at hr hsm hme
  subst hc
  refine ⟨fun i j hi1 hi2 hj1 hj2 => ?_, fun i j hi1 hi2 hi3 => ?_, fun i j hi1 hi2 hi3 => ?_, fun i j hi1 hi2 hi3 => ?_, fun i j hi1 hi2 hi3 => ?_⟩
  · by_cases c1 : i < s
    · rw [r3 i (.inl c1)]
      by_cases c2 : j < e
      · rw [r2 j hj1 c2]
        exact sorted_le sA hi1 (by omega) (by omega)
      · rw [r3 j (.inr (by omega))]
        exact h1 i j hi1 c1 (by omega) hj2
    · rw [r1 i (by omega) hi2]
      by_cases c2 : j < e
      · rw [r2 j hj1 c2]
        exact h2 _ _ (by omega) (by omega) (by omega) (by omega)
      · rw [r3 j (.inr (by omega))]
        exact sorted_le sB (by omega) (by omega) hj2
  · rw [r3 i (.inl (by omega)), r3 j (.inl (by omega))]
    exact sA i j hi1 hi2 (by omega)
  · rw [r1 i hi1 (by omega), r1 j (by omega) hi3]
    exact sB _ _ (by omega) (by omega) (by omega)
  · rw [r2 i hi1 (by omega), r2 j (by omega) hi3]
    exact sA _ _ (by omega) (by omega) (by omega)
  · rw [r3 i (.inr (by omega)), r3 j (.inr (by omega))]
    exact sB i j (by omega) hi2 hi3
theorem rot_ties {key : Nat → Int} {a s m e b c : Nat} {d d1 : Array Nat} (has : a ≤ s) (hsm : s ≤ m) (hme : m ≤ e) (heb : e ≤ b) (hc : c = s + (e - m)) (ht : Tie key a m b d) (hr : RotIn s m e d d1) : Tie key a s c d1 ∧ Tie key c e b d1 := by
  obtain ⟨r1, r2, r3⟩ := rot_at hr hsm hme
  subst hc
  refine ⟨fun i j h1 h2 h3 h4 hk => ?_, fun i j h1 h2 h3 h4 hk => ?_⟩
  · rw [r3 i (.inl h2), r1 j h3 h4] at hk ⊢
    exact ht _ _ h1 (by omega) (by omega) (by omega) hk
  · rw [r2 i h1 h2, r3 j (.inr h3)] at hk ⊢
    exact ht _ _ (by omega) (by omega) (by omega) h4 hk
theorem tie_perm {key : Nat → Int} {a m b : Nat} {d d' : Array Nat} (hb : b ≤ d.size) (h : Tie key a m b d) (he : ∀ k, a ≤ k → k < b → d'[k]! = d[k]!) : Tie key a m b d' := by
  intro i j h1 h2 h3 h4 hk
  rw [he i h1 (by omega), he j (by omega) h4] at hk ⊢
  exact h i j h1 h2 h3 h4 hk
theorem sorted_same {key : Nat → Int} {a b : Nat} {d d' : Array Nat} (h : SortedIn (lx key) a b d) (he : ∀ k, a ≤ k → k < b → d'[k]! = d[k]!) : SortedIn (lx key) a b d' := by
  intro i j h1 h2 h3
  rw [he i h1 (by omega), he j (by omega) h3]
  exact h i j h1 h2 h3
/-- Where the search of the merge ends: all of the one side's rest, all of the other's beginning. -/
theorem search_end {key : Nat → Int} {a m b mid start lo hi : Nat} {d : Array Nat} (ham : a < m) (hmb : m < b) (hmid : mid = (a + b) / 2)
    (hlo : lo = if mid < m then mid + m - b else a) (hhi : hi = if mid < m then mid else m) (h1 : lo ≤ start) (h2 : start ≤ hi)
    (sA : SortedIn (lx key) a m d) (sB : SortedIn (lx key) m b d) (ht : Tie key a m b d)
    (hL : start = lo ∨ ¬ key d[mid + m - 1 - (start - 1)]! < key d[start - 1]!) (hR : start = hi ∨ key d[mid + m - 1 - start]! < key d[start]!) :
    a ≤ start ∧ start ≤ m ∧ m ≤ mid + m - start ∧ mid + m - start ≤ b ∧
    (∀ i j, a ≤ i → i < start → mid + m - start ≤ j → j < b → lx key d[j]! d[i]! = false) ∧ (∀ i j, start ≤ i → i < m → m ≤ j → j < mid + m - start → lx key d[i]! d[j]! = false) := by
  have q1 : a ≤ start := by split at hlo <;> omega
  have q2 : start ≤ m := by split at hhi <;> omega
  have q3 : start ≤ mid := by split at hhi <;> omega
  have q4 : mid + m - start ≤ b := by split at hlo <;> omega
  refine ⟨q1, q2, by omega, q4, fun i j hi1 hi2 hj1 hj2 => ?_, fun i j hi1 hi2 hj1 hj2 => ?_⟩
  · have hne : start ≠ lo := by
      intro e
      split at hlo <;> omega
    have hk := hL.resolve_left hne
    have e : mid + m - 1 - (start - 1) = mid + m - start := by omega
    rw [e] at hk
    have t := ht (start - 1) (mid + m - start) (by omega) (by omega) (by omega) (by omega)
    have x1 : lx key d[mid + m - start]! d[start - 1]! = false := by rw [lx_false]; omega
    have x2 := sorted_le sA (i := i) (j := start - 1) hi1 (by omega) (by omega)
    have x3 := sorted_le sB (i := mid + m - start) (j := j) (by omega) hj1 hj2
    exact (swo_lx key).ntrans _ _ _ x3 ((swo_lx key).ntrans _ _ _ x1 x2)
  · have hne : start ≠ hi := by
      intro e
      split at hhi <;> omega
    have hk := hR.resolve_left hne
    have x1 : lx key d[start]! d[mid + m - 1 - start]! = false := by rw [lx_false]; omega
    have x2 := sorted_le sA (i := start) (j := i) q1 hi1 hi2
    have x3 := sorted_le sB (i := j) (j := mid + m - 1 - start) hj1 (by omega) (by omega)
    exact (swo_lx key).ntrans _ _ _ x2 ((swo_lx key).ntrans _ _ _ x1 x3)
/-- One element ahead of a sorted part. -/
theorem one_ahead {key : Nat → Int} {a b i : Nat} {d d1 : Array Nat} (hai : a + 1 ≤ i) (hib : i ≤ b) (sB : SortedIn (lx key) (a + 1) b d) (ht : Tie key a (a + 1) b d)
    (hL : i = a + 1 ∨ key d[i - 1]! < key d[a]!) (hR : i = b ∨ ¬ key d[i]! < key d[a]!) (hr : RotIn a (a + 1) i d d1) : SortedIn (lx key) a b d1 := by
  have h := rot_parts (key := key) (a := a) (s := a) (m := a + 1) (e := i) (b := b) (c := a + (i - (a + 1))) (Nat.le_refl _) (by omega) hai hib rfl (fun p q h1 h2 h3 => by omega) sB (fun p q h1 h2 => by omega) (fun p q h1 h2 h3 h4 => by
    obtain rfl : p = a := by omega
    have x := sorted_le sB (i := q) (j := i - 1) (by omega) (by omega) (by omega)
    have hk := hL.resolve_left (by omega)
    exact (swo_lx key).ntrans _ _ _ (show lx key d[p]! d[i - 1]! = false by rw [lx_false]; omega) x) hr
  obtain ⟨hx, _, s1, s2, s3⟩ := h
  obtain ⟨r1, r2, r3⟩ := rot_at hr (by omega) hai
  intro p q h1 h2 h3
  by_cases c1 : q < a + (i - (a + 1))
  · exact s1 p q h1 h2 c1
  · by_cases c2 : p < a + (i - (a + 1))
    · exact hx p q h1 c2 (by omega) h3
    · by_cases c3 : i ≤ p
      · exact s3 p q c3 h2 h3
      · obtain rfl : p = i - 1 := by omega
        rw [r3 q (.inr (by omega)), r2 (i - 1) (by omega) (by omega), show i - 1 - (i - (a + 1)) = a by omega]
        have hk := hR.resolve_left (by omega)
        have t := ht a i (by omega) (by omega) (by omega) (by omega)
        have x := sorted_le sB (i := i) (j := q) (by omega) (by omega) h3
        exact (swo_lx key).ntrans _ _ _ x (show lx key d[i]! d[a]! = false by rw [lx_false]; omega)
/-- One element behind a sorted part. -/
theorem one_behind {key : Nat → Int} {a m i : Nat} {d d1 : Array Nat} (hai : a ≤ i) (him : i ≤ m) (sA : SortedIn (lx key) a m d) (ht : Tie key a m (m + 1) d)
    (hL : i = a ∨ ¬ key d[m]! < key d[i - 1]!) (hR : i = m ∨ key d[m]! < key d[i]!) (hr : RotIn i m (m + 1) d d1) : SortedIn (lx key) a (m + 1) d1 := by
  have h := rot_parts (key := key) (a := a) (s := i) (m := m) (e := m + 1) (b := m + 1) (c := i + 1) hai him (by omega) (Nat.le_refl _) (by omega) sA (fun p q h1 h2 h3 => by omega) (fun p q h1 h2 h3 h4 => by omega) (fun p q h1 h2 h3 h4 => by
    obtain rfl : q = m := by omega
    have hk := hR.resolve_left (by omega)
    have x := sorted_le sA (i := i) (j := p) hai h1 h2
    exact (swo_lx key).ntrans _ _ _ x (show lx key d[i]! d[q]! = false by rw [lx_false]; omega)) hr
  obtain ⟨hx, s0, s1, s2, _⟩ := h
  obtain ⟨r1, r2, r3⟩ := rot_at hr him (by omega)
  intro p q h1 h2 h3
  by_cases c1 : p < i + 1
  · by_cases c2 : i + 1 ≤ q
    · exact hx p q h1 c1 c2 h3
    · by_cases c3 : q < i
      · exact s0 p q h1 h2 c3
      · obtain rfl : q = i := by omega
        rw [r3 p (.inl h2), r1 q (Nat.le_refl _) (by omega), show q + (m - q) = m by omega]
        have hk := hL.resolve_left (by omega)
        have t := ht (q - 1) m (by omega) (by omega) (by omega) (by omega)
        have x := sorted_le sA (i := p) (j := q - 1) h1 (by omega) (by omega)
        exact (swo_lx key).ntrans _ _ _ (show lx key d[m]! d[q - 1]! = false by rw [lx_false]; omega) x
  · exact s2 p q (by omega) h2 h3

end Go.Proofs.Ytkfiepiipigcmaa

namespace Go.Proofs.Ytkfiepiipigcmaa
open Go.RowKit Go.Sort

def encS (n x : Nat) : Value := .int .i64 ((x % n : Nat) : Int)
/-- The world with another row in block g. -/
def RowW (w0 : World) (g n : Nat) (d : Array Nat) (W : World) : Prop := d.size = n ∧ ∃ q, W = (putRow (encS n) w0 g 0 d).drewN q
theorem RowW.cell {w0 W : World} {g n : Nat} {d0 d : Array Nat} (h0 : Holds (encS n) w0 g 0 d0) (hs : d0.size = n) (h : RowW w0 g n d W) {i : Nat} (hi : i < n) : W.cell? ⟨g, i, none⟩ = some (.int .i64 ((d[i]! % n : Nat) : Int)) := by
  obtain ⟨hsz, q, rfl⟩ := h
  have := cell?_putRow (encS n) w0 g 0 d0 d h0 (by omega) i (by omega)
  rw [Nat.zero_add] at this
  exact this
theorem RowW.free {w0 W : World} {g n : Nat} {d0 d : Array Nat} (h0 : Holds (encS n) w0 g 0 d0) (hs : d0.size = n) (h : RowW w0 g n d W) {i : Nat} (hi : i < n) : W.frozen? ⟨g, i, none⟩ = false := by
  obtain ⟨hsz, q, rfl⟩ := h
  have := (h0 i (by omega)).2
  rw [Nat.zero_add] at this
  show (putRow (encS n) w0 g 0 d).frozen? _ = false
  rw [frozen?_putRow]
  exact this
theorem RowW.drew {w0 W : World} {g n : Nat} {d : Array Nat} (h : RowW w0 g n d W) : RowW w0 g n d W.drew := by
  obtain ⟨hsz, q, rfl⟩ := h
  exact ⟨hsz, q + 1, by unfold World.drewN World.drew; simp [Nat.add_assoc]⟩
theorem RowW.drewN {w0 W : World} {g n : Nat} {d : Array Nat} (h : RowW w0 g n d W) (m : Nat) : RowW w0 g n d (W.drewN m) := by
  obtain ⟨hsz, q, rfl⟩ := h
  exact ⟨hsz, q + m, by unfold World.drewN; simp [Nat.add_assoc]⟩
theorem RowW.swap {w0 W : World} {g n : Nat} {d : Array Nat} (h : RowW w0 g n d W) {i j : Nat} (hi : i < n) (hj : j < n) :
    RowW w0 g n (swp d i j) ((W.setCell ⟨g, i, none⟩ (.int .i64 ((d[j]! % n : Nat) : Int))).setCell ⟨g, j, none⟩ (.int .i64 ((d[i]! % n : Nat) : Int))) := by
  obtain ⟨hsz, q, rfl⟩ := h
  refine ⟨by rw [size_swp, hsz], q, ?_⟩
  have := putRow_swp (encS n) w0 g 0 d i j (by omega) (by omega)
  rw [Nat.zero_add, Nat.zero_add] at this
  rw [← this]
  rfl

set_option maxHeartbeats 2000000 in
theorem swapRange_any (fv : Value) (w0 : World) (g n cap : Nat) (d0 : Array Nat) (h0 : Holds (encS n) w0 g 0 d0) (hs0 : d0.size = n) (hn : n ≤ 1000) (a b cnt lo hi : Nat) (d : Array Nat) (w : World) (hd : a + cnt ≤ b ∨ b + cnt ≤ a) (hla : lo ≤ a) (hlb : lo ≤ b) (hha : a + cnt ≤ hi) (hhb : b + cnt ≤ hi) (hhn : hi ≤ n) (hw : RowW w0 g n d w) :
    Calls Try.prog 182 #[.slice (some ⟨g, 0, none⟩) n cap, .int .i64 a, .int .i64 b, .int .i64 cnt, fv] w fun e w' => e = .returned (.tuple #[]) ∧ ∃ d', SwapIn a b cnt d d' ∧ PermIn lo hi d d' ∧ RowW w0 g n d' w' := by
  have H0 := Lib.hid h0
  have HW := Lib.hid hw
  have hsz := hw.1
  clear h0 hw
  go_enter Try.func182, Try.ntmps182
  go_wp2_with fail
  go_loopw [10] (fun iv wr => ∃ (k : Nat) (d1 : Array Nat), iv = .int .i64 k ∧ k ≤ cnt ∧ Hid (SwapIn a b k d d1) ∧ Hid (PermIn lo hi d d1) ∧ Hid (RowW w0 g n d1 wr)) (fun iv _ => cnt + 1 - (intOf iv).toNat)
  case atStart => exact ⟨0, d, rfl, Nat.zero_le _, Lib.hid (swapIn_zero _ _ _), Lib.hid (permIn_refl _ _ _), HW⟩
  case round =>
    clear HW
    obtain ⟨k, d1, rfl, hk, HSW, HP, HR⟩ := hrel
    by_cases hlt : k < cnt
    · have hltI : (k : Int) < (cnt : Int) := by omega
      have hs1 := HR.out.1
      obtain ⟨i, hi'⟩ : ∃ i, i = a + k := ⟨_, rfl⟩
      obtain ⟨j, hj'⟩ : ∃ j, j = b + k := ⟨_, rfl⟩
      have hin : i < n := by omega
      have hjn : j < n := by omega
      have hw1 : IntKind.i64.wrap ((a : Int) + (k : Int)) = (i : Int) := by rw [show ((a : Int) + (k : Int)) = (i : Int) by omega]; exact IntWalk.i64_in _ (by omega)
      have hw2 : IntKind.i64.wrap ((b : Int) + (k : Int)) = (j : Int) := by rw [show ((b : Int) + (k : Int)) = (j : Int) by omega]; exact IntWalk.i64_in _ (by omega)
      have g1 : (i : Int) < (n : Int) := by omega
      have g2 : (j : Int) < (n : Int) := by omega
      have c1 := HR.out.cell H0.out hs0 hin
      have c2 := HR.out.cell H0.out hs0 hjn
      have f1 := HR.out.free H0.out hs0 hin
      have f2 := HR.out.free H0.out hs0 hjn
      have HS := Lib.hid (HR.out.drew.swap hin hjn)
      have HSN := Lib.hid (show SwapIn a b (k + 1) d (swp d1 i j) by rw [hi', hj']; exact swapIn_succ HSW.out (by omega) (by omega) (by omega))
      have HPN := Lib.hid (permIn_trans _ _ _ lo hi HP.out (swp_permIn d1 lo hi i j (by omega) (by omega) (by omega) (by omega) (by omega)))
      obtain ⟨x, hx⟩ : ∃ x : Int, x = ((d1[i]! % n : Nat) : Int) := ⟨_, rfl⟩
      obtain ⟨y, hy⟩ : ∃ y : Int, y = ((d1[j]! % n : Nat) : Int) := ⟨_, rfl⟩
      rw [← hx] at c1 HS
      rw [← hy] at c2 HS
      have c3 : (wr.setCell ⟨g, i, none⟩ (.int .i64 y)).cell? ⟨g, j, none⟩ = some (.int .i64 y) := by
        rw [World.cell?_setCell_other _ _ _ _ (by intro e; injection e with _ e _; omega)]
        exact c2
      clear hx hy hi' hj'
      go_wp2_with fail
      go_region
      all_goals
        go_wp2_with fail
        go_roundw
        case rel => exact ⟨k + 1, swp d1 i j, by go_num, by omega, HSN, HPN, HS⟩
        case measure => simp [intOf]; omega
    · obtain rfl : k = cnt := by omega
      go_wp2_with fail
      go_end0
      exact ⟨rfl, d1, HSW.out, HP.out, HR.out⟩

set_option maxHeartbeats 2000000 in
theorem rotate_any (fv : Value) (w0 : World) (g n cap : Nat) (d0 : Array Nat) (h0 : Holds (encS n) w0 g 0 d0) (hs0 : d0.size = n) (hn : n ≤ 1000) (a m b : Nat) (d : Array Nat) (w : World) (ham : a < m) (hmb : m < b) (hbn : b ≤ n) (hw : RowW w0 g n d w) :
    Calls Try.prog 175 #[.slice (some ⟨g, 0, none⟩) n cap, .int .i64 a, .int .i64 m, .int .i64 b, fv] w fun e w' => e = .returned (.tuple #[]) ∧ ∃ d', RotIn a m b d d' ∧ PermIn a b d d' ∧ RowW w0 g n d' w' := by
  have HSWP := Lib.hid (fun a' b' cnt d1 W => swapRange_any fv w0 g n cap d0 h0 hs0 hn a' b' cnt a b d1 W)
  have HW := Lib.hid hw
  clear h0 hw
  obtain ⟨i0, hi0⟩ : ∃ i0, i0 = m - a := ⟨_, rfl⟩
  obtain ⟨j0, hj0⟩ : ∃ j0, j0 = b - m := ⟨_, rfl⟩
  have hw1 : IntKind.i64.wrap ((m : Int) - (a : Int)) = (i0 : Int) := by rw [show ((m : Int) - (a : Int)) = (i0 : Int) by omega]; exact IntWalk.i64_in _ (by omega)
  have hw2 : IntKind.i64.wrap ((b : Int) - (m : Int)) = (j0 : Int) := by rw [show ((b : Int) - (m : Int)) = (j0 : Int) by omega]; exact IntWalk.i64_in _ (by omega)
  have HI0 := Lib.hid hi0
  have HJ0 := Lib.hid hj0
  clear hi0 hj0
  go_enter Try.func175, Try.ntmps175
  go_wp2_with fail
  go_loopw [10, 11] (fun iv jv wr => ∃ (i j : Nat) (d1 : Array Nat), iv = .int .i64 i ∧ jv = .int .i64 j ∧ Hid (1 ≤ i ∧ 1 ≤ j ∧ a + i ≤ m ∧ m + j ≤ b) ∧ Hid (∀ d2, RotIn (m - i) m (m + j) d1 d2 → RotIn a m b d d2) ∧ Hid (PermIn a b d d1) ∧ Hid (RowW w0 g n d1 wr)) (fun iv jv _ => (intOf iv).toNat + (intOf jv).toNat)
  case atStart => exact ⟨i0, j0, d, rfl, rfl, Lib.hid (by have := HI0.out; have := HJ0.out; omega), Lib.hid (fun d2 h => by rw [HI0.out, HJ0.out, show m - (m - a) = a by omega, show m + (b - m) = b by omega] at h; exact h), Lib.hid (permIn_refl _ _ _), HW⟩
  case round =>
    clear HW HI0 HJ0 hw1 hw2
    obtain ⟨i, j, d1, rfl, rfl, HB, HROT, HP, HR⟩ := hrel
    have hbd := HB.out
    obtain ⟨mi, hmi⟩ : ∃ mi, mi = m - i := ⟨_, rfl⟩
    have hw3 : IntKind.i64.wrap ((m : Int) - (i : Int)) = (mi : Int) := by rw [show ((m : Int) - (i : Int)) = (mi : Int) by omega]; exact IntWalk.i64_in _ (by omega)
    have HMI := Lib.hid hmi
    rcases (show i = j ∨ j < i ∨ i < j by omega) with he | hlt | hlt
    · subst he
      have e1 : ((i : Int) != (i : Int)) = false := by simp
      have HC := Lib.hid (HSWP.out mi m i d1 wr (by omega) (by omega) (by omega) (by omega) (by omega) (by omega) HR.out)
      clear hmi hbd
      go_wp2_with (go_at_call 182; refine HC.out.mono ?_; rintro e w1 ⟨rfl, d2, hsw, hp2, hr2⟩)
      go_end0
      refine ⟨rfl, d2, HROT.out d2 (rot_last (by have := HB.out; omega) ?_), permIn_trans _ _ _ a b HP.out hp2, hr2⟩
      rw [← HMI.out]
      exact hsw
    · have e1 : ((i : Int) != (j : Int)) = true := by simp; omega
      have e2 : decide ((j : Int) < (i : Int)) = true := decide_eq_true (by omega)
      have HC := Lib.hid (HSWP.out mi m j d1 wr (by omega) (by omega) (by omega) (by omega) (by omega) (by omega) HR.out)
      obtain ⟨i', hi'⟩ : ∃ i', i' = i - j := ⟨_, rfl⟩
      have hw4 : IntKind.i64.wrap ((i : Int) - (j : Int)) = (i' : Int) := by rw [show ((i : Int) - (j : Int)) = (i' : Int) by omega]; exact IntWalk.i64_in _ (by omega)
      have HI' := Lib.hid hi'
      clear hmi hbd hi'
      go_wp2_with (go_at_call 182; refine HC.out.mono ?_; rintro e w1 ⟨rfl, d2, hsw, hp2, hr2⟩)
      go_roundw
      case rel => exact ⟨i', j, d2, by go_num, by go_num, Lib.hid (by have := HB.out; have := HI'.out; omega), Lib.hid (fun d3 h3 => HROT.out d3 (rot_more (by have := HB.out; omega) hlt (by rw [← HMI.out]; exact hsw) (by rw [← HI'.out]; exact h3))), Lib.hid (permIn_trans _ _ _ a b HP.out hp2), Lib.hid hr2⟩
      case measure => have := HI'.out; have := HB.out; simp [intOf]; omega
    · have e1 : ((i : Int) != (j : Int)) = true := by simp; omega
      have e2 : decide ((j : Int) < (i : Int)) = false := decide_eq_false (by omega)
      obtain ⟨s, hs⟩ : ∃ s, s = m + j := ⟨_, rfl⟩
      obtain ⟨r, hr⟩ : ∃ r, r = s - i := ⟨_, rfl⟩
      have hw5 : IntKind.i64.wrap ((m : Int) + (j : Int)) = (s : Int) := by rw [show ((m : Int) + (j : Int)) = (s : Int) by omega]; exact IntWalk.i64_in _ (by omega)
      have hw6 : IntKind.i64.wrap ((s : Int) - (i : Int)) = (r : Int) := by rw [show ((s : Int) - (i : Int)) = (r : Int) by omega]; exact IntWalk.i64_in _ (by omega)
      have HC := Lib.hid (HSWP.out mi r i d1 wr (by omega) (by omega) (by omega) (by omega) (by omega) (by omega) HR.out)
      obtain ⟨j', hj'⟩ : ∃ j', j' = j - i := ⟨_, rfl⟩
      have hw4 : IntKind.i64.wrap ((j : Int) - (i : Int)) = (j' : Int) := by rw [show ((j : Int) - (i : Int)) = (j' : Int) by omega]; exact IntWalk.i64_in _ (by omega)
      have HJ' := Lib.hid hj'
      have HRR := Lib.hid (show r = m + j - i by omega)
      clear hmi hbd hj' hs hr
      go_wp2_with (go_at_call 182; refine HC.out.mono ?_; rintro e w1 ⟨rfl, d2, hsw, hp2, hr2⟩)
      go_roundw
      case rel => exact ⟨i, j', d2, by go_num, by go_num, Lib.hid (by have := HB.out; have := HJ'.out; omega), Lib.hid (fun d3 h3 => HROT.out d3 (rot_less (by have := HB.out; omega) hlt (by rw [← HMI.out, ← HRR.out]; exact hsw) (by rw [← HJ'.out]; exact h3))), Lib.hid (permIn_trans _ _ _ a b HP.out hp2), Lib.hid hr2⟩
      case measure => have := HJ'.out; have := HB.out; simp [intOf]; omega

end Go.Proofs.Ytkfiepiipigcmaa

namespace Go.Proofs.Ytkfiepiipigcmaa
open Go.RowKit Go.Sort

/-- The closure compares two indices by their keys, whatever the row holds. -/
def CmpG (f bx n : Nat) (key : Nat → Int) (g : Nat) (w0 : World) : Prop := ∀ W : World, (∀ p : Addr, p.block < w0.heap.size → p.block ≠ g → W.cell? p = w0.cell? p) → ∀ x y,
  Calls Try.prog f #[.int .i64 ((x % n : Nat) : Int), .int .i64 ((y % n : Nat) : Int), .pointer (some ⟨bx, 0, none⟩)] W fun e w' => e = .returned (.int .i64 (cmpI (key x) (key y))) ∧ ∃ q, w' = W.drewN q
theorem RowW.rest {w0 W : World} {g n : Nat} {d : Array Nat} (h : RowW w0 g n d W) (p : Addr) (h1 : p.block < w0.heap.size) (h2 : p.block ≠ g) : W.cell? p = w0.cell? p := by
  obtain ⟨hsz, q, rfl⟩ := h
  show (putRow (encS n) w0 g 0 d).cell? p = _
  exact cell?_putRow_other _ _ _ _ _ _ (.inl h2)
theorem cmp_row {f bx n : Nat} {key : Nat → Int} {g : Nat} {w0 W : World} {d : Array Nat} (hc : CmpG f bx n key g w0) (h : RowW w0 g n d W) (x y : Nat) (q : Nat) :
    Calls Try.prog f #[.int .i64 ((x % n : Nat) : Int), .int .i64 ((y % n : Nat) : Int), .pointer (some ⟨bx, 0, none⟩)] (W.drewN q) fun e w' => e = .returned (.int .i64 (cmpI (key x) (key y))) ∧ ∃ m, w' = W.drewN m := by
  refine (hc (W.drewN q) (fun p h1 h2 => (h.drewN q).rest p h1 h2) x y).mono ?_
  rintro e w' ⟨rfl, q2, rfl⟩
  exact ⟨rfl, q + q2, by unfold World.drewN; simp [Nat.add_assoc]⟩
theorem cmpI_neg (x y : Int) : decide (cmpI x y < 0) = decide (x < y) := by
  unfold cmpI
  by_cases h1 : x < y
  · simp [h1]
  · by_cases h2 : y < x <;> simp [h1, h2]
theorem rot_push {a k : Nat} {d d1 : Array Nat} (hak : a ≤ k) (hk : k + 1 < d.size) (h : RotIn a (a + 1) (k + 1) d d1) : RotIn a (a + 1) (k + 1 + 1) d (swp d1 k (k + 1)) := by
  refine ⟨by rw [size_swp, h.1], fun p => ?_⟩
  by_cases h1 : p = k
  · subst h1
    rw [swp_left d1 _ _ (by rw [h.1]; omega) (by omega), h.2 (p + 1), if_neg (by omega), if_pos (by omega), if_pos (by omega)]
    congr 1
    omega
  · by_cases h2 : p = k + 1
    · subst h2
      rw [swp_right d1 _ _ (by rw [h.1]; omega), h.2 k, if_pos (by omega), if_neg (by omega), if_pos (by omega), if_neg (by omega)]
      congr 1
      omega
    · rw [swp_other d1 _ _ p h1 h2, h.2 p]
      by_cases c1 : a ≤ p ∧ p < k + 1
      · rw [if_pos c1, if_pos (by omega), if_pos (by omega), if_pos (by omega)]
      · rw [if_neg c1, if_neg (by omega)]
theorem rot_pull {k m : Nat} {d d1 : Array Nat} (hkm : k + 1 ≤ m) (hm : m < d.size) (h : RotIn (k + 1) m (m + 1) d d1) : RotIn k m (m + 1) d (swp d1 (k + 1) k) := by
  refine ⟨by rw [size_swp, h.1], fun p => ?_⟩
  by_cases h1 : p = k + 1
  · subst h1
    rw [swp_left d1 _ _ (by rw [h.1]; omega) (by omega), h.2 k, if_neg (by omega), if_pos (by omega), if_neg (by omega)]
    congr 1
    omega
  · by_cases h2 : p = k
    · subst h2
      rw [swp_right d1 _ _ (by rw [h.1]; omega), h.2 (p + 1), if_pos (by omega), if_pos (by omega), if_pos (by omega), if_pos (by omega)]
      congr 1
      omega
    · rw [swp_other d1 _ _ p h1 h2, h.2 p]
      by_cases c1 : k + 1 ≤ p ∧ p < m + 1
      · rw [if_pos c1, if_neg (by omega), if_pos (by omega), if_neg (by omega)]
      · rw [if_neg c1, if_neg (by omega)]

set_option maxHeartbeats 8000000 in
set_option maxRecDepth 100000 in
/-- One element ahead. -/
theorem merge_one (f bx : Nat) (eg : ∀ args w, (callFunc f args).run Try.prog w = .ok (.enter f args) w) (key : Nat → Int) (w0 : World) (g n cap : Nat) (d0 : Array Nat) (h0 : Holds (encS n) w0 g 0 d0) (hs0 : d0.size = n) (hn : n ≤ 1000) (hcmp : CmpG f bx n key g w0)
    (a b : Nat) (d : Array Nat) (w : World) (hab : a + 1 < b) (hbn : b ≤ n) (sB : SortedIn (lx key) (a + 1) b d) (ht : Tie key a (a + 1) b d) (hw : RowW w0 g n d w) :
    Calls Try.prog 161 #[.slice (some ⟨g, 0, none⟩) n cap, .int .i64 a, .int .i64 ((a + 1 : Nat) : Int), .int .i64 b, .func (.func f) #[] #[.pointer (some ⟨bx, 0, none⟩)]] w fun e w' => e = .returned (.tuple #[]) ∧ ∃ d', PermIn a b d d' ∧ SortedIn (lx key) a b d' ∧ RowW w0 g n d' w' := by
  have H0 := Lib.hid h0
  have HC := Lib.hid hcmp
  have HW := Lib.hid hw
  have HSB := Lib.hid sB
  have HT := Lib.hid ht
  have hsz := hw.1
  clear h0 hcmp hw sB ht
  obtain ⟨m, hm⟩ : ∃ m, m = a + 1 := ⟨_, rfl⟩
  rw [← hm]
  have HM := Lib.hid hm
  have hw1 : IntKind.i64.wrap ((m : Int) - (a : Int)) = 1 := by rw [show ((m : Int) - (a : Int)) = 1 by omega]; rfl
  have hai : (a : Int) < (n : Int) := by omega
  clear hm
  go_enter Try.func161, Try.ntmps161
  go_wp2_with fail
  go_loopw [10, 11] (fun iv jv wr => ∃ (i j : Nat), iv = .int .i64 i ∧ jv = .int .i64 j ∧ Hid (a + 1 ≤ i ∧ i ≤ j ∧ j ≤ b) ∧ Hid (i = a + 1 ∨ key d[i - 1]! < key d[a]!) ∧ Hid (j = b ∨ key d[a]! ≤ key d[j]!) ∧ Hid (RowW w0 g n d wr)) (fun iv jv _ => (intOf jv).toNat + 1 - (intOf iv).toNat)
  case atStart => exact ⟨m, b, rfl, rfl, Lib.hid (by have := HM.out; omega), Lib.hid (.inl HM.out), Lib.hid (.inl rfl), HW⟩
  case round =>
    clear HW
    obtain ⟨i, j, rfl, rfl, HB, HL, HRR, HR⟩ := hrel
    have hbd := HB.out
    by_cases hlt : i < j
    · have hltI : (i : Int) < (j : Int) := by omega
      obtain ⟨s, hs⟩ : ∃ s, s = i + j := ⟨_, rfl⟩
      obtain ⟨h, hh⟩ : ∃ h, h = s / 2 := ⟨_, rfl⟩
      have hw2 : IntKind.i64.wrap ((i : Int) + (j : Int)) = (s : Int) := by rw [show ((i : Int) + (j : Int)) = (s : Int) by omega]; exact IntWalk.i64_in _ (by omega)
      have hh2 : (s : Int) / 2 = (h : Int) := by omega
      have hhI : (h : Int) < (n : Int) := by omega
      have c1 := HR.out.cell H0.out hs0 (i := h) (by omega)
      have c2 := HR.out.cell H0.out hs0 (i := a) (by omega)
      have HCC := Lib.hid (fun q => cmp_row HC.out HR.out d[h]! d[a]! q)
      have hng := cmpI_neg (key d[h]!) (key d[a]!)
      obtain ⟨z, hz⟩ : ∃ z, z = cmpI (key d[h]!) (key d[a]!) := ⟨_, rfl⟩
      rw [← hz] at HCC hng
      obtain ⟨x, hx⟩ : ∃ x : Int, x = ((d[h]! % n : Nat) : Int) := ⟨_, rfl⟩
      obtain ⟨y, hy⟩ : ∃ y : Int, y = ((d[a]! % n : Nat) : Int) := ⟨_, rfl⟩
      rw [← hx] at c1 HCC
      rw [← hy] at c2 HCC
      have HHB := Lib.hid (show i ≤ h ∧ h < j by omega)
      clear hs hh hx hy hz hbd
      by_cases hk : key d[h]! < key d[a]!
      · rw [decide_eq_true hk] at hng
        have HK := Lib.hid hk
        clear hk
        go_wp2_with fail
        go_quiet ((go_at_fn f; exact HCC.out _))
        go_wp2_with fail
        go_roundw
        case rel => exact ⟨h + 1, j, by go_num, rfl, Lib.hid (by have := HB.out; have := HHB.out; omega), Lib.hid (.inr HK.out), HRR, Lib.hid (by first | exact HR.out.drewN _ | exact HR.out.drew)⟩
        case measure => have := HHB.out; simp [intOf]; omega
      · rw [decide_eq_false hk] at hng
        have HK := Lib.hid hk
        clear hk
        go_wp2_with fail
        go_quiet ((go_at_fn f; exact HCC.out _))
        go_wp2_with fail
        go_roundw
        case rel => exact ⟨i, h, rfl, by go_num, Lib.hid (by have := HB.out; have := HHB.out; omega), HL, Lib.hid (.inr (by have := HK.out; omega)), Lib.hid (by first | exact HR.out.drewN _ | exact HR.out.drew)⟩
        case measure => have := HHB.out; simp [intOf]; omega
    · obtain rfl : i = j := by omega
      obtain ⟨i1, hi1⟩ : ∃ i1, i1 + 1 = i := ⟨i - 1, by omega⟩
      have hw2 : IntKind.i64.wrap ((i : Int) - 1) = (i1 : Int) := by rw [show ((i : Int) - 1) = (i1 : Int) by omega]; exact IntWalk.i64_in _ (by omega)
      have HI1 := Lib.hid hi1
      have hi1n : i1 < n := by omega
      have ha1 : a ≤ i1 := by omega
      clear hbd hi1
      go_wp2_with fail
      go_loopw [13] (fun kv wr => ∃ (k : Nat) (d1 : Array Nat), kv = .int .i64 k ∧ Hid (a ≤ k ∧ k ≤ i1) ∧ Hid (RotIn a (a + 1) (k + 1) d d1) ∧ Hid (PermIn a b d d1) ∧ Hid (RowW w0 g n d1 wr)) (fun kv _ => n + 1 - (intOf kv).toNat)
      case atStart => exact ⟨a, d, rfl, Lib.hid (by omega), Lib.hid (rot_none (.inr rfl) (by omega) (Nat.le_refl _)), Lib.hid (permIn_refl _ _ _), HR⟩
      case round =>
        obtain ⟨k, d1, rfl, HKB, HROT, HP, HR1⟩ := hrel
        have hkb := HKB.out
        by_cases hlt2 : k < i1
        · have hltI2 : (k : Int) < (i1 : Int) := by omega
          have hs1 := HR1.out.1
          obtain ⟨k1, hk1⟩ : ∃ k1, k1 = k + 1 := ⟨_, rfl⟩
          have hkn : k < n := by omega
          have hk1n : k1 < n := by omega
          have hw3 : IntKind.i64.wrap ((k : Int) + 1) = (k1 : Int) := by rw [show ((k : Int) + 1) = (k1 : Int) by omega]; exact IntWalk.i64_in _ (by omega)
          have g1 : (k : Int) < (n : Int) := by omega
          have g2 : (k1 : Int) < (n : Int) := by omega
          have c1 := HR1.out.cell H0.out hs0 hkn
          have c2 := HR1.out.cell H0.out hs0 hk1n
          have f1 := HR1.out.free H0.out hs0 hkn
          have f2 := HR1.out.free H0.out hs0 hk1n
          have HS := Lib.hid (HR1.out.drew.swap hkn hk1n)
          have HRN := Lib.hid (show RotIn a (a + 1) (k1 + 1) d (swp d1 k k1) by rw [hk1]; exact rot_push (by omega) (by omega) HROT.out)
          have HBB := HB.out
          have HII := HI1.out
          have HPN := Lib.hid (permIn_trans _ _ _ a b HP.out (swp_permIn d1 a b k k1 (by omega) (by omega) (by omega) (by omega) (by omega)))
          obtain ⟨x, hx⟩ : ∃ x : Int, x = ((d1[k]! % n : Nat) : Int) := ⟨_, rfl⟩
          obtain ⟨y, hy⟩ : ∃ y : Int, y = ((d1[k1]! % n : Nat) : Int) := ⟨_, rfl⟩
          rw [← hx] at c1 HS
          rw [← hy] at c2 HS
          have c3 : (wr.setCell ⟨g, k, none⟩ (.int .i64 y)).cell? ⟨g, k1, none⟩ = some (.int .i64 y) := by
            rw [World.cell?_setCell_other _ _ _ _ (by intro e; injection e with _ e _; omega)]
            exact c2
          have HK1 := Lib.hid hk1
          clear hx hy hk1 HBB HII hkb
          go_wp2_with fail
          go_region
          all_goals
            go_wp2_with fail
            go_roundw
            case rel => exact ⟨k1, swp d1 k k1, by go_num, Lib.hid (by have := HKB.out; have := HK1.out; omega), HRN, HPN, HS⟩
            case measure => have := HK1.out; simp [intOf]; omega
        · obtain rfl : k = i1 := by omega
          go_wp2_with fail
          first | go_end0 | (simp only [Exit.inBlock, Exit.then]; refine bodyPost_ret (results_none rfl _ _ _) rfl ?_) | refine bodyPost_ret (results_none rfl _ _ _) rfl ?_
          refine ⟨rfl, d1, HP.out, ?_, HR1.out⟩
          have hr := HROT.out
          rw [HI1.out] at hr
          have hb := HB.out
          exact one_ahead hb.1 hb.2.2 (by have := HSB.out; exact this) HT.out HL.out (by rcases HRR.out with h | h; exact .inl h; exact .inr (by omega)) hr

end Go.Proofs.Ytkfiepiipigcmaa
