/-
  FnJobs: texts joined: JbD, Bytes, Pop, Dom, Rising, DomO, TightM, Digits, Src, R8.
-/
import Derived.ProofKit
import Derived.OpenShut
import Derived.Laws.BitsAllLaws
import Derived.Deep.Cut
import Derived.Test.YtfdaifmfecfchaaMFnJobsAA
import Derived.Test.YtfdaifmfecfchaaMFnJobsAC
import Derived.Test.YtfdaifmfecfchaaMFnJobsAE
import Derived.Test.YtfdaifmfecfchaaMFnJobsAJ
namespace Go.Proofs.Ytfdaifmfecfchaa
open Go.RowKit Go.Sort

theorem dig_erase : ∀ s, s < 64 → ∀ i ∈ digN s, digN (s - 2 ^ i) = (digN s).erase i := by decide +kernel
theorem dig_all : ∀ n, n ≤ 6 → digN (2 ^ n - 1) = List.range n := by decide +kernel
theorem endK_sum (js : List JobD) (L : List Nat) : ∀ k, k ≤ L.length → endK js L k = sumF (longK js) (L.take k)
  | 0, _ => by simp [endK, sumF]
  | k + 1, h => by
    rw [take_snoc (by omega), sumF_app, ← endK_sum js L k (by omega)]
    simp [endK, sumF, longK]
theorem lateO_le {js : List JobD} {tab : List (Int × Nat)} {s : Nat} {L : List Nat} {E : Int} : ∀ k i, i < k → (lateO js tab s L E k).1 ≤ costL js tab s E (L.getD i 0)
  | 0, i, h => by omega
  | k + 1, i, h => by
    simp only [lateO]
    by_cases e : i = k
    · subst e
      split
      · exact Int.le_refl _
      · rename_i hc
        have := not_or.1 hc
        omega
    · have := lateO_le (js := js) (tab := tab) (s := s) (L := L) (E := E) k i (by omega)
      split
      · rename_i hc
        show costL js tab s E (L.getD k 0) ≤ _
        omega
      · exact this
theorem lateO_eq {js : List JobD} {tab : List (Int × Nat)} {s : Nat} {L : List Nat} {E : Int} : ∀ k, 1 ≤ k → (lateO js tab s L E k).1 = costL js tab s E (lateO js tab s L E k).2
  | 0, h => by omega
  | k + 1, _ => by
    simp only [lateO]
    split
    · rfl
    · rename_i hc
      exact lateO_eq k (by omega)
theorem ltab_at (js : List JobD) : ∀ t s, s < t → (ltab js t).getD s (0, 0) = lateAt js (ltab js s) s
  | 0, s, h => by omega
  | t + 1, s, h => by
    simp only [ltab]
    rw [List.getD_eq_getElem?_getD]
    by_cases e : s = t
    · subst e
      rw [List.getElem?_append_right (by rw [ltab_len]; exact Nat.le_refl _), ltab_len, Nat.sub_self]
      rfl
    · rw [List.getElem?_append_left (by rw [ltab_len]; omega), ← List.getD_eq_getElem?_getD]
      exact ltab_at js t s (by omega)
theorem ltab_same (js : List JobD) {s t r : Nat} (h1 : r < s) (h2 : s ≤ t) : (ltab js s).getD r (0, 0) = (ltab js t).getD r (0, 0) := by
  rw [ltab_at js s r h1, ltab_at js t r (by omega)]

/-- No order of a set costs less than the table tells. -/
theorem late_low {js : List JobD} {t : Nat} (ht : t ≤ 64) : ∀ (m : Nat) (s : Nat) (L : List Nat), L.length = m → s < t → L.Perm (digN s) → ((ltab js t).getD s (0, 0)).1 ≤ gcost (longK js) (lateP js) 0 L
  | 0, s, L, hm, hs, hp => by
    obtain rfl := List.length_eq_zero_iff.1 hm
    have hd : digN s = [] := List.Perm.eq_nil hp.symm
    rw [ltab_at js t s hs]
    unfold lateAt
    rw [hd]
    simp [lateO, gcost]
  | m + 1, s, L, hm, hs, hp => by
    rcases List.eq_nil_or_concat L with h0 | ⟨L', i, h0⟩
    · rw [h0] at hm; simp at hm
    · rw [List.concat_eq_append] at h0
      have hi : i ∈ digN s := hp.mem_iff.1 (by rw [h0]; simp)
      have hb := bit_le (dig_bit s _ _ hi)
      have hpw : 0 < 2 ^ i := Nat.pow_pos (by omega)
      have he := dig_erase s (by omega) i hi
      have hp' : L'.Perm (digN (s - 2 ^ i)) := by
        rw [he]
        have h1 : (i :: L').Perm (digN s) := by
          refine List.Perm.trans ?_ hp
          rw [h0]
          exact List.perm_append_comm (l₁ := [i]) (l₂ := L')
        have h2 := h1.erase i
        rwa [List.erase_cons_head] at h2
      have ih := late_low (js := js) ht m (s - 2 ^ i) L' (by rw [h0] at hm; simpa using hm) (by omega) hp'
      rw [h0, gcost_app]
      simp only [gcost, Int.add_zero]
      obtain ⟨k, hk, ek⟩ := in_getD hi
      have hle := lateO_le (js := js) (tab := ltab js s) (s := s) (L := digN s) (E := endK js (digN s) (digN s).length) (digN s).length k hk
      rw [ek] at hle
      rw [ltab_at js t s hs]
      unfold lateAt
      have hE : endK js (digN s) (digN s).length = 0 + sumF (longK js) L' + longK js i := by
        rw [endK_sum js (digN s) _ (Nat.le_refl _), List.take_of_length_le (Nat.le_refl _), ← sumF_perm _ hp, h0, sumF_app]
        simp [sumF]
      have hc : costL js (ltab js s) s (endK js (digN s) (digN s).length) i = ((ltab js t).getD (s - 2 ^ i) (0, 0)).1 + lateP js i (0 + sumF (longK js) L' + longK js i) := by
        unfold costL lateP
        rw [hE, ltab_same js (show s - 2 ^ i < s by omega) (show s ≤ t by omega)]
        rfl
      rw [hc] at hle
      omega
/-- What the order out of the table costs. -/
theorem back_cost {js : List JobD} {t : Nat} (ht : t ≤ 64) : ∀ (f s : Nat), s ≤ f → s < t → (backK (ltab js t) f s).Perm (digN s) ∧ gcost (longK js) (lateP js) 0 (backK (ltab js t) f s).reverse = ((ltab js t).getD s (0, 0)).1
  | f, 0, _, hs => by
    rw [backK_zero, ltab_at js t 0 hs]
    have hd : digN 0 = [] := by decide
    unfold lateAt
    rw [hd]
    exact ⟨List.Perm.refl _, rfl⟩
  | 0, s + 1, h, _ => by omega
  | f + 1, s + 1, h, hs => by
    have hm := ltab_last js (s := s + 1) (by omega) (by omega) t hs
    have hb := bit_le (dig_bit (s + 1) _ _ hm)
    have hpw : 0 < 2 ^ ((ltab js t).getD (s + 1) (0, 0)).2 := Nat.pow_pos (by omega)
    have he := dig_erase (s + 1) (by omega) _ hm
    obtain ⟨x, hx⟩ : ∃ x, x = ((ltab js t).getD (s + 1) (0, 0)).2 := ⟨_, rfl⟩
    rw [← hx] at hm hb hpw he
    obtain ⟨ih1, ih2⟩ := back_cost (js := js) ht f (s + 1 - 2 ^ x) (by omega) (by omega)
    have e : backK (ltab js t) (f + 1) (s + 1) = x :: backK (ltab js t) f (s + 1 - 2 ^ x) := by
      simp only [backK]
      rw [if_neg (by omega), ← hx]
    have hP : (backK (ltab js t) (f + 1) (s + 1)).Perm (digN (s + 1)) := by
      rw [e]
      refine (List.Perm.cons x ih1).trans ?_
      rw [he]
      exact (List.perm_cons_erase hm).symm
    refine ⟨hP, ?_⟩
    rw [e, List.reverse_cons, gcost_app, ih2]
    simp only [gcost, Int.add_zero]
    have hne : 1 ≤ (digN (s + 1)).length := List.length_pos_of_mem hm
    have hq := lateO_eq (js := js) (tab := ltab js (s + 1)) (s := s + 1) (L := digN (s + 1)) (E := endK js (digN (s + 1)) (digN (s + 1)).length) (digN (s + 1)).length hne
    have hat := ltab_at js t (s + 1) hs
    unfold lateAt at hat
    rw [← hat, ← hx] at hq
    rw [hq]
    have hE : endK js (digN (s + 1)) (digN (s + 1)).length = 0 + sumF (longK js) (backK (ltab js t) f (s + 1 - 2 ^ x)).reverse + longK js x := by
      rw [endK_sum js _ _ (Nat.le_refl _), List.take_of_length_le (Nat.le_refl _), ← sumF_perm _ hP, e, sumF_perm _ (List.reverse_perm _)]
      simp only [sumF]
      omega
    unfold costL lateP
    rw [← hE, ltab_same js (show s + 1 - 2 ^ x < s + 1 by omega) (show s + 1 ≤ t by omega)]
    rfl
theorem late_best {js : List JobD} (hj : areJobsB js = true) (hn : js.length ≤ 6) :
    (ordLate js).Perm (List.range js.length) ∧ gcost (longK js) (lateP js) 0 (ordLate js) = lateN js ∧
    ∀ L : List Nat, L.Perm (List.range js.length) → lateN js ≤ gcost (longK js) (lateP js) 0 L := by
  have ht : 2 ^ js.length ≤ 64 := Nat.pow_le_pow_right (n := 2) (by omega) hn
  have hp : 0 < 2 ^ js.length := Nat.pow_pos (by omega)
  have hd := dig_all js.length hn
  have hN : lateN js = ((ltab js (2 ^ js.length)).getD (2 ^ js.length - 1) (0, 0)).1 := by unfold lateN; rw [if_pos hj]
  obtain ⟨b1, b2⟩ := back_cost (js := js) ht (2 ^ js.length - 1) (2 ^ js.length - 1) (Nat.le_refl _) (by omega)
  rw [hd] at b1
  refine ⟨(List.reverse_perm _).trans b1, by rw [hN]; exact b2, fun L hL => ?_⟩
  rw [hN]
  exact late_low ht L.length _ L rfl (by omega) (by rw [hd]; exact hL)

/-! ### everything together -/
/-- What the law asks of an order that is told: in one line. -/
theorem jobs_law {js : List JobD} (hj : areJobsB js = true) (hn : js.length ≤ 6) {L : List Nat} (hp : L.Perm (List.range js.length)) :
    (ordC (smithC js) js.length).Perm (List.range js.length) ∧ (ordJ js).Perm (List.range js.length) ∧ ((otEnd js).1 ++ (otEnd js).2).Perm (List.range js.length) ∧ (ordLate js).Perm (List.range js.length) ∧
    wK js (endsL js (idxs (ordC (smithC js) js.length))) js.length ≤ wK js (endsL js (idxs L)) js.length ∧
    mlK js (endsL js (idxs (ordJ js))) js.length ≤ mlK js (endsL js (idxs L)) js.length ∧
    clK js (endsL js (idxs ((otEnd js).1 ++ (otEnd js).2))) js.length ≤ clK js (endsL js (idxs L)) js.length ∧
    ((otEnd js).1.length : Int) = js.length - clK js (endsL js (idxs ((otEnd js).1 ++ (otEnd js).2))) js.length ∧
    owK js (endsL js (idxs (ordLate js))) js.length = lateN js ∧ lateN js ≤ owK js (endsL js (idxs L)) js.length ∧
    (∀ i, i < (otEnd js).1.length → sumF (longK js) ((otEnd js).1.take (i + 1)) ≤ dueF js ((otEnd js).1.getD i 0)) ∧
    (endsL js (idxs L)).getD (L.getD (js.length - 1) 0) 0 = sumK js js.length := by
  obtain ⟨a1, a2, a3⟩ := areJobs_facts hj
  obtain ⟨m1, m2, m3⟩ := ot_best (js := js) (fun x hx => by have := a3 x hx; omega) (ordJ_sorted js)
  obtain ⟨l1, l2, l3⟩ := late_best hj hn
  have hS := ordC_perm (swo_smith hj) js.length
  have hD : (ordJ js).Perm (List.range js.length) := ordL_perm _ _
  have hlen : L.length = js.length := by rw [hp.length_eq, List.length_range]
  have c1 := clK_late hp
  have c2 := clK_late m1
  have m4 := m3 L hp
  have m5 := m3 _ m1
  have hnK : ((otEnd js).1 ++ (otEnd js).2).Nodup := m1.nodup_iff.2 List.nodup_range
  -- the ones that are kept are on time
  have hkept : (otEnd js).1.length ≤ (((otEnd js).1 ++ (otEnd js).2).filter fun x => decide (cEnd (longK js) ((otEnd js).1 ++ (otEnd js).2) x ≤ dueF js x)).length := by
    refine nodup_sub_len (List.nodup_append.1 hnK).1 fun x hx => List.mem_filter.2 ⟨List.mem_append_left _ hx, ?_⟩
    obtain ⟨i, hi, e⟩ := in_getD hx
    have h1 := okP_take m2 hi
    have hs := split_at hi
    have hni : (otEnd js).1.getD i 0 ∉ (otEnd js).1.take i := fun h => by
      have h2 := (List.nodup_append.1 hnK).1
      rw [hs] at h2
      exact (List.nodup_append.1 h2).2.2 _ h _ (List.mem_cons_self ..) rfl
    have hc := cEnd_mid (longK js) ((otEnd js).1.getD i 0) ((otEnd js).1.drop (i + 1) ++ (otEnd js).2) ((otEnd js).1.take i) hni
    have e2 : (otEnd js).1.take i ++ (otEnd js).1.getD i 0 :: ((otEnd js).1.drop (i + 1) ++ (otEnd js).2) = (otEnd js).1 ++ (otEnd js).2 := by
      have h3 := congrArg (· ++ (otEnd js).2) hs
      simp only [List.append_assoc, List.cons_append] at h3
      exact h3.symm
    rw [e2, e] at hc
    rw [take_snoc hi, sumF_app, e] at h1
    simp only [sumF] at h1
    rw [decide_eq_true_eq, hc]
    unfold dueF
    omega
  unfold dueF at hkept c1 c2
  refine ⟨hS, hD, m1, l1, ?_, due_late hj hp, by omega, by omega, ?_, ?_, fun i hi => ?_, ?_⟩
  · rw [wK_cost hS, wK_cost hp]
    exact smith_best hj hp
  · rw [owK_cost l1]; exact l2
  · rw [owK_cost hp]; exact l3 L hp
  · have := okP_take m2 hi
    unfold dueF
    omega
  · have hlt : js.length - 1 < L.length := by omega
    have hm := List.mem_range.1 (hp.mem_iff.1 (getD_in hlt))
    rw [ends_cEnd hp _ hm]
    have hs := split_at hlt
    have hni : L.getD (js.length - 1) 0 ∉ L.take (js.length - 1) := fun h => by
      have h2 : L.Nodup := hp.nodup_iff.2 List.nodup_range
      rw [hs] at h2
      exact (List.nodup_append.1 h2).2.2 _ h _ (List.mem_cons_self ..) rfl
    have hc := cEnd_mid (longK js) (L.getD (js.length - 1) 0) (L.drop (js.length - 1 + 1)) (L.take (js.length - 1)) hni
    rw [← hs] at hc
    rw [hc, sumK_sum, ← sumF_perm _ hp]
    have h4 : sumF (longK js) L = sumF (longK js) (L.take (js.length - 1) ++ [L.getD (js.length - 1) 0]) := by
      rw [← take_snoc hlt, List.take_of_length_le (by omega)]
    rw [h4, sumF_app]
    simp [sumF]

end Go.Proofs.Ytfdaifmfecfchaa

namespace Go.Proofs.Ytfdaifmfecfchaa
open Go.RowKit

def B8 (x : Int) : Value := .int .u8 x
/-- The slice reads as these bytes. -/
def RdB (w : World) (v : Value) (xs : List Int) : Prop := Slc w v (xs.map B8)
def WfB (zs : List Int) : Prop := ∀ z ∈ zs, 0 ≤ z ∧ z ≤ 255

theorem RdB.shape {w : World} {v : Value} {xs : List Int} (h : RdB w v xs) : ∃ a c, v = .slice a xs.length c := by
  obtain ⟨a, c, e⟩ := Slc.shape h; exact ⟨a, c, by simpa using e⟩
theorem RdB.up {w w' : World} {v : Value} {xs : List Int} {B : Nat} (h : RdB w v xs) (hb : Below B w w') (hB : w.heap.size ≤ B) : RdB w' v xs := Slc.below h hb hB
theorem RdB.len {w : World} {v : Value} {xs : List Int} (h : RdB w v xs) : xs.length ≤ maxLen := by simpa using Slc.len h
theorem RdB.at {w : World} {a : Option Addr} {n c : Nat} {xs : List Int} (h : RdB w (.slice a n c) xs) {i : Nat} (hi : i < xs.length) :
    ∃ b off, a = some ⟨b, off, none⟩ ∧ b < w.heap.size ∧ w.cell? ⟨b, off + i, none⟩ = some (.int .u8 (xs.getD i 0)) := by
  exact Slc.at h (i := i) (u := .int .u8 (xs.getD i 0)) (by simp [B8, hi])
theorem WfB.at {xs : List Int} (h : WfB xs) {i : Nat} (hi : i < xs.length) : 0 ≤ xs.getD i 0 ∧ xs.getD i 0 ≤ 255 := by
  have e : xs.getD i 0 = xs[i] := by simp [hi]
  rw [e]; exact h _ (List.getElem_mem hi)

def isLong (a b : List Int) : Bool := decide (1048576 < (a.length : Int)) || decide (1048576 < (b.length : Int))

/-- A number that is chosen. -/
def PickE (n : Int) (w : World) (e : Ending) (w' : World) : Prop := ∃ r : Int, 0 ≤ r ∧ r < n ∧ e = .returned (.int .i64 r) ∧ w = w'

end Go.Proofs.Ytfdaifmfecfchaa

namespace Go.Proofs.Ytfdaifmfecfchaa

/-- The digits 1 among the first n. -/
def popN : Nat → Nat → Nat
  | 0, _ => 0
  | n + 1, x => (x.testBit n).toNat + popN n x

theorem popN_congr {x y : Nat} : ∀ n, (∀ i, i < n → x.testBit i = y.testBit i) → popN n x = popN n y
  | 0, _ => rfl
  | n + 1, h => by
    simp only [popN]
    rw [h n (by omega), popN_congr n fun i hi => h i (by omega)]
theorem popN_or {x b : Nat} : ∀ n, popN n (x ||| 2 ^ b) = popN n x + (decide (b < n) && !x.testBit b).toNat
  | 0 => by simp [popN]
  | n + 1 => by
    simp only [popN]
    rw [popN_or n, Nat.testBit_or, Nat.testBit_two_pow]
    by_cases h : b = n
    · subst h
      cases x.testBit b <;> simp <;> omega
    · have h1 : decide (b = n) = false := by simp [h]
      rw [h1, Bool.or_false]
      have h2 : decide (b < n + 1) = decide (b < n) := by rw [decide_eq_decide]; omega
      rw [h2]; omega
theorem testBit_byte (a y i : Nat) (ha : a < 256) : (a + 256 * y).testBit i = if i < 8 then a.testBit i else y.testBit (i - 8) := by
  have := Nat.testBit_two_pow_mul_add y (i := 8) (b := a) ha i
  rw [show 2 ^ 8 * y + a = a + 256 * y by omega] at this
  exact this
theorem popN_byte (a y : Nat) (ha : a < 256) : ∀ n, popN (8 + n) (a + 256 * y) = popN 8 a + popN n y
  | 0 => by
    simp only [popN, Nat.add_zero]
    simp only [testBit_byte a y _ ha]
    simp
  | n + 1 => by
    have ih := popN_byte a y ha n
    rw [show 8 + (n + 1) = (8 + n) + 1 by omega]
    simp only [popN] at ih ⊢
    rw [ih, testBit_byte a y _ ha, if_neg (by omega), show 8 + n - 8 = n by omega]
    omega
theorem popN_zero : ∀ n, popN n 0 = 0
  | 0 => rfl
  | n + 1 => by simp [popN, popN_zero n]

theorem and_byte (a y m M : Nat) (ha : a < 256) (hm : m < 256) : (a + 256 * y) &&& (m + 256 * M) = (a &&& m) + 256 * (y &&& M) := by
  have hlt : a &&& m < 256 := Nat.lt_of_le_of_lt Nat.and_le_left ha
  apply Nat.eq_of_testBit_eq
  intro i
  rw [Nat.testBit_and, testBit_byte a y i ha, testBit_byte m M i hm, testBit_byte (a &&& m) (y &&& M) i hlt]
  split
  · rw [Nat.testBit_and]
  · rw [Nat.testBit_and]

/-! ### By bytes -/
def s1 (b : Nat) : Nat := ((b >>> 1) &&& 85) + (b &&& 85)
def s2 (b : Nat) : Nat := ((b >>> 2) &&& 51) + (b &&& 51)
def t2 (b : Nat) : Nat := s2 (s1 b)
def p8 (b : Nat) : Nat := (t2 b / 16 + t2 b) % 16
theorem bytes_fact : ∀ b : Fin 256, s1 b.val < 256 ∧ t2 b.val / 16 ≤ 4 ∧ t2 b.val % 16 ≤ 4 ∧ t2 b.val < 256 ∧ p8 b.val = popN 8 b.val ∧ p8 b.val ≤ 8 := by decide +kernel
theorem mask1 : ∀ a : Fin 128, ∀ c : Fin 2, (a.val + 128 * c.val) &&& 85 = a.val &&& 85 := by decide +kernel
theorem mask2 : ∀ a : Fin 64, ∀ c : Fin 4, (a.val + 64 * c.val) &&& 51 = a.val &&& 51 := by decide +kernel

theorem S1_byte (a y M : Nat) (ha : a < 256) : (((a + 256 * y) >>> 1) &&& (85 + 256 * M)) + ((a + 256 * y) &&& (85 + 256 * M)) = s1 a + 256 * (((y >>> 1) &&& M) + (y &&& M)) := by
  have h1 : (a + 256 * y) >>> 1 = (a / 2 + 128 * (y % 2)) + 256 * (y / 2) := by rw [Nat.shiftRight_eq_div_pow]; omega
  rw [h1, and_byte _ _ _ _ (by omega) (by decide), and_byte _ _ _ _ ha (by decide)]
  have h2 := mask1 ⟨a / 2, by omega⟩ ⟨y % 2, by omega⟩
  simp only at h2
  rw [h2]
  unfold s1
  have h3 : a >>> 1 = a / 2 := by rw [Nat.shiftRight_eq_div_pow]
  have h4 : y >>> 1 = y / 2 := by rw [Nat.shiftRight_eq_div_pow]
  rw [h3, h4]
  omega
theorem S2_byte (a y M : Nat) (ha : a < 256) : (((a + 256 * y) >>> 2) &&& (51 + 256 * M)) + ((a + 256 * y) &&& (51 + 256 * M)) = s2 a + 256 * (((y >>> 2) &&& M) + (y &&& M)) := by
  have h1 : (a + 256 * y) >>> 2 = (a / 4 + 64 * (y % 4)) + 256 * (y / 4) := by rw [Nat.shiftRight_eq_div_pow]; omega
  rw [h1, and_byte _ _ _ _ (by omega) (by decide), and_byte _ _ _ _ ha (by decide)]
  have h2 := mask2 ⟨a / 4, by omega⟩ ⟨y % 4, by omega⟩
  simp only at h2
  rw [h2]
  unfold s2
  have h3 : a >>> 2 = a / 4 := by rw [Nat.shiftRight_eq_div_pow]
  have h4 : y >>> 2 = y / 4 := by rw [Nat.shiftRight_eq_div_pow]
  rw [h3, h4]
  omega
theorem S3_byte (a y M : Nat) (ha : a < 256) (h16 : a / 16 ≤ 4) (hl : a % 16 ≤ 4) (hy : y % 16 ≤ 4) : (((a + 256 * y) >>> 4) + (a + 256 * y)) &&& (15 + 256 * M) = (a / 16 + a) % 16 + 256 * (((y >>> 4) + y) &&& M) := by
  have h1 : ((a + 256 * y) >>> 4) + (a + 256 * y) = (a / 16 + 16 * (y % 16) + a) + 256 * (y / 16 + y) := by rw [Nat.shiftRight_eq_div_pow]; omega
  rw [h1, and_byte _ _ _ _ (by omega) (by decide), Go.nat_mask4]
  have h4 : y >>> 4 = y / 16 := by rw [Nat.shiftRight_eq_div_pow]
  rw [h4]
  omega

def stage1 (x : Nat) : Nat := ((x >>> 1) &&& 6148914691236517205) + (x &&& 6148914691236517205)
def stage2 (x : Nat) : Nat := ((x >>> 2) &&& 3689348814741910323) + (x &&& 3689348814741910323)
def stage3 (x : Nat) : Nat := ((x >>> 4) + x) &&& 1085102592571150095

theorem stages {b0 b1 b2 b3 : Nat} (h0 : b0 < 256) (h1 : b1 < 256) (h2 : b2 < 256) (h3 : b3 < 256) :
    stage1 (b0 + 256 * (b1 + 256 * (b2 + 256 * (b3 + 256 * 0)))) = s1 b0 + 256 * (s1 b1 + 256 * (s1 b2 + 256 * (s1 b3 + 256 * 0))) ∧
    stage2 (s1 b0 + 256 * (s1 b1 + 256 * (s1 b2 + 256 * (s1 b3 + 256 * 0)))) = t2 b0 + 256 * (t2 b1 + 256 * (t2 b2 + 256 * (t2 b3 + 256 * 0))) ∧
    stage3 (t2 b0 + 256 * (t2 b1 + 256 * (t2 b2 + 256 * (t2 b3 + 256 * 0)))) = p8 b0 + 256 * (p8 b1 + 256 * (p8 b2 + 256 * (p8 b3 + 256 * 0))) := by
  have f0 := bytes_fact ⟨b0, h0⟩
  have f1 := bytes_fact ⟨b1, h1⟩
  have f2 := bytes_fact ⟨b2, h2⟩
  have f3 := bytes_fact ⟨b3, h3⟩
  simp only at f0 f1 f2 f3
  refine ⟨?_, ?_, ?_⟩
  · unfold stage1
    rw [show (6148914691236517205 : Nat) = 85 + 256 * (85 + 256 * (85 + 256 * (85 + 256 * 1431655765))) from rfl]
    rw [S1_byte _ _ _ h0, S1_byte _ _ _ h1, S1_byte _ _ _ h2, S1_byte _ _ _ h3]
    simp
  · unfold stage2
    rw [show (3689348814741910323 : Nat) = 51 + 256 * (51 + 256 * (51 + 256 * (51 + 256 * 858993459))) from rfl]
    rw [S2_byte _ _ _ f0.1, S2_byte _ _ _ f1.1, S2_byte _ _ _ f2.1, S2_byte _ _ _ f3.1]
    simp [t2]
  · unfold stage3
    rw [show (1085102592571150095 : Nat) = 15 + 256 * (15 + 256 * (15 + 256 * (15 + 256 * 252645135))) from rfl]
    rw [S3_byte _ _ _ f0.2.2.2.1 f0.2.1 f0.2.2.1 (by omega), S3_byte _ _ _ f1.2.2.2.1 f1.2.1 f1.2.2.1 (by omega), S3_byte _ _ _ f2.2.2.2.1 f2.2.1 f2.2.2.1 (by omega), S3_byte _ _ _ f3.2.2.2.1 f3.2.1 f3.2.2.1 (by omega)]
    simp [p8]

/-- The last sums. -/
theorem sums {p0 p1 p2 p3 y z v : Nat} (h0 : p0 ≤ 8) (h1 : p1 ≤ 8) (h2 : p2 ≤ 8) (h3 : p3 ≤ 8) (hy : y = p0 + 256 * (p1 + 256 * (p2 + 256 * (p3 + 256 * 0)))) (hz : z = y + y / 256) (hv : v = z + z / 65536) :
    (v + v / 4294967296) % 128 = p0 + p1 + p2 + p3 ∧ y < 4294967296 ∧ z < 4294967296 ∧ v < 4294967296 := by
  have e1 : y / 256 = p1 + 256 * p2 + 65536 * p3 := by omega
  have e2 : z = (p0 + p1) + 256 * (p1 + p2) + 65536 * (p2 + p3) + 16777216 * p3 := by omega
  have e3 : z / 65536 = (p2 + p3) + 256 * p3 := by omega
  have e4 : v = (p0 + p1 + p2 + p3) + 256 * (p1 + p2 + p3) + 65536 * (p2 + p3) + 16777216 * p3 := by omega
  have e5 : v / 4294967296 = 0 := by omega
  rw [e5]
  omega

/-- What is counted, of a number below 2 ^ 32. -/
theorem pop_all {x : Nat} (hx : x < 4294967296) : ∃ p0 p1 p2 p3, p0 ≤ 8 ∧ p1 ≤ 8 ∧ p2 ≤ 8 ∧ p3 ≤ 8 ∧ stage3 (stage2 (stage1 x)) = p0 + 256 * (p1 + 256 * (p2 + 256 * (p3 + 256 * 0))) ∧ popN 32 x = p0 + p1 + p2 + p3 ∧ stage1 x < 4294967296 ∧ stage2 (stage1 x) < 4294967296 := by
  obtain ⟨b0, b1, b2, b3, h0, h1, h2, h3, rfl⟩ : ∃ b0 b1 b2 b3, b0 < 256 ∧ b1 < 256 ∧ b2 < 256 ∧ b3 < 256 ∧ x = b0 + 256 * (b1 + 256 * (b2 + 256 * (b3 + 256 * 0))) :=
    ⟨x % 256, x / 256 % 256, x / 65536 % 256, x / 16777216, by omega, by omega, by omega, by omega, by omega⟩
  obtain ⟨e1, e2, e3⟩ := stages h0 h1 h2 h3
  have f0 := bytes_fact ⟨b0, h0⟩
  have f1 := bytes_fact ⟨b1, h1⟩
  have f2 := bytes_fact ⟨b2, h2⟩
  have f3 := bytes_fact ⟨b3, h3⟩
  simp only at f0 f1 f2 f3
  refine ⟨p8 b0, p8 b1, p8 b2, p8 b3, f0.2.2.2.2.2, f1.2.2.2.2.2, f2.2.2.2.2.2, f3.2.2.2.2.2, by rw [e1, e2, e3], ?_, by rw [e1]; omega, by rw [e1, e2]; omega⟩
  rw [show (32 : Nat) = 8 + (8 + (8 + (8 + 0))) from rfl, popN_byte _ _ h0, popN_byte _ _ h1, popN_byte _ _ h2, popN_byte _ _ h3, f0.2.2.2.2.1, f1.2.2.2.2.1, f2.2.2.2.2.1, f3.2.2.2.2.1]
  simp only [popN]
  omega

end Go.Proofs.Ytfdaifmfecfchaa

namespace Go.Proofs.Ytfdaifmfecfchaa
open Go.RowKit

def ValDom (d : List Int) : Prop := 1 ≤ d.length ∧ d.length ≤ 8 ∧ ∀ k, k < d.length → inB 0 31 (d.getD k 0) = true ∧ (0 < k → d.getD (k - 1) 0 < d.getD k 0)
def ValD (zss : List (List Int)) : Prop := 1 ≤ zss.length ∧ zss.length ≤ 6 ∧ ∀ i, i < zss.length → ValDom (zss.getD i [])
open Classical in
noncomputable def validD (zss : List (List Int)) : Bool := decide (ValD zss)
theorem validD_true {zss : List (List Int)} (h : ValD zss) : validD zss = true := by simp [validD, h]
theorem validD_false {zss : List (List Int)} (h : ¬ ValD zss) : validD zss = false := by simp [validD, h]

end Go.Proofs.Ytfdaifmfecfchaa

namespace Go.Proofs.Ytfdaifmfecfchaa
open Go.RowKit

end Go.Proofs.Ytfdaifmfecfchaa

namespace Go.Proofs.Ytfdaifmfecfchaa
open Go.RowKit

theorem ValDom_iff (d : List Int) : ValDom d ↔ (1 ≤ d.length ∧ d.length ≤ 8) ∧ Rising d ∧ allIn 0 31 d = true := by
  rw [allIn_iff]
  constructor
  · rintro ⟨h1, h2, h3⟩
    exact ⟨⟨h1, h2⟩, fun i hi h0 => (h3 i hi).2 h0, fun i hi => (h3 i hi).1⟩
  · rintro ⟨⟨h1, h2⟩, h3, h4⟩
    exact ⟨h1, h2, fun i hi => ⟨h4 i hi, h3 i hi⟩⟩

end Go.Proofs.Ytfdaifmfecfchaa

namespace Go.Proofs.Ytfdaifmfecfchaa

theorem popN_filter (x : Nat) : ∀ n, popN n x = ((List.range n).filter x.testBit).length
  | 0 => rfl
  | n + 1 => by
    rw [List.range_succ, List.filter_append, List.length_append, popN, popN_filter x n]
    cases h : x.testBit n <;> simp [h] <;> omega
/-- The digits 1. -/
def dig (s : Nat) : List Nat := (List.range 63).filter s.testBit
theorem dig_of {s i : Nat} (hs : s < 2 ^ i) (hi : i ≤ 63) : (List.range i).filter s.testBit = dig s := by
  unfold dig
  rw [show (63 : Nat) = i + (63 - i) by omega, List.range_add, List.filter_append]
  have : ((List.range (63 - i)).map (i + ·)).filter s.testBit = [] := by
    rw [List.filter_eq_nil_iff]
    intro a ha
    obtain ⟨b, _, rfl⟩ := List.mem_map.1 ha
    have : s.testBit (i + b) = false := Nat.testBit_lt_two_pow (Nat.lt_of_lt_of_le hs (Nat.pow_le_pow_right (by decide) (by omega)))
    simp [this]
  rw [this, List.append_nil]
theorem dig_len {s : Nat} (hs : s < 4294967296) : (dig s).length = popN 32 s := by
  rw [popN_filter, dig_of (i := 32) hs (by decide)]

def addN (l : List Int) (n : Int) : List Int := if hasB l n then l else l ++ [n]
/-- The numbers of some domains. -/
def uni (D : List (List Int)) (ds : List Nat) : List Int := ds.foldl (fun l i => (D.getD i []).foldl addN l) []
def tight (D : List (List Int)) (s : Nat) : Bool := (dig s).length == (uni D (dig s)).length
def tightL (D : List (List Int)) (m : Nat) : List Int := ((List.range m).filter (tight D)).map fun (k : Nat) => (k : Int)
theorem tightL_yes {D : List (List Int)} {m : Nat} (h : tight D m = true) : tightL D (m + 1) = tightL D m ++ [(m : Int)] := by
  simp [tightL, List.range_succ, h]
theorem tightL_no {D : List (List Int)} {m : Nat} (h : tight D m = false) : tightL D (m + 1) = tightL D m := by
  simp [tightL, List.range_succ, h]
theorem tightL_len (D : List (List Int)) (m : Nat) : (tightL D m).length ≤ m := by
  have := List.length_filter_le (tight D) (List.range m)
  simpa [tightL] using this

/-- The domains that are walked, of the first i, and k numbers of the next one. -/
def uniP (D : List (List Int)) (ds : List Nat) (i k : Nat) : List Int := ((D.getD i []).take k).foldl addN (uni D ds)
theorem uniP_zero (D : List (List Int)) (ds : List Nat) (i : Nat) : uniP D ds i 0 = uni D ds := by simp [uniP]
theorem uniP_succ (D : List (List Int)) (ds : List Nat) (i k : Nat) (h : k < (D.getD i []).length) : uniP D ds i (k + 1) = addN (uniP D ds i k) ((D.getD i []).getD k 0) := by
  unfold uniP
  rw [List.take_add_one, List.foldl_append]
  generalize D.getD i [] = d at h ⊢
  simp [h]
theorem uniP_all (D : List (List Int)) (ds : List Nat) (i : Nat) : uniP D ds i (D.getD i []).length = uni D (ds ++ [i]) := by
  unfold uniP uni
  rw [List.take_length, List.foldl_append]
  rfl
theorem addN_len (l : List Int) (n : Int) : (addN l n).length ≤ l.length + 1 := by
  unfold addN; split <;> simp

/-- A number's binary digits 1 are a list. -/
structure Mask (m : Nat) (l : List Int) : Prop where
  lt : m < 4294967296
  bit : ∀ b, b < 32 → m.testBit b = hasB l (b : Int)
  len : popN 32 m = l.length
theorem Mask.nil : Mask 0 [] := ⟨by decide, by intro b _; simp [hasB], popN_zero 32⟩
theorem hasB_append (l : List Int) (n x : Int) : hasB (l ++ [n]) x = (hasB l x || x == n) := by
  unfold hasB; rw [Bool.eq_iff_iff]; simp
theorem Mask.add {m : Nat} {l : List Int} (h : Mask m l) {n : Nat} (hn : n < 32) : Mask (m ||| 2 ^ n) (addN l (n : Int)) := by
  have hb := h.bit n hn
  have h32 : (2 : Nat) ^ n < 2 ^ 32 := Nat.pow_lt_pow_right (by decide) hn
  refine ⟨?_, ?_, ?_⟩
  · have h1 : m < 2 ^ 32 := h.lt
    exact Nat.or_lt_two_pow h1 h32
  · intro b hb2
    rw [Nat.testBit_or, Nat.testBit_two_pow, h.bit b hb2]
    unfold addN
    split
    · next hh =>
      by_cases e : n = b
      · subst e; rw [hh]; simp
      · simp [e]
    · rw [hasB_append]
      congr 1
      rw [Bool.eq_iff_iff]; simp; omega
  · rw [popN_or, h.len, hb]
    unfold addN
    split
    · next hh => rw [hh]; simp
    · next hh => rw [Bool.not_eq_true] at hh; rw [hh]; simp [hn]

end Go.Proofs.Ytfdaifmfecfchaa

namespace Go.Proofs.Ytfdaifmfecfchaa
open Go.RowKit

def digI (n i : Nat) : List Int := ((List.range i).filter n.testBit).map fun (k : Nat) => (k : Int)
theorem digI_yes {n i : Nat} (h : n.testBit i = true) : digI n (i + 1) = digI n i ++ [(i : Int)] := by simp [digI, List.range_succ, h]
theorem digI_no {n i : Nat} (h : n.testBit i = false) : digI n (i + 1) = digI n i := by simp [digI, List.range_succ, h]
theorem digI_len (n i : Nat) : (digI n i).length ≤ i := by
  have := List.length_filter_le n.testBit (List.range i)
  simpa [digI] using this
theorem shr_cast (n i : Nat) : (n : Int) / 2 ^ i = ((n >>> i : Nat) : Int) := by
  rw [Nat.shiftRight_eq_div_pow]; push_cast; rfl
theorem ofInt_i64 (a : Nat) (ha : a < 9223372036854775808) : (BitVec.ofInt 64 (a : Int)).toNat = a := by
  rw [BitVec.ofInt_natCast, BitVec.toNat_ofNat]; exact Nat.mod_eq_of_lt (by omega)
theorem i64_and_nat (a b : Nat) (ha : a < 9223372036854775808) (hb : b < 9223372036854775808) : bits .and .i64 (a : Int) (b : Int) = ((a &&& b : Nat) : Int) := by
  have hx : a &&& b < 2 ^ 63 := Nat.and_lt_two_pow _ (by omega)
  show IntKind.i64.wrap ((BitVec.ofInt 64 (a : Int) &&& BitVec.ofInt 64 (b : Int)).toNat : Int) = _
  rw [BitVec.toNat_and, ofInt_i64 a ha, ofInt_i64 b hb, IntKind.wrap_i64]
  omega
theorem i64_or_nat (a b : Nat) (ha : a < 9223372036854775808) (hb : b < 9223372036854775808) : bits .or .i64 (a : Int) (b : Int) = ((a ||| b : Nat) : Int) := by
  have hx : a ||| b < 2 ^ 63 := Nat.or_lt_two_pow (by omega) (by omega)
  show IntKind.i64.wrap ((BitVec.ofInt 64 (a : Int) ||| BitVec.ofInt 64 (b : Int)).toNat : Int) = _
  rw [BitVec.toNat_or, ofInt_i64 a ha, ofInt_i64 b hb, IntKind.wrap_i64]
  omega
theorem bit_of (n i : Nat) : (n >>> i) &&& 1 = (n.testBit i).toNat := by
  rw [Nat.and_one_is_mod, Nat.testBit_eq_decide_div_mod_eq, Nat.shiftRight_eq_div_pow]
  by_cases h : n / 2 ^ i % 2 = 1
  · simp [h]
  · have : n / 2 ^ i % 2 = 0 := by omega
    simp [this]

set_option maxHeartbeats 1000000 in
theorem digits_any (n : Nat) (hn : n < 64) (w : World) :
    Calls Try.prog 48 #[.int .i64 n] w fun e w' => ∃ v', e = .returned v' ∧ OwnI w.heap.size w'.heap.size w' v' ((dig n).map fun (k : Nat) => (k : Int)) ∧ Below w.heap.size w w' := by
  go_enter Try.func48, Try.ntmps48
  go_wp2_with fail
  go_loopw [3, 4] (fun out kk wr => ∃ (i : Nat) (b : Option Addr) (cap : Nat), kk = .int .i64 i ∧ i ≤ 6 ∧ out = .slice b (digI n i).length cap ∧ wr.ownsRow w.heap.size 2 1 (.slice b (digI n i).length cap) (digI n i).length ((digI n i).map I64) ∧ Below w.heap.size w wr) (fun _ kk _ => 7 - (intOf kk).toNat)
  case atStart => exact ⟨0, none, 0, rfl, by omega, rfl, World.ownsRow_nil _ _ _ _, Below.refl _ _⟩
  case round =>
    obtain ⟨i, b, cap, rfl, hi, rfl, hown, hbl⟩ := hrel
    have HO := Lib.hid hown
    have HB := Lib.hid hbl
    have hd := shr_cast n i
    have hbit := bit_of n i
    obtain ⟨Q, hQ⟩ : ∃ Q, Q = n >>> i := ⟨_, rfl⟩
    rw [← hQ] at hd hbit
    have hQ64 : Q < 64 := by rw [hQ]; exact Nat.lt_of_le_of_lt (Nat.shiftRight_le n i) hn
    have hand := i64_and_nat Q 1 (by omega) (by decide)
    rw [hbit] at hand
    have HQ := Lib.hid hQ
    have hlen := digI_len n i
    clear hown hbl hQ hbit
    by_cases hz : 0 < Q
    · have hi6 : i < 6 := by
        by_cases h : i < 6
        · exact h
        · obtain rfl : i = 6 := by omega
          have := HQ.out
          rw [Nat.shiftRight_eq_div_pow] at this
          omega
      by_cases ht : n.testBit i = true
      · rw [ht] at hand
        have HE := Lib.hid (digI_yes ht)
        obtain ⟨ks, hks⟩ : ∃ ks, ks = digI n i := ⟨_, rfl⟩
        rw [← hks] at HO HE hlen ⊢
        have hsz := HB.out.size
        clear ht hks
        have hand2 : bits .and .i64 (Q : Int) 1 = 1 := by simpa using hand
        clear hand
        go_wp2_with (at_builtin; refine app_ints rfl _ _ rfl w.heap.size (.slice b ks.length cap) ks.length ks rfl (HO.out.alloc _) _ [(i : Int)] rfl (slc_one _ _) (ks.length + 1) (ks ++ [(i : Int)]) (by simp) rfl (by omega) (by simp; omega) ?_; intro b2 cap2 w3 hown2 hbl2 _ _)
        go_roundw
        case rel => exact ⟨i + 1, b2, cap2, by go_num, by omega, by rw [HE.out, List.length_append]; rfl, by rw [HE.out, List.length_append]; exact hown2, HB.out.trans (((Below.refl _ _).alloc hsz _).trans hbl2)⟩
        case measure => simp [intOf]; omega
      · rw [Bool.not_eq_true] at ht
        rw [ht] at hand
        have HE := Lib.hid (digI_no ht)
        clear ht
        have hand2 : bits .and .i64 (Q : Int) 1 = 0 := by simpa using hand
        clear hand
        go_wp2_with fail
        go_roundw
        case rel => exact ⟨i + 1, b, cap, by go_num, by omega, by rw [HE.out], by rw [HE.out]; exact HO.out, HB.out⟩
        case measure => simp [intOf]; omega
    · have hQ0 : Q = 0 := by omega
      have HD := Lib.hid (show digI n i = (dig n).map fun (k : Nat) => (k : Int) by
        unfold digI
        rw [dig_of ?_ (by omega)]
        have h1 := HQ.out
        rw [hQ0, Nat.shiftRight_eq_div_pow] at h1
        have h2 : 0 < 2 ^ i := Nat.two_pow_pos i
        rcases Nat.div_eq_zero_iff.1 h1.symm with h3 | h3
        · omega
        · exact h3)
      clear hz
      go_wp2_with fail
      go_ret
      exact ⟨_, rfl, by rw [← HD.out]; exact OwnI.mk HO.out, HB.out⟩

theorem u64_shr_cast (n i : Nat) : (n : Int) / 2 ^ i = ((n >>> i : Nat) : Int) := shr_cast n i

theorem wrap64_nat {n : Nat} (h : n < 18446744073709551616) : IntKind.u64.wrap (n : Int) = (n : Int) := IntWalk.u64_in _ (by omega)
theorem and64 (a b : Nat) (ha : a < 18446744073709551616) (hb : b < 18446744073709551616) : bits .and .u64 (a : Int) (b : Int) = ((a &&& b : Nat) : Int) := u64_and_nat a b ha hb

end Go.Proofs.Ytfdaifmfecfchaa

namespace Go.Proofs.Ytfdaifmfecfchaa
open Go.RowKit Go.ChangeShapes

/-- The source in block sb: it has been read at most c times. -/
def SrcAt (w : World) (sb : Nat) (v : Value) (c : Nat) : Prop := ∃ a S : Nat, a ≤ c ∧ S < 18446744073709551616 ∧ Blk w sb 100 #[v, .int .i64 a, .int .u64 S]

theorem SrcAt.below {w w' : World} {sb : Nat} {v : Value} {c B : Nat} (h : SrcAt w sb v c) (hb : Below B w w') (hB : sb < B) : SrcAt w' sb v c := by
  obtain ⟨a, S, h1, h2, h3⟩ := h; exact ⟨a, S, h1, h2, h3.below hb hB⟩
theorem SrcAt.lt {w : World} {sb : Nat} {v : Value} {c : Nat} (h : SrcAt w sb v c) : sb < w.heap.size := by obtain ⟨a, S, h1, h2, h3⟩ := h; exact h3.lt
theorem SrcAt.mono {w : World} {sb : Nat} {v : Value} {c d : Nat} (h : SrcAt w sb v c) (hc : c ≤ d) : SrcAt w sb v d := by obtain ⟨a, S, h1, h2, h3⟩ := h; exact ⟨a, S, by omega, h2, h3⟩
theorem SrcAt.kept {S : Nat → Prop} {w w' : World} {sb : Nat} {v : Value} {c : Nat} (h : SrcAt w sb v c) (hk : Kept S w w') (hs : ¬ S sb) : SrcAt w' sb v c := by obtain ⟨a, S, h1, h2, h3⟩ := h; exact ⟨a, S, h1, h2, h3.kept hk hs⟩

/-- A draw: the answer lies in its bounds. -/
def DrawE (sb : Nat) (v : Value) (c : Nat) (n : Int) (w : World) (e : Ending) (w' : World) : Prop :=
  ∃ x : Int, 0 ≤ x ∧ x < n ∧ e = .returned (.int .i64 x) ∧ SrcAt w' sb v c ∧ Kept (· = sb) w w'

theorem shr40 (S : Nat) (h : S < 18446744073709551616) : ∃ x : Nat, x < 256 ∧ bits .and .u64 ((S : Int) / 1099511627776) 255 = (x : Int) := by
  refine ⟨(S >>> 40) &&& 255, ?_, ?_⟩
  · rw [show (255 : Nat) = 2 ^ 8 - 1 from rfl, Nat.and_two_pow_sub_one_eq_mod]; omega
  · have a1 : ((S : Int) / (1099511627776 : Int)) = ((S >>> 40 : Nat) : Int) := by rw [Nat.shiftRight_eq_div_pow]; rfl
    have l1 : S >>> 40 < 18446744073709551616 := Nat.lt_of_le_of_lt (Nat.shiftRight_le S 40) h
    rw [a1, show (255 : Int) = ((255 : Nat) : Int) from rfl, and64 _ _ l1 (by decide)]


theorem src_set {w : World} {sb : Nat} {v : Value} {a a' S : Nat} {e : Int} (h : Blk w sb 100 #[v, .int .i64 a, .int .u64 S]) :
    ∃ T : Nat, T < 18446744073709551616 ∧ Blk ((w.setCell ⟨sb, 1, none⟩ (.int .i64 a')).setCell ⟨sb, 2, none⟩ (.int .u64 (IntKind.u64.wrap e))) sb 100 #[v, .int .i64 a', .int .u64 T] := by
  have hw := bounds_u64 (wf_wrap .u64 e)
  refine ⟨(IntKind.u64.wrap e).toNat, by omega, ?_⟩
  have h1 := (h.set 1 (.int .i64 a')).set 2 (.int .u64 (IntKind.u64.wrap e))
  have e1 : (((IntKind.u64.wrap e).toNat : Nat) : Int) = IntKind.u64.wrap e := by omega
  rw [e1]
  simpa using h1

set_option maxHeartbeats 1000000 in
set_option maxRecDepth 4000 in
theorem next_any (W0 : World) (v : Value) (xs : List Int) (hR : RdB W0 v xs) (hw : WfB xs) (sb c : Nat) (w : World) (hb : Below W0.heap.size W0 w) (h : SrcAt w sb v c) (hc : c ≤ 1000000) :
    Calls Try.prog 75 #[.pointer (some ⟨sb, 0, none⟩)] w (DrawE sb v (c + 1) 256 w) := by
  obtain ⟨a, S, ha, hS, hk⟩ := h
  obtain ⟨ad, cap, rfl⟩ := hR.shape
  have hlen := hR.len
  unfold maxLen at hlen
  have d0 : w.cell? ⟨sb, 0, none⟩ = some (.slice ad xs.length cap) := hk.cell 0 rfl
  have d1 : w.cell? ⟨sb, 1, none⟩ = some (.int .i64 a) := hk.cell 1 rfl
  have d2 : w.cell? ⟨sb, 2, none⟩ = some (.int .u64 S) := hk.cell 2 rfl
  have f1 := hk.free 1
  have f2 := hk.free 2
  have HK := Lib.hid hk
  have HR := Lib.hid (hR.up hb (Nat.le_refl _))
  have HS := Lib.hid hS
  clear hR hk hb hS
  by_cases hl : a < xs.length
  · obtain ⟨b, off, rfl, _, hcell⟩ := HR.out.at hl
    obtain ⟨hx0, hx1⟩ := hw.at hl
    obtain ⟨x, hx⟩ : ∃ x, x = xs.getD a 0 := ⟨_, rfl⟩
    rw [← hx] at hcell hx0 hx1
    clear hx hw
    have k1 : (a : Int) < (xs.length : Int) := by omega
    have k2 : (a : Int) + 1 ≤ (xs.length : Int) := by omega
    go_enter Try.func75, Try.ntmps75
    go_wp2_with fail
    go_quiet (fail)
    go_wp2_with fail
    go_quiet (fail)
    go_upto_region 6 with fail
    refine wp_at fun W hW => ?_
    have HW : Hid (∃ T : Nat, T < 18446744073709551616 ∧ Blk W sb 100 #[.slice (some ⟨b, off, none⟩) xs.length cap, .int .i64 ((a + 1 : Nat) : Int), .int .u64 T]) := by subst hW; exact src_set (w := w.drewN _) HK.out
    have HKP := Lib.hid (show Kept (· = sb) w W by subst hW; exact (((Kept.refl (· = sb) w).drewN _).setCell (.inr rfl) _).setCell (.inr rfl) _)
    clear hW d0 d1 d2 f1 f2 hcell
    obtain ⟨T, hT, hB⟩ := HW.out
    have d0 : W.cell? ⟨sb, 0, none⟩ = some (.slice (some ⟨b, off, none⟩) xs.length cap) := hB.cell 0 rfl
    have d1 : W.cell? ⟨sb, 1, none⟩ = some (.int .i64 ((a + 1 : Nat) : Int)) := hB.cell 1 rfl
    have HT := Lib.hid hT
    have HB := Lib.hid hB
    have k3 : ((a + 1 : Nat) : Int) ≤ (xs.length : Int) := by omega
    clear hT hB
    go_quiet (fail)
    go_wp2_with fail
    go_ret
    exact ⟨x, hx0, by omega, rfl, ⟨a + 1, T, by omega, HT.out, HB.out⟩, HKP.out.drewN _⟩
  · have k1 : ¬ (a : Int) < (xs.length : Int) := by omega
    have k2 : (xs.length : Int) ≤ (a : Int) := by omega
    clear hl
    go_enter Try.func75, Try.ntmps75
    go_wp2_with fail
    go_quiet (fail)
    go_upto_region 6 with fail
    refine wp_at fun W hW => ?_
    have HW : Hid (∃ T : Nat, T < 18446744073709551616 ∧ Blk W sb 100 #[.slice ad xs.length cap, .int .i64 ((a + 1 : Nat) : Int), .int .u64 T]) := by subst hW; exact src_set (w := w.drewN _) HK.out
    have HKP := Lib.hid (show Kept (· = sb) w W by subst hW; exact (((Kept.refl (· = sb) w).drewN _).setCell (.inr rfl) _).setCell (.inr rfl) _)
    clear hW d0 d1 d2 f1 f2
    obtain ⟨T, hT, hB⟩ := HW.out
    have d0 : W.cell? ⟨sb, 0, none⟩ = some (.slice ad xs.length cap) := hB.cell 0 rfl
    have d1 : W.cell? ⟨sb, 1, none⟩ = some (.int .i64 ((a + 1 : Nat) : Int)) := hB.cell 1 rfl
    have d2 : W.cell? ⟨sb, 2, none⟩ = some (.int .u64 T) := hB.cell 2 rfl
    obtain ⟨x, hx1, hx2⟩ := shr40 T hT
    have HT := Lib.hid hT
    have HB := Lib.hid hB
    have k3 : (xs.length : Int) < ((a + 1 : Nat) : Int) := by omega
    clear hT hB
    go_quiet (fail)
    go_wp2_with fail
    go_ret
    exact ⟨x, by omega, by omega, rfl, ⟨a + 1, T, by omega, HT.out, HB.out⟩, HKP.out.drewN _⟩

set_option maxHeartbeats 1000000 in
theorem pick_any (W0 : World) (v : Value) (xs : List Int) (hR : RdB W0 v xs) (hw : WfB xs) (sb c : Nat) (w : World) (hsb : W0.heap.size ≤ sb) (hb : Below W0.heap.size W0 w) (h : SrcAt w sb v c) (hc : c ≤ 999990) (n : Int) (h1 : 1 ≤ n) (h2 : n ≤ 65536) :
    Calls Try.prog 38 #[.pointer (some ⟨sb, 0, none⟩), .int .i64 n] w (DrawE sb v (c + 2) n w) := by
  have HR := Lib.hid hR
  have HW := Lib.hid hw
  have HB := Lib.hid hb
  have HS := Lib.hid h
  clear hR hw hb h
  by_cases hn : n ≤ 1
  · go_enter Try.func38, Try.ntmps38
    go_wp2_with fail
    go_ret
    exact ⟨0, by omega, by omega, rfl, HS.out.mono (by omega), Kept.refl _ _⟩
  by_cases hm : n ≤ 200
  · go_enter Try.func38, Try.ntmps38
    go_wp2_with fail
    refine (next_any W0 v xs HR.out HW.out sb c w HB.out HS.out (by omega)).mono ?_
    rintro e w1 ⟨x, hx0, hx1, rfl, hs, hk⟩
    have HS1 := Lib.hid hs
    have HK1 := Lib.hid hk
    clear hs hk
    go_wp2_with fail
    go_ret
    exact ⟨x % n, Int.emod_nonneg _ (by omega), Int.emod_lt_of_pos _ (by omega), rfl, HS1.out.mono (by omega), HK1.out⟩
  · go_enter Try.func38, Try.ntmps38
    go_wp2_with fail
    refine (next_any W0 v xs HR.out HW.out sb c w HB.out HS.out (by omega)).mono ?_
    rintro e w1 ⟨x, hx0, hx1, rfl, hs, hk⟩
    have HS1 := Lib.hid hs
    have HK1 := Lib.hid hk
    have HB1 := Lib.hid (HB.out.trans (hk.toBelow HB.out.size (by intro k h1 h2; omega)))
    clear hs hk
    go_wp2_with fail
    refine (next_any W0 v xs HR.out HW.out sb (c + 1) w1 HB1.out HS1.out (by omega)).mono ?_
    rintro e w2 ⟨y, hy0, hy1, rfl, hs, hk⟩
    have HS2 := Lib.hid hs
    have HK2 := Lib.hid hk
    clear hs hk
    go_wp2_with fail
    go_ret
    exact ⟨(x * 256 + y) % n, Int.emod_nonneg _ (by omega), Int.emod_lt_of_pos _ (by omega), rfl, HS2.out.mono (by omega), HK1.out.trans HK2.out⟩

set_option maxHeartbeats 400000 in
theorem l00From_any (v : Value) (xs : List Int) (w : World) (hR : RdB w v xs) :
    Calls Try.prog 36 #[v] w fun e w' => e = .returned (.pointer (some ⟨w.heap.size, 0, none⟩)) ∧ SrcAt w' w.heap.size v 0 ∧ Below w.heap.size w w' := by
  obtain ⟨ad, cap, rfl⟩ := hR.shape
  clear hR
  go_enter Try.func36, Try.ntmps36
  go_wp2_with fail
  go_ret
  exact ⟨rfl, ⟨0, 0, Nat.le_refl _, by decide, Blk.new _ _ _⟩, by (repeat' first | exact Below.refl _ _ | assumption | refine Below.alloc ?_ ?_ _ | refine Below.setCell ?_ ?_ _ | refine Below.drew ?_ | (simp; done) | (simp; omega))⟩

end Go.Proofs.Ytfdaifmfecfchaa

namespace Go.Proofs.Ytfdaifmfecfchaa
open Go.RowKit

/-! ### the laws' choice of a number -/
def isLong8 (a b : List Int) : Bool := decide (48 < (a.length : Int)) || decide (48 < (b.length : Int))
theorem r8Long_any (v v' : Value) (xs ys : List Int) (w : World) (h : RdB w v xs) (h' : RdB w v' ys) :
    Calls Try.prog 6 #[v, v'] w fun e w' => e = .returned (.bool (isLong8 xs ys)) ∧ w = w' := by
  obtain ⟨a, c, rfl⟩ := h.shape
  obtain ⟨a', c', rfl⟩ := h'.shape
  clear h h'
  by_cases h1 : 48 < (xs.length : Int)
  · go_enter Try.func6, Try.ntmps6
    go_wp2_with fail
    go_ret
    exact ⟨by simp [isLong8, h1], rfl⟩
  · go_enter Try.func6, Try.ntmps6
    go_wp2_with fail
    go_ret
    exact ⟨by congr 2; simp [isLong8, h1]; omega, rfl⟩
set_option maxHeartbeats 400000 in
theorem r8At_any (v : Value) (xs : List Int) (i n : Int) (w : World) (h : RdB w v xs) (hw : WfB xs) (h0 : 0 ≤ i) (h1 : i ≤ 1000000) (n1 : 1 ≤ n) (n2 : n ≤ 1000) :
    Calls Try.prog 7 #[v, .int .i64 i, .int .i64 n] w (PickE n w) := by
  obtain ⟨a, c, rfl⟩ := h.shape
  by_cases hn : n ≤ 1
  · clear h
    go_enter Try.func7, Try.ntmps7
    go_wp2_with fail
    go_ret
    exact ⟨0, by omega, by omega, rfl, rfl⟩
  · by_cases hl : i < (xs.length : Int)
    · obtain ⟨k, rfl⟩ := Int.eq_ofNat_of_zero_le h0
      have hk : k < xs.length := by omega
      obtain ⟨b, off, rfl, _, hc⟩ := h.at hk
      obtain ⟨hx0, hx1⟩ := hw.at hk
      obtain ⟨x, hx⟩ : ∃ x, x = xs.getD k 0 := ⟨_, rfl⟩
      rw [← hx] at hc hx0 hx1
      have hle := h.len
      unfold maxLen at hle
      clear hx h hw
      go_enter Try.func7, Try.ntmps7
      go_wp2_with fail
      go_ret
      exact ⟨x % n, Int.emod_nonneg _ (by omega), Int.emod_lt_of_pos _ (by omega), rfl, rfl⟩
    · clear h
      go_enter Try.func7, Try.ntmps7
      go_wp2_with fail
      go_ret
      exact ⟨0, by omega, by omega, rfl, rfl⟩

end Go.Proofs.Ytfdaifmfecfchaa
