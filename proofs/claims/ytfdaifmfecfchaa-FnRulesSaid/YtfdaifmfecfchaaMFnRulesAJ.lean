/-
  FnRules: texts joined: RuI, Bytes, Pop, Has, Dom, Rising, DomO, TightM, Digits, Src.
-/
import Derived.ProofKit
import Derived.OpenShut
import Derived.Laws.BitsAllLaws
import Derived.Deep.Cut
import Derived.Test.YtfdaifmfecfchaaMFnRulesAA
import Derived.Test.YtfdaifmfecfchaaMFnRulesAB
import Derived.Test.YtfdaifmfecfchaaMFnRulesAE
import Derived.Test.YtfdaifmfecfchaaMFnRulesAF
import Derived.Test.YtfdaifmfecfchaaMFnRulesAI
namespace Go.Proofs.Ytfdaifmfecfchaa
open Go.RowKit Go.Sort

/-- Whether asks are asks. -/
def asksB (xs : List Int) : Bool := inB 1 64 xs.length && allIn 0 63 xs
theorem areAsks_any (v : Value) (xs : List Int) (w : World) (h : RdI w v xs) :
    Calls Try.prog 58 #[v] w fun e w' => e = .returned (.bool (asksB xs)) ∧ w = w' := by
  obtain ⟨a, c, rfl⟩ := h.shape
  have hl := h.len
  have HW := Lib.hid (allWithin_any _ xs 0 63 w h)
  have HS := Lib.hid (size_any xs.length w hl)
  have HI := Lib.hid (within_any (xs.length : Int) 1 64 w)
  have HQ := Lib.hid (show asksB xs = (inB 1 64 xs.length && allIn 0 63 xs) from rfl)
  obtain ⟨p, hp⟩ : ∃ p, p = inB 1 64 xs.length := ⟨_, rfl⟩
  obtain ⟨q, hq⟩ : ∃ p, p = allIn 0 63 xs := ⟨_, rfl⟩
  rw [← hp] at HI HQ
  rw [← hq] at HW HQ
  clear h hp hq hl
  cases p
  all_goals
    go_enter Try.func58, Try.ntmps58
    go_wp2_with (first
      | (go_at_call 47; refine HS.out.mono ?_; rintro e w' ⟨rfl, rfl⟩)
      | (go_at_call 55; refine HI.out.mono ?_; rintro e w' ⟨rfl, rfl⟩)
      | (go_at_call 56; refine HW.out.mono ?_; rintro e w' ⟨rfl, rfl⟩)
      | fail)
    go_ret
    exact ⟨by rw [HQ.out]; rfl, rfl⟩

set_option maxHeartbeats 1000000 in
set_option maxRecDepth 4000 in
/-- The index of the number that is asked for again latest. -/
theorem latest_any (v u : Value) (S R : List Int) (w : World) (h : RdI w v S) (hu : RdI w u R) (hS : S.length ≤ 64) (hR : R.length ≤ 64) :
    Calls Try.prog 60 #[v, u] w fun e w' => e = .returned (.int .i64 (latK S R S.length).1) ∧ w = w' := by
  obtain ⟨a, c, rfl⟩ := h.shape
  obtain ⟨b, d, rfl⟩ := hu.shape
  have HS := Lib.hid h
  have HU := Lib.hid hu
  have HX := Lib.hid (fun x => index_any (.slice b R.length d) R x w hu (by omega))
  have HIL := Lib.hid (fun x : Int => show R.idxOf x ≤ R.length from List.idxOf_le_length)
  have HIN := Lib.hid (fun x : Int => show x ∈ R ↔ R.idxOf x < R.length from List.idxOf_lt_length_iff.symm)
  have HK := Lib.hid (latK_is S R)
  have HSU := Lib.hid (fun k => show latK S R (k + 1) = if (latK S R k).2 < (R.idxOf (S.getD k 0) : Nat) ∨ ((R.idxOf (S.getD k 0) : Nat) : Int) = (latK S R k).2 ∧ S.getD k 0 < S.getD (latK S R k).1.toNat 0
      then (((k : Nat) : Int), ((R.idxOf (S.getD k 0) : Nat) : Int)) else latK S R k from rfl)
  have HZ := Lib.hid (show latK S R 0 = (-1, -1) from rfl)
  obtain ⟨T, hT⟩ : ∃ T, T = latK S R := ⟨_, rfl⟩
  rw [← hT] at HK HSU HZ ⊢
  obtain ⟨n, hn⟩ : ∃ n, n = S.length := ⟨_, rfl⟩
  obtain ⟨m, hm⟩ : ∃ m, m = R.length := ⟨_, rfl⟩
  have HN := Lib.hid hn.symm
  have HM := Lib.hid hm.symm
  rw [← hn] at HS hS ⊢
  rw [← hm] at HU HX HIL HIN hR ⊢
  clear h hu hT hn hm
  go_enter Try.func60, Try.ntmps60
  go_wp2_with fail
  go_loopw [5, 6, 7, 8, 9, 12] (fun bv fv _ _ _ kv wr => ∃ k : Nat, kv = .int .i64 k ∧ k ≤ n ∧ bv = .int .i64 (T k).1 ∧ fv = .int .i64 (T k).2 ∧ w = wr) (fun _ _ _ _ _ kv _ => n + 1 - (intOf kv).toNat)
  case atStart => exact ⟨0, rfl, Nat.zero_le _, by rw [HZ.out], by rw [HZ.out], rfl⟩
  case round =>
    obtain ⟨k, rfl, hk, rfl, rfl, rfl⟩ := hrel
    by_cases hlt : k < n
    · have hkI : (k : Int) < (n : Int) := by omega
      obtain ⟨sb, so, rfl, _, cs⟩ := HS.out.at (i := k) (by rw [HN.out]; exact hlt)
      have hsu := HSU.out k
      have hil := HIL.out (S.getD k 0)
      have hin := HIN.out (S.getD k 0)
      have HXK := Lib.hid (HX.out (S.getD k 0))
      have hbest : k = 0 ∧ (T k).2 = -1 ∨ ∃ b : Nat, b < k ∧ (T k).1 = b ∧ 0 ≤ (T k).2 := by
        by_cases hk0 : k = 0
        · exact .inl ⟨hk0, by rw [hk0, HZ.out]⟩
        · obtain ⟨⟨b, h1, h2, h3⟩, _⟩ := HK.out k (by omega)
          exact .inr ⟨b, h1, h2, by omega⟩
      obtain ⟨x, hx⟩ : ∃ x, x = S.getD k 0 := ⟨_, rfl⟩
      rw [← hx] at cs hsu hil hin HXK
      obtain ⟨j, hj⟩ : ∃ j, j = R.idxOf x := ⟨_, rfl⟩
      have hix : idxI R x = if j < m then (j : Int) else -1 := by
        unfold idxI
        by_cases hm : x ∈ R
        · rw [if_pos hm, ← hj, if_pos (by rw [hj]; exact hin.1 hm)]
        · rw [if_neg hm, if_neg (fun h => hm (hin.2 (by rw [← hj]; exact h)))]
      rw [hix] at HXK
      rw [← hj] at hsu hil
      obtain ⟨⟨p, f⟩, hp⟩ : ∃ p, p = T k := ⟨_, rfl⟩
      rw [← hp] at hsu hbest ⊢
      simp only at hsu hbest ⊢
      have HSK := Lib.hid hsu
      have HB := Lib.hid hbest
      clear hsu hbest hin hix hj hp hx
      have hstep : ∀ (jj : Int), jj = (if j < m then (j : Int) else -1) → True := fun _ _ => trivial
      clear hstep
      by_cases hjm : j < m
      · rw [if_pos hjm] at HXK
        have hj0 : ¬ (j : Int) < 0 := by omega
        by_cases hf : f < (j : Int)
        · have HSN := Lib.hid (show T (k + 1) = ((k : Int), (j : Int)) by rw [HSK.out, if_pos (.inl hf)])
          have q1 : decide (f < (j : Int)) = true := decide_eq_true hf
          clear hjm hf
          go_wp2_with (go_at_call 59; refine HXK.out.mono ?_; rintro e w' ⟨rfl, rfl⟩)
          go_roundw
          case rel => exact ⟨k + 1, by go_num, by omega, by rw [HSN.out], by rw [HSN.out], by first | rfl | trivial⟩
          case measure => simp [intOf]; omega
        · have q1 : decide (f < (j : Int)) = false := decide_eq_false hf
          by_cases he : (j : Int) = f
          · have q2 : ((j : Int) == f) = true := by rw [he]; simp
            have hb := HB.out
            obtain ⟨b, hb1, hb2, hb3⟩ := hb.resolve_left (fun h => by omega)
            obtain rfl : p = (b : Int) := hb2
            obtain ⟨sb', so', ee, _, cb⟩ := HS.out.at (i := b) (by rw [HN.out]; omega)
            simp only [Option.some.injEq, Addr.mk.injEq, and_true] at ee
            obtain ⟨rfl, rfl⟩ := ee
            have hbI : (b : Int) < (n : Int) := by omega
            have HSK2 := Lib.hid (show T (k + 1) = if f < (j : Int) ∨ (j : Int) = f ∧ x < S.getD b 0 then ((k : Int), (j : Int)) else ((b : Int), f) by rw [HSK.out]; rfl)
            obtain ⟨y, hy⟩ : ∃ y, y = S.getD b 0 := ⟨_, rfl⟩
            rw [← hy] at cb HSK2
            clear hy hb
            by_cases hxy : x < y
            · have HSN := Lib.hid (show T (k + 1) = ((k : Int), (j : Int)) by rw [HSK2.out, if_pos (.inr ⟨he, hxy⟩)])
              have q3 : decide (x < y) = true := decide_eq_true hxy
              clear hjm hf hxy he
              go_wp2_with (go_at_call 59; refine HXK.out.mono ?_; rintro e w' ⟨rfl, rfl⟩)
              go_roundw
              case rel => exact ⟨k + 1, by go_num, by omega, by rw [HSN.out], by rw [HSN.out], by first | rfl | trivial⟩
              case measure => simp [intOf]; omega
            · have HSN := Lib.hid (show T (k + 1) = ((b : Int), f) by rw [HSK2.out, if_neg (fun h => h.elim hf (fun h2 => hxy h2.2))])
              have q3 : decide (x < y) = false := decide_eq_false hxy
              clear hjm hf hxy he
              go_wp2_with (go_at_call 59; refine HXK.out.mono ?_; rintro e w' ⟨rfl, rfl⟩)
              go_roundw
              case rel => exact ⟨k + 1, by go_num, by omega, by rw [HSN.out], by rw [HSN.out], by first | rfl | trivial⟩
              case measure => simp [intOf]; omega
          · have HSN := Lib.hid (show T (k + 1) = (p, f) by rw [HSK.out, if_neg (fun h => h.elim hf (fun h2 => he h2.1))])
            have q2 : ((j : Int) == f) = false := by rw [beq_eq_false_iff_ne]; exact he
            clear hjm hf he
            go_wp2_with (go_at_call 59; refine HXK.out.mono ?_; rintro e w' ⟨rfl, rfl⟩)
            go_roundw
            case rel => exact ⟨k + 1, by go_num, by omega, by rw [HSN.out], by rw [HSN.out], by first | rfl | trivial⟩
            case measure => simp [intOf]; omega
      · rw [if_neg hjm] at HXK
        obtain rfl : j = m := by omega
        by_cases hf : f < (j : Int)
        · have HSN := Lib.hid (show T (k + 1) = ((k : Int), (j : Int)) by rw [HSK.out, if_pos (.inl hf)])
          have q1 : decide (f < (j : Int)) = true := decide_eq_true hf
          clear hjm hf
          go_wp2_with (go_at_call 59; refine HXK.out.mono ?_; rintro e w' ⟨rfl, rfl⟩)
          go_roundw
          case rel => exact ⟨k + 1, by go_num, by omega, by rw [HSN.out], by rw [HSN.out], by first | rfl | trivial⟩
          case measure => simp [intOf]; omega
        · have q1 : decide (f < (j : Int)) = false := decide_eq_false hf
          by_cases he : (j : Int) = f
          · have q2 : ((j : Int) == f) = true := by rw [he]; simp
            have hb := HB.out
            obtain ⟨b, hb1, hb2, hb3⟩ := hb.resolve_left (fun h => by omega)
            obtain rfl : p = (b : Int) := hb2
            obtain ⟨sb', so', ee, _, cb⟩ := HS.out.at (i := b) (by rw [HN.out]; omega)
            simp only [Option.some.injEq, Addr.mk.injEq, and_true] at ee
            obtain ⟨rfl, rfl⟩ := ee
            have hbI : (b : Int) < (n : Int) := by omega
            have HSK2 := Lib.hid (show T (k + 1) = if f < (j : Int) ∨ (j : Int) = f ∧ x < S.getD b 0 then ((k : Int), (j : Int)) else ((b : Int), f) by rw [HSK.out]; rfl)
            obtain ⟨y, hy⟩ : ∃ y, y = S.getD b 0 := ⟨_, rfl⟩
            rw [← hy] at cb HSK2
            clear hy hb
            by_cases hxy : x < y
            · have HSN := Lib.hid (show T (k + 1) = ((k : Int), (j : Int)) by rw [HSK2.out, if_pos (.inr ⟨he, hxy⟩)])
              have q3 : decide (x < y) = true := decide_eq_true hxy
              clear hjm hf hxy he
              go_wp2_with (go_at_call 59; refine HXK.out.mono ?_; rintro e w' ⟨rfl, rfl⟩)
              go_roundw
              case rel => exact ⟨k + 1, by go_num, by omega, by rw [HSN.out], by rw [HSN.out], by first | rfl | trivial⟩
              case measure => simp [intOf]; omega
            · have HSN := Lib.hid (show T (k + 1) = ((b : Int), f) by rw [HSK2.out, if_neg (fun h => h.elim hf (fun h2 => hxy h2.2))])
              have q3 : decide (x < y) = false := decide_eq_false hxy
              clear hjm hf hxy he
              go_wp2_with (go_at_call 59; refine HXK.out.mono ?_; rintro e w' ⟨rfl, rfl⟩)
              go_roundw
              case rel => exact ⟨k + 1, by go_num, by omega, by rw [HSN.out], by rw [HSN.out], by first | rfl | trivial⟩
              case measure => simp [intOf]; omega
          · have HSN := Lib.hid (show T (k + 1) = (p, f) by rw [HSK.out, if_neg (fun h => h.elim hf (fun h2 => he h2.1))])
            have q2 : ((j : Int) == f) = false := by rw [beq_eq_false_iff_ne]; exact he
            clear hjm hf he
            go_wp2_with (go_at_call 59; refine HXK.out.mono ?_; rintro e w' ⟨rfl, rfl⟩)
            go_roundw
            case rel => exact ⟨k + 1, by go_num, by omega, by rw [HSN.out], by rw [HSN.out], by first | rfl | trivial⟩
            case measure => simp [intOf]; omega
    · obtain rfl : k = n := by omega
      have hkk : ¬ (k : Int) < (k : Int) := by omega
      go_wp2_with fail
      go_ret
      exact ⟨rfl, rfl⟩

end Go.Proofs.Ytfdaifmfecfchaa

namespace Go.Proofs.Ytfdaifmfecfchaa
open Go.RowKit

def B8 (x : Int) : Value := .int .u8 x
/-- The slice reads as these bytes. -/
def RdB (w : World) (v : Value) (xs : List Int) : Prop := Slc w v (xs.map B8)
def WfB (zs : List Int) : Prop := ∀ z ∈ zs, 0 ≤ z ∧ z ≤ 255

theorem RdB.shape {w : World} {v : Value} {xs : List Int} (h : RdB w v xs) : ∃ a c, v = .slice a xs.length c := by
  obtain ⟨a, c, e⟩ := Slc.shape h; exact ⟨a, c, by simpa using e⟩
theorem RdB.up {w w' : World} {v : Value} {xs : List Int} {B : Nat} (h : RdB w v xs) (hb : Below B w w') (hB : w.heap.size ≤ B) : RdB w' v xs := Slc.below h hb hB
theorem RdB.len {w : World} {v : Value} {xs : List Int} (h : RdB w v xs) : xs.length ≤ maxLen := by simpa using Slc.len h
theorem RdB.at {w : World} {a : Option Addr} {n c : Nat} {xs : List Int} (h : RdB w (.slice a n c) xs) {i : Nat} (hi : i < xs.length) :
    ∃ b off, a = some ⟨b, off, none⟩ ∧ b < w.heap.size ∧ w.cell? ⟨b, off + i, none⟩ = some (.int .u8 (xs.getD i 0)) := by
  exact Slc.at h (i := i) (u := .int .u8 (xs.getD i 0)) (by simp [B8, hi])
theorem WfB.at {xs : List Int} (h : WfB xs) {i : Nat} (hi : i < xs.length) : 0 ≤ xs.getD i 0 ∧ xs.getD i 0 ≤ 255 := by
  have e : xs.getD i 0 = xs[i] := by simp [hi]
  rw [e]; exact h _ (List.getElem_mem hi)

def isLong (a b : List Int) : Bool := decide (1048576 < (a.length : Int)) || decide (1048576 < (b.length : Int))

/-- A number that is chosen. -/
def PickE (n : Int) (w : World) (e : Ending) (w' : World) : Prop := ∃ r : Int, 0 ≤ r ∧ r < n ∧ e = .returned (.int .i64 r) ∧ w = w'

end Go.Proofs.Ytfdaifmfecfchaa

namespace Go.Proofs.Ytfdaifmfecfchaa

/-- The digits 1 among the first n. -/
def popN : Nat → Nat → Nat
  | 0, _ => 0
  | n + 1, x => (x.testBit n).toNat + popN n x

theorem popN_congr {x y : Nat} : ∀ n, (∀ i, i < n → x.testBit i = y.testBit i) → popN n x = popN n y
  | 0, _ => rfl
  | n + 1, h => by
    simp only [popN]
    rw [h n (by omega), popN_congr n fun i hi => h i (by omega)]
theorem popN_or {x b : Nat} : ∀ n, popN n (x ||| 2 ^ b) = popN n x + (decide (b < n) && !x.testBit b).toNat
  | 0 => by simp [popN]
  | n + 1 => by
    simp only [popN]
    rw [popN_or n, Nat.testBit_or, Nat.testBit_two_pow]
    by_cases h : b = n
    · subst h
      cases x.testBit b <;> simp <;> omega
    · have h1 : decide (b = n) = false := by simp [h]
      rw [h1, Bool.or_false]
      have h2 : decide (b < n + 1) = decide (b < n) := by rw [decide_eq_decide]; omega
      rw [h2]; omega
theorem testBit_byte (a y i : Nat) (ha : a < 256) : (a + 256 * y).testBit i = if i < 8 then a.testBit i else y.testBit (i - 8) := by
  have := Nat.testBit_two_pow_mul_add y (i := 8) (b := a) ha i
  rw [show 2 ^ 8 * y + a = a + 256 * y by omega] at this
  exact this
theorem popN_byte (a y : Nat) (ha : a < 256) : ∀ n, popN (8 + n) (a + 256 * y) = popN 8 a + popN n y
  | 0 => by
    simp only [popN, Nat.add_zero]
    simp only [testBit_byte a y _ ha]
    simp
  | n + 1 => by
    have ih := popN_byte a y ha n
    rw [show 8 + (n + 1) = (8 + n) + 1 by omega]
    simp only [popN] at ih ⊢
    rw [ih, testBit_byte a y _ ha, if_neg (by omega), show 8 + n - 8 = n by omega]
    omega
theorem popN_zero : ∀ n, popN n 0 = 0
  | 0 => rfl
  | n + 1 => by simp [popN, popN_zero n]

theorem and_byte (a y m M : Nat) (ha : a < 256) (hm : m < 256) : (a + 256 * y) &&& (m + 256 * M) = (a &&& m) + 256 * (y &&& M) := by
  have hlt : a &&& m < 256 := Nat.lt_of_le_of_lt Nat.and_le_left ha
  apply Nat.eq_of_testBit_eq
  intro i
  rw [Nat.testBit_and, testBit_byte a y i ha, testBit_byte m M i hm, testBit_byte (a &&& m) (y &&& M) i hlt]
  split
  · rw [Nat.testBit_and]
  · rw [Nat.testBit_and]

/-! ### By bytes -/
def s1 (b : Nat) : Nat := ((b >>> 1) &&& 85) + (b &&& 85)
def s2 (b : Nat) : Nat := ((b >>> 2) &&& 51) + (b &&& 51)
def t2 (b : Nat) : Nat := s2 (s1 b)
def p8 (b : Nat) : Nat := (t2 b / 16 + t2 b) % 16
theorem bytes_fact : ∀ b : Fin 256, s1 b.val < 256 ∧ t2 b.val / 16 ≤ 4 ∧ t2 b.val % 16 ≤ 4 ∧ t2 b.val < 256 ∧ p8 b.val = popN 8 b.val ∧ p8 b.val ≤ 8 := by decide +kernel
theorem mask1 : ∀ a : Fin 128, ∀ c : Fin 2, (a.val + 128 * c.val) &&& 85 = a.val &&& 85 := by decide +kernel
theorem mask2 : ∀ a : Fin 64, ∀ c : Fin 4, (a.val + 64 * c.val) &&& 51 = a.val &&& 51 := by decide +kernel

theorem S1_byte (a y M : Nat) (ha : a < 256) : (((a + 256 * y) >>> 1) &&& (85 + 256 * M)) + ((a + 256 * y) &&& (85 + 256 * M)) = s1 a + 256 * (((y >>> 1) &&& M) + (y &&& M)) := by
  have h1 : (a + 256 * y) >>> 1 = (a / 2 + 128 * (y % 2)) + 256 * (y / 2) := by rw [Nat.shiftRight_eq_div_pow]; omega
  rw [h1, and_byte _ _ _ _ (by omega) (by decide), and_byte _ _ _ _ ha (by decide)]
  have h2 := mask1 ⟨a / 2, by omega⟩ ⟨y % 2, by omega⟩
  simp only at h2
  rw [h2]
  unfold s1
  have h3 : a >>> 1 = a / 2 := by rw [Nat.shiftRight_eq_div_pow]
  have h4 : y >>> 1 = y / 2 := by rw [Nat.shiftRight_eq_div_pow]
  rw [h3, h4]
  omega
theorem S2_byte (a y M : Nat) (ha : a < 256) : (((a + 256 * y) >>> 2) &&& (51 + 256 * M)) + ((a + 256 * y) &&& (51 + 256 * M)) = s2 a + 256 * (((y >>> 2) &&& M) + (y &&& M)) := by
  have h1 : (a + 256 * y) >>> 2 = (a / 4 + 64 * (y % 4)) + 256 * (y / 4) := by rw [Nat.shiftRight_eq_div_pow]; omega
  rw [h1, and_byte _ _ _ _ (by omega) (by decide), and_byte _ _ _ _ ha (by decide)]
  have h2 := mask2 ⟨a / 4, by omega⟩ ⟨y % 4, by omega⟩
  simp only at h2
  rw [h2]
  unfold s2
  have h3 : a >>> 2 = a / 4 := by rw [Nat.shiftRight_eq_div_pow]
  have h4 : y >>> 2 = y / 4 := by rw [Nat.shiftRight_eq_div_pow]
  rw [h3, h4]
  omega
theorem S3_byte (a y M : Nat) (ha : a < 256) (h16 : a / 16 ≤ 4) (hl : a % 16 ≤ 4) (hy : y % 16 ≤ 4) : (((a + 256 * y) >>> 4) + (a + 256 * y)) &&& (15 + 256 * M) = (a / 16 + a) % 16 + 256 * (((y >>> 4) + y) &&& M) := by
  have h1 : ((a + 256 * y) >>> 4) + (a + 256 * y) = (a / 16 + 16 * (y % 16) + a) + 256 * (y / 16 + y) := by rw [Nat.shiftRight_eq_div_pow]; omega
  rw [h1, and_byte _ _ _ _ (by omega) (by decide), Go.nat_mask4]
  have h4 : y >>> 4 = y / 16 := by rw [Nat.shiftRight_eq_div_pow]
  rw [h4]
  omega

def stage1 (x : Nat) : Nat := ((x >>> 1) &&& 6148914691236517205) + (x &&& 6148914691236517205)
def stage2 (x : Nat) : Nat := ((x >>> 2) &&& 3689348814741910323) + (x &&& 3689348814741910323)
def stage3 (x : Nat) : Nat := ((x >>> 4) + x) &&& 1085102592571150095

theorem stages {b0 b1 b2 b3 : Nat} (h0 : b0 < 256) (h1 : b1 < 256) (h2 : b2 < 256) (h3 : b3 < 256) :
    stage1 (b0 + 256 * (b1 + 256 * (b2 + 256 * (b3 + 256 * 0)))) = s1 b0 + 256 * (s1 b1 + 256 * (s1 b2 + 256 * (s1 b3 + 256 * 0))) ∧
    stage2 (s1 b0 + 256 * (s1 b1 + 256 * (s1 b2 + 256 * (s1 b3 + 256 * 0)))) = t2 b0 + 256 * (t2 b1 + 256 * (t2 b2 + 256 * (t2 b3 + 256 * 0))) ∧
    stage3 (t2 b0 + 256 * (t2 b1 + 256 * (t2 b2 + 256 * (t2 b3 + 256 * 0)))) = p8 b0 + 256 * (p8 b1 + 256 * (p8 b2 + 256 * (p8 b3 + 256 * 0))) := by
  have f0 := bytes_fact ⟨b0, h0⟩
  have f1 := bytes_fact ⟨b1, h1⟩
  have f2 := bytes_fact ⟨b2, h2⟩
  have f3 := bytes_fact ⟨b3, h3⟩
  simp only at f0 f1 f2 f3
  refine ⟨?_, ?_, ?_⟩
  · unfold stage1
    rw [show (6148914691236517205 : Nat) = 85 + 256 * (85 + 256 * (85 + 256 * (85 + 256 * 1431655765))) from rfl]
    rw [S1_byte _ _ _ h0, S1_byte _ _ _ h1, S1_byte _ _ _ h2, S1_byte _ _ _ h3]
    simp
  · unfold stage2
    rw [show (3689348814741910323 : Nat) = 51 + 256 * (51 + 256 * (51 + 256 * (51 + 256 * 858993459))) from rfl]
    rw [S2_byte _ _ _ f0.1, S2_byte _ _ _ f1.1, S2_byte _ _ _ f2.1, S2_byte _ _ _ f3.1]
    simp [t2]
  · unfold stage3
    rw [show (1085102592571150095 : Nat) = 15 + 256 * (15 + 256 * (15 + 256 * (15 + 256 * 252645135))) from rfl]
    rw [S3_byte _ _ _ f0.2.2.2.1 f0.2.1 f0.2.2.1 (by omega), S3_byte _ _ _ f1.2.2.2.1 f1.2.1 f1.2.2.1 (by omega), S3_byte _ _ _ f2.2.2.2.1 f2.2.1 f2.2.2.1 (by omega), S3_byte _ _ _ f3.2.2.2.1 f3.2.1 f3.2.2.1 (by omega)]
    simp [p8]

/-- The last sums. -/
theorem sums {p0 p1 p2 p3 y z v : Nat} (h0 : p0 ≤ 8) (h1 : p1 ≤ 8) (h2 : p2 ≤ 8) (h3 : p3 ≤ 8) (hy : y = p0 + 256 * (p1 + 256 * (p2 + 256 * (p3 + 256 * 0)))) (hz : z = y + y / 256) (hv : v = z + z / 65536) :
    (v + v / 4294967296) % 128 = p0 + p1 + p2 + p3 ∧ y < 4294967296 ∧ z < 4294967296 ∧ v < 4294967296 := by
  have e1 : y / 256 = p1 + 256 * p2 + 65536 * p3 := by omega
  have e2 : z = (p0 + p1) + 256 * (p1 + p2) + 65536 * (p2 + p3) + 16777216 * p3 := by omega
  have e3 : z / 65536 = (p2 + p3) + 256 * p3 := by omega
  have e4 : v = (p0 + p1 + p2 + p3) + 256 * (p1 + p2 + p3) + 65536 * (p2 + p3) + 16777216 * p3 := by omega
  have e5 : v / 4294967296 = 0 := by omega
  rw [e5]
  omega

/-- What is counted, of a number below 2 ^ 32. -/
theorem pop_all {x : Nat} (hx : x < 4294967296) : ∃ p0 p1 p2 p3, p0 ≤ 8 ∧ p1 ≤ 8 ∧ p2 ≤ 8 ∧ p3 ≤ 8 ∧ stage3 (stage2 (stage1 x)) = p0 + 256 * (p1 + 256 * (p2 + 256 * (p3 + 256 * 0))) ∧ popN 32 x = p0 + p1 + p2 + p3 ∧ stage1 x < 4294967296 ∧ stage2 (stage1 x) < 4294967296 := by
  obtain ⟨b0, b1, b2, b3, h0, h1, h2, h3, rfl⟩ : ∃ b0 b1 b2 b3, b0 < 256 ∧ b1 < 256 ∧ b2 < 256 ∧ b3 < 256 ∧ x = b0 + 256 * (b1 + 256 * (b2 + 256 * (b3 + 256 * 0))) :=
    ⟨x % 256, x / 256 % 256, x / 65536 % 256, x / 16777216, by omega, by omega, by omega, by omega, by omega⟩
  obtain ⟨e1, e2, e3⟩ := stages h0 h1 h2 h3
  have f0 := bytes_fact ⟨b0, h0⟩
  have f1 := bytes_fact ⟨b1, h1⟩
  have f2 := bytes_fact ⟨b2, h2⟩
  have f3 := bytes_fact ⟨b3, h3⟩
  simp only at f0 f1 f2 f3
  refine ⟨p8 b0, p8 b1, p8 b2, p8 b3, f0.2.2.2.2.2, f1.2.2.2.2.2, f2.2.2.2.2.2, f3.2.2.2.2.2, by rw [e1, e2, e3], ?_, by rw [e1]; omega, by rw [e1, e2]; omega⟩
  rw [show (32 : Nat) = 8 + (8 + (8 + (8 + 0))) from rfl, popN_byte _ _ h0, popN_byte _ _ h1, popN_byte _ _ h2, popN_byte _ _ h3, f0.2.2.2.2.1, f1.2.2.2.2.1, f2.2.2.2.2.1, f3.2.2.2.2.1]
  simp only [popN]
  omega

end Go.Proofs.Ytfdaifmfecfchaa

namespace Go.Proofs.Ytfdaifmfecfchaa
open Go.RowKit

def hasB (l : List Int) (x : Int) : Bool := l.contains x
theorem hasB_yes {l : List Int} {x : Int} {j : Nat} (hj : j < l.length) (h : l.getD j 0 = x) : hasB l x = true := by
  unfold hasB; rw [List.contains_iff_mem]
  have : l.getD j 0 = l[j] := by simp [hj]
  rw [this] at h; rw [← h]; exact List.getElem_mem hj
theorem hasB_no {l : List Int} {x : Int} (h : ∀ j, j < l.length → l.getD j 0 ≠ x) : hasB l x = false := by
  unfold hasB; rw [Bool.eq_false_iff]; intro hc
  rw [List.contains_iff_mem] at hc
  obtain ⟨j, hj, e⟩ := List.getElem_of_mem hc
  exact h j hj (by simp [hj, e])

set_option maxHeartbeats 400000 in
theorem has_any (v : Value) (l : List Int) (x : Int) (w : World) (h : RdI w v l) :
    Calls Try.prog 88 #[v, .int .i64 x] w fun e w' => e = .returned (.bool (hasB l x)) ∧ w = w' := by
  obtain ⟨a, c, rfl⟩ := h.shape
  have hl := h.len
  unfold maxLen at hl
  have HS := Lib.hid h
  clear h
  go_enter Try.func88, Try.ntmps88
  go_wp2_with fail
  go_loop [9] (fun i => ∃ k : Nat, i = .int .i64 k ∧ k ≤ l.length ∧ Hid (∀ j, j < k → l.getD j 0 ≠ x)) (fun i => l.length - (intOf i).toNat)
  case atStart => exact ⟨0, rfl, Nat.zero_le _, fun j hj => by omega⟩
  case round =>
    obtain ⟨k, rfl, hk, hno⟩ := hrel
    by_cases hlt : k < l.length
    · obtain ⟨b, off, rfl, _, hc⟩ := HS.out.at hlt
      obtain ⟨y, hy⟩ : ∃ y, y = l.getD k 0 := ⟨_, rfl⟩
      rw [← hy] at hc
      by_cases he : y = x
      · have he' : (y == x) = true := by simp [he]
        have HY := Lib.hid (show hasB l x = true from hasB_yes hlt (hy.symm.trans he))
        clear he hy
        go_wp2_with fail
        go_ret
        exact ⟨by rw [HY.out]; rfl, rfl⟩
      · have he' : (y == x) = false := by simp [he]
        have HE := Lib.hid (show l.getD k 0 ≠ x by rw [← hy]; exact he)
        clear he hy
        go_wp2_with fail
        go_round
        case rel => exact ⟨k + 1, by go_num, by omega, fun j hj => by
          rcases Nat.lt_succ_iff_lt_or_eq.1 hj with h | rfl
          · exact hno.out j h
          · exact HE.out⟩
        case measure => simp [intOf]; omega
    · obtain rfl : k = l.length := by omega
      go_wp2_with fail
      go_ret
      exact ⟨by rw [hasB_no hno.out]; rfl, rfl⟩

end Go.Proofs.Ytfdaifmfecfchaa

namespace Go.Proofs.Ytfdaifmfecfchaa
open Go.RowKit

def ValDom (d : List Int) : Prop := 1 ≤ d.length ∧ d.length ≤ 8 ∧ ∀ k, k < d.length → inB 0 31 (d.getD k 0) = true ∧ (0 < k → d.getD (k - 1) 0 < d.getD k 0)
def ValD (zss : List (List Int)) : Prop := 1 ≤ zss.length ∧ zss.length ≤ 6 ∧ ∀ i, i < zss.length → ValDom (zss.getD i [])
open Classical in
noncomputable def validD (zss : List (List Int)) : Bool := decide (ValD zss)
theorem validD_true {zss : List (List Int)} (h : ValD zss) : validD zss = true := by simp [validD, h]
theorem validD_false {zss : List (List Int)} (h : ¬ ValD zss) : validD zss = false := by simp [validD, h]

end Go.Proofs.Ytfdaifmfecfchaa

namespace Go.Proofs.Ytfdaifmfecfchaa
open Go.RowKit

end Go.Proofs.Ytfdaifmfecfchaa

namespace Go.Proofs.Ytfdaifmfecfchaa
open Go.RowKit

theorem ValDom_iff (d : List Int) : ValDom d ↔ (1 ≤ d.length ∧ d.length ≤ 8) ∧ Rising d ∧ allIn 0 31 d = true := by
  rw [allIn_iff]
  constructor
  · rintro ⟨h1, h2, h3⟩
    exact ⟨⟨h1, h2⟩, fun i hi h0 => (h3 i hi).2 h0, fun i hi => (h3 i hi).1⟩
  · rintro ⟨⟨h1, h2⟩, h3, h4⟩
    exact ⟨h1, h2, fun i hi => ⟨h4 i hi, h3 i hi⟩⟩

end Go.Proofs.Ytfdaifmfecfchaa

namespace Go.Proofs.Ytfdaifmfecfchaa

theorem popN_filter (x : Nat) : ∀ n, popN n x = ((List.range n).filter x.testBit).length
  | 0 => rfl
  | n + 1 => by
    rw [List.range_succ, List.filter_append, List.length_append, popN, popN_filter x n]
    cases h : x.testBit n <;> simp [h] <;> omega
/-- The digits 1. -/
def dig (s : Nat) : List Nat := (List.range 63).filter s.testBit
theorem dig_of {s i : Nat} (hs : s < 2 ^ i) (hi : i ≤ 63) : (List.range i).filter s.testBit = dig s := by
  unfold dig
  rw [show (63 : Nat) = i + (63 - i) by omega, List.range_add, List.filter_append]
  have : ((List.range (63 - i)).map (i + ·)).filter s.testBit = [] := by
    rw [List.filter_eq_nil_iff]
    intro a ha
    obtain ⟨b, _, rfl⟩ := List.mem_map.1 ha
    have : s.testBit (i + b) = false := Nat.testBit_lt_two_pow (Nat.lt_of_lt_of_le hs (Nat.pow_le_pow_right (by decide) (by omega)))
    simp [this]
  rw [this, List.append_nil]
theorem dig_len {s : Nat} (hs : s < 4294967296) : (dig s).length = popN 32 s := by
  rw [popN_filter, dig_of (i := 32) hs (by decide)]

def addN (l : List Int) (n : Int) : List Int := if hasB l n then l else l ++ [n]
/-- The numbers of some domains. -/
def uni (D : List (List Int)) (ds : List Nat) : List Int := ds.foldl (fun l i => (D.getD i []).foldl addN l) []
def tight (D : List (List Int)) (s : Nat) : Bool := (dig s).length == (uni D (dig s)).length
def tightL (D : List (List Int)) (m : Nat) : List Int := ((List.range m).filter (tight D)).map fun (k : Nat) => (k : Int)
theorem tightL_yes {D : List (List Int)} {m : Nat} (h : tight D m = true) : tightL D (m + 1) = tightL D m ++ [(m : Int)] := by
  simp [tightL, List.range_succ, h]
theorem tightL_no {D : List (List Int)} {m : Nat} (h : tight D m = false) : tightL D (m + 1) = tightL D m := by
  simp [tightL, List.range_succ, h]
theorem tightL_len (D : List (List Int)) (m : Nat) : (tightL D m).length ≤ m := by
  have := List.length_filter_le (tight D) (List.range m)
  simpa [tightL] using this

/-- The domains that are walked, of the first i, and k numbers of the next one. -/
def uniP (D : List (List Int)) (ds : List Nat) (i k : Nat) : List Int := ((D.getD i []).take k).foldl addN (uni D ds)
theorem uniP_zero (D : List (List Int)) (ds : List Nat) (i : Nat) : uniP D ds i 0 = uni D ds := by simp [uniP]
theorem uniP_succ (D : List (List Int)) (ds : List Nat) (i k : Nat) (h : k < (D.getD i []).length) : uniP D ds i (k + 1) = addN (uniP D ds i k) ((D.getD i []).getD k 0) := by
  unfold uniP
  rw [List.take_add_one, List.foldl_append]
  generalize D.getD i [] = d at h ⊢
  simp [h]
theorem uniP_all (D : List (List Int)) (ds : List Nat) (i : Nat) : uniP D ds i (D.getD i []).length = uni D (ds ++ [i]) := by
  unfold uniP uni
  rw [List.take_length, List.foldl_append]
  rfl
theorem addN_len (l : List Int) (n : Int) : (addN l n).length ≤ l.length + 1 := by
  unfold addN; split <;> simp

/-- A number's binary digits 1 are a list. -/
structure Mask (m : Nat) (l : List Int) : Prop where
  lt : m < 4294967296
  bit : ∀ b, b < 32 → m.testBit b = hasB l (b : Int)
  len : popN 32 m = l.length
theorem Mask.nil : Mask 0 [] := ⟨by decide, by intro b _; simp [hasB], popN_zero 32⟩
theorem hasB_append (l : List Int) (n x : Int) : hasB (l ++ [n]) x = (hasB l x || x == n) := by
  unfold hasB; rw [Bool.eq_iff_iff]; simp
theorem Mask.add {m : Nat} {l : List Int} (h : Mask m l) {n : Nat} (hn : n < 32) : Mask (m ||| 2 ^ n) (addN l (n : Int)) := by
  have hb := h.bit n hn
  have h32 : (2 : Nat) ^ n < 2 ^ 32 := Nat.pow_lt_pow_right (by decide) hn
  refine ⟨?_, ?_, ?_⟩
  · have h1 : m < 2 ^ 32 := h.lt
    exact Nat.or_lt_two_pow h1 h32
  · intro b hb2
    rw [Nat.testBit_or, Nat.testBit_two_pow, h.bit b hb2]
    unfold addN
    split
    · next hh =>
      by_cases e : n = b
      · subst e; rw [hh]; simp
      · simp [e]
    · rw [hasB_append]
      congr 1
      rw [Bool.eq_iff_iff]; simp; omega
  · rw [popN_or, h.len, hb]
    unfold addN
    split
    · next hh => rw [hh]; simp
    · next hh => rw [Bool.not_eq_true] at hh; rw [hh]; simp [hn]

end Go.Proofs.Ytfdaifmfecfchaa

namespace Go.Proofs.Ytfdaifmfecfchaa
open Go.RowKit

def digI (n i : Nat) : List Int := ((List.range i).filter n.testBit).map fun (k : Nat) => (k : Int)
theorem digI_yes {n i : Nat} (h : n.testBit i = true) : digI n (i + 1) = digI n i ++ [(i : Int)] := by simp [digI, List.range_succ, h]
theorem digI_no {n i : Nat} (h : n.testBit i = false) : digI n (i + 1) = digI n i := by simp [digI, List.range_succ, h]
theorem digI_len (n i : Nat) : (digI n i).length ≤ i := by
  have := List.length_filter_le n.testBit (List.range i)
  simpa [digI] using this
theorem shr_cast (n i : Nat) : (n : Int) / 2 ^ i = ((n >>> i : Nat) : Int) := by
  rw [Nat.shiftRight_eq_div_pow]; push_cast; rfl
theorem ofInt_i64 (a : Nat) (ha : a < 9223372036854775808) : (BitVec.ofInt 64 (a : Int)).toNat = a := by
  rw [BitVec.ofInt_natCast, BitVec.toNat_ofNat]; exact Nat.mod_eq_of_lt (by omega)
theorem i64_and_nat (a b : Nat) (ha : a < 9223372036854775808) (hb : b < 9223372036854775808) : bits .and .i64 (a : Int) (b : Int) = ((a &&& b : Nat) : Int) := by
  have hx : a &&& b < 2 ^ 63 := Nat.and_lt_two_pow _ (by omega)
  show IntKind.i64.wrap ((BitVec.ofInt 64 (a : Int) &&& BitVec.ofInt 64 (b : Int)).toNat : Int) = _
  rw [BitVec.toNat_and, ofInt_i64 a ha, ofInt_i64 b hb, IntKind.wrap_i64]
  omega
theorem i64_or_nat (a b : Nat) (ha : a < 9223372036854775808) (hb : b < 9223372036854775808) : bits .or .i64 (a : Int) (b : Int) = ((a ||| b : Nat) : Int) := by
  have hx : a ||| b < 2 ^ 63 := Nat.or_lt_two_pow (by omega) (by omega)
  show IntKind.i64.wrap ((BitVec.ofInt 64 (a : Int) ||| BitVec.ofInt 64 (b : Int)).toNat : Int) = _
  rw [BitVec.toNat_or, ofInt_i64 a ha, ofInt_i64 b hb, IntKind.wrap_i64]
  omega
theorem bit_of (n i : Nat) : (n >>> i) &&& 1 = (n.testBit i).toNat := by
  rw [Nat.and_one_is_mod, Nat.testBit_eq_decide_div_mod_eq, Nat.shiftRight_eq_div_pow]
  by_cases h : n / 2 ^ i % 2 = 1
  · simp [h]
  · have : n / 2 ^ i % 2 = 0 := by omega
    simp [this]

set_option maxHeartbeats 1000000 in
theorem digits_any (n : Nat) (hn : n < 64) (w : World) :
    Calls Try.prog 48 #[.int .i64 n] w fun e w' => ∃ v', e = .returned v' ∧ OwnI w.heap.size w'.heap.size w' v' ((dig n).map fun (k : Nat) => (k : Int)) ∧ Below w.heap.size w w' := by
  go_enter Try.func48, Try.ntmps48
  go_wp2_with fail
  go_loopw [3, 4] (fun out kk wr => ∃ (i : Nat) (b : Option Addr) (cap : Nat), kk = .int .i64 i ∧ i ≤ 6 ∧ out = .slice b (digI n i).length cap ∧ wr.ownsRow w.heap.size 2 1 (.slice b (digI n i).length cap) (digI n i).length ((digI n i).map I64) ∧ Below w.heap.size w wr) (fun _ kk _ => 7 - (intOf kk).toNat)
  case atStart => exact ⟨0, none, 0, rfl, by omega, rfl, World.ownsRow_nil _ _ _ _, Below.refl _ _⟩
  case round =>
    obtain ⟨i, b, cap, rfl, hi, rfl, hown, hbl⟩ := hrel
    have HO := Lib.hid hown
    have HB := Lib.hid hbl
    have hd := shr_cast n i
    have hbit := bit_of n i
    obtain ⟨Q, hQ⟩ : ∃ Q, Q = n >>> i := ⟨_, rfl⟩
    rw [← hQ] at hd hbit
    have hQ64 : Q < 64 := by rw [hQ]; exact Nat.lt_of_le_of_lt (Nat.shiftRight_le n i) hn
    have hand := i64_and_nat Q 1 (by omega) (by decide)
    rw [hbit] at hand
    have HQ := Lib.hid hQ
    have hlen := digI_len n i
    clear hown hbl hQ hbit
    by_cases hz : 0 < Q
    · have hi6 : i < 6 := by
        by_cases h : i < 6
        · exact h
        · obtain rfl : i = 6 := by omega
          have := HQ.out
          rw [Nat.shiftRight_eq_div_pow] at this
          omega
      by_cases ht : n.testBit i = true
      · rw [ht] at hand
        have HE := Lib.hid (digI_yes ht)
        obtain ⟨ks, hks⟩ : ∃ ks, ks = digI n i := ⟨_, rfl⟩
        rw [← hks] at HO HE hlen ⊢
        have hsz := HB.out.size
        clear ht hks
        have hand2 : bits .and .i64 (Q : Int) 1 = 1 := by simpa using hand
        clear hand
        go_wp2_with (at_builtin; refine app_ints rfl _ _ rfl w.heap.size (.slice b ks.length cap) ks.length ks rfl (HO.out.alloc _) _ [(i : Int)] rfl (slc_one _ _) (ks.length + 1) (ks ++ [(i : Int)]) (by simp) rfl (by omega) (by simp; omega) ?_; intro b2 cap2 w3 hown2 hbl2 _ _)
        go_roundw
        case rel => exact ⟨i + 1, b2, cap2, by go_num, by omega, by rw [HE.out, List.length_append]; rfl, by rw [HE.out, List.length_append]; exact hown2, HB.out.trans (((Below.refl _ _).alloc hsz _).trans hbl2)⟩
        case measure => simp [intOf]; omega
      · rw [Bool.not_eq_true] at ht
        rw [ht] at hand
        have HE := Lib.hid (digI_no ht)
        clear ht
        have hand2 : bits .and .i64 (Q : Int) 1 = 0 := by simpa using hand
        clear hand
        go_wp2_with fail
        go_roundw
        case rel => exact ⟨i + 1, b, cap, by go_num, by omega, by rw [HE.out], by rw [HE.out]; exact HO.out, HB.out⟩
        case measure => simp [intOf]; omega
    · have hQ0 : Q = 0 := by omega
      have HD := Lib.hid (show digI n i = (dig n).map fun (k : Nat) => (k : Int) by
        unfold digI
        rw [dig_of ?_ (by omega)]
        have h1 := HQ.out
        rw [hQ0, Nat.shiftRight_eq_div_pow] at h1
        have h2 : 0 < 2 ^ i := Nat.two_pow_pos i
        rcases Nat.div_eq_zero_iff.1 h1.symm with h3 | h3
        · omega
        · exact h3)
      clear hz
      go_wp2_with fail
      go_ret
      exact ⟨_, rfl, by rw [← HD.out]; exact OwnI.mk HO.out, HB.out⟩

theorem u64_shr_cast (n i : Nat) : (n : Int) / 2 ^ i = ((n >>> i : Nat) : Int) := shr_cast n i

theorem wrap64_nat {n : Nat} (h : n < 18446744073709551616) : IntKind.u64.wrap (n : Int) = (n : Int) := IntWalk.u64_in _ (by omega)
theorem and64 (a b : Nat) (ha : a < 18446744073709551616) (hb : b < 18446744073709551616) : bits .and .u64 (a : Int) (b : Int) = ((a &&& b : Nat) : Int) := u64_and_nat a b ha hb

end Go.Proofs.Ytfdaifmfecfchaa

namespace Go.Proofs.Ytfdaifmfecfchaa
open Go.RowKit Go.ChangeShapes

/-- The source in block sb: it has been read at most c times. -/
def SrcAt (w : World) (sb : Nat) (v : Value) (c : Nat) : Prop := ∃ a S : Nat, a ≤ c ∧ S < 18446744073709551616 ∧ Blk w sb 100 #[v, .int .i64 a, .int .u64 S]

theorem SrcAt.below {w w' : World} {sb : Nat} {v : Value} {c B : Nat} (h : SrcAt w sb v c) (hb : Below B w w') (hB : sb < B) : SrcAt w' sb v c := by
  obtain ⟨a, S, h1, h2, h3⟩ := h; exact ⟨a, S, h1, h2, h3.below hb hB⟩
theorem SrcAt.lt {w : World} {sb : Nat} {v : Value} {c : Nat} (h : SrcAt w sb v c) : sb < w.heap.size := by obtain ⟨a, S, h1, h2, h3⟩ := h; exact h3.lt
theorem SrcAt.mono {w : World} {sb : Nat} {v : Value} {c d : Nat} (h : SrcAt w sb v c) (hc : c ≤ d) : SrcAt w sb v d := by obtain ⟨a, S, h1, h2, h3⟩ := h; exact ⟨a, S, by omega, h2, h3⟩
theorem SrcAt.kept {S : Nat → Prop} {w w' : World} {sb : Nat} {v : Value} {c : Nat} (h : SrcAt w sb v c) (hk : Kept S w w') (hs : ¬ S sb) : SrcAt w' sb v c := by obtain ⟨a, S, h1, h2, h3⟩ := h; exact ⟨a, S, h1, h2, h3.kept hk hs⟩

/-- A draw: the answer lies in its bounds. -/
def DrawE (sb : Nat) (v : Value) (c : Nat) (n : Int) (w : World) (e : Ending) (w' : World) : Prop :=
  ∃ x : Int, 0 ≤ x ∧ x < n ∧ e = .returned (.int .i64 x) ∧ SrcAt w' sb v c ∧ Kept (· = sb) w w'

theorem shr40 (S : Nat) (h : S < 18446744073709551616) : ∃ x : Nat, x < 256 ∧ bits .and .u64 ((S : Int) / 1099511627776) 255 = (x : Int) := by
  refine ⟨(S >>> 40) &&& 255, ?_, ?_⟩
  · rw [show (255 : Nat) = 2 ^ 8 - 1 from rfl, Nat.and_two_pow_sub_one_eq_mod]; omega
  · have a1 : ((S : Int) / (1099511627776 : Int)) = ((S >>> 40 : Nat) : Int) := by rw [Nat.shiftRight_eq_div_pow]; rfl
    have l1 : S >>> 40 < 18446744073709551616 := Nat.lt_of_le_of_lt (Nat.shiftRight_le S 40) h
    rw [a1, show (255 : Int) = ((255 : Nat) : Int) from rfl, and64 _ _ l1 (by decide)]


theorem src_set {w : World} {sb : Nat} {v : Value} {a a' S : Nat} {e : Int} (h : Blk w sb 100 #[v, .int .i64 a, .int .u64 S]) :
    ∃ T : Nat, T < 18446744073709551616 ∧ Blk ((w.setCell ⟨sb, 1, none⟩ (.int .i64 a')).setCell ⟨sb, 2, none⟩ (.int .u64 (IntKind.u64.wrap e))) sb 100 #[v, .int .i64 a', .int .u64 T] := by
  have hw := bounds_u64 (wf_wrap .u64 e)
  refine ⟨(IntKind.u64.wrap e).toNat, by omega, ?_⟩
  have h1 := (h.set 1 (.int .i64 a')).set 2 (.int .u64 (IntKind.u64.wrap e))
  have e1 : (((IntKind.u64.wrap e).toNat : Nat) : Int) = IntKind.u64.wrap e := by omega
  rw [e1]
  simpa using h1

set_option maxHeartbeats 1000000 in
set_option maxRecDepth 4000 in
theorem next_any (W0 : World) (v : Value) (xs : List Int) (hR : RdB W0 v xs) (hw : WfB xs) (sb c : Nat) (w : World) (hb : Below W0.heap.size W0 w) (h : SrcAt w sb v c) (hc : c ≤ 1000000) :
    Calls Try.prog 75 #[.pointer (some ⟨sb, 0, none⟩)] w (DrawE sb v (c + 1) 256 w) := by
  obtain ⟨a, S, ha, hS, hk⟩ := h
  obtain ⟨ad, cap, rfl⟩ := hR.shape
  have hlen := hR.len
  unfold maxLen at hlen
  have d0 : w.cell? ⟨sb, 0, none⟩ = some (.slice ad xs.length cap) := hk.cell 0 rfl
  have d1 : w.cell? ⟨sb, 1, none⟩ = some (.int .i64 a) := hk.cell 1 rfl
  have d2 : w.cell? ⟨sb, 2, none⟩ = some (.int .u64 S) := hk.cell 2 rfl
  have f1 := hk.free 1
  have f2 := hk.free 2
  have HK := Lib.hid hk
  have HR := Lib.hid (hR.up hb (Nat.le_refl _))
  have HS := Lib.hid hS
  clear hR hk hb hS
  by_cases hl : a < xs.length
  · obtain ⟨b, off, rfl, _, hcell⟩ := HR.out.at hl
    obtain ⟨hx0, hx1⟩ := hw.at hl
    obtain ⟨x, hx⟩ : ∃ x, x = xs.getD a 0 := ⟨_, rfl⟩
    rw [← hx] at hcell hx0 hx1
    clear hx hw
    have k1 : (a : Int) < (xs.length : Int) := by omega
    have k2 : (a : Int) + 1 ≤ (xs.length : Int) := by omega
    go_enter Try.func75, Try.ntmps75
    go_wp2_with fail
    go_quiet (fail)
    go_wp2_with fail
    go_quiet (fail)
    go_upto_region 6 with fail
    refine wp_at fun W hW => ?_
    have HW : Hid (∃ T : Nat, T < 18446744073709551616 ∧ Blk W sb 100 #[.slice (some ⟨b, off, none⟩) xs.length cap, .int .i64 ((a + 1 : Nat) : Int), .int .u64 T]) := by subst hW; exact src_set (w := w.drewN _) HK.out
    have HKP := Lib.hid (show Kept (· = sb) w W by subst hW; exact (((Kept.refl (· = sb) w).drewN _).setCell (.inr rfl) _).setCell (.inr rfl) _)
    clear hW d0 d1 d2 f1 f2 hcell
    obtain ⟨T, hT, hB⟩ := HW.out
    have d0 : W.cell? ⟨sb, 0, none⟩ = some (.slice (some ⟨b, off, none⟩) xs.length cap) := hB.cell 0 rfl
    have d1 : W.cell? ⟨sb, 1, none⟩ = some (.int .i64 ((a + 1 : Nat) : Int)) := hB.cell 1 rfl
    have HT := Lib.hid hT
    have HB := Lib.hid hB
    have k3 : ((a + 1 : Nat) : Int) ≤ (xs.length : Int) := by omega
    clear hT hB
    go_quiet (fail)
    go_wp2_with fail
    go_ret
    exact ⟨x, hx0, by omega, rfl, ⟨a + 1, T, by omega, HT.out, HB.out⟩, HKP.out.drewN _⟩
  · have k1 : ¬ (a : Int) < (xs.length : Int) := by omega
    have k2 : (xs.length : Int) ≤ (a : Int) := by omega
    clear hl
    go_enter Try.func75, Try.ntmps75
    go_wp2_with fail
    go_quiet (fail)
    go_upto_region 6 with fail
    refine wp_at fun W hW => ?_
    have HW : Hid (∃ T : Nat, T < 18446744073709551616 ∧ Blk W sb 100 #[.slice ad xs.length cap, .int .i64 ((a + 1 : Nat) : Int), .int .u64 T]) := by subst hW; exact src_set (w := w.drewN _) HK.out
    have HKP := Lib.hid (show Kept (· = sb) w W by subst hW; exact (((Kept.refl (· = sb) w).drewN _).setCell (.inr rfl) _).setCell (.inr rfl) _)
    clear hW d0 d1 d2 f1 f2
    obtain ⟨T, hT, hB⟩ := HW.out
    have d0 : W.cell? ⟨sb, 0, none⟩ = some (.slice ad xs.length cap) := hB.cell 0 rfl
    have d1 : W.cell? ⟨sb, 1, none⟩ = some (.int .i64 ((a + 1 : Nat) : Int)) := hB.cell 1 rfl
    have d2 : W.cell? ⟨sb, 2, none⟩ = some (.int .u64 T) := hB.cell 2 rfl
    obtain ⟨x, hx1, hx2⟩ := shr40 T hT
    have HT := Lib.hid hT
    have HB := Lib.hid hB
    have k3 : (xs.length : Int) < ((a + 1 : Nat) : Int) := by omega
    clear hT hB
    go_quiet (fail)
    go_wp2_with fail
    go_ret
    exact ⟨x, by omega, by omega, rfl, ⟨a + 1, T, by omega, HT.out, HB.out⟩, HKP.out.drewN _⟩

set_option maxHeartbeats 1000000 in
theorem pick_any (W0 : World) (v : Value) (xs : List Int) (hR : RdB W0 v xs) (hw : WfB xs) (sb c : Nat) (w : World) (hsb : W0.heap.size ≤ sb) (hb : Below W0.heap.size W0 w) (h : SrcAt w sb v c) (hc : c ≤ 999990) (n : Int) (h1 : 1 ≤ n) (h2 : n ≤ 65536) :
    Calls Try.prog 38 #[.pointer (some ⟨sb, 0, none⟩), .int .i64 n] w (DrawE sb v (c + 2) n w) := by
  have HR := Lib.hid hR
  have HW := Lib.hid hw
  have HB := Lib.hid hb
  have HS := Lib.hid h
  clear hR hw hb h
  by_cases hn : n ≤ 1
  · go_enter Try.func38, Try.ntmps38
    go_wp2_with fail
    go_ret
    exact ⟨0, by omega, by omega, rfl, HS.out.mono (by omega), Kept.refl _ _⟩
  by_cases hm : n ≤ 200
  · go_enter Try.func38, Try.ntmps38
    go_wp2_with fail
    refine (next_any W0 v xs HR.out HW.out sb c w HB.out HS.out (by omega)).mono ?_
    rintro e w1 ⟨x, hx0, hx1, rfl, hs, hk⟩
    have HS1 := Lib.hid hs
    have HK1 := Lib.hid hk
    clear hs hk
    go_wp2_with fail
    go_ret
    exact ⟨x % n, Int.emod_nonneg _ (by omega), Int.emod_lt_of_pos _ (by omega), rfl, HS1.out.mono (by omega), HK1.out⟩
  · go_enter Try.func38, Try.ntmps38
    go_wp2_with fail
    refine (next_any W0 v xs HR.out HW.out sb c w HB.out HS.out (by omega)).mono ?_
    rintro e w1 ⟨x, hx0, hx1, rfl, hs, hk⟩
    have HS1 := Lib.hid hs
    have HK1 := Lib.hid hk
    have HB1 := Lib.hid (HB.out.trans (hk.toBelow HB.out.size (by intro k h1 h2; omega)))
    clear hs hk
    go_wp2_with fail
    refine (next_any W0 v xs HR.out HW.out sb (c + 1) w1 HB1.out HS1.out (by omega)).mono ?_
    rintro e w2 ⟨y, hy0, hy1, rfl, hs, hk⟩
    have HS2 := Lib.hid hs
    have HK2 := Lib.hid hk
    clear hs hk
    go_wp2_with fail
    go_ret
    exact ⟨(x * 256 + y) % n, Int.emod_nonneg _ (by omega), Int.emod_lt_of_pos _ (by omega), rfl, HS2.out.mono (by omega), HK1.out.trans HK2.out⟩

set_option maxHeartbeats 400000 in
theorem l00From_any (v : Value) (xs : List Int) (w : World) (hR : RdB w v xs) :
    Calls Try.prog 36 #[v] w fun e w' => e = .returned (.pointer (some ⟨w.heap.size, 0, none⟩)) ∧ SrcAt w' w.heap.size v 0 ∧ Below w.heap.size w w' := by
  obtain ⟨ad, cap, rfl⟩ := hR.shape
  clear hR
  go_enter Try.func36, Try.ntmps36
  go_wp2_with fail
  go_ret
  exact ⟨rfl, ⟨0, 0, Nat.le_refl _, by decide, Blk.new _ _ _⟩, by (repeat' first | exact Below.refl _ _ | assumption | refine Below.alloc ?_ ?_ _ | refine Below.setCell ?_ ?_ _ | refine Below.drew ?_ | (simp; done) | (simp; omega))⟩

end Go.Proofs.Ytfdaifmfecfchaa
