/-
  The binary digits of a number, by the program; how many there are, by the library.
-/
import Derived.Test.YtnhamdkpeefioaaTightM
import Derived.Deep.Cut
namespace Go.Proofs.Ytnhamdkpeefioaa
open Go.RowKit

def digI (n i : Nat) : List Int := ((List.range i).filter n.testBit).map fun (k : Nat) => (k : Int)
theorem digI_yes {n i : Nat} (h : n.testBit i = true) : digI n (i + 1) = digI n i ++ [(i : Int)] := by simp [digI, List.range_succ, h]
theorem digI_no {n i : Nat} (h : n.testBit i = false) : digI n (i + 1) = digI n i := by simp [digI, List.range_succ, h]
theorem digI_len (n i : Nat) : (digI n i).length ≤ i := by
  have := List.length_filter_le n.testBit (List.range i)
  simpa [digI] using this
theorem shr_cast (n i : Nat) : (n : Int) / 2 ^ i = ((n >>> i : Nat) : Int) := by
  rw [Nat.shiftRight_eq_div_pow]; push_cast; rfl
theorem ofInt_i64 (a : Nat) (ha : a < 9223372036854775808) : (BitVec.ofInt 64 (a : Int)).toNat = a := by
  rw [BitVec.ofInt_natCast, BitVec.toNat_ofNat]; exact Nat.mod_eq_of_lt (by omega)
theorem i64_and_nat (a b : Nat) (ha : a < 9223372036854775808) (hb : b < 9223372036854775808) : bits .and .i64 (a : Int) (b : Int) = ((a &&& b : Nat) : Int) := by
  have hx : a &&& b < 2 ^ 63 := Nat.and_lt_two_pow _ (by omega)
  show IntKind.i64.wrap ((BitVec.ofInt 64 (a : Int) &&& BitVec.ofInt 64 (b : Int)).toNat : Int) = _
  rw [BitVec.toNat_and, ofInt_i64 a ha, ofInt_i64 b hb, IntKind.wrap_i64]
  omega
theorem i64_or_nat (a b : Nat) (ha : a < 9223372036854775808) (hb : b < 9223372036854775808) : bits .or .i64 (a : Int) (b : Int) = ((a ||| b : Nat) : Int) := by
  have hx : a ||| b < 2 ^ 63 := Nat.or_lt_two_pow (by omega) (by omega)
  show IntKind.i64.wrap ((BitVec.ofInt 64 (a : Int) ||| BitVec.ofInt 64 (b : Int)).toNat : Int) = _
  rw [BitVec.toNat_or, ofInt_i64 a ha, ofInt_i64 b hb, IntKind.wrap_i64]
  omega
theorem bit_of (n i : Nat) : (n >>> i) &&& 1 = (n.testBit i).toNat := by
  rw [Nat.and_one_is_mod, Nat.testBit_eq_decide_div_mod_eq, Nat.shiftRight_eq_div_pow]
  by_cases h : n / 2 ^ i % 2 = 1
  · simp [h]
  · have : n / 2 ^ i % 2 = 0 := by omega
    simp [this]

set_option maxHeartbeats 1000000 in
theorem digits_any (n : Nat) (hn : n < 64) (w : World) :
    Calls Try.prog 79 #[.int .i64 n] w fun e w' => ∃ v', e = .returned v' ∧ OwnI w.heap.size w'.heap.size w' v' ((dig n).map fun (k : Nat) => (k : Int)) ∧ Below w.heap.size w w' := by
  go_enter Try.func79, Try.ntmps79
  go_wp2_with fail
  go_loopw [3, 4] (fun out kk wr => ∃ (i : Nat) (b : Option Addr) (cap : Nat), kk = .int .i64 i ∧ i ≤ 6 ∧ out = .slice b (digI n i).length cap ∧ wr.ownsRow w.heap.size 2 1 (.slice b (digI n i).length cap) (digI n i).length ((digI n i).map I64) ∧ Below w.heap.size w wr) (fun _ kk _ => 7 - (intOf kk).toNat)
  case atStart => exact ⟨0, none, 0, rfl, by omega, rfl, World.ownsRow_nil _ _ _ _, Below.refl _ _⟩
  case round =>
    obtain ⟨i, b, cap, rfl, hi, rfl, hown, hbl⟩ := hrel
    have HO := Lib.hid hown
    have HB := Lib.hid hbl
    have hd := shr_cast n i
    have hbit := bit_of n i
    obtain ⟨Q, hQ⟩ : ∃ Q, Q = n >>> i := ⟨_, rfl⟩
    rw [← hQ] at hd hbit
    have hQ64 : Q < 64 := by rw [hQ]; exact Nat.lt_of_le_of_lt (Nat.shiftRight_le n i) hn
    have hand := i64_and_nat Q 1 (by omega) (by decide)
    rw [hbit] at hand
    have HQ := Lib.hid hQ
    have hlen := digI_len n i
    clear hown hbl hQ hbit
    by_cases hz : 0 < Q
    · have hi6 : i < 6 := by
        by_cases h : i < 6
        · exact h
        · obtain rfl : i = 6 := by omega
          have := HQ.out
          rw [Nat.shiftRight_eq_div_pow] at this
          omega
      by_cases ht : n.testBit i = true
      · rw [ht] at hand
        have HE := Lib.hid (digI_yes ht)
        obtain ⟨ks, hks⟩ : ∃ ks, ks = digI n i := ⟨_, rfl⟩
        rw [← hks] at HO HE hlen ⊢
        have hsz := HB.out.size
        clear ht hks
        have hand2 : bits .and .i64 (Q : Int) 1 = 1 := by simpa using hand
        clear hand
        go_wp2_with (at_builtin; refine app_ints rfl _ _ rfl w.heap.size (.slice b ks.length cap) ks.length ks rfl (HO.out.alloc _) _ [(i : Int)] rfl (slc_one _ _) (ks.length + 1) (ks ++ [(i : Int)]) (by simp) rfl (by omega) (by simp; omega) ?_; intro b2 cap2 w3 hown2 hbl2 _ _)
        go_roundw
        case rel => exact ⟨i + 1, b2, cap2, by go_num, by omega, by rw [HE.out, List.length_append]; rfl, by rw [HE.out, List.length_append]; exact hown2, HB.out.trans (((Below.refl _ _).alloc hsz _).trans hbl2)⟩
        case measure => simp [intOf]; omega
      · rw [Bool.not_eq_true] at ht
        rw [ht] at hand
        have HE := Lib.hid (digI_no ht)
        clear ht
        have hand2 : bits .and .i64 (Q : Int) 1 = 0 := by simpa using hand
        clear hand
        go_wp2_with fail
        go_roundw
        case rel => exact ⟨i + 1, b, cap, by go_num, by omega, by rw [HE.out], by rw [HE.out]; exact HO.out, HB.out⟩
        case measure => simp [intOf]; omega
    · have hQ0 : Q = 0 := by omega
      have HD := Lib.hid (show digI n i = (dig n).map fun (k : Nat) => (k : Int) by
        unfold digI
        rw [dig_of ?_ (by omega)]
        have h1 := HQ.out
        rw [hQ0, Nat.shiftRight_eq_div_pow] at h1
        have h2 : 0 < 2 ^ i := Nat.two_pow_pos i
        rcases Nat.div_eq_zero_iff.1 h1.symm with h3 | h3
        · omega
        · exact h3)
      clear hz
      go_wp2_with fail
      go_ret
      exact ⟨_, rfl, by rw [← HD.out]; exact OwnI.mk HO.out, HB.out⟩

theorem u64_shr_cast (n i : Nat) : (n : Int) / 2 ^ i = ((n >>> i : Nat) : Int) := shr_cast n i

theorem wrap64_nat {n : Nat} (h : n < 18446744073709551616) : IntKind.u64.wrap (n : Int) = (n : Int) := IntWalk.u64_in _ (by omega)
theorem and64 (a b : Nat) (ha : a < 18446744073709551616) (hb : b < 18446744073709551616) : bits .and .u64 (a : Int) (b : Int) = ((a &&& b : Nat) : Int) := u64_and_nat a b ha hb

set_option maxHeartbeats 1000000 in
theorem OnesCount64_any (x : Nat) (hx : x < 4294967296) (w : World) :
    Calls Try.prog 85 #[.int .u64 x] w fun e w' => e = .returned (.int .i64 (popN 32 x)) ∧ w = w' := by
  obtain ⟨p0, p1, p2, p3, h0, h1, h2, h3, hst, hpop, hb1, hb2⟩ := pop_all hx
  have HPOP := Lib.hid hpop
  have HST := Lib.hid hst
  have E1 : IntKind.u64.wrap (bits .and .u64 ((x : Int) / 2) 6148914691236517205 + bits .and .u64 (x : Int) 6148914691236517205) = ((stage1 x : Nat) : Int) := by
    have a1 : ((x : Int) / (2 : Int)) = ((x >>> 1 : Nat) : Int) := by rw [Nat.shiftRight_eq_div_pow]; rfl
    have l1 : x >>> 1 < 18446744073709551616 := Nat.lt_of_le_of_lt (Nat.shiftRight_le x 1) (by omega)
    rw [a1, show (6148914691236517205 : Int) = ((6148914691236517205 : Nat) : Int) from rfl, and64 _ _ l1 (by decide), and64 _ _ (by omega) (by decide), ← Int.natCast_add]
    exact wrap64_nat (by have := hb1; unfold stage1 at this; omega)
  obtain ⟨X1, hX1⟩ : ∃ X, X = stage1 x := ⟨_, rfl⟩
  rw [← hX1] at E1 HST hb1 hb2
  have E2 : IntKind.u64.wrap (bits .and .u64 ((X1 : Int) / 4) 3689348814741910323 + bits .and .u64 (X1 : Int) 3689348814741910323) = ((stage2 X1 : Nat) : Int) := by
    have a1 : ((X1 : Int) / (4 : Int)) = ((X1 >>> 2 : Nat) : Int) := by rw [Nat.shiftRight_eq_div_pow]; rfl
    have l1 : X1 >>> 2 < 18446744073709551616 := Nat.lt_of_le_of_lt (Nat.shiftRight_le X1 2) (by omega)
    rw [a1, show (3689348814741910323 : Int) = ((3689348814741910323 : Nat) : Int) from rfl, and64 _ _ l1 (by decide), and64 _ _ (by omega) (by decide), ← Int.natCast_add]
    exact wrap64_nat (by have := hb2; unfold stage2 at this; omega)
  obtain ⟨X2, hX2⟩ : ∃ X, X = stage2 X1 := ⟨_, rfl⟩
  rw [← hX2] at E2 HST hb2
  have E3 : bits .and .u64 ((X2 : Int) / 16 + (X2 : Int)) 1085102592571150095 = ((stage3 X2 : Nat) : Int) := by
    have a1 : ((X2 : Int) / (16 : Int)) = ((X2 >>> 4 : Nat) : Int) := by rw [Nat.shiftRight_eq_div_pow]; rfl
    have l1 : X2 >>> 4 ≤ X2 := Nat.shiftRight_le X2 4
    rw [a1, ← Int.natCast_add, show (1085102592571150095 : Int) = ((1085102592571150095 : Nat) : Int) from rfl, and64 _ _ (by omega) (by decide)]
    rfl
  obtain ⟨y, hy⟩ : ∃ y, y = stage3 X2 := ⟨_, rfl⟩
  rw [← hy] at E3
  have hyp : y = p0 + 256 * (p1 + 256 * (p2 + 256 * (p3 + 256 * 0))) := by rw [hy]; exact HST.out
  obtain ⟨z, hz⟩ : ∃ z, z = y + y / 256 := ⟨_, rfl⟩
  obtain ⟨v, hv⟩ : ∃ v, v = z + z / 65536 := ⟨_, rfl⟩
  obtain ⟨s1, s2, s3, s4⟩ := sums h0 h1 h2 h3 hyp hz hv
  obtain ⟨u, hu⟩ : ∃ u, u = v + v / 4294967296 := ⟨_, rfl⟩
  have F1 : (y : Int) + (y : Int) / (256 : Int) = (z : Int) := by omega
  have F2 : (z : Int) + (z : Int) / (65536 : Int) = (v : Int) := by omega
  have F3 : (v : Int) + (v : Int) / (4294967296 : Int) = (u : Int) := by omega
  have hu2 : u < 8589934592 := by omega
  have F4 : bits .and .i64 (u : Int) 127 = ((popN 32 x : Nat) : Int) := by
    rw [show (127 : Int) = ((127 : Nat) : Int) from rfl, i64_and_nat _ _ (by omega) (by decide), hpop, ← s1, hu]
    rw [show (127 : Nat) = 2 ^ 7 - 1 from rfl, Nat.and_two_pow_sub_one_eq_mod]
  obtain ⟨P, hP⟩ : ∃ P, P = popN 32 x := ⟨_, rfl⟩
  rw [← hP] at F4 ⊢
  clear hX1 hX2 hy hst hpop HST HPOP hyp hz hv hu s1 hP
  go_enter Try.func85, Try.ntmps85
  go_wp2_with fail
  go_ret
  exact ⟨rfl, rfl⟩

theorem OnesCount_any (x : Nat) (hx : x < 4294967296) (w : World) :
    Calls Try.prog 86 #[.int .u64 x] w fun e w' => e = .returned (.int .i64 (popN 32 x)) ∧ w = w' := by
  go_enter Try.func86, Try.ntmps86
  go_wp2_with fail
  refine (OnesCount64_any x hx w).mono ?_
  rintro e w' ⟨rfl, rfl⟩
  go_wp2_with fail
  go_ret
  exact ⟨rfl, rfl⟩

end Go.Proofs.Ytnhamdkpeefioaa
