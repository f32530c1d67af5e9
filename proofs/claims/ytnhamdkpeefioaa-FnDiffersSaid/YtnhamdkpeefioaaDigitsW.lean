/-
  The binary digits of a number below 2^32, by the program.
-/
import Derived.Test.YtnhamdkpeefioaaDigits
namespace Go.Proofs.Ytnhamdkpeefioaa
open Go.RowKit

set_option maxHeartbeats 1000000 in
theorem digitsW_any (n : Nat) (hn : n < 4294967296) (w : World) :
    Calls Try.prog 79 #[.int .i64 n] w fun e w' => ∃ v', e = .returned v' ∧ OwnI w.heap.size w'.heap.size w' v' ((dig n).map fun (k : Nat) => (k : Int)) ∧ Below w.heap.size w w' := by
  go_enter Try.func79, Try.ntmps79
  go_wp2_with fail
  go_loopw [3, 4] (fun out kk wr => ∃ (i : Nat) (b : Option Addr) (cap : Nat), kk = .int .i64 i ∧ i ≤ 32 ∧ out = .slice b (digI n i).length cap ∧ wr.ownsRow w.heap.size 2 1 (.slice b (digI n i).length cap) (digI n i).length ((digI n i).map I64) ∧ Below w.heap.size w wr) (fun _ kk _ => 33 - (intOf kk).toNat)
  case atStart => exact ⟨0, none, 0, rfl, by omega, rfl, World.ownsRow_nil _ _ _ _, Below.refl _ _⟩
  case round =>
    obtain ⟨i, b, cap, rfl, hi, rfl, hown, hbl⟩ := hrel
    have HO := Lib.hid hown
    have HB := Lib.hid hbl
    have hd := shr_cast n i
    have hbit := bit_of n i
    obtain ⟨Q, hQ⟩ : ∃ Q, Q = n >>> i := ⟨_, rfl⟩
    rw [← hQ] at hd hbit
    have hQ64 : Q < 4294967296 := by rw [hQ]; exact Nat.lt_of_le_of_lt (Nat.shiftRight_le n i) hn
    have hand := i64_and_nat Q 1 (by omega) (by decide)
    rw [hbit] at hand
    have HQ := Lib.hid hQ
    have hlen := digI_len n i
    clear hown hbl hQ hbit
    by_cases hz : 0 < Q
    · have hi6 : i < 32 := by
        by_cases h : i < 32
        · exact h
        · obtain rfl : i = 32 := by omega
          have := HQ.out
          rw [Nat.shiftRight_eq_div_pow] at this
          omega
      by_cases ht : n.testBit i = true
      · rw [ht] at hand
        have HE := Lib.hid (digI_yes ht)
        obtain ⟨ks, hks⟩ : ∃ ks, ks = digI n i := ⟨_, rfl⟩
        rw [← hks] at HO HE hlen ⊢
        have hsz := HB.out.size
        clear ht hks
        have hand2 : bits .and .i64 (Q : Int) 1 = 1 := by simpa using hand
        clear hand
        go_wp2_with (at_builtin; refine app_ints rfl _ _ rfl w.heap.size (.slice b ks.length cap) ks.length ks rfl (HO.out.alloc _) _ [(i : Int)] rfl (slc_one _ _) (ks.length + 1) (ks ++ [(i : Int)]) (by simp) rfl (by omega) (by simp; omega) ?_; intro b2 cap2 w3 hown2 hbl2 _ _)
        go_roundw
        case rel => exact ⟨i + 1, b2, cap2, by go_num, by omega, by rw [HE.out, List.length_append]; rfl, by rw [HE.out, List.length_append]; exact hown2, HB.out.trans (((Below.refl _ _).alloc hsz _).trans hbl2)⟩
        case measure => simp [intOf]; omega
      · rw [Bool.not_eq_true] at ht
        rw [ht] at hand
        have HE := Lib.hid (digI_no ht)
        clear ht
        have hand2 : bits .and .i64 (Q : Int) 1 = 0 := by simpa using hand
        clear hand
        go_wp2_with fail
        go_roundw
        case rel => exact ⟨i + 1, b, cap, by go_num, by omega, by rw [HE.out], by rw [HE.out]; exact HO.out, HB.out⟩
        case measure => simp [intOf]; omega
    · have hQ0 : Q = 0 := by omega
      have HD := Lib.hid (show digI n i = (dig n).map fun (k : Nat) => (k : Int) by
        unfold digI
        rw [dig_of ?_ (by omega)]
        have h1 := HQ.out
        rw [hQ0, Nat.shiftRight_eq_div_pow] at h1
        have h2 : 0 < 2 ^ i := Nat.two_pow_pos i
        rcases Nat.div_eq_zero_iff.1 h1.symm with h3 | h3
        · omega
        · exact h3)
      clear hz
      go_wp2_with fail
      go_ret
      exact ⟨_, rfl, by rw [← HD.out]; exact OwnI.mk HO.out, HB.out⟩

end Go.Proofs.Ytnhamdkpeefioaa
