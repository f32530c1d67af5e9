/-
  How many cities a list of ways has: the program.
-/
import Derived.Test.YtljhohacgceojaaValidD2
namespace Go.Proofs.Ytljhohacgceojaa
open Go.RowKit

/-- The least n in k+1 .. k+f with n * n = L, or -1. -/
def citF (L : Nat) : Nat → Nat → Int
  | 0, _ => -1
  | f + 1, n => if ((L : Int) == (n : Int) * (n : Int)) = true then (n : Int) else citF L f (n + 1)
def citN (L : Nat) : Int := citF L 10 1

set_option maxHeartbeats 1000000 in
set_option maxRecDepth 4000 in
theorem cities_any (v : Value) (xs : List Int) (w : World) (h : RdI w v xs) :
    Calls Try.prog 93 #[v] w fun e w' => e = .returned (.int .i64 (citN xs.length)) ∧ w = w' := by
  obtain ⟨a, c, rfl⟩ := h.shape
  have hm := h.len
  simp only [maxLen] at hm
  clear h
  go_enter Try.func93, Try.ntmps93
  go_wp2_with fail
  go_loop [3] (fun i => ∃ k : Nat, i = .int .i64 ((k : Int) + 1) ∧ k ≤ 10 ∧ Hid (citN xs.length = citF xs.length (10 - k) (k + 1))) (fun i => 11 - (intOf i).toNat)
  case atStart => exact ⟨0, rfl, Nat.zero_le _, rfl⟩
  case round =>
    obtain ⟨k, rfl, hk, HC⟩ := hrel
    by_cases hlt : k < 10
    · have HS := Lib.hid (show citF xs.length (10 - k) (k + 1) = if ((xs.length : Int) == ((k : Int) + 1) * ((k : Int) + 1)) = true then ((k : Int) + 1) else citF xs.length (10 - (k + 1)) (k + 1 + 1) by
        rw [show 10 - k = (10 - (k + 1)) + 1 by omega]; simp [citF])
      have hkk : ((k : Int) + 1) * ((k : Int) + 1) ≤ 100 := by
        have h1 : (k : Int) + 1 ≤ 10 := by omega
        have h0 : (0 : Int) ≤ (k : Int) + 1 := by omega
        calc ((k : Int) + 1) * ((k : Int) + 1) ≤ 10 * 10 := Int.mul_le_mul h1 h1 h0 (by decide)
          _ = 100 := by decide
      have hk0 : (0 : Int) ≤ ((k : Int) + 1) * ((k : Int) + 1) := Int.mul_nonneg (by omega) (by omega)
      cases hq : ((xs.length : Int) == ((k : Int) + 1) * ((k : Int) + 1))
      · have HQ := Lib.hid hq
        go_wp2_with (go_at_call 99; refine (size_any _ _ (by unfold maxLen; omega)).mono ?_; rintro e w' ⟨rfl, rfl⟩)
        go_round
        case rel => exact ⟨k + 1, by go_num, by omega, by rw [HC.out, HS.out, HQ.out]; rfl⟩
        case measure => simp [intOf]; omega
      · have HQ := Lib.hid hq
        go_wp2_with (go_at_call 99; refine (size_any _ _ (by unfold maxLen; omega)).mono ?_; rintro e w' ⟨rfl, rfl⟩)
        go_ret
        exact ⟨by rw [HC.out, HS.out, HQ.out]; rfl, rfl⟩
    · obtain rfl : k = 10 := by omega
      go_wp2_with fail
      go_ret
      exact ⟨by rw [HC.out]; rfl, rfl⟩

end Go.Proofs.Ytljhohacgceojaa
