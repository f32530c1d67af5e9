/-
  Valid desks: the program's test of sizes.
-/
import Derived.Test.YtljhohacgceojaaValidD
namespace Go.Proofs.Ytljhohacgceojaa
open Go.RowKit

def areSizesB (xs : List Int) : Bool := inB 1 16 xs.length && allIn 1 1000 xs
set_option maxHeartbeats 1000000 in
theorem AreSizes_any (v : Value) (xs : List Int) (w : World) (h : RdI w v xs) :
    Calls Try.prog 90 #[v] w fun e w' => e = .returned (.bool (areSizesB xs)) ∧ w = w' := by
  obtain ⟨q2, hq2⟩ : ∃ q, allIn 1 1000 xs = q := ⟨_, rfl⟩
  have HW := Lib.hid (allWithin_any v xs 1 1000 w h)
  rw [hq2] at HW
  obtain ⟨a, c, rfl⟩ := h.shape
  have hm := h.len
  simp only [maxLen] at hm
  clear h
  obtain ⟨q1, hq1⟩ : ∃ q, inB 1 16 (xs.length : Int) = q := ⟨_, rfl⟩
  have HQ1 := Lib.hid hq1
  have HQ2 := Lib.hid hq2
  clear hq1 hq2
  go_enter Try.func90, Try.ntmps90
  cases q1
  · have HN := Lib.hid (show areSizesB xs = false by unfold areSizesB; rw [HQ1.out]; rfl)
    go_wp2_with (first | (go_at_call 99; refine (size_any _ _ (by unfold maxLen; omega)).mono ?_; rintro e w' ⟨rfl, rfl⟩) | (go_at_call 98; refine (within_any _ _ _ _).mono ?_; rintro e w' ⟨rfl, rfl⟩; rw [HQ1.out]))
    go_ret
    exact ⟨by rw [HN.out]; rfl, rfl⟩
  · have HN := Lib.hid (show areSizesB xs = q2 by unfold areSizesB; rw [HQ1.out, HQ2.out]; rfl)
    go_wp2_with (first | (go_at_call 99; refine (size_any _ _ (by unfold maxLen; omega)).mono ?_; rintro e w' ⟨rfl, rfl⟩) | (go_at_call 98; refine (within_any _ _ _ _).mono ?_; rintro e w' ⟨rfl, rfl⟩; rw [HQ1.out]))
    refine HW.out.mono ?_
    rintro e w' ⟨rfl, rfl⟩
    go_wp2_with fail
    go_ret
    exact ⟨by rw [HN.out]; rfl, rfl⟩

end Go.Proofs.Ytljhohacgceojaa
