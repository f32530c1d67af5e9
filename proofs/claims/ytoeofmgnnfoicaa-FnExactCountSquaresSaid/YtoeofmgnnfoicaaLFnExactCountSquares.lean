/-
  FnExactCountSquares: the law's walk, out of the contracts.
-/
import Derived.Test.YtoeofmgnnfoicaaCountS
import Derived.Test.YtoeofmgnnfoicaaMarkI
import Derived.Deep.RegionHeld3
import Derived.Deep.Cut
namespace Go.Proofs.Ytoeofmgnnfoicaa
open Go.RowKit

set_option maxHeartbeats 4000000 in
set_option maxRecDepth 100000 in
theorem lawCountSquares_any (w : World) (a0 : Int) (v1 : Value) (z1 : List Int) (r1 : RdI w v1 z1) :
    Calls Try.prog 8 #[.int .i64 a0, v1] w fun e w' => e = .returned (.bool true) ∧ Below w.heap.size w w' := by
  obtain ⟨x1, c1, rfl⟩ := r1.shape
  have l1_0 : z1.length ≤ 9223372036854775807 := by have := RdI.len r1; unfold maxLen at this; omega
  have RP1 := Lib.hid r1
  clear r1
  have B : Hid (Below w.heap.size w w) := Below.refl _ _
  go_enter Try.func8, Try.ntmps8
  by_cases hg1 : (1048576 : Int) < (z1.length : Nat)
  · go_wp2_with fail
    go_ret
    exact ⟨rfl, by first | exact B.out | (repeat' first | exact Below.refl _ _ | assumption | refine Below.alloc ?_ ?_ _ | refine Below.setCell ?_ ?_ _ | refine Below.drew ?_ | (simp; done) | (simp; omega))⟩
  have hs1 : bulkI z1 ≤ 1048576 := by unfold bulkI; omega
  have ne0 : ((csN a0 z1) != (csN a0 z1)) = false := by simp
  have ne1 : ((csOk a0 z1) != (csOk a0 z1)) = false := by simp
  go_upto_region 3 with fail
  go_wp2_with fail
  refine (toI_any _ z1 _ (RP1.out.up B.out (Nat.le_refl _)) hs1).mono ?_
  rintro e w1 ⟨vc1, rfl, c1, hb⟩
  replace c1 := Lib.hid c1
  replace B := Lib.hid (B.out.trans (hb.mono B.out.size))
  have zw1 : w.heap.size ≤ w1.heap.size := hb.size
  clear hb
  go_wp2_with fail
  refine (specCountS_any a0 _ z1 _ c1.out.rd).mono ?_
  rintro e w2 ⟨rfl, hb⟩
  replace B := Lib.hid (B.out.trans (hb.mono B.out.size))
  replace c1 := Lib.hid (c1.out.up hb (Nat.le_refl _))
  have zw2 : w1.heap.size ≤ w2.heap.size := hb.size
  clear hb
  clear c1
  go_upto_region 4 with fail
  go_wp2_with fail
  refine (toI_any _ z1 _ (RP1.out.up B.out (Nat.le_refl _)) hs1).mono ?_
  rintro e w3 ⟨vcp1, rfl, cp1, hb⟩
  replace cp1 := Lib.hid cp1
  replace B := Lib.hid (B.out.trans (hb.mono B.out.size))
  have zw3 : w2.heap.size ≤ w3.heap.size := hb.size
  clear hb
  go_upto_region 5 with fail
  go_wp2_with fail
  refine (implCountS_any a0 _ z1 _ cp1.out.rd).mono ?_
  rintro e w4 ⟨rfl, hb⟩
  replace B := Lib.hid (B.out.trans (hb.mono B.out.size))
  replace cp1 := Lib.hid (cp1.out.up hb (Nat.le_refl _))
  have zw4 : w3.heap.size ≤ w4.heap.size := hb.size
  clear hb
  go_upto_region 8 with fail
  go_wp2_with fail
  refine (toI_any _ z1 _ (RP1.out.up B.out (Nat.le_refl _)) hs1).mono ?_
  rintro e w5 ⟨vc1, rfl, c1, hb⟩
  replace c1 := Lib.hid c1
  replace B := Lib.hid (B.out.trans (hb.mono B.out.size))
  replace cp1 := Lib.hid (cp1.out.up hb (Nat.le_refl _))
  have zw5 : w4.heap.size ≤ w5.heap.size := hb.size
  clear hb
  go_wp2_with fail
  refine (eqI_same _ _ z1 _ cp1.out.rd c1.out.rd).mono ?_
  rintro e w6 ⟨rfl, hb⟩
  replace B := Lib.hid (B.out.trans (hb.mono B.out.size))
  replace cp1 := Lib.hid (cp1.out.up hb (Nat.le_refl _))
  replace c1 := Lib.hid (c1.out.up hb (Nat.le_refl _))
  have zw6 : w5.heap.size ≤ w6.heap.size := hb.size
  clear hb
  clear c1
  go_wp2_with fail
  go_ret
  exact ⟨rfl, B.out⟩

end Go.Proofs.Ytoeofmgnnfoicaa
