/-
  FnExactSameCases: the law's walk, out of the contracts.
-/
import Derived.Test.YtljhohacgceojaaSameCS
import Derived.Deep.RegionHeld3
import Derived.Deep.Cut
namespace Go.Proofs.Ytljhohacgceojaa
open Go.RowKit

set_option maxHeartbeats 4000000 in
set_option maxRecDepth 100000 in
theorem lawSameCases_any (w : World) (v0 : Value) (z0 : List CaseD) (r0 : RdCL w v0 z0) (v1 : Value) (z1 : List CaseD) (r1 : RdCL w v1 z1) :
    Calls Try.prog 3 #[v0, v1] w fun e w' => e = .returned (.bool true) ∧ Below w.heap.size w w' := by
  obtain ⟨x0, c0, rfl⟩ := r0.shape
  have l0_0 : z0.length ≤ 9223372036854775807 := by have := RdCL.len r0; unfold maxLen at this; omega
  obtain ⟨x1, c1, rfl⟩ := r1.shape
  have l1_0 : z1.length ≤ 9223372036854775807 := by have := RdCL.len r1; unfold maxLen at this; omega
  have RP0 := Lib.hid r0
  clear r0
  have RP1 := Lib.hid r1
  clear r1
  have B : Hid (Below w.heap.size w w) := Below.refl _ _
  go_enter Try.func3, Try.ntmps3
  go_upto_region 2 with fail
  go_wp2_with fail
  refine (szCL_any _ z0 _ _ (RP0.out.up B.out (Nat.le_refl _)) (by decide) (by decide)).mono ?_
  rintro e w1 ⟨s0, rfl, sa0, sb0, sc0, hb⟩
  replace B := Lib.hid (B.out.trans (hb.mono B.out.size))
  have zw1 : w.heap.size ≤ w1.heap.size := hb.size
  clear hb
  by_cases hn0 : s0 < 0
  · go_wp2_with fail
    go_ret
    exact ⟨rfl, B.out⟩
  have hs0 : bulkCL z0 ≤ 1048576 := by have := sc0 (by omega); omega
  go_upto_region 5 with fail
  go_wp2_with fail
  refine (szCL_any _ z1 _ _ (RP1.out.up B.out (Nat.le_refl _)) (by omega) (by omega)).mono ?_
  rintro e w2 ⟨s1, rfl, sa1, sb1, sc1, hb⟩
  replace B := Lib.hid (B.out.trans (hb.mono B.out.size))
  have zw2 : w1.heap.size ≤ w2.heap.size := hb.size
  clear hb
  by_cases hn1 : s1 < 0
  · go_wp2_with fail
    go_ret
    exact ⟨rfl, B.out⟩
  have hs1 : bulkCL z1 ≤ 1048576 := by have := sc1 (by omega); omega
  clear sa0 sb0 sc0
  clear sa1 sb1 sc1
  have ne0 : ((sameCL z0 z1) != (sameCL z0 z1)) = false := by simp
  go_upto_region 8 with fail
  go_wp2_with fail
  refine (toCL_any _ z0 _ (RP0.out.up B.out (Nat.le_refl _)) hs0).mono ?_
  rintro e w3 ⟨vc0, rfl, c0, hb⟩
  replace c0 := Lib.hid c0
  replace B := Lib.hid (B.out.trans (hb.mono B.out.size))
  have zw3 : w2.heap.size ≤ w3.heap.size := hb.size
  clear hb
  go_wp2_with fail
  refine (toCL_any _ z1 _ (RP1.out.up B.out (Nat.le_refl _)) hs1).mono ?_
  rintro e w4 ⟨vc1, rfl, c1, hb⟩
  replace c1 := Lib.hid c1
  replace B := Lib.hid (B.out.trans (hb.mono B.out.size))
  replace c0 := Lib.hid (c0.out.up hb (Nat.le_refl _))
  have zw4 : w3.heap.size ≤ w4.heap.size := hb.size
  clear hb
  go_wp2_with fail
  refine (specSameCases_o _ z0 _ z1 _ c0.out.rd c1.out.rd).mono ?_
  rintro e w5 ⟨rfl, hb⟩
  replace B := Lib.hid (B.out.trans (hb.mono B.out.size))
  replace c0 := Lib.hid (c0.out.up hb (Nat.le_refl _))
  replace c1 := Lib.hid (c1.out.up hb (Nat.le_refl _))
  have zw5 : w4.heap.size ≤ w5.heap.size := hb.size
  clear hb
  clear c0 c1
  go_upto_region 9 with fail
  go_wp2_with fail
  refine (toCL_any _ z0 _ (RP0.out.up B.out (Nat.le_refl _)) hs0).mono ?_
  rintro e w6 ⟨vcp0, rfl, cp0, hb⟩
  replace cp0 := Lib.hid cp0
  replace B := Lib.hid (B.out.trans (hb.mono B.out.size))
  have zw6 : w5.heap.size ≤ w6.heap.size := hb.size
  clear hb
  go_upto_region 10 with fail
  go_wp2_with fail
  refine (toCL_any _ z1 _ (RP1.out.up B.out (Nat.le_refl _)) hs1).mono ?_
  rintro e w7 ⟨vcp1, rfl, cp1, hb⟩
  replace cp1 := Lib.hid cp1
  replace B := Lib.hid (B.out.trans (hb.mono B.out.size))
  replace cp0 := Lib.hid (cp0.out.up hb (Nat.le_refl _))
  have zw7 : w6.heap.size ≤ w7.heap.size := hb.size
  clear hb
  go_upto_region 11 with fail
  go_wp2_with fail
  refine (implSameCases_o _ z0 _ z1 _ cp0.out.rd cp1.out.rd).mono ?_
  rintro e w8 ⟨rfl, hb⟩
  replace B := Lib.hid (B.out.trans (hb.mono B.out.size))
  replace cp0 := Lib.hid (cp0.out.up hb (Nat.le_refl _))
  replace cp1 := Lib.hid (cp1.out.up hb (Nat.le_refl _))
  have zw8 : w7.heap.size ≤ w8.heap.size := hb.size
  clear hb
  go_upto_region 14 with fail
  go_wp2_with fail
  refine (toCL_any _ z0 _ (RP0.out.up B.out (Nat.le_refl _)) hs0).mono ?_
  rintro e w9 ⟨vc0, rfl, c0, hb⟩
  replace c0 := Lib.hid c0
  replace B := Lib.hid (B.out.trans (hb.mono B.out.size))
  replace cp0 := Lib.hid (cp0.out.up hb (Nat.le_refl _))
  replace cp1 := Lib.hid (cp1.out.up hb (Nat.le_refl _))
  have zw9 : w8.heap.size ≤ w9.heap.size := hb.size
  clear hb
  go_wp2_with fail
  refine (eqCL_same _ _ z0 _ cp0.out.rd c0.out.rd).mono ?_
  rintro e w10 ⟨rfl, hb⟩
  replace B := Lib.hid (B.out.trans (hb.mono B.out.size))
  replace cp0 := Lib.hid (cp0.out.up hb (Nat.le_refl _))
  replace cp1 := Lib.hid (cp1.out.up hb (Nat.le_refl _))
  replace c0 := Lib.hid (c0.out.up hb (Nat.le_refl _))
  have zw10 : w9.heap.size ≤ w10.heap.size := hb.size
  clear hb
  clear c0
  go_upto_region 16 with fail
  go_wp2_with fail
  refine (toCL_any _ z1 _ (RP1.out.up B.out (Nat.le_refl _)) hs1).mono ?_
  rintro e w11 ⟨vc1, rfl, c1, hb⟩
  replace c1 := Lib.hid c1
  replace B := Lib.hid (B.out.trans (hb.mono B.out.size))
  replace cp0 := Lib.hid (cp0.out.up hb (Nat.le_refl _))
  replace cp1 := Lib.hid (cp1.out.up hb (Nat.le_refl _))
  have zw11 : w10.heap.size ≤ w11.heap.size := hb.size
  clear hb
  go_wp2_with fail
  refine (eqCL_same _ _ z1 _ cp1.out.rd c1.out.rd).mono ?_
  rintro e w12 ⟨rfl, hb⟩
  replace B := Lib.hid (B.out.trans (hb.mono B.out.size))
  replace cp0 := Lib.hid (cp0.out.up hb (Nat.le_refl _))
  replace cp1 := Lib.hid (cp1.out.up hb (Nat.le_refl _))
  replace c1 := Lib.hid (c1.out.up hb (Nat.le_refl _))
  have zw12 : w11.heap.size ≤ w12.heap.size := hb.size
  clear hb
  clear c1
  go_wp2_with fail
  go_ret
  exact ⟨rfl, B.out⟩

end Go.Proofs.Ytljhohacgceojaa
