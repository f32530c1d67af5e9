/-
  FnExactAddRow: the law's walk, out of the contracts.
-/
import Derived.Test.YtkcpncaedocdnaaAddRowI
import Derived.Test.YtkcpncaedocdnaaAddRowS
import Derived.Test.YtkcpncaedocdnaaOpenR
import Derived.Deep.RegionHeld3
import Derived.Deep.Cut
namespace Go.Proofs.Ytkcpncaedocdnaa
open Go.RowKit

set_option maxHeartbeats 4000000 in
set_option maxRecDepth 100000 in
theorem lawAddRow_any (w : World) (v0 : Value) (z0 : RowsD) (r0 : RdR w v0 z0) (v1 : Value) (z1 : List Nat) (r1 : RdF w v1 z1) (a2 : Nat) :
    Calls Try.prog 8 #[v0, v1, .float .f32 a2] w fun e w' => e = .returned (.bool true) ∧ Below w.heap.size w w' := by
  obtain ⟨x0, c0, y0, d0, u0, f0, rfl⟩ := r0.shape
  obtain ⟨x1, c1, rfl⟩ := r1.shape
  have l1_0 : z1.length ≤ 9223372036854775807 := by have := RdF.len r1; unfold maxLen at this; omega
  have RP0 := Lib.hid r0
  clear r0
  have RP1 := Lib.hid r1
  clear r1
  have B : Hid (Below w.heap.size w w) := Below.refl _ _
  go_enter Try.func8, Try.ntmps8
  by_cases hg1 : (1048576 : Int) < (z1.length : Nat)
  · go_wp2_with fail
    go_ret
    exact ⟨rfl, by first | exact B.out | (repeat' first | exact Below.refl _ _ | assumption | refine Below.alloc ?_ ?_ _ | refine Below.setCell ?_ ?_ _ | refine Below.drew ?_ | (simp; done) | (simp; omega))⟩
  have hs1 : bulkF z1 ≤ 1048576 := by unfold bulkF; omega
  go_upto_region 4 with fail
  refine wp_at fun w1 hW => ?_
  have hb : Below w.heap.size w w1 := by subst hW; (repeat' first | exact Below.refl _ _ | assumption | refine Below.alloc ?_ ?_ _ | refine Below.setCell ?_ ?_ _ | refine Below.drew ?_ | (simp; done) | (simp; omega))
  have K0 := Lib.hid (show Blk w1 (w.heap.size) 46 #[.int .i64 z0.vars, .slice x0 z0.nums.length c0, .slice y0 z0.bnds.length d0, .slice u0 z0.gains.length f0] by subst hW; simpa using (Blk.new w 46 #[.int .i64 z0.vars, .slice x0 z0.nums.length c0, .slice y0 z0.bnds.length d0, .slice u0 z0.gains.length f0]))
  have zw1 := hb.size
  have lK0 := K0.out.lt
  replace B := Lib.hid hb
  clear hb hW
  have tK0_0 : w1.cell? ⟨w.heap.size, 0, none⟩ = some (.int .i64 z0.vars) := K0.out.cell 0 rfl
  have tK0_1 : w1.cell? ⟨w.heap.size, 1, none⟩ = some (.slice x0 z0.nums.length c0) := K0.out.cell 1 rfl
  have tK0_2 : w1.cell? ⟨w.heap.size, 2, none⟩ = some (.slice y0 z0.bnds.length d0) := K0.out.cell 2 rfl
  have tK0_3 : w1.cell? ⟨w.heap.size, 3, none⟩ = some (.slice u0 z0.gains.length f0) := K0.out.cell 3 rfl
  go_wp2_with fail
  refine (szR_any _ z0 _ _ (RP0.out.up B.out (Nat.le_refl _)) (by decide) (by decide)).mono ?_
  rintro e w2 ⟨s0, rfl, sa0, sb0, sc0, hb⟩
  clear tK0_0 tK0_1 tK0_2 tK0_3
  replace B := Lib.hid (B.out.trans (hb.mono B.out.size))
  replace K0 := Lib.hid (K0.out.below hb K0.out.lt)
  have zw2 : w1.heap.size ≤ w2.heap.size := hb.size
  clear hb
  by_cases hn0 : s0 < 0
  · go_wp2_with fail
    go_ret
    exact ⟨rfl, B.out⟩
  have hs0 : bulkR z0 ≤ 1048576 := by have := sc0 (by omega); omega
  clear sa0 sb0 sc0
  have ne1 : ((addOk z0 z1 a2) != (addOk z0 z1 a2)) = false := by simp
  go_upto_region 7 with fail
  have tK0_0 : w2.cell? ⟨w.heap.size, 0, none⟩ = some (.int .i64 z0.vars) := K0.out.cell 0 rfl
  have tK0_1 : w2.cell? ⟨w.heap.size, 1, none⟩ = some (.slice x0 z0.nums.length c0) := K0.out.cell 1 rfl
  have tK0_2 : w2.cell? ⟨w.heap.size, 2, none⟩ = some (.slice y0 z0.bnds.length d0) := K0.out.cell 2 rfl
  have tK0_3 : w2.cell? ⟨w.heap.size, 3, none⟩ = some (.slice u0 z0.gains.length f0) := K0.out.cell 3 rfl
  go_wp2_with fail
  refine (toR_any _ z0 _ (RP0.out.up B.out (Nat.le_refl _)) hs0).mono ?_
  rintro e w3 ⟨vc0, rfl, c0, hb⟩
  replace tK0_0 := held_of hb tK0_0 (Nat.le_refl _)
  replace tK0_1 := held_of hb tK0_1 (Nat.le_refl _)
  replace tK0_2 := held_of hb tK0_2 (Nat.le_refl _)
  replace tK0_3 := held_of hb tK0_3 (Nat.le_refl _)
  replace c0 := Lib.hid c0
  replace B := Lib.hid (B.out.trans (hb.mono B.out.size))
  replace K0 := Lib.hid (K0.out.below hb K0.out.lt)
  have zw3 : w2.heap.size ≤ w3.heap.size := hb.size
  clear hb
  go_wp2_with fail
  refine (toF_any _ z1 _ (RP1.out.up B.out (Nat.le_refl _)) hs1).mono ?_
  rintro e w4 ⟨vc1, rfl, c1, hb⟩
  replace tK0_0 := held_of hb tK0_0 (Nat.le_refl _)
  replace tK0_1 := held_of hb tK0_1 (Nat.le_refl _)
  replace tK0_2 := held_of hb tK0_2 (Nat.le_refl _)
  replace tK0_3 := held_of hb tK0_3 (Nat.le_refl _)
  replace c1 := Lib.hid c1
  replace B := Lib.hid (B.out.trans (hb.mono B.out.size))
  replace K0 := Lib.hid (K0.out.below hb K0.out.lt)
  replace c0 := Lib.hid (c0.out.up hb (Nat.le_refl _))
  have zw4 : w3.heap.size ≤ w4.heap.size := hb.size
  clear hb
  go_wp2_with fail
  refine (addRowS_any _ z0 _ z1 a2 _ c0.out.rd c1.out.rd).mono ?_
  rintro e w5 ⟨Wv0, rfl, Wo0, hb⟩
  clear tK0_0 tK0_1 tK0_2 tK0_3
  replace Wo0 := Lib.hid Wo0
  replace B := Lib.hid (B.out.trans (hb.mono B.out.size))
  replace K0 := Lib.hid (K0.out.below hb K0.out.lt)
  replace c0 := Lib.hid (c0.out.up hb (Nat.le_refl _))
  replace c1 := Lib.hid (c1.out.up hb (Nat.le_refl _))
  have zw5 : w4.heap.size ≤ w5.heap.size := hb.size
  clear hb
  clear c0 c1
  obtain ⟨xW0, cW0, yW0, dW0, uW0, fW0, rfl⟩ := Wo0.out.rd.shape
  go_upto_region 8 with fail
  refine wp_at fun w6 hW => ?_
  have hb : Below w5.heap.size w5 w6 := by subst hW; (repeat' first | exact Below.refl _ _ | assumption | refine Below.alloc ?_ ?_ _ | refine Below.setCell ?_ ?_ _ | refine Below.drew ?_ | (simp; done) | (simp; omega))
  have YW0 := Lib.hid (show Blk w6 w5.heap.size 49 #[.int .i64 (addV z0 z1 a2).vars, .slice xW0 (addV z0 z1 a2).nums.length cW0, .slice yW0 (addV z0 z1 a2).bnds.length dW0, .slice uW0 (addV z0 z1 a2).gains.length fW0] by subst hW; exact Blk.new _ _ _)
  clear hW
  replace B := Lib.hid (B.out.trans (hb.mono B.out.size))
  replace K0 := Lib.hid (K0.out.below hb K0.out.lt)
  replace Wo0 := Lib.hid (Wo0.out.up hb (Nat.le_refl _))
  have zw6 : w5.heap.size ≤ w6.heap.size := hb.size
  clear hb
  have lYW0 := YW0.out.lt
  have tK0_0 : w6.cell? ⟨w.heap.size, 0, none⟩ = some (.int .i64 z0.vars) := K0.out.cell 0 rfl
  have tK0_1 : w6.cell? ⟨w.heap.size, 1, none⟩ = some (.slice x0 z0.nums.length c0) := K0.out.cell 1 rfl
  have tK0_2 : w6.cell? ⟨w.heap.size, 2, none⟩ = some (.slice y0 z0.bnds.length d0) := K0.out.cell 2 rfl
  have tK0_3 : w6.cell? ⟨w.heap.size, 3, none⟩ = some (.slice u0 z0.gains.length f0) := K0.out.cell 3 rfl
  go_wp2_with fail
  refine (toR_any _ z0 _ (RP0.out.up B.out (Nat.le_refl _)) hs0).mono ?_
  rintro e w7 ⟨vcp0, rfl, cp0, hb⟩
  clear tK0_0 tK0_1 tK0_2 tK0_3
  replace cp0 := Lib.hid cp0
  replace B := Lib.hid (B.out.trans (hb.mono B.out.size))
  replace K0 := Lib.hid (K0.out.below hb K0.out.lt)
  replace Wo0 := Lib.hid (Wo0.out.up hb (Nat.le_refl _))
  replace YW0 := Lib.hid (YW0.out.below hb YW0.out.lt)
  have zw7 : w6.heap.size ≤ w7.heap.size := hb.size
  clear hb
  obtain ⟨px0, pc0, py0, pd0, pu0, pf0, rfl⟩ := cp0.out.rd.shape
  go_upto_region 9 with fail
  refine wp_at fun w8 hW => ?_
  have hb : Below w7.heap.size w7 w8 := by subst hW; (repeat' first | exact Below.refl _ _ | assumption | refine Below.alloc ?_ ?_ _ | refine Below.setCell ?_ ?_ _ | refine Below.drew ?_ | (simp; done) | (simp; omega))
  have X0 := Lib.hid (show Blk w8 w7.heap.size 49 #[.int .i64 z0.vars, .slice px0 z0.nums.length pc0, .slice py0 z0.bnds.length pd0, .slice pu0 z0.gains.length pf0] by subst hW; exact Blk.new _ _ _)
  clear hW
  replace B := Lib.hid (B.out.trans (hb.mono B.out.size))
  replace K0 := Lib.hid (K0.out.below hb K0.out.lt)
  replace Wo0 := Lib.hid (Wo0.out.up hb (Nat.le_refl _))
  replace YW0 := Lib.hid (YW0.out.below hb YW0.out.lt)
  replace cp0 := Lib.hid (cp0.out.up hb (Nat.le_refl _))
  have zw8 : w7.heap.size ≤ w8.heap.size := hb.size
  clear hb
  have lX0 := X0.out.lt
  go_wp2_with fail
  refine (toF_any _ z1 _ (RP1.out.up B.out (Nat.le_refl _)) hs1).mono ?_
  rintro e w9 ⟨vcp1, rfl, cp1, hb⟩
  replace cp1 := Lib.hid cp1
  replace B := Lib.hid (B.out.trans (hb.mono B.out.size))
  replace K0 := Lib.hid (K0.out.below hb K0.out.lt)
  replace Wo0 := Lib.hid (Wo0.out.up hb (Nat.le_refl _))
  replace YW0 := Lib.hid (YW0.out.below hb YW0.out.lt)
  replace cp0 := Lib.hid (cp0.out.up hb (Nat.le_refl _))
  replace X0 := Lib.hid (X0.out.below hb X0.out.lt)
  have zw9 : w8.heap.size ≤ w9.heap.size := hb.size
  clear hb
  go_upto_region 10 with fail
  have tX0_0 : w9.cell? ⟨w7.heap.size, 0, none⟩ = some (.int .i64 z0.vars) := X0.out.cell 0 rfl
  have tX0_1 : w9.cell? ⟨w7.heap.size, 1, none⟩ = some (.slice px0 z0.nums.length pc0) := X0.out.cell 1 rfl
  have tX0_2 : w9.cell? ⟨w7.heap.size, 2, none⟩ = some (.slice py0 z0.bnds.length pd0) := X0.out.cell 2 rfl
  have tX0_3 : w9.cell? ⟨w7.heap.size, 3, none⟩ = some (.slice pu0 z0.gains.length pf0) := X0.out.cell 3 rfl
  go_wp2_with fail
  refine (addRowI_any _ z0 _ z1 a2 _ cp0.out.rd cp1.out.rd).mono ?_
  rintro e w10 ⟨Gv0, rfl, Go0, hb⟩
  clear tX0_0 tX0_1 tX0_2 tX0_3
  replace Go0 := Lib.hid Go0
  replace B := Lib.hid (B.out.trans (hb.mono B.out.size))
  replace K0 := Lib.hid (K0.out.below hb K0.out.lt)
  replace Wo0 := Lib.hid (Wo0.out.up hb (Nat.le_refl _))
  replace YW0 := Lib.hid (YW0.out.below hb YW0.out.lt)
  replace cp0 := Lib.hid (cp0.out.up hb (Nat.le_refl _))
  replace X0 := Lib.hid (X0.out.below hb X0.out.lt)
  replace cp1 := Lib.hid (cp1.out.up hb (Nat.le_refl _))
  have zw10 : w9.heap.size ≤ w10.heap.size := hb.size
  clear hb
  obtain ⟨xG0, cG0, yG0, dG0, uG0, fG0, rfl⟩ := Go0.out.rd.shape
  go_upto_region 11 with fail
  refine wp_at fun w11 hW => ?_
  have hb : Below w10.heap.size w10 w11 := by subst hW; (repeat' first | exact Below.refl _ _ | assumption | refine Below.alloc ?_ ?_ _ | refine Below.setCell ?_ ?_ _ | refine Below.drew ?_ | (simp; done) | (simp; omega))
  have YG0 := Lib.hid (show Blk w11 w10.heap.size 49 #[.int .i64 (addV z0 z1 a2).vars, .slice xG0 (addV z0 z1 a2).nums.length cG0, .slice yG0 (addV z0 z1 a2).bnds.length dG0, .slice uG0 (addV z0 z1 a2).gains.length fG0] by subst hW; exact Blk.new _ _ _)
  clear hW
  replace B := Lib.hid (B.out.trans (hb.mono B.out.size))
  replace K0 := Lib.hid (K0.out.below hb K0.out.lt)
  replace Wo0 := Lib.hid (Wo0.out.up hb (Nat.le_refl _))
  replace YW0 := Lib.hid (YW0.out.below hb YW0.out.lt)
  replace cp0 := Lib.hid (cp0.out.up hb (Nat.le_refl _))
  replace X0 := Lib.hid (X0.out.below hb X0.out.lt)
  replace cp1 := Lib.hid (cp1.out.up hb (Nat.le_refl _))
  replace Go0 := Lib.hid (Go0.out.up hb (Nat.le_refl _))
  have zw11 : w10.heap.size ≤ w11.heap.size := hb.size
  clear hb
  have lYG0 := YG0.out.lt
  have tYG0_0 : w11.cell? ⟨w10.heap.size, 0, none⟩ = some (.int .i64 (addV z0 z1 a2).vars) := YG0.out.cell 0 rfl
  have tYG0_1 : w11.cell? ⟨w10.heap.size, 1, none⟩ = some (.slice xG0 (addV z0 z1 a2).nums.length cG0) := YG0.out.cell 1 rfl
  have tYG0_2 : w11.cell? ⟨w10.heap.size, 2, none⟩ = some (.slice yG0 (addV z0 z1 a2).bnds.length dG0) := YG0.out.cell 2 rfl
  have tYG0_3 : w11.cell? ⟨w10.heap.size, 3, none⟩ = some (.slice uG0 (addV z0 z1 a2).gains.length fG0) := YG0.out.cell 3 rfl
  have tYW0_0 : w11.cell? ⟨w5.heap.size, 0, none⟩ = some (.int .i64 (addV z0 z1 a2).vars) := YW0.out.cell 0 rfl
  have tYW0_1 : w11.cell? ⟨w5.heap.size, 1, none⟩ = some (.slice xW0 (addV z0 z1 a2).nums.length cW0) := YW0.out.cell 1 rfl
  have tYW0_2 : w11.cell? ⟨w5.heap.size, 2, none⟩ = some (.slice yW0 (addV z0 z1 a2).bnds.length dW0) := YW0.out.cell 2 rfl
  have tYW0_3 : w11.cell? ⟨w5.heap.size, 3, none⟩ = some (.slice uW0 (addV z0 z1 a2).gains.length fW0) := YW0.out.cell 3 rfl
  go_wp2_with fail
  refine (eqR_same _ _ (addV z0 z1 a2) _ Go0.out.rd Wo0.out.rd).mono ?_
  rintro e w12 ⟨rfl, hb⟩
  clear tYG0_0 tYG0_1 tYG0_2 tYG0_3 tYW0_0 tYW0_1 tYW0_2 tYW0_3
  replace B := Lib.hid (B.out.trans (hb.mono B.out.size))
  replace K0 := Lib.hid (K0.out.below hb K0.out.lt)
  replace Wo0 := Lib.hid (Wo0.out.up hb (Nat.le_refl _))
  replace YW0 := Lib.hid (YW0.out.below hb YW0.out.lt)
  replace cp0 := Lib.hid (cp0.out.up hb (Nat.le_refl _))
  replace X0 := Lib.hid (X0.out.below hb X0.out.lt)
  replace cp1 := Lib.hid (cp1.out.up hb (Nat.le_refl _))
  replace Go0 := Lib.hid (Go0.out.up hb (Nat.le_refl _))
  replace YG0 := Lib.hid (YG0.out.below hb YG0.out.lt)
  have zw12 : w11.heap.size ≤ w12.heap.size := hb.size
  clear hb
  go_upto_region 13 with fail
  have tX0_0 : w12.cell? ⟨w7.heap.size, 0, none⟩ = some (.int .i64 z0.vars) := X0.out.cell 0 rfl
  have tX0_1 : w12.cell? ⟨w7.heap.size, 1, none⟩ = some (.slice px0 z0.nums.length pc0) := X0.out.cell 1 rfl
  have tX0_2 : w12.cell? ⟨w7.heap.size, 2, none⟩ = some (.slice py0 z0.bnds.length pd0) := X0.out.cell 2 rfl
  have tX0_3 : w12.cell? ⟨w7.heap.size, 3, none⟩ = some (.slice pu0 z0.gains.length pf0) := X0.out.cell 3 rfl
  have tK0_0 : w12.cell? ⟨w.heap.size, 0, none⟩ = some (.int .i64 z0.vars) := K0.out.cell 0 rfl
  have tK0_1 : w12.cell? ⟨w.heap.size, 1, none⟩ = some (.slice x0 z0.nums.length c0) := K0.out.cell 1 rfl
  have tK0_2 : w12.cell? ⟨w.heap.size, 2, none⟩ = some (.slice y0 z0.bnds.length d0) := K0.out.cell 2 rfl
  have tK0_3 : w12.cell? ⟨w.heap.size, 3, none⟩ = some (.slice u0 z0.gains.length f0) := K0.out.cell 3 rfl
  go_wp2_with fail
  go_region_held3 (fun w' => w'.cell? ⟨w7.heap.size, 0, none⟩ = some (.int .i64 z0.vars) ∧ w'.cell? ⟨w7.heap.size, 1, none⟩ = some (.slice px0 z0.nums.length pc0) ∧ w'.cell? ⟨w7.heap.size, 2, none⟩ = some (.slice py0 z0.bnds.length pd0) ∧ w'.cell? ⟨w7.heap.size, 3, none⟩ = some (.slice pu0 z0.gains.length pf0) ∧ w'.cell? ⟨w.heap.size, 0, none⟩ = some (.int .i64 z0.vars) ∧ w'.cell? ⟨w.heap.size, 1, none⟩ = some (.slice x0 z0.nums.length c0) ∧ w'.cell? ⟨w.heap.size, 2, none⟩ = some (.slice y0 z0.bnds.length d0) ∧ w'.cell? ⟨w.heap.size, 3, none⟩ = some (.slice u0 z0.gains.length f0) ∧ Below w12.heap.size w12 w')
    (first | exact ⟨held_of hbn tX0_0 (Nat.le_refl _), held_of hbn tX0_1 (Nat.le_refl _), held_of hbn tX0_2 (Nat.le_refl _), held_of hbn tX0_3 (Nat.le_refl _), held_of hbn tK0_0 (Nat.le_refl _), held_of hbn tK0_1 (Nat.le_refl _), held_of hbn tK0_2 (Nat.le_refl _), held_of hbn tK0_3 (Nat.le_refl _), hbn⟩ | exact ⟨tX0_0, tX0_1, tX0_2, tX0_3, tK0_0, tK0_1, tK0_2, tK0_3, (Below.refl _ _).drew⟩)
    (first
      | (go_at_call_of 33 x0; have hh := (‹_ ∧ _ ∧ _ ∧ _ ∧ _ ∧ _ ∧ _ ∧ _ ∧ Below w12.heap.size w12 _›).2.2.2.2.2.2.2.2; refine (toR_any _ z0 _ ((RP0.out.up B.out (Nat.le_refl _)).up hh (Nat.le_refl _)) hs0).mono ?_; rintro e w13 ⟨vc0, rfl, c0, hb0⟩; have hbn := hh.trans (hb0.mono hh.size))
      | (go_at_call 36; have hh := (‹_ ∧ _ ∧ _ ∧ _ ∧ _ ∧ _ ∧ _ ∧ _ ∧ Below w12.heap.size w12 _›).2.2.2.2.2.2.2.2; refine (eqR_same _ _ z0 _ (cp0.out.up hh (Nat.le_refl _)).rd c0.rd).mono ?_; rintro e w14 ⟨rfl, hb1⟩; have hbn := hh.trans (hb1.mono hh.size)))
  clear tX0_0 tX0_1 tX0_2 tX0_3 tK0_0 tK0_1 tK0_2 tK0_3
  clear hh hb0 hb1 c0
  replace B := Lib.hid (B.out.trans (hbn.mono B.out.size))
  replace K0 := Lib.hid (K0.out.below hbn K0.out.lt)
  replace Wo0 := Lib.hid (Wo0.out.up hbn (Nat.le_refl _))
  replace YW0 := Lib.hid (YW0.out.below hbn YW0.out.lt)
  replace cp0 := Lib.hid (cp0.out.up hbn (Nat.le_refl _))
  replace X0 := Lib.hid (X0.out.below hbn X0.out.lt)
  replace cp1 := Lib.hid (cp1.out.up hbn (Nat.le_refl _))
  replace Go0 := Lib.hid (Go0.out.up hbn (Nat.le_refl _))
  replace YG0 := Lib.hid (YG0.out.below hbn YG0.out.lt)
  have zw14 : w12.heap.size ≤ w14.heap.size := hbn.size
  clear hbn
  go_upto_region 15 with fail
  go_wp2_with fail
  refine (toF_any _ z1 _ (RP1.out.up B.out (Nat.le_refl _)) hs1).mono ?_
  rintro e w15 ⟨vc1, rfl, c1, hb⟩
  replace c1 := Lib.hid c1
  replace B := Lib.hid (B.out.trans (hb.mono B.out.size))
  replace K0 := Lib.hid (K0.out.below hb K0.out.lt)
  replace Wo0 := Lib.hid (Wo0.out.up hb (Nat.le_refl _))
  replace YW0 := Lib.hid (YW0.out.below hb YW0.out.lt)
  replace cp0 := Lib.hid (cp0.out.up hb (Nat.le_refl _))
  replace X0 := Lib.hid (X0.out.below hb X0.out.lt)
  replace cp1 := Lib.hid (cp1.out.up hb (Nat.le_refl _))
  replace Go0 := Lib.hid (Go0.out.up hb (Nat.le_refl _))
  replace YG0 := Lib.hid (YG0.out.below hb YG0.out.lt)
  have zw15 : w14.heap.size ≤ w15.heap.size := hb.size
  clear hb
  go_wp2_with fail
  refine (eqF_same _ _ z1 _ cp1.out.rd c1.out.rd).mono ?_
  rintro e w16 ⟨rfl, hb⟩
  replace B := Lib.hid (B.out.trans (hb.mono B.out.size))
  replace K0 := Lib.hid (K0.out.below hb K0.out.lt)
  replace Wo0 := Lib.hid (Wo0.out.up hb (Nat.le_refl _))
  replace YW0 := Lib.hid (YW0.out.below hb YW0.out.lt)
  replace cp0 := Lib.hid (cp0.out.up hb (Nat.le_refl _))
  replace X0 := Lib.hid (X0.out.below hb X0.out.lt)
  replace cp1 := Lib.hid (cp1.out.up hb (Nat.le_refl _))
  replace Go0 := Lib.hid (Go0.out.up hb (Nat.le_refl _))
  replace YG0 := Lib.hid (YG0.out.below hb YG0.out.lt)
  replace c1 := Lib.hid (c1.out.up hb (Nat.le_refl _))
  have zw16 : w15.heap.size ≤ w16.heap.size := hb.size
  clear hb
  clear c1
  have hk0 : (0 : Int) ≤ 1 := by decide
  have hc0 : (0 : Int) ≤ (cntR z0 : Nat) := by omega
  go_upto_region 18 with fail
  have tX0_0 : w16.cell? ⟨w7.heap.size, 0, none⟩ = some (.int .i64 z0.vars) := X0.out.cell 0 rfl
  have tX0_1 : w16.cell? ⟨w7.heap.size, 1, none⟩ = some (.slice px0 z0.nums.length pc0) := X0.out.cell 1 rfl
  have tX0_2 : w16.cell? ⟨w7.heap.size, 2, none⟩ = some (.slice py0 z0.bnds.length pd0) := X0.out.cell 2 rfl
  have tX0_3 : w16.cell? ⟨w7.heap.size, 3, none⟩ = some (.slice pu0 z0.gains.length pf0) := X0.out.cell 3 rfl
  go_wp2_with fail
  refine (markR_o _ _ _ z0 _ _ cp0.out (by omega) (by have := cntR_le z0; omega)).mono ?_
  rintro e w17 ⟨rfl, -, hb⟩
  clear tX0_0 tX0_1 tX0_2 tX0_3
  replace B := Lib.hid (B.out.trans (hb.toBelow B.out.size (by rintro k hk1 ⟨h1, h2⟩; omega)))
  replace K0 := Lib.hid (K0.out.kept hb (by rintro ⟨h1, h2⟩; omega))
  replace Wo0 := Lib.hid (Wo0.out.kept hb (by rintro b h1 h2 ⟨h3, h4⟩; omega))
  replace YW0 := Lib.hid (YW0.out.kept hb (by rintro ⟨h1, h2⟩; omega))
  replace X0 := Lib.hid (X0.out.kept hb (by rintro ⟨h1, h2⟩; omega))
  replace cp1 := Lib.hid (cp1.out.kept hb (by rintro b h1 h2 ⟨h3, h4⟩; omega))
  replace Go0 := Lib.hid (Go0.out.kept hb (by rintro b h1 h2 ⟨h3, h4⟩; omega))
  replace YG0 := Lib.hid (YG0.out.kept hb (by rintro ⟨h1, h2⟩; omega))
  have zw17 : w16.heap.size ≤ w17.heap.size := hb.size
  clear hb
  clear cp0
  clear X0
  have hc1 : (0 : Int) ≤ (cntF z1 : Nat) := by omega
  go_upto_region 19 with fail
  go_wp2_with fail
  refine (markF_o _ _ _ z1 _ _ cp1.out (by omega) (by have := cntR_le z0; have := cntF_le z1; omega)).mono ?_
  rintro e w18 ⟨rfl, -, hb⟩
  replace B := Lib.hid (B.out.trans (hb.toBelow B.out.size (by rintro k hk1 ⟨h1, h2⟩; omega)))
  replace K0 := Lib.hid (K0.out.kept hb (by rintro ⟨h1, h2⟩; omega))
  replace Wo0 := Lib.hid (Wo0.out.kept hb (by rintro b h1 h2 ⟨h3, h4⟩; omega))
  replace YW0 := Lib.hid (YW0.out.kept hb (by rintro ⟨h1, h2⟩; omega))
  replace Go0 := Lib.hid (Go0.out.kept hb (by rintro b h1 h2 ⟨h3, h4⟩; omega))
  replace YG0 := Lib.hid (YG0.out.kept hb (by rintro ⟨h1, h2⟩; omega))
  have zw18 : w17.heap.size ≤ w18.heap.size := hb.size
  clear hb
  clear cp1
  go_upto_region 20 with fail
  have tYG0_0 : w18.cell? ⟨w10.heap.size, 0, none⟩ = some (.int .i64 (addV z0 z1 a2).vars) := YG0.out.cell 0 rfl
  have tYG0_1 : w18.cell? ⟨w10.heap.size, 1, none⟩ = some (.slice xG0 (addV z0 z1 a2).nums.length cG0) := YG0.out.cell 1 rfl
  have tYG0_2 : w18.cell? ⟨w10.heap.size, 2, none⟩ = some (.slice yG0 (addV z0 z1 a2).bnds.length dG0) := YG0.out.cell 2 rfl
  have tYG0_3 : w18.cell? ⟨w10.heap.size, 3, none⟩ = some (.slice uG0 (addV z0 z1 a2).gains.length fG0) := YG0.out.cell 3 rfl
  have tYW0_0 : w18.cell? ⟨w5.heap.size, 0, none⟩ = some (.int .i64 (addV z0 z1 a2).vars) := YW0.out.cell 0 rfl
  have tYW0_1 : w18.cell? ⟨w5.heap.size, 1, none⟩ = some (.slice xW0 (addV z0 z1 a2).nums.length cW0) := YW0.out.cell 1 rfl
  have tYW0_2 : w18.cell? ⟨w5.heap.size, 2, none⟩ = some (.slice yW0 (addV z0 z1 a2).bnds.length dW0) := YW0.out.cell 2 rfl
  have tYW0_3 : w18.cell? ⟨w5.heap.size, 3, none⟩ = some (.slice uW0 (addV z0 z1 a2).gains.length fW0) := YW0.out.cell 3 rfl
  go_wp2_with fail
  refine (eqR_same _ _ (addV z0 z1 a2) _ Go0.out.rd Wo0.out.rd).mono ?_
  rintro e w19 ⟨rfl, hb⟩
  clear tYG0_0 tYG0_1 tYG0_2 tYG0_3 tYW0_0 tYW0_1 tYW0_2 tYW0_3
  replace B := Lib.hid (B.out.trans (hb.mono B.out.size))
  replace K0 := Lib.hid (K0.out.below hb K0.out.lt)
  replace Wo0 := Lib.hid (Wo0.out.up hb (Nat.le_refl _))
  replace YW0 := Lib.hid (YW0.out.below hb YW0.out.lt)
  replace Go0 := Lib.hid (Go0.out.up hb (Nat.le_refl _))
  replace YG0 := Lib.hid (YG0.out.below hb YG0.out.lt)
  have zw19 : w18.heap.size ≤ w19.heap.size := hb.size
  clear hb
  have hcGo0 : (0 : Int) ≤ (cntR (addV z0 z1 a2) : Nat) := by omega
  have Go0h := Go0
  clear Go0h
  go_upto_region 23 with fail
  have tYG0_0 : w19.cell? ⟨w10.heap.size, 0, none⟩ = some (.int .i64 (addV z0 z1 a2).vars) := YG0.out.cell 0 rfl
  have tYG0_1 : w19.cell? ⟨w10.heap.size, 1, none⟩ = some (.slice xG0 (addV z0 z1 a2).nums.length cG0) := YG0.out.cell 1 rfl
  have tYG0_2 : w19.cell? ⟨w10.heap.size, 2, none⟩ = some (.slice yG0 (addV z0 z1 a2).bnds.length dG0) := YG0.out.cell 2 rfl
  have tYG0_3 : w19.cell? ⟨w10.heap.size, 3, none⟩ = some (.slice uG0 (addV z0 z1 a2).gains.length fG0) := YG0.out.cell 3 rfl
  go_wp2_with fail
  refine (markR_o _ _ _ (addV z0 z1 a2) _ _ Go0.out (by omega) (by have := addV_cnt z0 z1 a2; omega)).mono ?_
  rintro e w20 ⟨rfl, MGo0, hb⟩
  clear tYG0_0 tYG0_1 tYG0_2 tYG0_3
  replace MGo0 := Lib.hid MGo0
  replace B := Lib.hid (B.out.trans (hb.toBelow B.out.size (by rintro k hk1 ⟨h1, h2⟩; omega)))
  replace K0 := Lib.hid (K0.out.kept hb (by rintro ⟨h1, h2⟩; omega))
  replace Wo0 := Lib.hid (Wo0.out.kept hb (by rintro b h1 h2 ⟨h3, h4⟩; omega))
  replace YW0 := Lib.hid (YW0.out.kept hb (by rintro ⟨h1, h2⟩; omega))
  replace YG0 := Lib.hid (YG0.out.kept hb (by rintro ⟨h1, h2⟩; omega))
  have zw20 : w19.heap.size ≤ w20.heap.size := hb.size
  clear hb
  clear Go0
  have nm : ((1 + (cntR (addV z0 z1 a2) : Int) : Int) != (1 + (cntR (addV z0 z1 a2) : Int) : Int)) = false := by simp
  go_upto_region 25 with fail
  have tYG0_0 : w20.cell? ⟨w10.heap.size, 0, none⟩ = some (.int .i64 (addV z0 z1 a2).vars) := YG0.out.cell 0 rfl
  have tYG0_1 : w20.cell? ⟨w10.heap.size, 1, none⟩ = some (.slice xG0 (addV z0 z1 a2).nums.length cG0) := YG0.out.cell 1 rfl
  have tYG0_2 : w20.cell? ⟨w10.heap.size, 2, none⟩ = some (.slice yG0 (addV z0 z1 a2).bnds.length dG0) := YG0.out.cell 2 rfl
  have tYG0_3 : w20.cell? ⟨w10.heap.size, 3, none⟩ = some (.slice uG0 (addV z0 z1 a2).gains.length fG0) := YG0.out.cell 3 rfl
  go_wp2_with fail
  refine (heldR_o _ (addV z0 z1 a2) _ _ MGo0.out.rd (by omega) (by have := addV_cnt z0 z1 a2; omega)).mono ?_
  rintro e w21 ⟨rfl, hb⟩
  clear tYG0_0 tYG0_1 tYG0_2 tYG0_3
  replace B := Lib.hid (B.out.trans (hb.mono B.out.size))
  replace K0 := Lib.hid (K0.out.below hb K0.out.lt)
  replace Wo0 := Lib.hid (Wo0.out.up hb (Nat.le_refl _))
  replace YW0 := Lib.hid (YW0.out.below hb YW0.out.lt)
  replace YG0 := Lib.hid (YG0.out.below hb YG0.out.lt)
  replace MGo0 := Lib.hid (MGo0.out.up hb (Nat.le_refl _))
  have zw21 : w20.heap.size ≤ w21.heap.size := hb.size
  clear hb
  go_upto_region 30 with fail
  have tK0_0 : w21.cell? ⟨w.heap.size, 0, none⟩ = some (.int .i64 z0.vars) := K0.out.cell 0 rfl
  have tK0_1 : w21.cell? ⟨w.heap.size, 1, none⟩ = some (.slice x0 z0.nums.length c0) := K0.out.cell 1 rfl
  have tK0_2 : w21.cell? ⟨w.heap.size, 2, none⟩ = some (.slice y0 z0.bnds.length d0) := K0.out.cell 2 rfl
  have tK0_3 : w21.cell? ⟨w.heap.size, 3, none⟩ = some (.slice u0 z0.gains.length f0) := K0.out.cell 3 rfl
  go_wp2_with fail
  refine (toR_any _ z0 _ (RP0.out.up B.out (Nat.le_refl _)) hs0).mono ?_
  rintro e w22 ⟨vc0, rfl, c0, hb⟩
  replace tK0_0 := held_of hb tK0_0 (Nat.le_refl _)
  replace tK0_1 := held_of hb tK0_1 (Nat.le_refl _)
  replace tK0_2 := held_of hb tK0_2 (Nat.le_refl _)
  replace tK0_3 := held_of hb tK0_3 (Nat.le_refl _)
  replace c0 := Lib.hid c0
  replace B := Lib.hid (B.out.trans (hb.mono B.out.size))
  replace K0 := Lib.hid (K0.out.below hb K0.out.lt)
  replace Wo0 := Lib.hid (Wo0.out.up hb (Nat.le_refl _))
  replace YW0 := Lib.hid (YW0.out.below hb YW0.out.lt)
  replace YG0 := Lib.hid (YG0.out.below hb YG0.out.lt)
  replace MGo0 := Lib.hid (MGo0.out.up hb (Nat.le_refl _))
  have zw22 : w21.heap.size ≤ w22.heap.size := hb.size
  clear hb
  go_wp2_with fail
  refine (toF_any _ z1 _ (RP1.out.up B.out (Nat.le_refl _)) hs1).mono ?_
  rintro e w23 ⟨vc1, rfl, c1, hb⟩
  replace tK0_0 := held_of hb tK0_0 (Nat.le_refl _)
  replace tK0_1 := held_of hb tK0_1 (Nat.le_refl _)
  replace tK0_2 := held_of hb tK0_2 (Nat.le_refl _)
  replace tK0_3 := held_of hb tK0_3 (Nat.le_refl _)
  replace c1 := Lib.hid c1
  replace B := Lib.hid (B.out.trans (hb.mono B.out.size))
  replace K0 := Lib.hid (K0.out.below hb K0.out.lt)
  replace Wo0 := Lib.hid (Wo0.out.up hb (Nat.le_refl _))
  replace YW0 := Lib.hid (YW0.out.below hb YW0.out.lt)
  replace YG0 := Lib.hid (YG0.out.below hb YG0.out.lt)
  replace MGo0 := Lib.hid (MGo0.out.up hb (Nat.le_refl _))
  replace c0 := Lib.hid (c0.out.up hb (Nat.le_refl _))
  have zw23 : w22.heap.size ≤ w23.heap.size := hb.size
  clear hb
  go_wp2_with fail
  refine (addRowI_any _ z0 _ z1 a2 _ c0.out.rd c1.out.rd).mono ?_
  rintro e w24 ⟨Hv0, rfl, Ho0, hb⟩
  clear tK0_0 tK0_1 tK0_2 tK0_3
  replace Ho0 := Lib.hid Ho0
  replace B := Lib.hid (B.out.trans (hb.mono B.out.size))
  replace K0 := Lib.hid (K0.out.below hb K0.out.lt)
  replace Wo0 := Lib.hid (Wo0.out.up hb (Nat.le_refl _))
  replace YW0 := Lib.hid (YW0.out.below hb YW0.out.lt)
  replace YG0 := Lib.hid (YG0.out.below hb YG0.out.lt)
  replace MGo0 := Lib.hid (MGo0.out.up hb (Nat.le_refl _))
  replace c0 := Lib.hid (c0.out.up hb (Nat.le_refl _))
  replace c1 := Lib.hid (c1.out.up hb (Nat.le_refl _))
  have zw24 : w23.heap.size ≤ w24.heap.size := hb.size
  clear hb
  clear c0 c1
  obtain ⟨xH0, cH0, yH0, dH0, uH0, fH0, rfl⟩ := Ho0.out.rd.shape
  go_upto_region 31 with fail
  refine wp_at fun w25 hW => ?_
  have hb : Below w24.heap.size w24 w25 := by subst hW; (repeat' first | exact Below.refl _ _ | assumption | refine Below.alloc ?_ ?_ _ | refine Below.setCell ?_ ?_ _ | refine Below.drew ?_ | (simp; done) | (simp; omega))
  have YH0 := Lib.hid (show Blk w25 w24.heap.size 49 #[.int .i64 (addV z0 z1 a2).vars, .slice xH0 (addV z0 z1 a2).nums.length cH0, .slice yH0 (addV z0 z1 a2).bnds.length dH0, .slice uH0 (addV z0 z1 a2).gains.length fH0] by subst hW; exact Blk.new _ _ _)
  clear hW
  replace B := Lib.hid (B.out.trans (hb.mono B.out.size))
  replace K0 := Lib.hid (K0.out.below hb K0.out.lt)
  replace Wo0 := Lib.hid (Wo0.out.up hb (Nat.le_refl _))
  replace YW0 := Lib.hid (YW0.out.below hb YW0.out.lt)
  replace YG0 := Lib.hid (YG0.out.below hb YG0.out.lt)
  replace MGo0 := Lib.hid (MGo0.out.up hb (Nat.le_refl _))
  replace Ho0 := Lib.hid (Ho0.out.up hb (Nat.le_refl _))
  have zw25 : w24.heap.size ≤ w25.heap.size := hb.size
  clear hb
  have lYH0 := YH0.out.lt
  have tYH0_0 : w25.cell? ⟨w24.heap.size, 0, none⟩ = some (.int .i64 (addV z0 z1 a2).vars) := YH0.out.cell 0 rfl
  have tYH0_1 : w25.cell? ⟨w24.heap.size, 1, none⟩ = some (.slice xH0 (addV z0 z1 a2).nums.length cH0) := YH0.out.cell 1 rfl
  have tYH0_2 : w25.cell? ⟨w24.heap.size, 2, none⟩ = some (.slice yH0 (addV z0 z1 a2).bnds.length dH0) := YH0.out.cell 2 rfl
  have tYH0_3 : w25.cell? ⟨w24.heap.size, 3, none⟩ = some (.slice uH0 (addV z0 z1 a2).gains.length fH0) := YH0.out.cell 3 rfl
  have tYW0_0 : w25.cell? ⟨w5.heap.size, 0, none⟩ = some (.int .i64 (addV z0 z1 a2).vars) := YW0.out.cell 0 rfl
  have tYW0_1 : w25.cell? ⟨w5.heap.size, 1, none⟩ = some (.slice xW0 (addV z0 z1 a2).nums.length cW0) := YW0.out.cell 1 rfl
  have tYW0_2 : w25.cell? ⟨w5.heap.size, 2, none⟩ = some (.slice yW0 (addV z0 z1 a2).bnds.length dW0) := YW0.out.cell 2 rfl
  have tYW0_3 : w25.cell? ⟨w5.heap.size, 3, none⟩ = some (.slice uW0 (addV z0 z1 a2).gains.length fW0) := YW0.out.cell 3 rfl
  go_wp2_with fail
  refine (eqR_same _ _ (addV z0 z1 a2) _ Ho0.out.rd Wo0.out.rd).mono ?_
  rintro e w26 ⟨rfl, hb⟩
  clear tYH0_0 tYH0_1 tYH0_2 tYH0_3 tYW0_0 tYW0_1 tYW0_2 tYW0_3
  replace B := Lib.hid (B.out.trans (hb.mono B.out.size))
  replace K0 := Lib.hid (K0.out.below hb K0.out.lt)
  replace Wo0 := Lib.hid (Wo0.out.up hb (Nat.le_refl _))
  replace YW0 := Lib.hid (YW0.out.below hb YW0.out.lt)
  replace YG0 := Lib.hid (YG0.out.below hb YG0.out.lt)
  replace MGo0 := Lib.hid (MGo0.out.up hb (Nat.le_refl _))
  replace Ho0 := Lib.hid (Ho0.out.up hb (Nat.le_refl _))
  replace YH0 := Lib.hid (YH0.out.below hb YH0.out.lt)
  have zw26 : w25.heap.size ≤ w26.heap.size := hb.size
  clear hb
  go_upto_region 34 with fail
  have tYG0_0 : w26.cell? ⟨w10.heap.size, 0, none⟩ = some (.int .i64 (addV z0 z1 a2).vars) := YG0.out.cell 0 rfl
  have tYG0_1 : w26.cell? ⟨w10.heap.size, 1, none⟩ = some (.slice xG0 (addV z0 z1 a2).nums.length cG0) := YG0.out.cell 1 rfl
  have tYG0_2 : w26.cell? ⟨w10.heap.size, 2, none⟩ = some (.slice yG0 (addV z0 z1 a2).bnds.length dG0) := YG0.out.cell 2 rfl
  have tYG0_3 : w26.cell? ⟨w10.heap.size, 3, none⟩ = some (.slice uG0 (addV z0 z1 a2).gains.length fG0) := YG0.out.cell 3 rfl
  go_wp2_with fail
  refine (heldR_o _ (addV z0 z1 a2) _ _ MGo0.out.rd (by omega) (by have := addV_cnt z0 z1 a2; omega)).mono ?_
  rintro e w27 ⟨rfl, hb⟩
  clear tYG0_0 tYG0_1 tYG0_2 tYG0_3
  replace B := Lib.hid (B.out.trans (hb.mono B.out.size))
  replace K0 := Lib.hid (K0.out.below hb K0.out.lt)
  replace Wo0 := Lib.hid (Wo0.out.up hb (Nat.le_refl _))
  replace YW0 := Lib.hid (YW0.out.below hb YW0.out.lt)
  replace YG0 := Lib.hid (YG0.out.below hb YG0.out.lt)
  replace MGo0 := Lib.hid (MGo0.out.up hb (Nat.le_refl _))
  replace Ho0 := Lib.hid (Ho0.out.up hb (Nat.le_refl _))
  replace YH0 := Lib.hid (YH0.out.below hb YH0.out.lt)
  have zw27 : w26.heap.size ≤ w27.heap.size := hb.size
  clear hb
  go_wp2_with fail
  go_ret
  exact ⟨rfl, B.out⟩

end Go.Proofs.Ytkcpncaedocdnaa
