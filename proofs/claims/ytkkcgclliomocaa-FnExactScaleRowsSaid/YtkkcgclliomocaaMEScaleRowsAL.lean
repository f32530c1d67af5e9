/-
  FnExactScaleRows: texts joined: LFnExactScaleRows.
-/
import Derived.Deep.RegionHeld3
import Derived.Deep.Cut
import Derived.Test.YtkkcgclliomocaaMEScaleRowsAG
import Derived.Test.YtkkcgclliomocaaMEScaleRowsAK
namespace Go.Proofs.Ytkkcgclliomocaa
open Go.RowKit

set_option maxHeartbeats 4000000 in
set_option maxRecDepth 100000 in
theorem lawScaleRows_any (w : World) (v0 : Value) (z0 : RowsD) (r0 : RdR w v0 z0) (yb0 : BitsF z0.nums) :
    Calls Try.prog 6 #[v0] w fun e w' => e = .returned (.bool true) ∧ Below w.heap.size w w' := by
  obtain ⟨x0, c0, y0, d0, u0, f0, rfl⟩ := r0.shape
  have RP0 := Lib.hid r0
  clear r0
  have B : Hid (Below w.heap.size w w) := Below.refl _ _
  go_enter Try.func6, Try.ntmps6
  go_upto_region 2 with fail
  refine wp_at fun w1 hW => ?_
  have hb : Below w.heap.size w w1 := by subst hW; (repeat' first | exact Below.refl _ _ | assumption | refine Below.alloc ?_ ?_ _ | refine Below.setCell ?_ ?_ _ | refine Below.drew ?_ | (simp; done) | (simp; omega))
  have K0 := Lib.hid (show Blk w1 (w.heap.size) 48 #[.int .i64 z0.vars, .slice x0 z0.nums.length c0, .slice y0 z0.bnds.length d0, .slice u0 z0.gains.length f0] by subst hW; simpa using (Blk.new w 48 #[.int .i64 z0.vars, .slice x0 z0.nums.length c0, .slice y0 z0.bnds.length d0, .slice u0 z0.gains.length f0]))
  have zw1 := hb.size
  have lK0 := K0.out.lt
  replace B := Lib.hid hb
  clear hb hW
  have tK0_0 : w1.cell? ⟨w.heap.size, 0, none⟩ = some (.int .i64 z0.vars) := K0.out.cell 0 rfl
  have tK0_1 : w1.cell? ⟨w.heap.size, 1, none⟩ = some (.slice x0 z0.nums.length c0) := K0.out.cell 1 rfl
  have tK0_2 : w1.cell? ⟨w.heap.size, 2, none⟩ = some (.slice y0 z0.bnds.length d0) := K0.out.cell 2 rfl
  have tK0_3 : w1.cell? ⟨w.heap.size, 3, none⟩ = some (.slice u0 z0.gains.length f0) := K0.out.cell 3 rfl
  go_wp2_with fail
  refine (szR_any _ z0 _ _ (RP0.out.up B.out (Nat.le_refl _)) (by decide) (by decide)).mono ?_
  rintro e w2 ⟨s0, rfl, sa0, sb0, sc0, hb⟩
  clear tK0_0 tK0_1 tK0_2 tK0_3
  replace B := Lib.hid (B.out.trans (hb.mono B.out.size))
  replace K0 := Lib.hid (K0.out.below hb K0.out.lt)
  have zw2 : w1.heap.size ≤ w2.heap.size := hb.size
  clear hb
  by_cases hn0 : s0 < 0
  · go_wp2_with fail
    go_ret
    exact ⟨rfl, B.out⟩
  have hs0 : bulkR z0 ≤ 1048576 := by have := sc0 (by omega); omega
  clear sa0 sb0 sc0
  have ne1 : ((scaleOk z0) != (scaleOk z0)) = false := by simp
  go_upto_region 5 with fail
  have tK0_0 : w2.cell? ⟨w.heap.size, 0, none⟩ = some (.int .i64 z0.vars) := K0.out.cell 0 rfl
  have tK0_1 : w2.cell? ⟨w.heap.size, 1, none⟩ = some (.slice x0 z0.nums.length c0) := K0.out.cell 1 rfl
  have tK0_2 : w2.cell? ⟨w.heap.size, 2, none⟩ = some (.slice y0 z0.bnds.length d0) := K0.out.cell 2 rfl
  have tK0_3 : w2.cell? ⟨w.heap.size, 3, none⟩ = some (.slice u0 z0.gains.length f0) := K0.out.cell 3 rfl
  go_wp2_with fail
  refine (toR_any _ z0 _ (RP0.out.up B.out (Nat.le_refl _)) hs0).mono ?_
  rintro e w3 ⟨vc0, rfl, c0, hb⟩
  replace tK0_0 := held_of hb tK0_0 (Nat.le_refl _)
  replace tK0_1 := held_of hb tK0_1 (Nat.le_refl _)
  replace tK0_2 := held_of hb tK0_2 (Nat.le_refl _)
  replace tK0_3 := held_of hb tK0_3 (Nat.le_refl _)
  replace c0 := Lib.hid c0
  replace B := Lib.hid (B.out.trans (hb.mono B.out.size))
  replace K0 := Lib.hid (K0.out.below hb K0.out.lt)
  have zw3 : w2.heap.size ≤ w3.heap.size := hb.size
  clear hb
  go_wp2_with fail
  refine (scaleS_any _ z0 _ c0.out.rd yb0).mono ?_
  rintro e w4 ⟨Wv0, rfl, Wo0, hb⟩
  clear tK0_0 tK0_1 tK0_2 tK0_3
  replace Wo0 := Lib.hid Wo0
  replace B := Lib.hid (B.out.trans (hb.mono B.out.size))
  replace K0 := Lib.hid (K0.out.below hb K0.out.lt)
  replace c0 := Lib.hid (c0.out.up hb (Nat.le_refl _))
  have zw4 : w3.heap.size ≤ w4.heap.size := hb.size
  clear hb
  clear c0
  obtain ⟨xW0, cW0, yW0, dW0, uW0, fW0, rfl⟩ := Wo0.out.rd.shape
  go_upto_region 6 with fail
  refine wp_at fun w5 hW => ?_
  have hb : Below w4.heap.size w4 w5 := by subst hW; (repeat' first | exact Below.refl _ _ | assumption | refine Below.alloc ?_ ?_ _ | refine Below.setCell ?_ ?_ _ | refine Below.drew ?_ | (simp; done) | (simp; omega))
  have YW0 := Lib.hid (show Blk w5 w4.heap.size 50 #[.int .i64 (scaleV z0).vars, .slice xW0 (scaleV z0).nums.length cW0, .slice yW0 (scaleV z0).bnds.length dW0, .slice uW0 (scaleV z0).gains.length fW0] by subst hW; exact Blk.new _ _ _)
  clear hW
  replace B := Lib.hid (B.out.trans (hb.mono B.out.size))
  replace K0 := Lib.hid (K0.out.below hb K0.out.lt)
  replace Wo0 := Lib.hid (Wo0.out.up hb (Nat.le_refl _))
  have zw5 : w4.heap.size ≤ w5.heap.size := hb.size
  clear hb
  have lYW0 := YW0.out.lt
  have tK0_0 : w5.cell? ⟨w.heap.size, 0, none⟩ = some (.int .i64 z0.vars) := K0.out.cell 0 rfl
  have tK0_1 : w5.cell? ⟨w.heap.size, 1, none⟩ = some (.slice x0 z0.nums.length c0) := K0.out.cell 1 rfl
  have tK0_2 : w5.cell? ⟨w.heap.size, 2, none⟩ = some (.slice y0 z0.bnds.length d0) := K0.out.cell 2 rfl
  have tK0_3 : w5.cell? ⟨w.heap.size, 3, none⟩ = some (.slice u0 z0.gains.length f0) := K0.out.cell 3 rfl
  go_wp2_with fail
  refine (toR_any _ z0 _ (RP0.out.up B.out (Nat.le_refl _)) hs0).mono ?_
  rintro e w6 ⟨vcp0, rfl, cp0, hb⟩
  clear tK0_0 tK0_1 tK0_2 tK0_3
  replace cp0 := Lib.hid cp0
  replace B := Lib.hid (B.out.trans (hb.mono B.out.size))
  replace K0 := Lib.hid (K0.out.below hb K0.out.lt)
  replace Wo0 := Lib.hid (Wo0.out.up hb (Nat.le_refl _))
  replace YW0 := Lib.hid (YW0.out.below hb YW0.out.lt)
  have zw6 : w5.heap.size ≤ w6.heap.size := hb.size
  clear hb
  obtain ⟨px0, pc0, py0, pd0, pu0, pf0, rfl⟩ := cp0.out.rd.shape
  go_upto_region 7 with fail
  refine wp_at fun w7 hW => ?_
  have hb : Below w6.heap.size w6 w7 := by subst hW; (repeat' first | exact Below.refl _ _ | assumption | refine Below.alloc ?_ ?_ _ | refine Below.setCell ?_ ?_ _ | refine Below.drew ?_ | (simp; done) | (simp; omega))
  have X0 := Lib.hid (show Blk w7 w6.heap.size 50 #[.int .i64 z0.vars, .slice px0 z0.nums.length pc0, .slice py0 z0.bnds.length pd0, .slice pu0 z0.gains.length pf0] by subst hW; exact Blk.new _ _ _)
  clear hW
  replace B := Lib.hid (B.out.trans (hb.mono B.out.size))
  replace K0 := Lib.hid (K0.out.below hb K0.out.lt)
  replace Wo0 := Lib.hid (Wo0.out.up hb (Nat.le_refl _))
  replace YW0 := Lib.hid (YW0.out.below hb YW0.out.lt)
  replace cp0 := Lib.hid (cp0.out.up hb (Nat.le_refl _))
  have zw7 : w6.heap.size ≤ w7.heap.size := hb.size
  clear hb
  have lX0 := X0.out.lt
  have tX0_0 : w7.cell? ⟨w6.heap.size, 0, none⟩ = some (.int .i64 z0.vars) := X0.out.cell 0 rfl
  have tX0_1 : w7.cell? ⟨w6.heap.size, 1, none⟩ = some (.slice px0 z0.nums.length pc0) := X0.out.cell 1 rfl
  have tX0_2 : w7.cell? ⟨w6.heap.size, 2, none⟩ = some (.slice py0 z0.bnds.length pd0) := X0.out.cell 2 rfl
  have tX0_3 : w7.cell? ⟨w6.heap.size, 3, none⟩ = some (.slice pu0 z0.gains.length pf0) := X0.out.cell 3 rfl
  go_wp2_with fail
  refine (scaleI_any _ z0 _ cp0.out.rd).mono ?_
  rintro e w8 ⟨Gv0, rfl, Go0, hb⟩
  clear tX0_0 tX0_1 tX0_2 tX0_3
  replace Go0 := Lib.hid Go0
  replace B := Lib.hid (B.out.trans (hb.mono B.out.size))
  replace K0 := Lib.hid (K0.out.below hb K0.out.lt)
  replace Wo0 := Lib.hid (Wo0.out.up hb (Nat.le_refl _))
  replace YW0 := Lib.hid (YW0.out.below hb YW0.out.lt)
  replace cp0 := Lib.hid (cp0.out.up hb (Nat.le_refl _))
  replace X0 := Lib.hid (X0.out.below hb X0.out.lt)
  have zw8 : w7.heap.size ≤ w8.heap.size := hb.size
  clear hb
  obtain ⟨xG0, cG0, yG0, dG0, uG0, fG0, rfl⟩ := Go0.out.rd.shape
  go_upto_region 8 with fail
  refine wp_at fun w9 hW => ?_
  have hb : Below w8.heap.size w8 w9 := by subst hW; (repeat' first | exact Below.refl _ _ | assumption | refine Below.alloc ?_ ?_ _ | refine Below.setCell ?_ ?_ _ | refine Below.drew ?_ | (simp; done) | (simp; omega))
  have YG0 := Lib.hid (show Blk w9 w8.heap.size 50 #[.int .i64 (scaleV z0).vars, .slice xG0 (scaleV z0).nums.length cG0, .slice yG0 (scaleV z0).bnds.length dG0, .slice uG0 (scaleV z0).gains.length fG0] by subst hW; exact Blk.new _ _ _)
  clear hW
  replace B := Lib.hid (B.out.trans (hb.mono B.out.size))
  replace K0 := Lib.hid (K0.out.below hb K0.out.lt)
  replace Wo0 := Lib.hid (Wo0.out.up hb (Nat.le_refl _))
  replace YW0 := Lib.hid (YW0.out.below hb YW0.out.lt)
  replace cp0 := Lib.hid (cp0.out.up hb (Nat.le_refl _))
  replace X0 := Lib.hid (X0.out.below hb X0.out.lt)
  replace Go0 := Lib.hid (Go0.out.up hb (Nat.le_refl _))
  have zw9 : w8.heap.size ≤ w9.heap.size := hb.size
  clear hb
  have lYG0 := YG0.out.lt
  have tYG0_0 : w9.cell? ⟨w8.heap.size, 0, none⟩ = some (.int .i64 (scaleV z0).vars) := YG0.out.cell 0 rfl
  have tYG0_1 : w9.cell? ⟨w8.heap.size, 1, none⟩ = some (.slice xG0 (scaleV z0).nums.length cG0) := YG0.out.cell 1 rfl
  have tYG0_2 : w9.cell? ⟨w8.heap.size, 2, none⟩ = some (.slice yG0 (scaleV z0).bnds.length dG0) := YG0.out.cell 2 rfl
  have tYG0_3 : w9.cell? ⟨w8.heap.size, 3, none⟩ = some (.slice uG0 (scaleV z0).gains.length fG0) := YG0.out.cell 3 rfl
  have tYW0_0 : w9.cell? ⟨w4.heap.size, 0, none⟩ = some (.int .i64 (scaleV z0).vars) := YW0.out.cell 0 rfl
  have tYW0_1 : w9.cell? ⟨w4.heap.size, 1, none⟩ = some (.slice xW0 (scaleV z0).nums.length cW0) := YW0.out.cell 1 rfl
  have tYW0_2 : w9.cell? ⟨w4.heap.size, 2, none⟩ = some (.slice yW0 (scaleV z0).bnds.length dW0) := YW0.out.cell 2 rfl
  have tYW0_3 : w9.cell? ⟨w4.heap.size, 3, none⟩ = some (.slice uW0 (scaleV z0).gains.length fW0) := YW0.out.cell 3 rfl
  go_wp2_with fail
  refine (eqR_same _ _ (scaleV z0) _ Go0.out.rd Wo0.out.rd).mono ?_
  rintro e w10 ⟨rfl, hb⟩
  clear tYG0_0 tYG0_1 tYG0_2 tYG0_3 tYW0_0 tYW0_1 tYW0_2 tYW0_3
  replace B := Lib.hid (B.out.trans (hb.mono B.out.size))
  replace K0 := Lib.hid (K0.out.below hb K0.out.lt)
  replace Wo0 := Lib.hid (Wo0.out.up hb (Nat.le_refl _))
  replace YW0 := Lib.hid (YW0.out.below hb YW0.out.lt)
  replace cp0 := Lib.hid (cp0.out.up hb (Nat.le_refl _))
  replace X0 := Lib.hid (X0.out.below hb X0.out.lt)
  replace Go0 := Lib.hid (Go0.out.up hb (Nat.le_refl _))
  replace YG0 := Lib.hid (YG0.out.below hb YG0.out.lt)
  have zw10 : w9.heap.size ≤ w10.heap.size := hb.size
  clear hb
  go_upto_region 10 with fail
  have tX0_0 : w10.cell? ⟨w6.heap.size, 0, none⟩ = some (.int .i64 z0.vars) := X0.out.cell 0 rfl
  have tX0_1 : w10.cell? ⟨w6.heap.size, 1, none⟩ = some (.slice px0 z0.nums.length pc0) := X0.out.cell 1 rfl
  have tX0_2 : w10.cell? ⟨w6.heap.size, 2, none⟩ = some (.slice py0 z0.bnds.length pd0) := X0.out.cell 2 rfl
  have tX0_3 : w10.cell? ⟨w6.heap.size, 3, none⟩ = some (.slice pu0 z0.gains.length pf0) := X0.out.cell 3 rfl
  have tK0_0 : w10.cell? ⟨w.heap.size, 0, none⟩ = some (.int .i64 z0.vars) := K0.out.cell 0 rfl
  have tK0_1 : w10.cell? ⟨w.heap.size, 1, none⟩ = some (.slice x0 z0.nums.length c0) := K0.out.cell 1 rfl
  have tK0_2 : w10.cell? ⟨w.heap.size, 2, none⟩ = some (.slice y0 z0.bnds.length d0) := K0.out.cell 2 rfl
  have tK0_3 : w10.cell? ⟨w.heap.size, 3, none⟩ = some (.slice u0 z0.gains.length f0) := K0.out.cell 3 rfl
  go_wp2_with fail
  go_region_held3 (fun w' => w'.cell? ⟨w6.heap.size, 0, none⟩ = some (.int .i64 z0.vars) ∧ w'.cell? ⟨w6.heap.size, 1, none⟩ = some (.slice px0 z0.nums.length pc0) ∧ w'.cell? ⟨w6.heap.size, 2, none⟩ = some (.slice py0 z0.bnds.length pd0) ∧ w'.cell? ⟨w6.heap.size, 3, none⟩ = some (.slice pu0 z0.gains.length pf0) ∧ w'.cell? ⟨w.heap.size, 0, none⟩ = some (.int .i64 z0.vars) ∧ w'.cell? ⟨w.heap.size, 1, none⟩ = some (.slice x0 z0.nums.length c0) ∧ w'.cell? ⟨w.heap.size, 2, none⟩ = some (.slice y0 z0.bnds.length d0) ∧ w'.cell? ⟨w.heap.size, 3, none⟩ = some (.slice u0 z0.gains.length f0) ∧ Below w10.heap.size w10 w')
    (first | exact ⟨held_of hbn tX0_0 (Nat.le_refl _), held_of hbn tX0_1 (Nat.le_refl _), held_of hbn tX0_2 (Nat.le_refl _), held_of hbn tX0_3 (Nat.le_refl _), held_of hbn tK0_0 (Nat.le_refl _), held_of hbn tK0_1 (Nat.le_refl _), held_of hbn tK0_2 (Nat.le_refl _), held_of hbn tK0_3 (Nat.le_refl _), hbn⟩ | exact ⟨tX0_0, tX0_1, tX0_2, tX0_3, tK0_0, tK0_1, tK0_2, tK0_3, (Below.refl _ _).drew⟩)
    (first
      | (go_at_call_of 28 x0; have hh := (‹_ ∧ _ ∧ _ ∧ _ ∧ _ ∧ _ ∧ _ ∧ _ ∧ Below w10.heap.size w10 _›).2.2.2.2.2.2.2.2; refine (toR_any _ z0 _ ((RP0.out.up B.out (Nat.le_refl _)).up hh (Nat.le_refl _)) hs0).mono ?_; rintro e w11 ⟨vc0, rfl, c0, hb0⟩; have hbn := hh.trans (hb0.mono hh.size))
      | (go_at_call 30; have hh := (‹_ ∧ _ ∧ _ ∧ _ ∧ _ ∧ _ ∧ _ ∧ _ ∧ Below w10.heap.size w10 _›).2.2.2.2.2.2.2.2; refine (eqR_same _ _ z0 _ (cp0.out.up hh (Nat.le_refl _)).rd c0.rd).mono ?_; rintro e w12 ⟨rfl, hb1⟩; have hbn := hh.trans (hb1.mono hh.size)))
  clear tX0_0 tX0_1 tX0_2 tX0_3 tK0_0 tK0_1 tK0_2 tK0_3
  clear hh hb0 hb1 c0
  replace B := Lib.hid (B.out.trans (hbn.mono B.out.size))
  replace K0 := Lib.hid (K0.out.below hbn K0.out.lt)
  replace Wo0 := Lib.hid (Wo0.out.up hbn (Nat.le_refl _))
  replace YW0 := Lib.hid (YW0.out.below hbn YW0.out.lt)
  replace cp0 := Lib.hid (cp0.out.up hbn (Nat.le_refl _))
  replace X0 := Lib.hid (X0.out.below hbn X0.out.lt)
  replace Go0 := Lib.hid (Go0.out.up hbn (Nat.le_refl _))
  replace YG0 := Lib.hid (YG0.out.below hbn YG0.out.lt)
  have zw12 : w10.heap.size ≤ w12.heap.size := hbn.size
  clear hbn
  have hk0 : (0 : Int) ≤ 1 := by decide
  have hc0 : (0 : Int) ≤ (cntR z0 : Nat) := by omega
  go_upto_region 13 with fail
  have tX0_0 : w12.cell? ⟨w6.heap.size, 0, none⟩ = some (.int .i64 z0.vars) := X0.out.cell 0 rfl
  have tX0_1 : w12.cell? ⟨w6.heap.size, 1, none⟩ = some (.slice px0 z0.nums.length pc0) := X0.out.cell 1 rfl
  have tX0_2 : w12.cell? ⟨w6.heap.size, 2, none⟩ = some (.slice py0 z0.bnds.length pd0) := X0.out.cell 2 rfl
  have tX0_3 : w12.cell? ⟨w6.heap.size, 3, none⟩ = some (.slice pu0 z0.gains.length pf0) := X0.out.cell 3 rfl
  go_wp2_with fail
  refine (markR_o _ _ _ z0 _ _ cp0.out (by omega) (by have := cntR_le z0; omega)).mono ?_
  rintro e w13 ⟨rfl, -, hb⟩
  clear tX0_0 tX0_1 tX0_2 tX0_3
  replace B := Lib.hid (B.out.trans (hb.toBelow B.out.size (by rintro k hk1 ⟨h1, h2⟩; omega)))
  replace K0 := Lib.hid (K0.out.kept hb (by rintro ⟨h1, h2⟩; omega))
  replace Wo0 := Lib.hid (Wo0.out.kept hb (by rintro b h1 h2 ⟨h3, h4⟩; omega))
  replace YW0 := Lib.hid (YW0.out.kept hb (by rintro ⟨h1, h2⟩; omega))
  replace X0 := Lib.hid (X0.out.kept hb (by rintro ⟨h1, h2⟩; omega))
  replace Go0 := Lib.hid (Go0.out.kept hb (by rintro b h1 h2 ⟨h3, h4⟩; omega))
  replace YG0 := Lib.hid (YG0.out.kept hb (by rintro ⟨h1, h2⟩; omega))
  have zw13 : w12.heap.size ≤ w13.heap.size := hb.size
  clear hb
  clear cp0
  clear X0
  go_upto_region 14 with fail
  have tYG0_0 : w13.cell? ⟨w8.heap.size, 0, none⟩ = some (.int .i64 (scaleV z0).vars) := YG0.out.cell 0 rfl
  have tYG0_1 : w13.cell? ⟨w8.heap.size, 1, none⟩ = some (.slice xG0 (scaleV z0).nums.length cG0) := YG0.out.cell 1 rfl
  have tYG0_2 : w13.cell? ⟨w8.heap.size, 2, none⟩ = some (.slice yG0 (scaleV z0).bnds.length dG0) := YG0.out.cell 2 rfl
  have tYG0_3 : w13.cell? ⟨w8.heap.size, 3, none⟩ = some (.slice uG0 (scaleV z0).gains.length fG0) := YG0.out.cell 3 rfl
  have tYW0_0 : w13.cell? ⟨w4.heap.size, 0, none⟩ = some (.int .i64 (scaleV z0).vars) := YW0.out.cell 0 rfl
  have tYW0_1 : w13.cell? ⟨w4.heap.size, 1, none⟩ = some (.slice xW0 (scaleV z0).nums.length cW0) := YW0.out.cell 1 rfl
  have tYW0_2 : w13.cell? ⟨w4.heap.size, 2, none⟩ = some (.slice yW0 (scaleV z0).bnds.length dW0) := YW0.out.cell 2 rfl
  have tYW0_3 : w13.cell? ⟨w4.heap.size, 3, none⟩ = some (.slice uW0 (scaleV z0).gains.length fW0) := YW0.out.cell 3 rfl
  go_wp2_with fail
  refine (eqR_same _ _ (scaleV z0) _ Go0.out.rd Wo0.out.rd).mono ?_
  rintro e w14 ⟨rfl, hb⟩
  clear tYG0_0 tYG0_1 tYG0_2 tYG0_3 tYW0_0 tYW0_1 tYW0_2 tYW0_3
  replace B := Lib.hid (B.out.trans (hb.mono B.out.size))
  replace K0 := Lib.hid (K0.out.below hb K0.out.lt)
  replace Wo0 := Lib.hid (Wo0.out.up hb (Nat.le_refl _))
  replace YW0 := Lib.hid (YW0.out.below hb YW0.out.lt)
  replace Go0 := Lib.hid (Go0.out.up hb (Nat.le_refl _))
  replace YG0 := Lib.hid (YG0.out.below hb YG0.out.lt)
  have zw14 : w13.heap.size ≤ w14.heap.size := hb.size
  clear hb
  have hcGo0 : (0 : Int) ≤ (cntR (scaleV z0) : Nat) := by omega
  have Go0h := Go0
  clear Go0h
  go_upto_region 17 with fail
  have tYG0_0 : w14.cell? ⟨w8.heap.size, 0, none⟩ = some (.int .i64 (scaleV z0).vars) := YG0.out.cell 0 rfl
  have tYG0_1 : w14.cell? ⟨w8.heap.size, 1, none⟩ = some (.slice xG0 (scaleV z0).nums.length cG0) := YG0.out.cell 1 rfl
  have tYG0_2 : w14.cell? ⟨w8.heap.size, 2, none⟩ = some (.slice yG0 (scaleV z0).bnds.length dG0) := YG0.out.cell 2 rfl
  have tYG0_3 : w14.cell? ⟨w8.heap.size, 3, none⟩ = some (.slice uG0 (scaleV z0).gains.length fG0) := YG0.out.cell 3 rfl
  go_wp2_with fail
  refine (markR_o _ _ _ (scaleV z0) _ _ Go0.out (by omega) (by have := scaleV_cnt z0; omega)).mono ?_
  rintro e w15 ⟨rfl, MGo0, hb⟩
  clear tYG0_0 tYG0_1 tYG0_2 tYG0_3
  replace MGo0 := Lib.hid MGo0
  replace B := Lib.hid (B.out.trans (hb.toBelow B.out.size (by rintro k hk1 ⟨h1, h2⟩; omega)))
  replace K0 := Lib.hid (K0.out.kept hb (by rintro ⟨h1, h2⟩; omega))
  replace Wo0 := Lib.hid (Wo0.out.kept hb (by rintro b h1 h2 ⟨h3, h4⟩; omega))
  replace YW0 := Lib.hid (YW0.out.kept hb (by rintro ⟨h1, h2⟩; omega))
  replace YG0 := Lib.hid (YG0.out.kept hb (by rintro ⟨h1, h2⟩; omega))
  have zw15 : w14.heap.size ≤ w15.heap.size := hb.size
  clear hb
  clear Go0
  have nm : ((1 + (cntR (scaleV z0) : Int) : Int) != (1 + (cntR (scaleV z0) : Int) : Int)) = false := by simp
  go_upto_region 19 with fail
  have tYG0_0 : w15.cell? ⟨w8.heap.size, 0, none⟩ = some (.int .i64 (scaleV z0).vars) := YG0.out.cell 0 rfl
  have tYG0_1 : w15.cell? ⟨w8.heap.size, 1, none⟩ = some (.slice xG0 (scaleV z0).nums.length cG0) := YG0.out.cell 1 rfl
  have tYG0_2 : w15.cell? ⟨w8.heap.size, 2, none⟩ = some (.slice yG0 (scaleV z0).bnds.length dG0) := YG0.out.cell 2 rfl
  have tYG0_3 : w15.cell? ⟨w8.heap.size, 3, none⟩ = some (.slice uG0 (scaleV z0).gains.length fG0) := YG0.out.cell 3 rfl
  go_wp2_with fail
  refine (heldR_o _ (scaleV z0) _ _ MGo0.out.rd (by omega) (by have := scaleV_cnt z0; omega)).mono ?_
  rintro e w16 ⟨rfl, hb⟩
  clear tYG0_0 tYG0_1 tYG0_2 tYG0_3
  replace B := Lib.hid (B.out.trans (hb.mono B.out.size))
  replace K0 := Lib.hid (K0.out.below hb K0.out.lt)
  replace Wo0 := Lib.hid (Wo0.out.up hb (Nat.le_refl _))
  replace YW0 := Lib.hid (YW0.out.below hb YW0.out.lt)
  replace YG0 := Lib.hid (YG0.out.below hb YG0.out.lt)
  replace MGo0 := Lib.hid (MGo0.out.up hb (Nat.le_refl _))
  have zw16 : w15.heap.size ≤ w16.heap.size := hb.size
  clear hb
  go_upto_region 24 with fail
  have tK0_0 : w16.cell? ⟨w.heap.size, 0, none⟩ = some (.int .i64 z0.vars) := K0.out.cell 0 rfl
  have tK0_1 : w16.cell? ⟨w.heap.size, 1, none⟩ = some (.slice x0 z0.nums.length c0) := K0.out.cell 1 rfl
  have tK0_2 : w16.cell? ⟨w.heap.size, 2, none⟩ = some (.slice y0 z0.bnds.length d0) := K0.out.cell 2 rfl
  have tK0_3 : w16.cell? ⟨w.heap.size, 3, none⟩ = some (.slice u0 z0.gains.length f0) := K0.out.cell 3 rfl
  go_wp2_with fail
  refine (toR_any _ z0 _ (RP0.out.up B.out (Nat.le_refl _)) hs0).mono ?_
  rintro e w17 ⟨vc0, rfl, c0, hb⟩
  replace tK0_0 := held_of hb tK0_0 (Nat.le_refl _)
  replace tK0_1 := held_of hb tK0_1 (Nat.le_refl _)
  replace tK0_2 := held_of hb tK0_2 (Nat.le_refl _)
  replace tK0_3 := held_of hb tK0_3 (Nat.le_refl _)
  replace c0 := Lib.hid c0
  replace B := Lib.hid (B.out.trans (hb.mono B.out.size))
  replace K0 := Lib.hid (K0.out.below hb K0.out.lt)
  replace Wo0 := Lib.hid (Wo0.out.up hb (Nat.le_refl _))
  replace YW0 := Lib.hid (YW0.out.below hb YW0.out.lt)
  replace YG0 := Lib.hid (YG0.out.below hb YG0.out.lt)
  replace MGo0 := Lib.hid (MGo0.out.up hb (Nat.le_refl _))
  have zw17 : w16.heap.size ≤ w17.heap.size := hb.size
  clear hb
  go_wp2_with fail
  refine (scaleI_any _ z0 _ c0.out.rd).mono ?_
  rintro e w18 ⟨Hv0, rfl, Ho0, hb⟩
  clear tK0_0 tK0_1 tK0_2 tK0_3
  replace Ho0 := Lib.hid Ho0
  replace B := Lib.hid (B.out.trans (hb.mono B.out.size))
  replace K0 := Lib.hid (K0.out.below hb K0.out.lt)
  replace Wo0 := Lib.hid (Wo0.out.up hb (Nat.le_refl _))
  replace YW0 := Lib.hid (YW0.out.below hb YW0.out.lt)
  replace YG0 := Lib.hid (YG0.out.below hb YG0.out.lt)
  replace MGo0 := Lib.hid (MGo0.out.up hb (Nat.le_refl _))
  replace c0 := Lib.hid (c0.out.up hb (Nat.le_refl _))
  have zw18 : w17.heap.size ≤ w18.heap.size := hb.size
  clear hb
  clear c0
  obtain ⟨xH0, cH0, yH0, dH0, uH0, fH0, rfl⟩ := Ho0.out.rd.shape
  go_upto_region 25 with fail
  refine wp_at fun w19 hW => ?_
  have hb : Below w18.heap.size w18 w19 := by subst hW; (repeat' first | exact Below.refl _ _ | assumption | refine Below.alloc ?_ ?_ _ | refine Below.setCell ?_ ?_ _ | refine Below.drew ?_ | (simp; done) | (simp; omega))
  have YH0 := Lib.hid (show Blk w19 w18.heap.size 50 #[.int .i64 (scaleV z0).vars, .slice xH0 (scaleV z0).nums.length cH0, .slice yH0 (scaleV z0).bnds.length dH0, .slice uH0 (scaleV z0).gains.length fH0] by subst hW; exact Blk.new _ _ _)
  clear hW
  replace B := Lib.hid (B.out.trans (hb.mono B.out.size))
  replace K0 := Lib.hid (K0.out.below hb K0.out.lt)
  replace Wo0 := Lib.hid (Wo0.out.up hb (Nat.le_refl _))
  replace YW0 := Lib.hid (YW0.out.below hb YW0.out.lt)
  replace YG0 := Lib.hid (YG0.out.below hb YG0.out.lt)
  replace MGo0 := Lib.hid (MGo0.out.up hb (Nat.le_refl _))
  replace Ho0 := Lib.hid (Ho0.out.up hb (Nat.le_refl _))
  have zw19 : w18.heap.size ≤ w19.heap.size := hb.size
  clear hb
  have lYH0 := YH0.out.lt
  have tYH0_0 : w19.cell? ⟨w18.heap.size, 0, none⟩ = some (.int .i64 (scaleV z0).vars) := YH0.out.cell 0 rfl
  have tYH0_1 : w19.cell? ⟨w18.heap.size, 1, none⟩ = some (.slice xH0 (scaleV z0).nums.length cH0) := YH0.out.cell 1 rfl
  have tYH0_2 : w19.cell? ⟨w18.heap.size, 2, none⟩ = some (.slice yH0 (scaleV z0).bnds.length dH0) := YH0.out.cell 2 rfl
  have tYH0_3 : w19.cell? ⟨w18.heap.size, 3, none⟩ = some (.slice uH0 (scaleV z0).gains.length fH0) := YH0.out.cell 3 rfl
  have tYW0_0 : w19.cell? ⟨w4.heap.size, 0, none⟩ = some (.int .i64 (scaleV z0).vars) := YW0.out.cell 0 rfl
  have tYW0_1 : w19.cell? ⟨w4.heap.size, 1, none⟩ = some (.slice xW0 (scaleV z0).nums.length cW0) := YW0.out.cell 1 rfl
  have tYW0_2 : w19.cell? ⟨w4.heap.size, 2, none⟩ = some (.slice yW0 (scaleV z0).bnds.length dW0) := YW0.out.cell 2 rfl
  have tYW0_3 : w19.cell? ⟨w4.heap.size, 3, none⟩ = some (.slice uW0 (scaleV z0).gains.length fW0) := YW0.out.cell 3 rfl
  go_wp2_with fail
  refine (eqR_same _ _ (scaleV z0) _ Ho0.out.rd Wo0.out.rd).mono ?_
  rintro e w20 ⟨rfl, hb⟩
  clear tYH0_0 tYH0_1 tYH0_2 tYH0_3 tYW0_0 tYW0_1 tYW0_2 tYW0_3
  replace B := Lib.hid (B.out.trans (hb.mono B.out.size))
  replace K0 := Lib.hid (K0.out.below hb K0.out.lt)
  replace Wo0 := Lib.hid (Wo0.out.up hb (Nat.le_refl _))
  replace YW0 := Lib.hid (YW0.out.below hb YW0.out.lt)
  replace YG0 := Lib.hid (YG0.out.below hb YG0.out.lt)
  replace MGo0 := Lib.hid (MGo0.out.up hb (Nat.le_refl _))
  replace Ho0 := Lib.hid (Ho0.out.up hb (Nat.le_refl _))
  replace YH0 := Lib.hid (YH0.out.below hb YH0.out.lt)
  have zw20 : w19.heap.size ≤ w20.heap.size := hb.size
  clear hb
  go_upto_region 28 with fail
  have tYG0_0 : w20.cell? ⟨w8.heap.size, 0, none⟩ = some (.int .i64 (scaleV z0).vars) := YG0.out.cell 0 rfl
  have tYG0_1 : w20.cell? ⟨w8.heap.size, 1, none⟩ = some (.slice xG0 (scaleV z0).nums.length cG0) := YG0.out.cell 1 rfl
  have tYG0_2 : w20.cell? ⟨w8.heap.size, 2, none⟩ = some (.slice yG0 (scaleV z0).bnds.length dG0) := YG0.out.cell 2 rfl
  have tYG0_3 : w20.cell? ⟨w8.heap.size, 3, none⟩ = some (.slice uG0 (scaleV z0).gains.length fG0) := YG0.out.cell 3 rfl
  go_wp2_with fail
  refine (heldR_o _ (scaleV z0) _ _ MGo0.out.rd (by omega) (by have := scaleV_cnt z0; omega)).mono ?_
  rintro e w21 ⟨rfl, hb⟩
  clear tYG0_0 tYG0_1 tYG0_2 tYG0_3
  replace B := Lib.hid (B.out.trans (hb.mono B.out.size))
  replace K0 := Lib.hid (K0.out.below hb K0.out.lt)
  replace Wo0 := Lib.hid (Wo0.out.up hb (Nat.le_refl _))
  replace YW0 := Lib.hid (YW0.out.below hb YW0.out.lt)
  replace YG0 := Lib.hid (YG0.out.below hb YG0.out.lt)
  replace MGo0 := Lib.hid (MGo0.out.up hb (Nat.le_refl _))
  replace Ho0 := Lib.hid (Ho0.out.up hb (Nat.le_refl _))
  replace YH0 := Lib.hid (YH0.out.below hb YH0.out.lt)
  have zw21 : w20.heap.size ≤ w21.heap.size := hb.size
  clear hb
  go_wp2_with fail
  go_ret
  exact ⟨rfl, B.out⟩

end Go.Proofs.Ytkkcgclliomocaa
