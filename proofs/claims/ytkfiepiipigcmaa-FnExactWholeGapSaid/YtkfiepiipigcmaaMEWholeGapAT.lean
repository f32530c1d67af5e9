/-
  FnExactWholeGap: texts joined: LFnExactWholeGap.
-/
import Derived.Deep.RegionHeld3
import Derived.Deep.Cut
import Derived.Test.YtkfiepiipigcmaaMEWholeGapAB
import Derived.Test.YtkfiepiipigcmaaMEWholeGapAO
import Derived.Test.YtkfiepiipigcmaaMEWholeGapAS
namespace Go.Proofs.Ytkfiepiipigcmaa
open Go.RowKit

set_option maxHeartbeats 4000000 in
set_option maxRecDepth 100000 in
theorem lawWholeGap_any (w : World) (v0 : Value) (z0 : RowsD) (r0 : RdR w v0 z0) (a1 : Int) (a2 : Int) (a3 : Nat) :
    Calls Try.prog 8 #[v0, .int .i64 a1, .int .i64 a2, .float .f32 a3] w fun e w' => e = .returned (.bool true) ∧ Below w.heap.size w w' := by
  obtain ⟨x0, c0, y0, d0, u0, f0, rfl⟩ := r0.shape
  have RP0 := Lib.hid r0
  clear r0
  have B : Hid (Below w.heap.size w w) := Below.refl _ _
  go_enter Try.func8, Try.ntmps8
  go_upto_region 2 with fail
  refine wp_at fun w1 hW => ?_
  have hb : Below w.heap.size w w1 := by subst hW; (repeat' first | exact Below.refl _ _ | assumption | refine Below.alloc ?_ ?_ _ | refine Below.setCell ?_ ?_ _ | refine Below.drew ?_ | (simp; done) | (simp; omega))
  have K0 := Lib.hid (show Blk w1 (w.heap.size) 62 #[.int .i64 z0.vars, .slice x0 z0.nums.length c0, .slice y0 z0.bnds.length d0, .slice u0 z0.gains.length f0] by subst hW; simpa using (Blk.new w 62 #[.int .i64 z0.vars, .slice x0 z0.nums.length c0, .slice y0 z0.bnds.length d0, .slice u0 z0.gains.length f0]))
  have zw1 := hb.size
  have lK0 := K0.out.lt
  replace B := Lib.hid hb
  clear hb hW
  have tK0_0 : w1.cell? ⟨w.heap.size, 0, none⟩ = some (.int .i64 z0.vars) := K0.out.cell 0 rfl
  have tK0_1 : w1.cell? ⟨w.heap.size, 1, none⟩ = some (.slice x0 z0.nums.length c0) := K0.out.cell 1 rfl
  have tK0_2 : w1.cell? ⟨w.heap.size, 2, none⟩ = some (.slice y0 z0.bnds.length d0) := K0.out.cell 2 rfl
  have tK0_3 : w1.cell? ⟨w.heap.size, 3, none⟩ = some (.slice u0 z0.gains.length f0) := K0.out.cell 3 rfl
  go_wp2_with fail
  refine (szR_any _ z0 _ _ (RP0.out.up B.out (Nat.le_refl _)) (by decide) (by decide)).mono ?_
  rintro e w2 ⟨s0, rfl, sa0, sb0, sc0, hb⟩
  clear tK0_0 tK0_1 tK0_2 tK0_3
  replace B := Lib.hid (B.out.trans (hb.mono B.out.size))
  replace K0 := Lib.hid (K0.out.below hb K0.out.lt)
  have zw2 : w1.heap.size ≤ w2.heap.size := hb.size
  clear hb
  by_cases hn0 : s0 < 0
  · go_wp2_with fail
    go_ret
    exact ⟨rfl, B.out⟩
  have hs0 : bulkR z0 ≤ 1048576 := by have := sc0 (by omega); omega
  clear sa0 sb0 sc0
  have ne0 : ((gapV z0 a1 a2 a3) != (gapV z0 a1 a2 a3)) = false := by simp
  have ne1 : ((gapOk z0 a1 a2 a3) != (gapOk z0 a1 a2 a3)) = false := by simp
  go_upto_region 5 with fail
  have tK0_0 : w2.cell? ⟨w.heap.size, 0, none⟩ = some (.int .i64 z0.vars) := K0.out.cell 0 rfl
  have tK0_1 : w2.cell? ⟨w.heap.size, 1, none⟩ = some (.slice x0 z0.nums.length c0) := K0.out.cell 1 rfl
  have tK0_2 : w2.cell? ⟨w.heap.size, 2, none⟩ = some (.slice y0 z0.bnds.length d0) := K0.out.cell 2 rfl
  have tK0_3 : w2.cell? ⟨w.heap.size, 3, none⟩ = some (.slice u0 z0.gains.length f0) := K0.out.cell 3 rfl
  go_wp2_with fail
  refine (toR_any _ z0 _ (RP0.out.up B.out (Nat.le_refl _)) hs0).mono ?_
  rintro e w3 ⟨vc0, rfl, c0, hb⟩
  replace tK0_0 := held_of hb tK0_0 (Nat.le_refl _)
  replace tK0_1 := held_of hb tK0_1 (Nat.le_refl _)
  replace tK0_2 := held_of hb tK0_2 (Nat.le_refl _)
  replace tK0_3 := held_of hb tK0_3 (Nat.le_refl _)
  replace c0 := Lib.hid c0
  replace B := Lib.hid (B.out.trans (hb.mono B.out.size))
  replace K0 := Lib.hid (K0.out.below hb K0.out.lt)
  have zw3 : w2.heap.size ≤ w3.heap.size := hb.size
  clear hb
  go_wp2_with fail
  refine (gapS_any _ z0 a1 a2 a3 _ c0.out.rd).mono ?_
  rintro e w4 ⟨rfl, hb⟩
  clear tK0_0 tK0_1 tK0_2 tK0_3
  replace B := Lib.hid (B.out.trans (hb.mono B.out.size))
  replace K0 := Lib.hid (K0.out.below hb K0.out.lt)
  replace c0 := Lib.hid (c0.out.up hb (Nat.le_refl _))
  have zw4 : w3.heap.size ≤ w4.heap.size := hb.size
  clear hb
  clear c0
  go_upto_region 6 with fail
  have tK0_0 : w4.cell? ⟨w.heap.size, 0, none⟩ = some (.int .i64 z0.vars) := K0.out.cell 0 rfl
  have tK0_1 : w4.cell? ⟨w.heap.size, 1, none⟩ = some (.slice x0 z0.nums.length c0) := K0.out.cell 1 rfl
  have tK0_2 : w4.cell? ⟨w.heap.size, 2, none⟩ = some (.slice y0 z0.bnds.length d0) := K0.out.cell 2 rfl
  have tK0_3 : w4.cell? ⟨w.heap.size, 3, none⟩ = some (.slice u0 z0.gains.length f0) := K0.out.cell 3 rfl
  go_wp2_with fail
  refine (toR_any _ z0 _ (RP0.out.up B.out (Nat.le_refl _)) hs0).mono ?_
  rintro e w5 ⟨vcp0, rfl, cp0, hb⟩
  clear tK0_0 tK0_1 tK0_2 tK0_3
  replace cp0 := Lib.hid cp0
  replace B := Lib.hid (B.out.trans (hb.mono B.out.size))
  replace K0 := Lib.hid (K0.out.below hb K0.out.lt)
  have zw5 : w4.heap.size ≤ w5.heap.size := hb.size
  clear hb
  obtain ⟨px0, pc0, py0, pd0, pu0, pf0, rfl⟩ := cp0.out.rd.shape
  go_upto_region 7 with fail
  refine wp_at fun w6 hW => ?_
  have hb : Below w5.heap.size w5 w6 := by subst hW; (repeat' first | exact Below.refl _ _ | assumption | refine Below.alloc ?_ ?_ _ | refine Below.setCell ?_ ?_ _ | refine Below.drew ?_ | (simp; done) | (simp; omega))
  have X0 := Lib.hid (show Blk w6 w5.heap.size 67 #[.int .i64 z0.vars, .slice px0 z0.nums.length pc0, .slice py0 z0.bnds.length pd0, .slice pu0 z0.gains.length pf0] by subst hW; exact Blk.new _ _ _)
  clear hW
  replace B := Lib.hid (B.out.trans (hb.mono B.out.size))
  replace K0 := Lib.hid (K0.out.below hb K0.out.lt)
  replace cp0 := Lib.hid (cp0.out.up hb (Nat.le_refl _))
  have zw6 : w5.heap.size ≤ w6.heap.size := hb.size
  clear hb
  have lX0 := X0.out.lt
  have tX0_0 : w6.cell? ⟨w5.heap.size, 0, none⟩ = some (.int .i64 z0.vars) := X0.out.cell 0 rfl
  have tX0_1 : w6.cell? ⟨w5.heap.size, 1, none⟩ = some (.slice px0 z0.nums.length pc0) := X0.out.cell 1 rfl
  have tX0_2 : w6.cell? ⟨w5.heap.size, 2, none⟩ = some (.slice py0 z0.bnds.length pd0) := X0.out.cell 2 rfl
  have tX0_3 : w6.cell? ⟨w5.heap.size, 3, none⟩ = some (.slice pu0 z0.gains.length pf0) := X0.out.cell 3 rfl
  go_wp2_with fail
  refine (gapI_any _ z0 a1 a2 a3 _ cp0.out.rd).mono ?_
  rintro e w7 ⟨rfl, hb⟩
  clear tX0_0 tX0_1 tX0_2 tX0_3
  replace B := Lib.hid (B.out.trans (hb.mono B.out.size))
  replace K0 := Lib.hid (K0.out.below hb K0.out.lt)
  replace cp0 := Lib.hid (cp0.out.up hb (Nat.le_refl _))
  replace X0 := Lib.hid (X0.out.below hb X0.out.lt)
  have zw7 : w6.heap.size ≤ w7.heap.size := hb.size
  clear hb
  obtain ⟨rf0, hrf0, hrn0⟩ := conv64 (gapV_nan z0 a1 a2 a3)
  have hcv0 := fun (W : World) => run_convert_float_float (P := Try.prog) W 63 70 .f32 .f64 (gapV z0 a1 a2 a3) rf0 (by rw [Try.und32]; rfl) Try.und64 hrf0
  clear hrf0
  go_upto_region 8 with fail
  go_wp2_with fail
  refine (sameFloat_b rf0 hrn0 _).mono ?_
  rintro e w8 ⟨rfl, hb⟩
  replace B := Lib.hid (B.out.trans (hb.mono B.out.size))
  replace K0 := Lib.hid (K0.out.below hb K0.out.lt)
  replace cp0 := Lib.hid (cp0.out.up hb (Nat.le_refl _))
  replace X0 := Lib.hid (X0.out.below hb X0.out.lt)
  have zw8 : w7.heap.size ≤ w8.heap.size := hb.size
  clear hb
  go_upto_region 10 with fail
  have tX0_0 : w8.cell? ⟨w5.heap.size, 0, none⟩ = some (.int .i64 z0.vars) := X0.out.cell 0 rfl
  have tX0_1 : w8.cell? ⟨w5.heap.size, 1, none⟩ = some (.slice px0 z0.nums.length pc0) := X0.out.cell 1 rfl
  have tX0_2 : w8.cell? ⟨w5.heap.size, 2, none⟩ = some (.slice py0 z0.bnds.length pd0) := X0.out.cell 2 rfl
  have tX0_3 : w8.cell? ⟨w5.heap.size, 3, none⟩ = some (.slice pu0 z0.gains.length pf0) := X0.out.cell 3 rfl
  have tK0_0 : w8.cell? ⟨w.heap.size, 0, none⟩ = some (.int .i64 z0.vars) := K0.out.cell 0 rfl
  have tK0_1 : w8.cell? ⟨w.heap.size, 1, none⟩ = some (.slice x0 z0.nums.length c0) := K0.out.cell 1 rfl
  have tK0_2 : w8.cell? ⟨w.heap.size, 2, none⟩ = some (.slice y0 z0.bnds.length d0) := K0.out.cell 2 rfl
  have tK0_3 : w8.cell? ⟨w.heap.size, 3, none⟩ = some (.slice u0 z0.gains.length f0) := K0.out.cell 3 rfl
  go_wp2_with fail
  go_region_held3 (fun w' => w'.cell? ⟨w5.heap.size, 0, none⟩ = some (.int .i64 z0.vars) ∧ w'.cell? ⟨w5.heap.size, 1, none⟩ = some (.slice px0 z0.nums.length pc0) ∧ w'.cell? ⟨w5.heap.size, 2, none⟩ = some (.slice py0 z0.bnds.length pd0) ∧ w'.cell? ⟨w5.heap.size, 3, none⟩ = some (.slice pu0 z0.gains.length pf0) ∧ w'.cell? ⟨w.heap.size, 0, none⟩ = some (.int .i64 z0.vars) ∧ w'.cell? ⟨w.heap.size, 1, none⟩ = some (.slice x0 z0.nums.length c0) ∧ w'.cell? ⟨w.heap.size, 2, none⟩ = some (.slice y0 z0.bnds.length d0) ∧ w'.cell? ⟨w.heap.size, 3, none⟩ = some (.slice u0 z0.gains.length f0) ∧ Below w8.heap.size w8 w')
    (first | exact ⟨held_of hbn tX0_0 (Nat.le_refl _), held_of hbn tX0_1 (Nat.le_refl _), held_of hbn tX0_2 (Nat.le_refl _), held_of hbn tX0_3 (Nat.le_refl _), held_of hbn tK0_0 (Nat.le_refl _), held_of hbn tK0_1 (Nat.le_refl _), held_of hbn tK0_2 (Nat.le_refl _), held_of hbn tK0_3 (Nat.le_refl _), hbn⟩ | exact ⟨tX0_0, tX0_1, tX0_2, tX0_3, tK0_0, tK0_1, tK0_2, tK0_3, (Below.refl _ _).drew⟩)
    (first
      | (go_at_call_of 46 x0; have hh := (‹_ ∧ _ ∧ _ ∧ _ ∧ _ ∧ _ ∧ _ ∧ _ ∧ Below w8.heap.size w8 _›).2.2.2.2.2.2.2.2; refine (toR_any _ z0 _ ((RP0.out.up B.out (Nat.le_refl _)).up hh (Nat.le_refl _)) hs0).mono ?_; rintro e w9 ⟨vc0, rfl, c0, hb0⟩; have hbn := hh.trans (hb0.mono hh.size))
      | (go_at_call 49; have hh := (‹_ ∧ _ ∧ _ ∧ _ ∧ _ ∧ _ ∧ _ ∧ _ ∧ Below w8.heap.size w8 _›).2.2.2.2.2.2.2.2; refine (eqR_same _ _ z0 _ (cp0.out.up hh (Nat.le_refl _)).rd c0.rd).mono ?_; rintro e w10 ⟨rfl, hb1⟩; have hbn := hh.trans (hb1.mono hh.size)))
  clear tX0_0 tX0_1 tX0_2 tX0_3 tK0_0 tK0_1 tK0_2 tK0_3
  clear hh hb0 hb1 c0
  replace B := Lib.hid (B.out.trans (hbn.mono B.out.size))
  replace K0 := Lib.hid (K0.out.below hbn K0.out.lt)
  replace cp0 := Lib.hid (cp0.out.up hbn (Nat.le_refl _))
  replace X0 := Lib.hid (X0.out.below hbn X0.out.lt)
  have zw10 : w8.heap.size ≤ w10.heap.size := hbn.size
  clear hbn
  go_wp2_with fail
  go_ret
  exact ⟨rfl, B.out⟩

end Go.Proofs.Ytkfiepiipigcmaa
