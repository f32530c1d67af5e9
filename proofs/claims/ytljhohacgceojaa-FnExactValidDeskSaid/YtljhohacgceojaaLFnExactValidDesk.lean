/-
  FnExactValidDesk: the law's walk, out of the contracts.
-/
import Derived.Test.YtljhohacgceojaaDeskV
import Derived.Deep.RegionHeld3
import Derived.Deep.Cut
namespace Go.Proofs.Ytljhohacgceojaa
open Go.RowKit

set_option maxHeartbeats 4000000 in
set_option maxRecDepth 100000 in
theorem lawValidDesk_any (w : World) (v0 : Value) (z0 : DeskD) (r0 : RdD w v0 z0) :
    Calls Try.prog 11 #[v0] w fun e w' => e = .returned (.bool true) ∧ Below w.heap.size w w' := by
  obtain ⟨a0, b0, c0, d0, e0, f0, g0, h0, i0, j0, k0, l0, rfl⟩ := r0.shape
  have RP0 := Lib.hid r0
  clear r0
  have B : Hid (Below w.heap.size w w) := Below.refl _ _
  go_enter Try.func11, Try.ntmps11
  go_upto_region 2 with fail
  refine wp_at fun w1 hW => ?_
  have hb : Below w.heap.size w w1 := by subst hW; (repeat' first | exact Below.refl _ _ | assumption | refine Below.alloc ?_ ?_ _ | refine Below.setCell ?_ ?_ _ | refine Below.drew ?_ | (simp; done) | (simp; omega))
  have K0 := Lib.hid (show Blk w1 (w.heap.size) 63 #[.int .i64 z0.rows.vars, .slice a0 z0.rows.nums.length b0, .slice c0 z0.rows.bnds.length d0, .slice e0 z0.rows.gains.length f0, .slice g0 z0.sizes.length h0, .slice i0 z0.jobs.length j0, .slice k0 z0.ways.length l0] by subst hW; simpa using (Blk.new w 63 #[.int .i64 z0.rows.vars, .slice a0 z0.rows.nums.length b0, .slice c0 z0.rows.bnds.length d0, .slice e0 z0.rows.gains.length f0, .slice g0 z0.sizes.length h0, .slice i0 z0.jobs.length j0, .slice k0 z0.ways.length l0]))
  have zw1 := hb.size
  have lK0 := K0.out.lt
  replace B := Lib.hid hb
  clear hb hW
  have tK0_0 : w1.cell? ⟨w.heap.size, 0, none⟩ = some (.int .i64 z0.rows.vars) := K0.out.cell 0 rfl
  have tK0_1 : w1.cell? ⟨w.heap.size, 1, none⟩ = some (.slice a0 z0.rows.nums.length b0) := K0.out.cell 1 rfl
  have tK0_2 : w1.cell? ⟨w.heap.size, 2, none⟩ = some (.slice c0 z0.rows.bnds.length d0) := K0.out.cell 2 rfl
  have tK0_3 : w1.cell? ⟨w.heap.size, 3, none⟩ = some (.slice e0 z0.rows.gains.length f0) := K0.out.cell 3 rfl
  have tK0_4 : w1.cell? ⟨w.heap.size, 4, none⟩ = some (.slice g0 z0.sizes.length h0) := K0.out.cell 4 rfl
  have tK0_5 : w1.cell? ⟨w.heap.size, 5, none⟩ = some (.slice i0 z0.jobs.length j0) := K0.out.cell 5 rfl
  have tK0_6 : w1.cell? ⟨w.heap.size, 6, none⟩ = some (.slice k0 z0.ways.length l0) := K0.out.cell 6 rfl
  go_wp2_with fail
  refine (szD_any _ z0 _ _ (RP0.out.up B.out (Nat.le_refl _)) (by decide) (by decide)).mono ?_
  rintro e w2 ⟨s0, rfl, sa0, sb0, sc0, hb⟩
  clear tK0_0 tK0_1 tK0_2 tK0_3 tK0_4 tK0_5 tK0_6
  replace B := Lib.hid (B.out.trans (hb.mono B.out.size))
  replace K0 := Lib.hid (K0.out.below hb K0.out.lt)
  have zw2 : w1.heap.size ≤ w2.heap.size := hb.size
  clear hb
  by_cases hn0 : s0 < 0
  · go_wp2_with fail
    go_ret
    exact ⟨rfl, B.out⟩
  have hs0 : bulkD z0 ≤ 1048576 := by have := sc0 (by omega); omega
  clear sa0 sb0 sc0
  have ne0 : ((validDk z0) != (validDk z0)) = false := by simp
  go_upto_region 5 with fail
  have tK0_0 : w2.cell? ⟨w.heap.size, 0, none⟩ = some (.int .i64 z0.rows.vars) := K0.out.cell 0 rfl
  have tK0_1 : w2.cell? ⟨w.heap.size, 1, none⟩ = some (.slice a0 z0.rows.nums.length b0) := K0.out.cell 1 rfl
  have tK0_2 : w2.cell? ⟨w.heap.size, 2, none⟩ = some (.slice c0 z0.rows.bnds.length d0) := K0.out.cell 2 rfl
  have tK0_3 : w2.cell? ⟨w.heap.size, 3, none⟩ = some (.slice e0 z0.rows.gains.length f0) := K0.out.cell 3 rfl
  have tK0_4 : w2.cell? ⟨w.heap.size, 4, none⟩ = some (.slice g0 z0.sizes.length h0) := K0.out.cell 4 rfl
  have tK0_5 : w2.cell? ⟨w.heap.size, 5, none⟩ = some (.slice i0 z0.jobs.length j0) := K0.out.cell 5 rfl
  have tK0_6 : w2.cell? ⟨w.heap.size, 6, none⟩ = some (.slice k0 z0.ways.length l0) := K0.out.cell 6 rfl
  go_wp2_with fail
  refine (toD_any _ z0 _ (RP0.out.up B.out (Nat.le_refl _)) hs0).mono ?_
  rintro e w3 ⟨vc0, rfl, c0, hb⟩
  replace tK0_0 := held_of hb tK0_0 (Nat.le_refl _)
  replace tK0_1 := held_of hb tK0_1 (Nat.le_refl _)
  replace tK0_2 := held_of hb tK0_2 (Nat.le_refl _)
  replace tK0_3 := held_of hb tK0_3 (Nat.le_refl _)
  replace tK0_4 := held_of hb tK0_4 (Nat.le_refl _)
  replace tK0_5 := held_of hb tK0_5 (Nat.le_refl _)
  replace tK0_6 := held_of hb tK0_6 (Nat.le_refl _)
  replace c0 := Lib.hid c0
  replace B := Lib.hid (B.out.trans (hb.mono B.out.size))
  replace K0 := Lib.hid (K0.out.below hb K0.out.lt)
  have zw3 : w2.heap.size ≤ w3.heap.size := hb.size
  clear hb
  go_wp2_with fail
  refine (specVD_any _ z0 _ c0.out.rd).mono ?_
  rintro e w4 ⟨rfl, hb⟩
  clear tK0_0 tK0_1 tK0_2 tK0_3 tK0_4 tK0_5 tK0_6
  replace B := Lib.hid (B.out.trans (hb.mono B.out.size))
  replace K0 := Lib.hid (K0.out.below hb K0.out.lt)
  replace c0 := Lib.hid (c0.out.up hb (Nat.le_refl _))
  have zw4 : w3.heap.size ≤ w4.heap.size := hb.size
  clear hb
  clear c0
  go_upto_region 6 with fail
  have tK0_0 : w4.cell? ⟨w.heap.size, 0, none⟩ = some (.int .i64 z0.rows.vars) := K0.out.cell 0 rfl
  have tK0_1 : w4.cell? ⟨w.heap.size, 1, none⟩ = some (.slice a0 z0.rows.nums.length b0) := K0.out.cell 1 rfl
  have tK0_2 : w4.cell? ⟨w.heap.size, 2, none⟩ = some (.slice c0 z0.rows.bnds.length d0) := K0.out.cell 2 rfl
  have tK0_3 : w4.cell? ⟨w.heap.size, 3, none⟩ = some (.slice e0 z0.rows.gains.length f0) := K0.out.cell 3 rfl
  have tK0_4 : w4.cell? ⟨w.heap.size, 4, none⟩ = some (.slice g0 z0.sizes.length h0) := K0.out.cell 4 rfl
  have tK0_5 : w4.cell? ⟨w.heap.size, 5, none⟩ = some (.slice i0 z0.jobs.length j0) := K0.out.cell 5 rfl
  have tK0_6 : w4.cell? ⟨w.heap.size, 6, none⟩ = some (.slice k0 z0.ways.length l0) := K0.out.cell 6 rfl
  go_wp2_with fail
  refine (toD_any _ z0 _ (RP0.out.up B.out (Nat.le_refl _)) hs0).mono ?_
  rintro e w5 ⟨vcp0, rfl, cp0, hb⟩
  clear tK0_0 tK0_1 tK0_2 tK0_3 tK0_4 tK0_5 tK0_6
  replace cp0 := Lib.hid cp0
  replace B := Lib.hid (B.out.trans (hb.mono B.out.size))
  replace K0 := Lib.hid (K0.out.below hb K0.out.lt)
  have zw5 : w4.heap.size ≤ w5.heap.size := hb.size
  clear hb
  obtain ⟨pa0, pb0, pc0, pd0, pe0, pf0, pg0, ph0, pi0, pj0, pk0, pl0, rfl⟩ := cp0.out.rd.shape
  go_upto_region 7 with fail
  refine wp_at fun w6 hW => ?_
  have hb : Below w5.heap.size w5 w6 := by subst hW; (repeat' first | exact Below.refl _ _ | assumption | refine Below.alloc ?_ ?_ _ | refine Below.setCell ?_ ?_ _ | refine Below.drew ?_ | (simp; done) | (simp; omega))
  have X0 := Lib.hid (show Blk w6 w5.heap.size 69 #[.int .i64 z0.rows.vars, .slice pa0 z0.rows.nums.length pb0, .slice pc0 z0.rows.bnds.length pd0, .slice pe0 z0.rows.gains.length pf0, .slice pg0 z0.sizes.length ph0, .slice pi0 z0.jobs.length pj0, .slice pk0 z0.ways.length pl0] by subst hW; exact Blk.new _ _ _)
  clear hW
  replace B := Lib.hid (B.out.trans (hb.mono B.out.size))
  replace K0 := Lib.hid (K0.out.below hb K0.out.lt)
  replace cp0 := Lib.hid (cp0.out.up hb (Nat.le_refl _))
  have zw6 : w5.heap.size ≤ w6.heap.size := hb.size
  clear hb
  have lX0 := X0.out.lt
  have tX0_0 : w6.cell? ⟨w5.heap.size, 0, none⟩ = some (.int .i64 z0.rows.vars) := X0.out.cell 0 rfl
  have tX0_1 : w6.cell? ⟨w5.heap.size, 1, none⟩ = some (.slice pa0 z0.rows.nums.length pb0) := X0.out.cell 1 rfl
  have tX0_2 : w6.cell? ⟨w5.heap.size, 2, none⟩ = some (.slice pc0 z0.rows.bnds.length pd0) := X0.out.cell 2 rfl
  have tX0_3 : w6.cell? ⟨w5.heap.size, 3, none⟩ = some (.slice pe0 z0.rows.gains.length pf0) := X0.out.cell 3 rfl
  have tX0_4 : w6.cell? ⟨w5.heap.size, 4, none⟩ = some (.slice pg0 z0.sizes.length ph0) := X0.out.cell 4 rfl
  have tX0_5 : w6.cell? ⟨w5.heap.size, 5, none⟩ = some (.slice pi0 z0.jobs.length pj0) := X0.out.cell 5 rfl
  have tX0_6 : w6.cell? ⟨w5.heap.size, 6, none⟩ = some (.slice pk0 z0.ways.length pl0) := X0.out.cell 6 rfl
  go_wp2_with fail
  refine (implVD_any _ z0 _ cp0.out.rd).mono ?_
  rintro e w7 ⟨rfl, hb⟩
  clear tX0_0 tX0_1 tX0_2 tX0_3 tX0_4 tX0_5 tX0_6
  replace B := Lib.hid (B.out.trans (hb.mono B.out.size))
  replace K0 := Lib.hid (K0.out.below hb K0.out.lt)
  replace cp0 := Lib.hid (cp0.out.up hb (Nat.le_refl _))
  replace X0 := Lib.hid (X0.out.below hb X0.out.lt)
  have zw7 : w6.heap.size ≤ w7.heap.size := hb.size
  clear hb
  go_upto_region 10 with fail
  have tX0_0 : w7.cell? ⟨w5.heap.size, 0, none⟩ = some (.int .i64 z0.rows.vars) := X0.out.cell 0 rfl
  have tX0_1 : w7.cell? ⟨w5.heap.size, 1, none⟩ = some (.slice pa0 z0.rows.nums.length pb0) := X0.out.cell 1 rfl
  have tX0_2 : w7.cell? ⟨w5.heap.size, 2, none⟩ = some (.slice pc0 z0.rows.bnds.length pd0) := X0.out.cell 2 rfl
  have tX0_3 : w7.cell? ⟨w5.heap.size, 3, none⟩ = some (.slice pe0 z0.rows.gains.length pf0) := X0.out.cell 3 rfl
  have tX0_4 : w7.cell? ⟨w5.heap.size, 4, none⟩ = some (.slice pg0 z0.sizes.length ph0) := X0.out.cell 4 rfl
  have tX0_5 : w7.cell? ⟨w5.heap.size, 5, none⟩ = some (.slice pi0 z0.jobs.length pj0) := X0.out.cell 5 rfl
  have tX0_6 : w7.cell? ⟨w5.heap.size, 6, none⟩ = some (.slice pk0 z0.ways.length pl0) := X0.out.cell 6 rfl
  have tK0_0 : w7.cell? ⟨w.heap.size, 0, none⟩ = some (.int .i64 z0.rows.vars) := K0.out.cell 0 rfl
  have tK0_1 : w7.cell? ⟨w.heap.size, 1, none⟩ = some (.slice a0 z0.rows.nums.length b0) := K0.out.cell 1 rfl
  have tK0_2 : w7.cell? ⟨w.heap.size, 2, none⟩ = some (.slice c0 z0.rows.bnds.length d0) := K0.out.cell 2 rfl
  have tK0_3 : w7.cell? ⟨w.heap.size, 3, none⟩ = some (.slice e0 z0.rows.gains.length f0) := K0.out.cell 3 rfl
  have tK0_4 : w7.cell? ⟨w.heap.size, 4, none⟩ = some (.slice g0 z0.sizes.length h0) := K0.out.cell 4 rfl
  have tK0_5 : w7.cell? ⟨w.heap.size, 5, none⟩ = some (.slice i0 z0.jobs.length j0) := K0.out.cell 5 rfl
  have tK0_6 : w7.cell? ⟨w.heap.size, 6, none⟩ = some (.slice k0 z0.ways.length l0) := K0.out.cell 6 rfl
  go_wp2_with fail
  go_region_held3 (fun w' => w'.cell? ⟨w5.heap.size, 0, none⟩ = some (.int .i64 z0.rows.vars) ∧ w'.cell? ⟨w5.heap.size, 1, none⟩ = some (.slice pa0 z0.rows.nums.length pb0) ∧ w'.cell? ⟨w5.heap.size, 2, none⟩ = some (.slice pc0 z0.rows.bnds.length pd0) ∧ w'.cell? ⟨w5.heap.size, 3, none⟩ = some (.slice pe0 z0.rows.gains.length pf0) ∧ w'.cell? ⟨w5.heap.size, 4, none⟩ = some (.slice pg0 z0.sizes.length ph0) ∧ w'.cell? ⟨w5.heap.size, 5, none⟩ = some (.slice pi0 z0.jobs.length pj0) ∧ w'.cell? ⟨w5.heap.size, 6, none⟩ = some (.slice pk0 z0.ways.length pl0) ∧ w'.cell? ⟨w.heap.size, 0, none⟩ = some (.int .i64 z0.rows.vars) ∧ w'.cell? ⟨w.heap.size, 1, none⟩ = some (.slice a0 z0.rows.nums.length b0) ∧ w'.cell? ⟨w.heap.size, 2, none⟩ = some (.slice c0 z0.rows.bnds.length d0) ∧ w'.cell? ⟨w.heap.size, 3, none⟩ = some (.slice e0 z0.rows.gains.length f0) ∧ w'.cell? ⟨w.heap.size, 4, none⟩ = some (.slice g0 z0.sizes.length h0) ∧ w'.cell? ⟨w.heap.size, 5, none⟩ = some (.slice i0 z0.jobs.length j0) ∧ w'.cell? ⟨w.heap.size, 6, none⟩ = some (.slice k0 z0.ways.length l0) ∧ Below w7.heap.size w7 w')
    (first | exact ⟨held_of hbn tX0_0 (Nat.le_refl _), held_of hbn tX0_1 (Nat.le_refl _), held_of hbn tX0_2 (Nat.le_refl _), held_of hbn tX0_3 (Nat.le_refl _), held_of hbn tX0_4 (Nat.le_refl _), held_of hbn tX0_5 (Nat.le_refl _), held_of hbn tX0_6 (Nat.le_refl _), held_of hbn tK0_0 (Nat.le_refl _), held_of hbn tK0_1 (Nat.le_refl _), held_of hbn tK0_2 (Nat.le_refl _), held_of hbn tK0_3 (Nat.le_refl _), held_of hbn tK0_4 (Nat.le_refl _), held_of hbn tK0_5 (Nat.le_refl _), held_of hbn tK0_6 (Nat.le_refl _), hbn⟩ | exact ⟨tX0_0, tX0_1, tX0_2, tX0_3, tX0_4, tX0_5, tX0_6, tK0_0, tK0_1, tK0_2, tK0_3, tK0_4, tK0_5, tK0_6, (Below.refl _ _).drew⟩)
    (first
      | (go_at_call_of 39 a0; have hh := (‹_ ∧ _ ∧ _ ∧ _ ∧ _ ∧ _ ∧ _ ∧ _ ∧ _ ∧ _ ∧ _ ∧ _ ∧ _ ∧ _ ∧ Below w7.heap.size w7 _›).2.2.2.2.2.2.2.2.2.2.2.2.2.2; refine (toD_any _ z0 _ ((RP0.out.up B.out (Nat.le_refl _)).up hh (Nat.le_refl _)) hs0).mono ?_; rintro e w8 ⟨vc0, rfl, c0, hb0⟩; have hbn := hh.trans (hb0.mono hh.size))
      | (go_at_call 41; have hh := (‹_ ∧ _ ∧ _ ∧ _ ∧ _ ∧ _ ∧ _ ∧ _ ∧ _ ∧ _ ∧ _ ∧ _ ∧ _ ∧ _ ∧ Below w7.heap.size w7 _›).2.2.2.2.2.2.2.2.2.2.2.2.2.2; refine (eqD_same _ _ z0 _ (cp0.out.up hh (Nat.le_refl _)).rd c0.rd).mono ?_; rintro e w9 ⟨rfl, hb1⟩; have hbn := hh.trans (hb1.mono hh.size)))
  clear tX0_0 tX0_1 tX0_2 tX0_3 tX0_4 tX0_5 tX0_6 tK0_0 tK0_1 tK0_2 tK0_3 tK0_4 tK0_5 tK0_6
  clear hh hb0 hb1 c0
  replace B := Lib.hid (B.out.trans (hbn.mono B.out.size))
  replace K0 := Lib.hid (K0.out.below hbn K0.out.lt)
  replace cp0 := Lib.hid (cp0.out.up hbn (Nat.le_refl _))
  replace X0 := Lib.hid (X0.out.below hbn X0.out.lt)
  have zw9 : w7.heap.size ≤ w9.heap.size := hbn.size
  clear hbn
  go_wp2_with fail
  go_ret
  exact ⟨rfl, B.out⟩

end Go.Proofs.Ytljhohacgceojaa
