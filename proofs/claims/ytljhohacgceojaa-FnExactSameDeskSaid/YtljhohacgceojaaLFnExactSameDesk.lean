/-
  FnExactSameDesk: the law's walk, out of the contracts.
-/
import Derived.Test.YtljhohacgceojaaSameDD
import Derived.Deep.RegionHeld3
import Derived.Deep.Cut
namespace Go.Proofs.Ytljhohacgceojaa
open Go.RowKit

set_option maxHeartbeats 4000000 in
set_option maxRecDepth 100000 in
theorem lawSameDesk_any (w : World) (v0 : Value) (z0 : DeskD) (r0 : RdD w v0 z0) (y0 : WfD z0) (v1 : Value) (z1 : DeskD) (r1 : RdD w v1 z1) (y1 : WfD z1) :
    Calls Try.prog 10 #[v0, v1] w fun e w' => e = .returned (.bool true) ∧ Below w.heap.size w w' := by
  obtain ⟨a0, b0, c0, d0, e0, f0, g0, h0, i0, j0, k0, l0, rfl⟩ := r0.shape
  obtain ⟨a1, b1, c1, d1, e1, f1, g1, h1, i1, j1, k1, l1, rfl⟩ := r1.shape
  have RP0 := Lib.hid r0
  clear r0
  have RP1 := Lib.hid r1
  clear r1
  have B : Hid (Below w.heap.size w w) := Below.refl _ _
  go_enter Try.func10, Try.ntmps10
  go_upto_region 2 with fail
  refine wp_at fun w1 hW => ?_
  have hb : Below w.heap.size w w1 := by subst hW; (repeat' first | exact Below.refl _ _ | assumption | refine Below.alloc ?_ ?_ _ | refine Below.setCell ?_ ?_ _ | refine Below.drew ?_ | (simp; done) | (simp; omega))
  have K0 := Lib.hid (show Blk w1 (w.heap.size) 63 #[.int .i64 z0.rows.vars, .slice a0 z0.rows.nums.length b0, .slice c0 z0.rows.bnds.length d0, .slice e0 z0.rows.gains.length f0, .slice g0 z0.sizes.length h0, .slice i0 z0.jobs.length j0, .slice k0 z0.ways.length l0] by subst hW; simpa using ((Blk.new w 63 #[.int .i64 z0.rows.vars, .slice a0 z0.rows.nums.length b0, .slice c0 z0.rows.bnds.length d0, .slice e0 z0.rows.gains.length f0, .slice g0 z0.sizes.length h0, .slice i0 z0.jobs.length j0, .slice k0 z0.ways.length l0]).alloc (.cells #[.int .i64 z1.rows.vars, .slice a1 z1.rows.nums.length b1, .slice c1 z1.rows.bnds.length d1, .slice e1 z1.rows.gains.length f1, .slice g1 z1.sizes.length h1, .slice i1 z1.jobs.length j1, .slice k1 z1.ways.length l1] 63)))
  have K1 := Lib.hid (show Blk w1 (w.heap.size + 1) 63 #[.int .i64 z1.rows.vars, .slice a1 z1.rows.nums.length b1, .slice c1 z1.rows.bnds.length d1, .slice e1 z1.rows.gains.length f1, .slice g1 z1.sizes.length h1, .slice i1 z1.jobs.length j1, .slice k1 z1.ways.length l1] by subst hW; simpa using (Blk.new (w.alloc (.cells #[.int .i64 z0.rows.vars, .slice a0 z0.rows.nums.length b0, .slice c0 z0.rows.bnds.length d0, .slice e0 z0.rows.gains.length f0, .slice g0 z0.sizes.length h0, .slice i0 z0.jobs.length j0, .slice k0 z0.ways.length l0] 63)) 63 #[.int .i64 z1.rows.vars, .slice a1 z1.rows.nums.length b1, .slice c1 z1.rows.bnds.length d1, .slice e1 z1.rows.gains.length f1, .slice g1 z1.sizes.length h1, .slice i1 z1.jobs.length j1, .slice k1 z1.ways.length l1]))
  have zw1 := hb.size
  have lK0 := K0.out.lt
  have lK1 := K1.out.lt
  replace B := Lib.hid hb
  clear hb hW
  have tK0_0 : w1.cell? ⟨w.heap.size, 0, none⟩ = some (.int .i64 z0.rows.vars) := K0.out.cell 0 rfl
  have tK0_1 : w1.cell? ⟨w.heap.size, 1, none⟩ = some (.slice a0 z0.rows.nums.length b0) := K0.out.cell 1 rfl
  have tK0_2 : w1.cell? ⟨w.heap.size, 2, none⟩ = some (.slice c0 z0.rows.bnds.length d0) := K0.out.cell 2 rfl
  have tK0_3 : w1.cell? ⟨w.heap.size, 3, none⟩ = some (.slice e0 z0.rows.gains.length f0) := K0.out.cell 3 rfl
  have tK0_4 : w1.cell? ⟨w.heap.size, 4, none⟩ = some (.slice g0 z0.sizes.length h0) := K0.out.cell 4 rfl
  have tK0_5 : w1.cell? ⟨w.heap.size, 5, none⟩ = some (.slice i0 z0.jobs.length j0) := K0.out.cell 5 rfl
  have tK0_6 : w1.cell? ⟨w.heap.size, 6, none⟩ = some (.slice k0 z0.ways.length l0) := K0.out.cell 6 rfl
  go_wp2_with fail
  refine (szD_any _ z0 _ _ (RP0.out.up B.out (Nat.le_refl _)) (by decide) (by decide)).mono ?_
  rintro e w2 ⟨s0, rfl, sa0, sb0, sc0, hb⟩
  clear tK0_0 tK0_1 tK0_2 tK0_3 tK0_4 tK0_5 tK0_6
  replace B := Lib.hid (B.out.trans (hb.mono B.out.size))
  replace K0 := Lib.hid (K0.out.below hb K0.out.lt)
  replace K1 := Lib.hid (K1.out.below hb K1.out.lt)
  have zw2 : w1.heap.size ≤ w2.heap.size := hb.size
  clear hb
  by_cases hn0 : s0 < 0
  · go_wp2_with fail
    go_ret
    exact ⟨rfl, B.out⟩
  have hs0 : bulkD z0 ≤ 1048576 := by have := sc0 (by omega); omega
  go_upto_region 5 with fail
  have tK1_0 : w2.cell? ⟨w.heap.size + 1, 0, none⟩ = some (.int .i64 z1.rows.vars) := K1.out.cell 0 rfl
  have tK1_1 : w2.cell? ⟨w.heap.size + 1, 1, none⟩ = some (.slice a1 z1.rows.nums.length b1) := K1.out.cell 1 rfl
  have tK1_2 : w2.cell? ⟨w.heap.size + 1, 2, none⟩ = some (.slice c1 z1.rows.bnds.length d1) := K1.out.cell 2 rfl
  have tK1_3 : w2.cell? ⟨w.heap.size + 1, 3, none⟩ = some (.slice e1 z1.rows.gains.length f1) := K1.out.cell 3 rfl
  have tK1_4 : w2.cell? ⟨w.heap.size + 1, 4, none⟩ = some (.slice g1 z1.sizes.length h1) := K1.out.cell 4 rfl
  have tK1_5 : w2.cell? ⟨w.heap.size + 1, 5, none⟩ = some (.slice i1 z1.jobs.length j1) := K1.out.cell 5 rfl
  have tK1_6 : w2.cell? ⟨w.heap.size + 1, 6, none⟩ = some (.slice k1 z1.ways.length l1) := K1.out.cell 6 rfl
  go_wp2_with fail
  refine (szD_any _ z1 _ _ (RP1.out.up B.out (Nat.le_refl _)) (by omega) (by omega)).mono ?_
  rintro e w3 ⟨s1, rfl, sa1, sb1, sc1, hb⟩
  clear tK1_0 tK1_1 tK1_2 tK1_3 tK1_4 tK1_5 tK1_6
  replace B := Lib.hid (B.out.trans (hb.mono B.out.size))
  replace K0 := Lib.hid (K0.out.below hb K0.out.lt)
  replace K1 := Lib.hid (K1.out.below hb K1.out.lt)
  have zw3 : w2.heap.size ≤ w3.heap.size := hb.size
  clear hb
  by_cases hn1 : s1 < 0
  · go_wp2_with fail
    go_ret
    exact ⟨rfl, B.out⟩
  have hs1 : bulkD z1 ≤ 1048576 := by have := sc1 (by omega); omega
  clear sa0 sb0 sc0
  clear sa1 sb1 sc1
  have ne0 : ((sameD z0 z1) != (sameD z0 z1)) = false := by simp
  go_upto_region 8 with fail
  have tK0_0 : w3.cell? ⟨w.heap.size, 0, none⟩ = some (.int .i64 z0.rows.vars) := K0.out.cell 0 rfl
  have tK0_1 : w3.cell? ⟨w.heap.size, 1, none⟩ = some (.slice a0 z0.rows.nums.length b0) := K0.out.cell 1 rfl
  have tK0_2 : w3.cell? ⟨w.heap.size, 2, none⟩ = some (.slice c0 z0.rows.bnds.length d0) := K0.out.cell 2 rfl
  have tK0_3 : w3.cell? ⟨w.heap.size, 3, none⟩ = some (.slice e0 z0.rows.gains.length f0) := K0.out.cell 3 rfl
  have tK0_4 : w3.cell? ⟨w.heap.size, 4, none⟩ = some (.slice g0 z0.sizes.length h0) := K0.out.cell 4 rfl
  have tK0_5 : w3.cell? ⟨w.heap.size, 5, none⟩ = some (.slice i0 z0.jobs.length j0) := K0.out.cell 5 rfl
  have tK0_6 : w3.cell? ⟨w.heap.size, 6, none⟩ = some (.slice k0 z0.ways.length l0) := K0.out.cell 6 rfl
  have tK1_0 : w3.cell? ⟨w.heap.size + 1, 0, none⟩ = some (.int .i64 z1.rows.vars) := K1.out.cell 0 rfl
  have tK1_1 : w3.cell? ⟨w.heap.size + 1, 1, none⟩ = some (.slice a1 z1.rows.nums.length b1) := K1.out.cell 1 rfl
  have tK1_2 : w3.cell? ⟨w.heap.size + 1, 2, none⟩ = some (.slice c1 z1.rows.bnds.length d1) := K1.out.cell 2 rfl
  have tK1_3 : w3.cell? ⟨w.heap.size + 1, 3, none⟩ = some (.slice e1 z1.rows.gains.length f1) := K1.out.cell 3 rfl
  have tK1_4 : w3.cell? ⟨w.heap.size + 1, 4, none⟩ = some (.slice g1 z1.sizes.length h1) := K1.out.cell 4 rfl
  have tK1_5 : w3.cell? ⟨w.heap.size + 1, 5, none⟩ = some (.slice i1 z1.jobs.length j1) := K1.out.cell 5 rfl
  have tK1_6 : w3.cell? ⟨w.heap.size + 1, 6, none⟩ = some (.slice k1 z1.ways.length l1) := K1.out.cell 6 rfl
  go_wp2_with fail
  go_region_held3 (fun w' => w'.cell? ⟨w.heap.size, 0, none⟩ = some (.int .i64 z0.rows.vars) ∧ w'.cell? ⟨w.heap.size, 1, none⟩ = some (.slice a0 z0.rows.nums.length b0) ∧ w'.cell? ⟨w.heap.size, 2, none⟩ = some (.slice c0 z0.rows.bnds.length d0) ∧ w'.cell? ⟨w.heap.size, 3, none⟩ = some (.slice e0 z0.rows.gains.length f0) ∧ w'.cell? ⟨w.heap.size, 4, none⟩ = some (.slice g0 z0.sizes.length h0) ∧ w'.cell? ⟨w.heap.size, 5, none⟩ = some (.slice i0 z0.jobs.length j0) ∧ w'.cell? ⟨w.heap.size, 6, none⟩ = some (.slice k0 z0.ways.length l0) ∧ w'.cell? ⟨w.heap.size + 1, 0, none⟩ = some (.int .i64 z1.rows.vars) ∧ w'.cell? ⟨w.heap.size + 1, 1, none⟩ = some (.slice a1 z1.rows.nums.length b1) ∧ w'.cell? ⟨w.heap.size + 1, 2, none⟩ = some (.slice c1 z1.rows.bnds.length d1) ∧ w'.cell? ⟨w.heap.size + 1, 3, none⟩ = some (.slice e1 z1.rows.gains.length f1) ∧ w'.cell? ⟨w.heap.size + 1, 4, none⟩ = some (.slice g1 z1.sizes.length h1) ∧ w'.cell? ⟨w.heap.size + 1, 5, none⟩ = some (.slice i1 z1.jobs.length j1) ∧ w'.cell? ⟨w.heap.size + 1, 6, none⟩ = some (.slice k1 z1.ways.length l1) ∧ Below w3.heap.size w3 w')
    (first | exact ⟨held_of hbn tK0_0 (Nat.le_refl _), held_of hbn tK0_1 (Nat.le_refl _), held_of hbn tK0_2 (Nat.le_refl _), held_of hbn tK0_3 (Nat.le_refl _), held_of hbn tK0_4 (Nat.le_refl _), held_of hbn tK0_5 (Nat.le_refl _), held_of hbn tK0_6 (Nat.le_refl _), held_of hbn tK1_0 (Nat.le_refl _), held_of hbn tK1_1 (Nat.le_refl _), held_of hbn tK1_2 (Nat.le_refl _), held_of hbn tK1_3 (Nat.le_refl _), held_of hbn tK1_4 (Nat.le_refl _), held_of hbn tK1_5 (Nat.le_refl _), held_of hbn tK1_6 (Nat.le_refl _), hbn⟩ | exact ⟨tK0_0, tK0_1, tK0_2, tK0_3, tK0_4, tK0_5, tK0_6, tK1_0, tK1_1, tK1_2, tK1_3, tK1_4, tK1_5, tK1_6, (Below.refl _ _).drew⟩)
    (first
      | (go_at_call_of 39 a0; have hh := (‹_ ∧ _ ∧ _ ∧ _ ∧ _ ∧ _ ∧ _ ∧ _ ∧ _ ∧ _ ∧ _ ∧ _ ∧ _ ∧ _ ∧ Below w3.heap.size w3 _›).2.2.2.2.2.2.2.2.2.2.2.2.2.2; refine (toD_any _ z0 _ ((RP0.out.up B.out (Nat.le_refl _)).up hh (Nat.le_refl _)) hs0).mono ?_; rintro e w4 ⟨vc0, rfl, c0, hb0⟩; have hbn := hh.trans (hb0.mono hh.size))
      | (go_at_call_of 39 a1; have hh := (‹_ ∧ _ ∧ _ ∧ _ ∧ _ ∧ _ ∧ _ ∧ _ ∧ _ ∧ _ ∧ _ ∧ _ ∧ _ ∧ _ ∧ Below w3.heap.size w3 _›).2.2.2.2.2.2.2.2.2.2.2.2.2.2; refine (toD_any _ z1 _ ((RP1.out.up B.out (Nat.le_refl _)).up hh (Nat.le_refl _)) hs1).mono ?_; rintro e w5 ⟨vc1, rfl, c1, hb1⟩; have hbn := hh.trans (hb1.mono hh.size))
      | (go_at_call 38; have hh := (‹_ ∧ _ ∧ _ ∧ _ ∧ _ ∧ _ ∧ _ ∧ _ ∧ _ ∧ _ ∧ _ ∧ _ ∧ _ ∧ _ ∧ Below w3.heap.size w3 _›).2.2.2.2.2.2.2.2.2.2.2.2.2.2; refine (specSameDesk_o _ z0 _ z1 _ (c0.up hb1 (Nat.le_refl _)).rd c1.rd y0 y1).mono ?_; rintro e w6 ⟨rfl, hb2⟩; have hbn := hh.trans (hb2.mono hh.size)))
  clear tK0_0 tK0_1 tK0_2 tK0_3 tK0_4 tK0_5 tK0_6 tK1_0 tK1_1 tK1_2 tK1_3 tK1_4 tK1_5 tK1_6
  clear hh hb0 hb1 hb2 c0 c1
  replace B := Lib.hid (B.out.trans (hbn.mono B.out.size))
  replace K0 := Lib.hid (K0.out.below hbn K0.out.lt)
  replace K1 := Lib.hid (K1.out.below hbn K1.out.lt)
  have zw6 : w3.heap.size ≤ w6.heap.size := hbn.size
  clear hbn
  go_upto_region 9 with fail
  have tK0_0 : w6.cell? ⟨w.heap.size, 0, none⟩ = some (.int .i64 z0.rows.vars) := K0.out.cell 0 rfl
  have tK0_1 : w6.cell? ⟨w.heap.size, 1, none⟩ = some (.slice a0 z0.rows.nums.length b0) := K0.out.cell 1 rfl
  have tK0_2 : w6.cell? ⟨w.heap.size, 2, none⟩ = some (.slice c0 z0.rows.bnds.length d0) := K0.out.cell 2 rfl
  have tK0_3 : w6.cell? ⟨w.heap.size, 3, none⟩ = some (.slice e0 z0.rows.gains.length f0) := K0.out.cell 3 rfl
  have tK0_4 : w6.cell? ⟨w.heap.size, 4, none⟩ = some (.slice g0 z0.sizes.length h0) := K0.out.cell 4 rfl
  have tK0_5 : w6.cell? ⟨w.heap.size, 5, none⟩ = some (.slice i0 z0.jobs.length j0) := K0.out.cell 5 rfl
  have tK0_6 : w6.cell? ⟨w.heap.size, 6, none⟩ = some (.slice k0 z0.ways.length l0) := K0.out.cell 6 rfl
  go_wp2_with fail
  refine (toD_any _ z0 _ (RP0.out.up B.out (Nat.le_refl _)) hs0).mono ?_
  rintro e w7 ⟨vcp0, rfl, cp0, hb⟩
  clear tK0_0 tK0_1 tK0_2 tK0_3 tK0_4 tK0_5 tK0_6
  replace cp0 := Lib.hid cp0
  replace B := Lib.hid (B.out.trans (hb.mono B.out.size))
  replace K0 := Lib.hid (K0.out.below hb K0.out.lt)
  replace K1 := Lib.hid (K1.out.below hb K1.out.lt)
  have zw7 : w6.heap.size ≤ w7.heap.size := hb.size
  clear hb
  obtain ⟨pa0, pb0, pc0, pd0, pe0, pf0, pg0, ph0, pi0, pj0, pk0, pl0, rfl⟩ := cp0.out.rd.shape
  go_upto_region 10 with fail
  refine wp_at fun w8 hW => ?_
  have hb : Below w7.heap.size w7 w8 := by subst hW; (repeat' first | exact Below.refl _ _ | assumption | refine Below.alloc ?_ ?_ _ | refine Below.setCell ?_ ?_ _ | refine Below.drew ?_ | (simp; done) | (simp; omega))
  have X0 := Lib.hid (show Blk w8 w7.heap.size 69 #[.int .i64 z0.rows.vars, .slice pa0 z0.rows.nums.length pb0, .slice pc0 z0.rows.bnds.length pd0, .slice pe0 z0.rows.gains.length pf0, .slice pg0 z0.sizes.length ph0, .slice pi0 z0.jobs.length pj0, .slice pk0 z0.ways.length pl0] by subst hW; exact Blk.new _ _ _)
  clear hW
  replace B := Lib.hid (B.out.trans (hb.mono B.out.size))
  replace K0 := Lib.hid (K0.out.below hb K0.out.lt)
  replace K1 := Lib.hid (K1.out.below hb K1.out.lt)
  replace cp0 := Lib.hid (cp0.out.up hb (Nat.le_refl _))
  have zw8 : w7.heap.size ≤ w8.heap.size := hb.size
  clear hb
  have lX0 := X0.out.lt
  have tK1_0 : w8.cell? ⟨w.heap.size + 1, 0, none⟩ = some (.int .i64 z1.rows.vars) := K1.out.cell 0 rfl
  have tK1_1 : w8.cell? ⟨w.heap.size + 1, 1, none⟩ = some (.slice a1 z1.rows.nums.length b1) := K1.out.cell 1 rfl
  have tK1_2 : w8.cell? ⟨w.heap.size + 1, 2, none⟩ = some (.slice c1 z1.rows.bnds.length d1) := K1.out.cell 2 rfl
  have tK1_3 : w8.cell? ⟨w.heap.size + 1, 3, none⟩ = some (.slice e1 z1.rows.gains.length f1) := K1.out.cell 3 rfl
  have tK1_4 : w8.cell? ⟨w.heap.size + 1, 4, none⟩ = some (.slice g1 z1.sizes.length h1) := K1.out.cell 4 rfl
  have tK1_5 : w8.cell? ⟨w.heap.size + 1, 5, none⟩ = some (.slice i1 z1.jobs.length j1) := K1.out.cell 5 rfl
  have tK1_6 : w8.cell? ⟨w.heap.size + 1, 6, none⟩ = some (.slice k1 z1.ways.length l1) := K1.out.cell 6 rfl
  go_wp2_with fail
  refine (toD_any _ z1 _ (RP1.out.up B.out (Nat.le_refl _)) hs1).mono ?_
  rintro e w9 ⟨vcp1, rfl, cp1, hb⟩
  clear tK1_0 tK1_1 tK1_2 tK1_3 tK1_4 tK1_5 tK1_6
  replace cp1 := Lib.hid cp1
  replace B := Lib.hid (B.out.trans (hb.mono B.out.size))
  replace K0 := Lib.hid (K0.out.below hb K0.out.lt)
  replace K1 := Lib.hid (K1.out.below hb K1.out.lt)
  replace cp0 := Lib.hid (cp0.out.up hb (Nat.le_refl _))
  replace X0 := Lib.hid (X0.out.below hb X0.out.lt)
  have zw9 : w8.heap.size ≤ w9.heap.size := hb.size
  clear hb
  obtain ⟨pa1, pb1, pc1, pd1, pe1, pf1, pg1, ph1, pi1, pj1, pk1, pl1, rfl⟩ := cp1.out.rd.shape
  go_upto_region 11 with fail
  refine wp_at fun w10 hW => ?_
  have hb : Below w9.heap.size w9 w10 := by subst hW; (repeat' first | exact Below.refl _ _ | assumption | refine Below.alloc ?_ ?_ _ | refine Below.setCell ?_ ?_ _ | refine Below.drew ?_ | (simp; done) | (simp; omega))
  have X1 := Lib.hid (show Blk w10 w9.heap.size 69 #[.int .i64 z1.rows.vars, .slice pa1 z1.rows.nums.length pb1, .slice pc1 z1.rows.bnds.length pd1, .slice pe1 z1.rows.gains.length pf1, .slice pg1 z1.sizes.length ph1, .slice pi1 z1.jobs.length pj1, .slice pk1 z1.ways.length pl1] by subst hW; exact Blk.new _ _ _)
  clear hW
  replace B := Lib.hid (B.out.trans (hb.mono B.out.size))
  replace K0 := Lib.hid (K0.out.below hb K0.out.lt)
  replace K1 := Lib.hid (K1.out.below hb K1.out.lt)
  replace cp0 := Lib.hid (cp0.out.up hb (Nat.le_refl _))
  replace X0 := Lib.hid (X0.out.below hb X0.out.lt)
  replace cp1 := Lib.hid (cp1.out.up hb (Nat.le_refl _))
  have zw10 : w9.heap.size ≤ w10.heap.size := hb.size
  clear hb
  have lX1 := X1.out.lt
  have tX0_0 : w10.cell? ⟨w7.heap.size, 0, none⟩ = some (.int .i64 z0.rows.vars) := X0.out.cell 0 rfl
  have tX0_1 : w10.cell? ⟨w7.heap.size, 1, none⟩ = some (.slice pa0 z0.rows.nums.length pb0) := X0.out.cell 1 rfl
  have tX0_2 : w10.cell? ⟨w7.heap.size, 2, none⟩ = some (.slice pc0 z0.rows.bnds.length pd0) := X0.out.cell 2 rfl
  have tX0_3 : w10.cell? ⟨w7.heap.size, 3, none⟩ = some (.slice pe0 z0.rows.gains.length pf0) := X0.out.cell 3 rfl
  have tX0_4 : w10.cell? ⟨w7.heap.size, 4, none⟩ = some (.slice pg0 z0.sizes.length ph0) := X0.out.cell 4 rfl
  have tX0_5 : w10.cell? ⟨w7.heap.size, 5, none⟩ = some (.slice pi0 z0.jobs.length pj0) := X0.out.cell 5 rfl
  have tX0_6 : w10.cell? ⟨w7.heap.size, 6, none⟩ = some (.slice pk0 z0.ways.length pl0) := X0.out.cell 6 rfl
  have tX1_0 : w10.cell? ⟨w9.heap.size, 0, none⟩ = some (.int .i64 z1.rows.vars) := X1.out.cell 0 rfl
  have tX1_1 : w10.cell? ⟨w9.heap.size, 1, none⟩ = some (.slice pa1 z1.rows.nums.length pb1) := X1.out.cell 1 rfl
  have tX1_2 : w10.cell? ⟨w9.heap.size, 2, none⟩ = some (.slice pc1 z1.rows.bnds.length pd1) := X1.out.cell 2 rfl
  have tX1_3 : w10.cell? ⟨w9.heap.size, 3, none⟩ = some (.slice pe1 z1.rows.gains.length pf1) := X1.out.cell 3 rfl
  have tX1_4 : w10.cell? ⟨w9.heap.size, 4, none⟩ = some (.slice pg1 z1.sizes.length ph1) := X1.out.cell 4 rfl
  have tX1_5 : w10.cell? ⟨w9.heap.size, 5, none⟩ = some (.slice pi1 z1.jobs.length pj1) := X1.out.cell 5 rfl
  have tX1_6 : w10.cell? ⟨w9.heap.size, 6, none⟩ = some (.slice pk1 z1.ways.length pl1) := X1.out.cell 6 rfl
  go_wp2_with fail
  refine (implSameDesk_o _ z0 _ z1 _ cp0.out.rd cp1.out.rd).mono ?_
  rintro e w11 ⟨rfl, hb⟩
  clear tX0_0 tX0_1 tX0_2 tX0_3 tX0_4 tX0_5 tX0_6 tX1_0 tX1_1 tX1_2 tX1_3 tX1_4 tX1_5 tX1_6
  replace B := Lib.hid (B.out.trans (hb.mono B.out.size))
  replace K0 := Lib.hid (K0.out.below hb K0.out.lt)
  replace K1 := Lib.hid (K1.out.below hb K1.out.lt)
  replace cp0 := Lib.hid (cp0.out.up hb (Nat.le_refl _))
  replace X0 := Lib.hid (X0.out.below hb X0.out.lt)
  replace cp1 := Lib.hid (cp1.out.up hb (Nat.le_refl _))
  replace X1 := Lib.hid (X1.out.below hb X1.out.lt)
  have zw11 : w10.heap.size ≤ w11.heap.size := hb.size
  clear hb
  go_upto_region 14 with fail
  have tX0_0 : w11.cell? ⟨w7.heap.size, 0, none⟩ = some (.int .i64 z0.rows.vars) := X0.out.cell 0 rfl
  have tX0_1 : w11.cell? ⟨w7.heap.size, 1, none⟩ = some (.slice pa0 z0.rows.nums.length pb0) := X0.out.cell 1 rfl
  have tX0_2 : w11.cell? ⟨w7.heap.size, 2, none⟩ = some (.slice pc0 z0.rows.bnds.length pd0) := X0.out.cell 2 rfl
  have tX0_3 : w11.cell? ⟨w7.heap.size, 3, none⟩ = some (.slice pe0 z0.rows.gains.length pf0) := X0.out.cell 3 rfl
  have tX0_4 : w11.cell? ⟨w7.heap.size, 4, none⟩ = some (.slice pg0 z0.sizes.length ph0) := X0.out.cell 4 rfl
  have tX0_5 : w11.cell? ⟨w7.heap.size, 5, none⟩ = some (.slice pi0 z0.jobs.length pj0) := X0.out.cell 5 rfl
  have tX0_6 : w11.cell? ⟨w7.heap.size, 6, none⟩ = some (.slice pk0 z0.ways.length pl0) := X0.out.cell 6 rfl
  have tK0_0 : w11.cell? ⟨w.heap.size, 0, none⟩ = some (.int .i64 z0.rows.vars) := K0.out.cell 0 rfl
  have tK0_1 : w11.cell? ⟨w.heap.size, 1, none⟩ = some (.slice a0 z0.rows.nums.length b0) := K0.out.cell 1 rfl
  have tK0_2 : w11.cell? ⟨w.heap.size, 2, none⟩ = some (.slice c0 z0.rows.bnds.length d0) := K0.out.cell 2 rfl
  have tK0_3 : w11.cell? ⟨w.heap.size, 3, none⟩ = some (.slice e0 z0.rows.gains.length f0) := K0.out.cell 3 rfl
  have tK0_4 : w11.cell? ⟨w.heap.size, 4, none⟩ = some (.slice g0 z0.sizes.length h0) := K0.out.cell 4 rfl
  have tK0_5 : w11.cell? ⟨w.heap.size, 5, none⟩ = some (.slice i0 z0.jobs.length j0) := K0.out.cell 5 rfl
  have tK0_6 : w11.cell? ⟨w.heap.size, 6, none⟩ = some (.slice k0 z0.ways.length l0) := K0.out.cell 6 rfl
  go_wp2_with fail
  go_region_held3 (fun w' => w'.cell? ⟨w7.heap.size, 0, none⟩ = some (.int .i64 z0.rows.vars) ∧ w'.cell? ⟨w7.heap.size, 1, none⟩ = some (.slice pa0 z0.rows.nums.length pb0) ∧ w'.cell? ⟨w7.heap.size, 2, none⟩ = some (.slice pc0 z0.rows.bnds.length pd0) ∧ w'.cell? ⟨w7.heap.size, 3, none⟩ = some (.slice pe0 z0.rows.gains.length pf0) ∧ w'.cell? ⟨w7.heap.size, 4, none⟩ = some (.slice pg0 z0.sizes.length ph0) ∧ w'.cell? ⟨w7.heap.size, 5, none⟩ = some (.slice pi0 z0.jobs.length pj0) ∧ w'.cell? ⟨w7.heap.size, 6, none⟩ = some (.slice pk0 z0.ways.length pl0) ∧ w'.cell? ⟨w.heap.size, 0, none⟩ = some (.int .i64 z0.rows.vars) ∧ w'.cell? ⟨w.heap.size, 1, none⟩ = some (.slice a0 z0.rows.nums.length b0) ∧ w'.cell? ⟨w.heap.size, 2, none⟩ = some (.slice c0 z0.rows.bnds.length d0) ∧ w'.cell? ⟨w.heap.size, 3, none⟩ = some (.slice e0 z0.rows.gains.length f0) ∧ w'.cell? ⟨w.heap.size, 4, none⟩ = some (.slice g0 z0.sizes.length h0) ∧ w'.cell? ⟨w.heap.size, 5, none⟩ = some (.slice i0 z0.jobs.length j0) ∧ w'.cell? ⟨w.heap.size, 6, none⟩ = some (.slice k0 z0.ways.length l0) ∧ Below w11.heap.size w11 w')
    (first | exact ⟨held_of hbn tX0_0 (Nat.le_refl _), held_of hbn tX0_1 (Nat.le_refl _), held_of hbn tX0_2 (Nat.le_refl _), held_of hbn tX0_3 (Nat.le_refl _), held_of hbn tX0_4 (Nat.le_refl _), held_of hbn tX0_5 (Nat.le_refl _), held_of hbn tX0_6 (Nat.le_refl _), held_of hbn tK0_0 (Nat.le_refl _), held_of hbn tK0_1 (Nat.le_refl _), held_of hbn tK0_2 (Nat.le_refl _), held_of hbn tK0_3 (Nat.le_refl _), held_of hbn tK0_4 (Nat.le_refl _), held_of hbn tK0_5 (Nat.le_refl _), held_of hbn tK0_6 (Nat.le_refl _), hbn⟩ | exact ⟨tX0_0, tX0_1, tX0_2, tX0_3, tX0_4, tX0_5, tX0_6, tK0_0, tK0_1, tK0_2, tK0_3, tK0_4, tK0_5, tK0_6, (Below.refl _ _).drew⟩)
    (first
      | (go_at_call_of 39 a0; have hh := (‹_ ∧ _ ∧ _ ∧ _ ∧ _ ∧ _ ∧ _ ∧ _ ∧ _ ∧ _ ∧ _ ∧ _ ∧ _ ∧ _ ∧ Below w11.heap.size w11 _›).2.2.2.2.2.2.2.2.2.2.2.2.2.2; refine (toD_any _ z0 _ ((RP0.out.up B.out (Nat.le_refl _)).up hh (Nat.le_refl _)) hs0).mono ?_; rintro e w12 ⟨vc0, rfl, c0, hb0⟩; have hbn := hh.trans (hb0.mono hh.size))
      | (go_at_call 41; have hh := (‹_ ∧ _ ∧ _ ∧ _ ∧ _ ∧ _ ∧ _ ∧ _ ∧ _ ∧ _ ∧ _ ∧ _ ∧ _ ∧ _ ∧ Below w11.heap.size w11 _›).2.2.2.2.2.2.2.2.2.2.2.2.2.2; refine (eqD_same _ _ z0 _ (cp0.out.up hh (Nat.le_refl _)).rd c0.rd).mono ?_; rintro e w13 ⟨rfl, hb1⟩; have hbn := hh.trans (hb1.mono hh.size)))
  clear tX0_0 tX0_1 tX0_2 tX0_3 tX0_4 tX0_5 tX0_6 tK0_0 tK0_1 tK0_2 tK0_3 tK0_4 tK0_5 tK0_6
  clear hh hb0 hb1 c0
  replace B := Lib.hid (B.out.trans (hbn.mono B.out.size))
  replace K0 := Lib.hid (K0.out.below hbn K0.out.lt)
  replace K1 := Lib.hid (K1.out.below hbn K1.out.lt)
  replace cp0 := Lib.hid (cp0.out.up hbn (Nat.le_refl _))
  replace X0 := Lib.hid (X0.out.below hbn X0.out.lt)
  replace cp1 := Lib.hid (cp1.out.up hbn (Nat.le_refl _))
  replace X1 := Lib.hid (X1.out.below hbn X1.out.lt)
  have zw13 : w11.heap.size ≤ w13.heap.size := hbn.size
  clear hbn
  go_upto_region 16 with fail
  have tX1_0 : w13.cell? ⟨w9.heap.size, 0, none⟩ = some (.int .i64 z1.rows.vars) := X1.out.cell 0 rfl
  have tX1_1 : w13.cell? ⟨w9.heap.size, 1, none⟩ = some (.slice pa1 z1.rows.nums.length pb1) := X1.out.cell 1 rfl
  have tX1_2 : w13.cell? ⟨w9.heap.size, 2, none⟩ = some (.slice pc1 z1.rows.bnds.length pd1) := X1.out.cell 2 rfl
  have tX1_3 : w13.cell? ⟨w9.heap.size, 3, none⟩ = some (.slice pe1 z1.rows.gains.length pf1) := X1.out.cell 3 rfl
  have tX1_4 : w13.cell? ⟨w9.heap.size, 4, none⟩ = some (.slice pg1 z1.sizes.length ph1) := X1.out.cell 4 rfl
  have tX1_5 : w13.cell? ⟨w9.heap.size, 5, none⟩ = some (.slice pi1 z1.jobs.length pj1) := X1.out.cell 5 rfl
  have tX1_6 : w13.cell? ⟨w9.heap.size, 6, none⟩ = some (.slice pk1 z1.ways.length pl1) := X1.out.cell 6 rfl
  have tK1_0 : w13.cell? ⟨w.heap.size + 1, 0, none⟩ = some (.int .i64 z1.rows.vars) := K1.out.cell 0 rfl
  have tK1_1 : w13.cell? ⟨w.heap.size + 1, 1, none⟩ = some (.slice a1 z1.rows.nums.length b1) := K1.out.cell 1 rfl
  have tK1_2 : w13.cell? ⟨w.heap.size + 1, 2, none⟩ = some (.slice c1 z1.rows.bnds.length d1) := K1.out.cell 2 rfl
  have tK1_3 : w13.cell? ⟨w.heap.size + 1, 3, none⟩ = some (.slice e1 z1.rows.gains.length f1) := K1.out.cell 3 rfl
  have tK1_4 : w13.cell? ⟨w.heap.size + 1, 4, none⟩ = some (.slice g1 z1.sizes.length h1) := K1.out.cell 4 rfl
  have tK1_5 : w13.cell? ⟨w.heap.size + 1, 5, none⟩ = some (.slice i1 z1.jobs.length j1) := K1.out.cell 5 rfl
  have tK1_6 : w13.cell? ⟨w.heap.size + 1, 6, none⟩ = some (.slice k1 z1.ways.length l1) := K1.out.cell 6 rfl
  go_wp2_with fail
  go_region_held3 (fun w' => w'.cell? ⟨w9.heap.size, 0, none⟩ = some (.int .i64 z1.rows.vars) ∧ w'.cell? ⟨w9.heap.size, 1, none⟩ = some (.slice pa1 z1.rows.nums.length pb1) ∧ w'.cell? ⟨w9.heap.size, 2, none⟩ = some (.slice pc1 z1.rows.bnds.length pd1) ∧ w'.cell? ⟨w9.heap.size, 3, none⟩ = some (.slice pe1 z1.rows.gains.length pf1) ∧ w'.cell? ⟨w9.heap.size, 4, none⟩ = some (.slice pg1 z1.sizes.length ph1) ∧ w'.cell? ⟨w9.heap.size, 5, none⟩ = some (.slice pi1 z1.jobs.length pj1) ∧ w'.cell? ⟨w9.heap.size, 6, none⟩ = some (.slice pk1 z1.ways.length pl1) ∧ w'.cell? ⟨w.heap.size + 1, 0, none⟩ = some (.int .i64 z1.rows.vars) ∧ w'.cell? ⟨w.heap.size + 1, 1, none⟩ = some (.slice a1 z1.rows.nums.length b1) ∧ w'.cell? ⟨w.heap.size + 1, 2, none⟩ = some (.slice c1 z1.rows.bnds.length d1) ∧ w'.cell? ⟨w.heap.size + 1, 3, none⟩ = some (.slice e1 z1.rows.gains.length f1) ∧ w'.cell? ⟨w.heap.size + 1, 4, none⟩ = some (.slice g1 z1.sizes.length h1) ∧ w'.cell? ⟨w.heap.size + 1, 5, none⟩ = some (.slice i1 z1.jobs.length j1) ∧ w'.cell? ⟨w.heap.size + 1, 6, none⟩ = some (.slice k1 z1.ways.length l1) ∧ Below w13.heap.size w13 w')
    (first | exact ⟨held_of hbn tX1_0 (Nat.le_refl _), held_of hbn tX1_1 (Nat.le_refl _), held_of hbn tX1_2 (Nat.le_refl _), held_of hbn tX1_3 (Nat.le_refl _), held_of hbn tX1_4 (Nat.le_refl _), held_of hbn tX1_5 (Nat.le_refl _), held_of hbn tX1_6 (Nat.le_refl _), held_of hbn tK1_0 (Nat.le_refl _), held_of hbn tK1_1 (Nat.le_refl _), held_of hbn tK1_2 (Nat.le_refl _), held_of hbn tK1_3 (Nat.le_refl _), held_of hbn tK1_4 (Nat.le_refl _), held_of hbn tK1_5 (Nat.le_refl _), held_of hbn tK1_6 (Nat.le_refl _), hbn⟩ | exact ⟨tX1_0, tX1_1, tX1_2, tX1_3, tX1_4, tX1_5, tX1_6, tK1_0, tK1_1, tK1_2, tK1_3, tK1_4, tK1_5, tK1_6, (Below.refl _ _).drew⟩)
    (first
      | (go_at_call_of 39 a1; have hh := (‹_ ∧ _ ∧ _ ∧ _ ∧ _ ∧ _ ∧ _ ∧ _ ∧ _ ∧ _ ∧ _ ∧ _ ∧ _ ∧ _ ∧ Below w13.heap.size w13 _›).2.2.2.2.2.2.2.2.2.2.2.2.2.2; refine (toD_any _ z1 _ ((RP1.out.up B.out (Nat.le_refl _)).up hh (Nat.le_refl _)) hs1).mono ?_; rintro e w14 ⟨vc1, rfl, c1, hb0⟩; have hbn := hh.trans (hb0.mono hh.size))
      | (go_at_call 41; have hh := (‹_ ∧ _ ∧ _ ∧ _ ∧ _ ∧ _ ∧ _ ∧ _ ∧ _ ∧ _ ∧ _ ∧ _ ∧ _ ∧ _ ∧ Below w13.heap.size w13 _›).2.2.2.2.2.2.2.2.2.2.2.2.2.2; refine (eqD_same _ _ z1 _ (cp1.out.up hh (Nat.le_refl _)).rd c1.rd).mono ?_; rintro e w15 ⟨rfl, hb1⟩; have hbn := hh.trans (hb1.mono hh.size)))
  clear tX1_0 tX1_1 tX1_2 tX1_3 tX1_4 tX1_5 tX1_6 tK1_0 tK1_1 tK1_2 tK1_3 tK1_4 tK1_5 tK1_6
  clear hh hb0 hb1 c1
  replace B := Lib.hid (B.out.trans (hbn.mono B.out.size))
  replace K0 := Lib.hid (K0.out.below hbn K0.out.lt)
  replace K1 := Lib.hid (K1.out.below hbn K1.out.lt)
  replace cp0 := Lib.hid (cp0.out.up hbn (Nat.le_refl _))
  replace X0 := Lib.hid (X0.out.below hbn X0.out.lt)
  replace cp1 := Lib.hid (cp1.out.up hbn (Nat.le_refl _))
  replace X1 := Lib.hid (X1.out.below hbn X1.out.lt)
  have zw15 : w13.heap.size ≤ w15.heap.size := hbn.size
  clear hbn
  go_wp2_with fail
  go_ret
  exact ⟨rfl, B.out⟩

end Go.Proofs.Ytljhohacgceojaa
