/-
  FnExactSameTree: the law's walk, out of the contracts.
-/
import Derived.Test.YtoeofmgnnfoicaaTreeO
import Derived.Deep.RegionHeld3
import Derived.Deep.Cut
namespace Go.Proofs.Ytoeofmgnnfoicaa
open Go.RowKit

set_option maxHeartbeats 4000000 in
set_option maxRecDepth 100000 in
theorem lawSameTree_any (w : World) (v0 : Value) (z0 : List Int × List Int) (r0 : RdT w v0 z0) (v1 : Value) (z1 : List Int × List Int) (r1 : RdT w v1 z1) :
    Calls Try.prog 4 #[v0, v1] w fun e w' => e = .returned (.bool true) ∧ Below w.heap.size w w' := by
  obtain ⟨x0, c0, y0, d0, rfl⟩ := r0.shape
  obtain ⟨x1, c1, y1, d1, rfl⟩ := r1.shape
  have RP0 := Lib.hid r0
  clear r0
  have RP1 := Lib.hid r1
  clear r1
  have B : Hid (Below w.heap.size w w) := Below.refl _ _
  go_enter Try.func4, Try.ntmps4
  go_upto_region 2 with fail
  refine wp_at fun w1 hW => ?_
  have hb : Below w.heap.size w w1 := by subst hW; (repeat' first | exact Below.refl _ _ | assumption | refine Below.alloc ?_ ?_ _ | refine Below.setCell ?_ ?_ _ | refine Below.drew ?_ | (simp; done) | (simp; omega))
  have K0 := Lib.hid (show Blk w1 (w.heap.size) 27 #[.slice x0 z0.1.length c0, .slice y0 z0.2.length d0] by subst hW; simpa using ((Blk.new w 27 #[.slice x0 z0.1.length c0, .slice y0 z0.2.length d0]).alloc (.cells #[.slice x1 z1.1.length c1, .slice y1 z1.2.length d1] 27)))
  have K1 := Lib.hid (show Blk w1 (w.heap.size + 1) 27 #[.slice x1 z1.1.length c1, .slice y1 z1.2.length d1] by subst hW; simpa using (Blk.new (w.alloc (.cells #[.slice x0 z0.1.length c0, .slice y0 z0.2.length d0] 27)) 27 #[.slice x1 z1.1.length c1, .slice y1 z1.2.length d1]))
  have zw1 := hb.size
  have lK0 := K0.out.lt
  have lK1 := K1.out.lt
  replace B := Lib.hid hb
  clear hb hW
  have tK0_0 : w1.cell? ⟨w.heap.size, 0, none⟩ = some (.slice x0 z0.1.length c0) := K0.out.cell 0 rfl
  have tK0_1 : w1.cell? ⟨w.heap.size, 1, none⟩ = some (.slice y0 z0.2.length d0) := K0.out.cell 1 rfl
  go_wp2_with fail
  refine (szT_any _ z0 _ _ (RP0.out.up B.out (Nat.le_refl _)) (by decide) (by decide)).mono ?_
  rintro e w2 ⟨s0, rfl, sa0, sb0, sc0, hb⟩
  clear tK0_0 tK0_1
  replace B := Lib.hid (B.out.trans (hb.mono B.out.size))
  replace K0 := Lib.hid (K0.out.below hb K0.out.lt)
  replace K1 := Lib.hid (K1.out.below hb K1.out.lt)
  have zw2 : w1.heap.size ≤ w2.heap.size := hb.size
  clear hb
  by_cases hn0 : s0 < 0
  · go_wp2_with fail
    go_ret
    exact ⟨rfl, B.out⟩
  have hs0 : bulkT z0 ≤ 1048576 := by have := sc0 (by omega); omega
  go_upto_region 5 with fail
  have tK1_0 : w2.cell? ⟨w.heap.size + 1, 0, none⟩ = some (.slice x1 z1.1.length c1) := K1.out.cell 0 rfl
  have tK1_1 : w2.cell? ⟨w.heap.size + 1, 1, none⟩ = some (.slice y1 z1.2.length d1) := K1.out.cell 1 rfl
  go_wp2_with fail
  refine (szT_any _ z1 _ _ (RP1.out.up B.out (Nat.le_refl _)) (by omega) (by omega)).mono ?_
  rintro e w3 ⟨s1, rfl, sa1, sb1, sc1, hb⟩
  clear tK1_0 tK1_1
  replace B := Lib.hid (B.out.trans (hb.mono B.out.size))
  replace K0 := Lib.hid (K0.out.below hb K0.out.lt)
  replace K1 := Lib.hid (K1.out.below hb K1.out.lt)
  have zw3 : w2.heap.size ≤ w3.heap.size := hb.size
  clear hb
  by_cases hn1 : s1 < 0
  · go_wp2_with fail
    go_ret
    exact ⟨rfl, B.out⟩
  have hs1 : bulkT z1 ≤ 1048576 := by have := sc1 (by omega); omega
  clear sa0 sb0 sc0
  clear sa1 sb1 sc1
  have ne0 : ((sameT z0 z1) != (sameT z0 z1)) = false := by simp
  go_upto_region 8 with fail
  have tK0_0 : w3.cell? ⟨w.heap.size, 0, none⟩ = some (.slice x0 z0.1.length c0) := K0.out.cell 0 rfl
  have tK0_1 : w3.cell? ⟨w.heap.size, 1, none⟩ = some (.slice y0 z0.2.length d0) := K0.out.cell 1 rfl
  have tK1_0 : w3.cell? ⟨w.heap.size + 1, 0, none⟩ = some (.slice x1 z1.1.length c1) := K1.out.cell 0 rfl
  have tK1_1 : w3.cell? ⟨w.heap.size + 1, 1, none⟩ = some (.slice y1 z1.2.length d1) := K1.out.cell 1 rfl
  go_wp2_with fail
  go_region_held3 (fun w' => w'.cell? ⟨w.heap.size, 0, none⟩ = some (.slice x0 z0.1.length c0) ∧ w'.cell? ⟨w.heap.size, 1, none⟩ = some (.slice y0 z0.2.length d0) ∧ w'.cell? ⟨w.heap.size + 1, 0, none⟩ = some (.slice x1 z1.1.length c1) ∧ w'.cell? ⟨w.heap.size + 1, 1, none⟩ = some (.slice y1 z1.2.length d1) ∧ Below w3.heap.size w3 w')
    (first | exact ⟨held_of hbn tK0_0 (Nat.le_refl _), held_of hbn tK0_1 (Nat.le_refl _), held_of hbn tK1_0 (Nat.le_refl _), held_of hbn tK1_1 (Nat.le_refl _), hbn⟩ | exact ⟨tK0_0, tK0_1, tK1_0, tK1_1, (Below.refl _ _).drew⟩)
    (first
      | (go_at_call_of 13 x0; have hh := (‹_ ∧ _ ∧ _ ∧ _ ∧ Below w3.heap.size w3 _›).2.2.2.2; refine (toT_any _ z0 _ ((RP0.out.up B.out (Nat.le_refl _)).up hh (Nat.le_refl _)) hs0).mono ?_; rintro e w4 ⟨vc0, rfl, c0, hb0⟩; have hbn := hh.trans (hb0.mono hh.size))
      | (go_at_call_of 13 x1; have hh := (‹_ ∧ _ ∧ _ ∧ _ ∧ Below w3.heap.size w3 _›).2.2.2.2; refine (toT_any _ z1 _ ((RP1.out.up B.out (Nat.le_refl _)).up hh (Nat.le_refl _)) hs1).mono ?_; rintro e w5 ⟨vc1, rfl, c1, hb1⟩; have hbn := hh.trans (hb1.mono hh.size))
      | (go_at_call 12; have hh := (‹_ ∧ _ ∧ _ ∧ _ ∧ Below w3.heap.size w3 _›).2.2.2.2; refine (specSameTree_o _ z0 _ z1 _ (c0.up hb1 (Nat.le_refl _)).rd c1.rd).mono ?_; rintro e w6 ⟨rfl, hb2⟩; have hbn := hh.trans (hb2.mono hh.size)))
  clear tK0_0 tK0_1 tK1_0 tK1_1
  clear hh hb0 hb1 hb2 c0 c1
  replace B := Lib.hid (B.out.trans (hbn.mono B.out.size))
  replace K0 := Lib.hid (K0.out.below hbn K0.out.lt)
  replace K1 := Lib.hid (K1.out.below hbn K1.out.lt)
  have zw6 : w3.heap.size ≤ w6.heap.size := hbn.size
  clear hbn
  go_upto_region 9 with fail
  have tK0_0 : w6.cell? ⟨w.heap.size, 0, none⟩ = some (.slice x0 z0.1.length c0) := K0.out.cell 0 rfl
  have tK0_1 : w6.cell? ⟨w.heap.size, 1, none⟩ = some (.slice y0 z0.2.length d0) := K0.out.cell 1 rfl
  go_wp2_with fail
  refine (toT_any _ z0 _ (RP0.out.up B.out (Nat.le_refl _)) hs0).mono ?_
  rintro e w7 ⟨vcp0, rfl, cp0, hb⟩
  clear tK0_0 tK0_1
  replace cp0 := Lib.hid cp0
  replace B := Lib.hid (B.out.trans (hb.mono B.out.size))
  replace K0 := Lib.hid (K0.out.below hb K0.out.lt)
  replace K1 := Lib.hid (K1.out.below hb K1.out.lt)
  have zw7 : w6.heap.size ≤ w7.heap.size := hb.size
  clear hb
  obtain ⟨px0, pc0, py0, pd0, rfl⟩ := cp0.out.rd.shape
  go_upto_region 10 with fail
  refine wp_at fun w8 hW => ?_
  have hb : Below w7.heap.size w7 w8 := by subst hW; (repeat' first | exact Below.refl _ _ | assumption | refine Below.alloc ?_ ?_ _ | refine Below.setCell ?_ ?_ _ | refine Below.drew ?_ | (simp; done) | (simp; omega))
  have X0 := Lib.hid (show Blk w8 w7.heap.size 30 #[.slice px0 z0.1.length pc0, .slice py0 z0.2.length pd0] by subst hW; exact Blk.new _ _ _)
  clear hW
  replace B := Lib.hid (B.out.trans (hb.mono B.out.size))
  replace K0 := Lib.hid (K0.out.below hb K0.out.lt)
  replace K1 := Lib.hid (K1.out.below hb K1.out.lt)
  replace cp0 := Lib.hid (cp0.out.up hb (Nat.le_refl _))
  have zw8 : w7.heap.size ≤ w8.heap.size := hb.size
  clear hb
  have lX0 := X0.out.lt
  have tK1_0 : w8.cell? ⟨w.heap.size + 1, 0, none⟩ = some (.slice x1 z1.1.length c1) := K1.out.cell 0 rfl
  have tK1_1 : w8.cell? ⟨w.heap.size + 1, 1, none⟩ = some (.slice y1 z1.2.length d1) := K1.out.cell 1 rfl
  go_wp2_with fail
  refine (toT_any _ z1 _ (RP1.out.up B.out (Nat.le_refl _)) hs1).mono ?_
  rintro e w9 ⟨vcp1, rfl, cp1, hb⟩
  clear tK1_0 tK1_1
  replace cp1 := Lib.hid cp1
  replace B := Lib.hid (B.out.trans (hb.mono B.out.size))
  replace K0 := Lib.hid (K0.out.below hb K0.out.lt)
  replace K1 := Lib.hid (K1.out.below hb K1.out.lt)
  replace cp0 := Lib.hid (cp0.out.up hb (Nat.le_refl _))
  replace X0 := Lib.hid (X0.out.below hb X0.out.lt)
  have zw9 : w8.heap.size ≤ w9.heap.size := hb.size
  clear hb
  obtain ⟨px1, pc1, py1, pd1, rfl⟩ := cp1.out.rd.shape
  go_upto_region 11 with fail
  refine wp_at fun w10 hW => ?_
  have hb : Below w9.heap.size w9 w10 := by subst hW; (repeat' first | exact Below.refl _ _ | assumption | refine Below.alloc ?_ ?_ _ | refine Below.setCell ?_ ?_ _ | refine Below.drew ?_ | (simp; done) | (simp; omega))
  have X1 := Lib.hid (show Blk w10 w9.heap.size 30 #[.slice px1 z1.1.length pc1, .slice py1 z1.2.length pd1] by subst hW; exact Blk.new _ _ _)
  clear hW
  replace B := Lib.hid (B.out.trans (hb.mono B.out.size))
  replace K0 := Lib.hid (K0.out.below hb K0.out.lt)
  replace K1 := Lib.hid (K1.out.below hb K1.out.lt)
  replace cp0 := Lib.hid (cp0.out.up hb (Nat.le_refl _))
  replace X0 := Lib.hid (X0.out.below hb X0.out.lt)
  replace cp1 := Lib.hid (cp1.out.up hb (Nat.le_refl _))
  have zw10 : w9.heap.size ≤ w10.heap.size := hb.size
  clear hb
  have lX1 := X1.out.lt
  have tX0_0 : w10.cell? ⟨w7.heap.size, 0, none⟩ = some (.slice px0 z0.1.length pc0) := X0.out.cell 0 rfl
  have tX0_1 : w10.cell? ⟨w7.heap.size, 1, none⟩ = some (.slice py0 z0.2.length pd0) := X0.out.cell 1 rfl
  have tX1_0 : w10.cell? ⟨w9.heap.size, 0, none⟩ = some (.slice px1 z1.1.length pc1) := X1.out.cell 0 rfl
  have tX1_1 : w10.cell? ⟨w9.heap.size, 1, none⟩ = some (.slice py1 z1.2.length pd1) := X1.out.cell 1 rfl
  go_wp2_with fail
  refine (implSameTree_o _ z0 _ z1 _ cp0.out.rd cp1.out.rd).mono ?_
  rintro e w11 ⟨rfl, hb⟩
  clear tX0_0 tX0_1 tX1_0 tX1_1
  replace B := Lib.hid (B.out.trans (hb.mono B.out.size))
  replace K0 := Lib.hid (K0.out.below hb K0.out.lt)
  replace K1 := Lib.hid (K1.out.below hb K1.out.lt)
  replace cp0 := Lib.hid (cp0.out.up hb (Nat.le_refl _))
  replace X0 := Lib.hid (X0.out.below hb X0.out.lt)
  replace cp1 := Lib.hid (cp1.out.up hb (Nat.le_refl _))
  replace X1 := Lib.hid (X1.out.below hb X1.out.lt)
  have zw11 : w10.heap.size ≤ w11.heap.size := hb.size
  clear hb
  go_upto_region 14 with fail
  have tX0_0 : w11.cell? ⟨w7.heap.size, 0, none⟩ = some (.slice px0 z0.1.length pc0) := X0.out.cell 0 rfl
  have tX0_1 : w11.cell? ⟨w7.heap.size, 1, none⟩ = some (.slice py0 z0.2.length pd0) := X0.out.cell 1 rfl
  have tK0_0 : w11.cell? ⟨w.heap.size, 0, none⟩ = some (.slice x0 z0.1.length c0) := K0.out.cell 0 rfl
  have tK0_1 : w11.cell? ⟨w.heap.size, 1, none⟩ = some (.slice y0 z0.2.length d0) := K0.out.cell 1 rfl
  go_wp2_with fail
  go_region_held3 (fun w' => w'.cell? ⟨w7.heap.size, 0, none⟩ = some (.slice px0 z0.1.length pc0) ∧ w'.cell? ⟨w7.heap.size, 1, none⟩ = some (.slice py0 z0.2.length pd0) ∧ w'.cell? ⟨w.heap.size, 0, none⟩ = some (.slice x0 z0.1.length c0) ∧ w'.cell? ⟨w.heap.size, 1, none⟩ = some (.slice y0 z0.2.length d0) ∧ Below w11.heap.size w11 w')
    (first | exact ⟨held_of hbn tX0_0 (Nat.le_refl _), held_of hbn tX0_1 (Nat.le_refl _), held_of hbn tK0_0 (Nat.le_refl _), held_of hbn tK0_1 (Nat.le_refl _), hbn⟩ | exact ⟨tX0_0, tX0_1, tK0_0, tK0_1, (Below.refl _ _).drew⟩)
    (first
      | (go_at_call_of 13 x0; have hh := (‹_ ∧ _ ∧ _ ∧ _ ∧ Below w11.heap.size w11 _›).2.2.2.2; refine (toT_any _ z0 _ ((RP0.out.up B.out (Nat.le_refl _)).up hh (Nat.le_refl _)) hs0).mono ?_; rintro e w12 ⟨vc0, rfl, c0, hb0⟩; have hbn := hh.trans (hb0.mono hh.size))
      | (go_at_call 15; have hh := (‹_ ∧ _ ∧ _ ∧ _ ∧ Below w11.heap.size w11 _›).2.2.2.2; refine (eqT_same _ _ z0 _ (cp0.out.up hh (Nat.le_refl _)).rd c0.rd).mono ?_; rintro e w13 ⟨rfl, hb1⟩; have hbn := hh.trans (hb1.mono hh.size)))
  clear tX0_0 tX0_1 tK0_0 tK0_1
  clear hh hb0 hb1 c0
  replace B := Lib.hid (B.out.trans (hbn.mono B.out.size))
  replace K0 := Lib.hid (K0.out.below hbn K0.out.lt)
  replace K1 := Lib.hid (K1.out.below hbn K1.out.lt)
  replace cp0 := Lib.hid (cp0.out.up hbn (Nat.le_refl _))
  replace X0 := Lib.hid (X0.out.below hbn X0.out.lt)
  replace cp1 := Lib.hid (cp1.out.up hbn (Nat.le_refl _))
  replace X1 := Lib.hid (X1.out.below hbn X1.out.lt)
  have zw13 : w11.heap.size ≤ w13.heap.size := hbn.size
  clear hbn
  go_upto_region 16 with fail
  have tX1_0 : w13.cell? ⟨w9.heap.size, 0, none⟩ = some (.slice px1 z1.1.length pc1) := X1.out.cell 0 rfl
  have tX1_1 : w13.cell? ⟨w9.heap.size, 1, none⟩ = some (.slice py1 z1.2.length pd1) := X1.out.cell 1 rfl
  have tK1_0 : w13.cell? ⟨w.heap.size + 1, 0, none⟩ = some (.slice x1 z1.1.length c1) := K1.out.cell 0 rfl
  have tK1_1 : w13.cell? ⟨w.heap.size + 1, 1, none⟩ = some (.slice y1 z1.2.length d1) := K1.out.cell 1 rfl
  go_wp2_with fail
  go_region_held3 (fun w' => w'.cell? ⟨w9.heap.size, 0, none⟩ = some (.slice px1 z1.1.length pc1) ∧ w'.cell? ⟨w9.heap.size, 1, none⟩ = some (.slice py1 z1.2.length pd1) ∧ w'.cell? ⟨w.heap.size + 1, 0, none⟩ = some (.slice x1 z1.1.length c1) ∧ w'.cell? ⟨w.heap.size + 1, 1, none⟩ = some (.slice y1 z1.2.length d1) ∧ Below w13.heap.size w13 w')
    (first | exact ⟨held_of hbn tX1_0 (Nat.le_refl _), held_of hbn tX1_1 (Nat.le_refl _), held_of hbn tK1_0 (Nat.le_refl _), held_of hbn tK1_1 (Nat.le_refl _), hbn⟩ | exact ⟨tX1_0, tX1_1, tK1_0, tK1_1, (Below.refl _ _).drew⟩)
    (first
      | (go_at_call_of 13 x1; have hh := (‹_ ∧ _ ∧ _ ∧ _ ∧ Below w13.heap.size w13 _›).2.2.2.2; refine (toT_any _ z1 _ ((RP1.out.up B.out (Nat.le_refl _)).up hh (Nat.le_refl _)) hs1).mono ?_; rintro e w14 ⟨vc1, rfl, c1, hb0⟩; have hbn := hh.trans (hb0.mono hh.size))
      | (go_at_call 15; have hh := (‹_ ∧ _ ∧ _ ∧ _ ∧ Below w13.heap.size w13 _›).2.2.2.2; refine (eqT_same _ _ z1 _ (cp1.out.up hh (Nat.le_refl _)).rd c1.rd).mono ?_; rintro e w15 ⟨rfl, hb1⟩; have hbn := hh.trans (hb1.mono hh.size)))
  clear tX1_0 tX1_1 tK1_0 tK1_1
  clear hh hb0 hb1 c1
  replace B := Lib.hid (B.out.trans (hbn.mono B.out.size))
  replace K0 := Lib.hid (K0.out.below hbn K0.out.lt)
  replace K1 := Lib.hid (K1.out.below hbn K1.out.lt)
  replace cp0 := Lib.hid (cp0.out.up hbn (Nat.le_refl _))
  replace X0 := Lib.hid (X0.out.below hbn X0.out.lt)
  replace cp1 := Lib.hid (cp1.out.up hbn (Nat.le_refl _))
  replace X1 := Lib.hid (X1.out.below hbn X1.out.lt)
  have zw15 : w13.heap.size ≤ w15.heap.size := hbn.size
  clear hbn
  go_wp2_with fail
  go_ret
  exact ⟨rfl, B.out⟩

end Go.Proofs.Ytoeofmgnnfoicaa
