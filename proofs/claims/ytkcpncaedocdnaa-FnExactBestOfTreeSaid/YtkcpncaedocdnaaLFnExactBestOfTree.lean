/-
  FnExactBestOfTree: the law's walk, out of the contracts.
-/
import Derived.Test.YtkcpncaedocdnaaBest
import Derived.Test.YtkcpncaedocdnaaMarkT
import Derived.Deep.RegionHeld3
import Derived.Deep.Cut
namespace Go.Proofs.Ytkcpncaedocdnaa
open Go.RowKit

set_option maxHeartbeats 4000000 in
set_option maxRecDepth 100000 in
theorem lawBestOfTree_any (w : World) (v0 : Value) (z0 : List Int × List Int) (r0 : RdT w v0 z0) :
    Calls Try.prog 7 #[v0] w fun e w' => e = .returned (.bool true) ∧ Below w.heap.size w w' := by
  obtain ⟨x0, c0, y0, d0, rfl⟩ := r0.shape
  have RP0 := Lib.hid r0
  clear r0
  have B : Hid (Below w.heap.size w w) := Below.refl _ _
  go_enter Try.func7, Try.ntmps7
  go_upto_region 2 with fail
  refine wp_at fun w1 hW => ?_
  have hb : Below w.heap.size w w1 := by subst hW; (repeat' first | exact Below.refl _ _ | assumption | refine Below.alloc ?_ ?_ _ | refine Below.setCell ?_ ?_ _ | refine Below.drew ?_ | (simp; done) | (simp; omega))
  have K0 := Lib.hid (show Blk w1 (w.heap.size) 24 #[.slice x0 z0.1.length c0, .slice y0 z0.2.length d0] by subst hW; simpa using (Blk.new w 24 #[.slice x0 z0.1.length c0, .slice y0 z0.2.length d0]))
  have zw1 := hb.size
  have lK0 := K0.out.lt
  replace B := Lib.hid hb
  clear hb hW
  have tK0_0 : w1.cell? ⟨w.heap.size, 0, none⟩ = some (.slice x0 z0.1.length c0) := K0.out.cell 0 rfl
  have tK0_1 : w1.cell? ⟨w.heap.size, 1, none⟩ = some (.slice y0 z0.2.length d0) := K0.out.cell 1 rfl
  go_wp2_with fail
  refine (szT_any _ z0 _ _ (RP0.out.up B.out (Nat.le_refl _)) (by decide) (by decide)).mono ?_
  rintro e w2 ⟨s0, rfl, sa0, sb0, sc0, hb⟩
  clear tK0_0 tK0_1
  replace B := Lib.hid (B.out.trans (hb.mono B.out.size))
  replace K0 := Lib.hid (K0.out.below hb K0.out.lt)
  have zw2 : w1.heap.size ≤ w2.heap.size := hb.size
  clear hb
  by_cases hn0 : s0 < 0
  · go_wp2_with fail
    go_ret
    exact ⟨rfl, B.out⟩
  have hs0 : bulkT z0 ≤ 1048576 := by have := sc0 (by omega); omega
  clear sa0 sb0 sc0
  have ne0 : ((bestW z0) != (bestW z0)) = false := by simp
  have ne2 : ((validT z0) != (validT z0)) = false := by simp
  go_upto_region 5 with fail
  have tK0_0 : w2.cell? ⟨w.heap.size, 0, none⟩ = some (.slice x0 z0.1.length c0) := K0.out.cell 0 rfl
  have tK0_1 : w2.cell? ⟨w.heap.size, 1, none⟩ = some (.slice y0 z0.2.length d0) := K0.out.cell 1 rfl
  go_wp2_with fail
  refine (toT_any _ z0 _ (RP0.out.up B.out (Nat.le_refl _)) hs0).mono ?_
  rintro e w3 ⟨vc0, rfl, c0, hb⟩
  replace tK0_0 := held_of hb tK0_0 (Nat.le_refl _)
  replace tK0_1 := held_of hb tK0_1 (Nat.le_refl _)
  replace c0 := Lib.hid c0
  replace B := Lib.hid (B.out.trans (hb.mono B.out.size))
  replace K0 := Lib.hid (K0.out.below hb K0.out.lt)
  have zw3 : w2.heap.size ≤ w3.heap.size := hb.size
  clear hb
  go_wp2_with fail
  refine (specBest_any _ z0 _ c0.out.rd).mono ?_
  rintro e w4 ⟨Wv1, rfl, Wo1, hb⟩
  clear tK0_0 tK0_1
  replace Wo1 := Lib.hid Wo1
  replace B := Lib.hid (B.out.trans (hb.mono B.out.size))
  replace K0 := Lib.hid (K0.out.below hb K0.out.lt)
  replace c0 := Lib.hid (c0.out.up hb (Nat.le_refl _))
  have zw4 : w3.heap.size ≤ w4.heap.size := hb.size
  clear hb
  clear c0
  go_upto_region 6 with fail
  have tK0_0 : w4.cell? ⟨w.heap.size, 0, none⟩ = some (.slice x0 z0.1.length c0) := K0.out.cell 0 rfl
  have tK0_1 : w4.cell? ⟨w.heap.size, 1, none⟩ = some (.slice y0 z0.2.length d0) := K0.out.cell 1 rfl
  go_wp2_with fail
  refine (toT_any _ z0 _ (RP0.out.up B.out (Nat.le_refl _)) hs0).mono ?_
  rintro e w5 ⟨vcp0, rfl, cp0, hb⟩
  clear tK0_0 tK0_1
  replace cp0 := Lib.hid cp0
  replace B := Lib.hid (B.out.trans (hb.mono B.out.size))
  replace K0 := Lib.hid (K0.out.below hb K0.out.lt)
  replace Wo1 := Lib.hid (Wo1.out.up hb (Nat.le_refl _))
  have zw5 : w4.heap.size ≤ w5.heap.size := hb.size
  clear hb
  obtain ⟨px0, pc0, py0, pd0, rfl⟩ := cp0.out.rd.shape
  go_upto_region 7 with fail
  refine wp_at fun w6 hW => ?_
  have hb : Below w5.heap.size w5 w6 := by subst hW; (repeat' first | exact Below.refl _ _ | assumption | refine Below.alloc ?_ ?_ _ | refine Below.setCell ?_ ?_ _ | refine Below.drew ?_ | (simp; done) | (simp; omega))
  have X0 := Lib.hid (show Blk w6 w5.heap.size 28 #[.slice px0 z0.1.length pc0, .slice py0 z0.2.length pd0] by subst hW; exact Blk.new _ _ _)
  clear hW
  replace B := Lib.hid (B.out.trans (hb.mono B.out.size))
  replace K0 := Lib.hid (K0.out.below hb K0.out.lt)
  replace Wo1 := Lib.hid (Wo1.out.up hb (Nat.le_refl _))
  replace cp0 := Lib.hid (cp0.out.up hb (Nat.le_refl _))
  have zw6 : w5.heap.size ≤ w6.heap.size := hb.size
  clear hb
  have lX0 := X0.out.lt
  have tX0_0 : w6.cell? ⟨w5.heap.size, 0, none⟩ = some (.slice px0 z0.1.length pc0) := X0.out.cell 0 rfl
  have tX0_1 : w6.cell? ⟨w5.heap.size, 1, none⟩ = some (.slice py0 z0.2.length pd0) := X0.out.cell 1 rfl
  go_wp2_with fail
  refine (implBest_any _ z0 _ cp0.out.rd).mono ?_
  rintro e w7 ⟨Gv1, rfl, Go1, hb⟩
  clear tX0_0 tX0_1
  replace Go1 := Lib.hid Go1
  replace B := Lib.hid (B.out.trans (hb.mono B.out.size))
  replace K0 := Lib.hid (K0.out.below hb K0.out.lt)
  replace Wo1 := Lib.hid (Wo1.out.up hb (Nat.le_refl _))
  replace cp0 := Lib.hid (cp0.out.up hb (Nat.le_refl _))
  replace X0 := Lib.hid (X0.out.below hb X0.out.lt)
  have zw7 : w6.heap.size ≤ w7.heap.size := hb.size
  clear hb
  go_upto_region 8 with fail
  go_wp2_with fail
  refine (eqI_same _ _ (bestL z0) _ Go1.out.rd Wo1.out.rd).mono ?_
  rintro e w8 ⟨rfl, hb⟩
  replace B := Lib.hid (B.out.trans (hb.mono B.out.size))
  replace K0 := Lib.hid (K0.out.below hb K0.out.lt)
  replace Wo1 := Lib.hid (Wo1.out.up hb (Nat.le_refl _))
  replace cp0 := Lib.hid (cp0.out.up hb (Nat.le_refl _))
  replace X0 := Lib.hid (X0.out.below hb X0.out.lt)
  replace Go1 := Lib.hid (Go1.out.up hb (Nat.le_refl _))
  have zw8 : w7.heap.size ≤ w8.heap.size := hb.size
  clear hb
  go_upto_region 10 with fail
  have tX0_0 : w8.cell? ⟨w5.heap.size, 0, none⟩ = some (.slice px0 z0.1.length pc0) := X0.out.cell 0 rfl
  have tX0_1 : w8.cell? ⟨w5.heap.size, 1, none⟩ = some (.slice py0 z0.2.length pd0) := X0.out.cell 1 rfl
  have tK0_0 : w8.cell? ⟨w.heap.size, 0, none⟩ = some (.slice x0 z0.1.length c0) := K0.out.cell 0 rfl
  have tK0_1 : w8.cell? ⟨w.heap.size, 1, none⟩ = some (.slice y0 z0.2.length d0) := K0.out.cell 1 rfl
  go_wp2_with fail
  go_region_held3 (fun w' => w'.cell? ⟨w5.heap.size, 0, none⟩ = some (.slice px0 z0.1.length pc0) ∧ w'.cell? ⟨w5.heap.size, 1, none⟩ = some (.slice py0 z0.2.length pd0) ∧ w'.cell? ⟨w.heap.size, 0, none⟩ = some (.slice x0 z0.1.length c0) ∧ w'.cell? ⟨w.heap.size, 1, none⟩ = some (.slice y0 z0.2.length d0) ∧ Below w8.heap.size w8 w')
    (first | exact ⟨held_of hbn tX0_0 (Nat.le_refl _), held_of hbn tX0_1 (Nat.le_refl _), held_of hbn tK0_0 (Nat.le_refl _), held_of hbn tK0_1 (Nat.le_refl _), hbn⟩ | exact ⟨tX0_0, tX0_1, tK0_0, tK0_1, (Below.refl _ _).drew⟩)
    (first
      | (go_at_call_of 17 x0; have hh := (‹_ ∧ _ ∧ _ ∧ _ ∧ Below w8.heap.size w8 _›).2.2.2.2; refine (toT_any _ z0 _ ((RP0.out.up B.out (Nat.le_refl _)).up hh (Nat.le_refl _)) hs0).mono ?_; rintro e w9 ⟨vc0, rfl, c0, hb0⟩; have hbn := hh.trans (hb0.mono hh.size))
      | (go_at_call 20; have hh := (‹_ ∧ _ ∧ _ ∧ _ ∧ Below w8.heap.size w8 _›).2.2.2.2; refine (eqT_same _ _ z0 _ (cp0.out.up hh (Nat.le_refl _)).rd c0.rd).mono ?_; rintro e w10 ⟨rfl, hb1⟩; have hbn := hh.trans (hb1.mono hh.size)))
  clear tX0_0 tX0_1 tK0_0 tK0_1
  clear hh hb0 hb1 c0
  replace B := Lib.hid (B.out.trans (hbn.mono B.out.size))
  replace K0 := Lib.hid (K0.out.below hbn K0.out.lt)
  replace Wo1 := Lib.hid (Wo1.out.up hbn (Nat.le_refl _))
  replace cp0 := Lib.hid (cp0.out.up hbn (Nat.le_refl _))
  replace X0 := Lib.hid (X0.out.below hbn X0.out.lt)
  replace Go1 := Lib.hid (Go1.out.up hbn (Nat.le_refl _))
  have zw10 : w8.heap.size ≤ w10.heap.size := hbn.size
  clear hbn
  have hk0 : (0 : Int) ≤ 1 := by decide
  have hc0 : (0 : Int) ≤ (cntT z0 : Nat) := by omega
  go_upto_region 13 with fail
  have tX0_0 : w10.cell? ⟨w5.heap.size, 0, none⟩ = some (.slice px0 z0.1.length pc0) := X0.out.cell 0 rfl
  have tX0_1 : w10.cell? ⟨w5.heap.size, 1, none⟩ = some (.slice py0 z0.2.length pd0) := X0.out.cell 1 rfl
  go_wp2_with fail
  refine (markT_o _ _ _ z0 _ _ cp0.out (by omega) (by have := cntT_le z0; omega)).mono ?_
  rintro e w11 ⟨rfl, -, hb⟩
  clear tX0_0 tX0_1
  replace B := Lib.hid (B.out.trans (hb.toBelow B.out.size (by rintro k hk1 ⟨h1, h2⟩; omega)))
  replace K0 := Lib.hid (K0.out.kept hb (by rintro ⟨h1, h2⟩; omega))
  replace Wo1 := Lib.hid (Wo1.out.kept hb (by rintro b h1 h2 ⟨h3, h4⟩; omega))
  replace X0 := Lib.hid (X0.out.kept hb (by rintro ⟨h1, h2⟩; omega))
  replace Go1 := Lib.hid (Go1.out.kept hb (by rintro b h1 h2 ⟨h3, h4⟩; omega))
  have zw11 : w10.heap.size ≤ w11.heap.size := hb.size
  clear hb
  clear cp0
  clear X0
  go_upto_region 14 with fail
  go_wp2_with fail
  refine (eqI_same _ _ (bestL z0) _ Go1.out.rd Wo1.out.rd).mono ?_
  rintro e w12 ⟨rfl, hb⟩
  replace B := Lib.hid (B.out.trans (hb.mono B.out.size))
  replace K0 := Lib.hid (K0.out.below hb K0.out.lt)
  replace Wo1 := Lib.hid (Wo1.out.up hb (Nat.le_refl _))
  replace Go1 := Lib.hid (Go1.out.up hb (Nat.le_refl _))
  have zw12 : w11.heap.size ≤ w12.heap.size := hb.size
  clear hb
  have hcGo1 : (0 : Int) ≤ (cntI (bestL z0) : Nat) := by omega
  have Go1h := Go1
  clear Go1h
  go_upto_region 17 with fail
  go_wp2_with fail
  refine (markI_o _ _ _ (bestL z0) _ _ Go1.out (by omega) (by have := bestL_cnt z0; omega)).mono ?_
  rintro e w13 ⟨rfl, MGo1, hb⟩
  replace MGo1 := Lib.hid MGo1
  replace B := Lib.hid (B.out.trans (hb.toBelow B.out.size (by rintro k hk1 ⟨h1, h2⟩; omega)))
  replace K0 := Lib.hid (K0.out.kept hb (by rintro ⟨h1, h2⟩; omega))
  replace Wo1 := Lib.hid (Wo1.out.kept hb (by rintro b h1 h2 ⟨h3, h4⟩; omega))
  have zw13 : w12.heap.size ≤ w13.heap.size := hb.size
  clear hb
  clear Go1
  have nm : ((1 + (cntI (bestL z0) : Int) : Int) != (1 + (cntI (bestL z0) : Int) : Int)) = false := by simp
  go_upto_region 19 with fail
  go_wp2_with fail
  refine (heldI_o _ (bestL z0) _ _ MGo1.out.rd (by omega) (by have := bestL_cnt z0; omega)).mono ?_
  rintro e w14 ⟨rfl, hb⟩
  replace B := Lib.hid (B.out.trans (hb.mono B.out.size))
  replace K0 := Lib.hid (K0.out.below hb K0.out.lt)
  replace Wo1 := Lib.hid (Wo1.out.up hb (Nat.le_refl _))
  replace MGo1 := Lib.hid (MGo1.out.up hb (Nat.le_refl _))
  have zw14 : w13.heap.size ≤ w14.heap.size := hb.size
  clear hb
  go_upto_region 24 with fail
  have tK0_0 : w14.cell? ⟨w.heap.size, 0, none⟩ = some (.slice x0 z0.1.length c0) := K0.out.cell 0 rfl
  have tK0_1 : w14.cell? ⟨w.heap.size, 1, none⟩ = some (.slice y0 z0.2.length d0) := K0.out.cell 1 rfl
  go_wp2_with fail
  refine (toT_any _ z0 _ (RP0.out.up B.out (Nat.le_refl _)) hs0).mono ?_
  rintro e w15 ⟨vc0, rfl, c0, hb⟩
  replace tK0_0 := held_of hb tK0_0 (Nat.le_refl _)
  replace tK0_1 := held_of hb tK0_1 (Nat.le_refl _)
  replace c0 := Lib.hid c0
  replace B := Lib.hid (B.out.trans (hb.mono B.out.size))
  replace K0 := Lib.hid (K0.out.below hb K0.out.lt)
  replace Wo1 := Lib.hid (Wo1.out.up hb (Nat.le_refl _))
  replace MGo1 := Lib.hid (MGo1.out.up hb (Nat.le_refl _))
  have zw15 : w14.heap.size ≤ w15.heap.size := hb.size
  clear hb
  go_wp2_with fail
  refine (implBest_any _ z0 _ c0.out.rd).mono ?_
  rintro e w16 ⟨Hv1, rfl, Ho1, hb⟩
  clear tK0_0 tK0_1
  replace Ho1 := Lib.hid Ho1
  replace B := Lib.hid (B.out.trans (hb.mono B.out.size))
  replace K0 := Lib.hid (K0.out.below hb K0.out.lt)
  replace Wo1 := Lib.hid (Wo1.out.up hb (Nat.le_refl _))
  replace MGo1 := Lib.hid (MGo1.out.up hb (Nat.le_refl _))
  replace c0 := Lib.hid (c0.out.up hb (Nat.le_refl _))
  have zw16 : w15.heap.size ≤ w16.heap.size := hb.size
  clear hb
  clear c0
  go_upto_region 25 with fail
  go_wp2_with fail
  refine (eqI_same _ _ (bestL z0) _ Ho1.out.rd Wo1.out.rd).mono ?_
  rintro e w17 ⟨rfl, hb⟩
  replace B := Lib.hid (B.out.trans (hb.mono B.out.size))
  replace K0 := Lib.hid (K0.out.below hb K0.out.lt)
  replace Wo1 := Lib.hid (Wo1.out.up hb (Nat.le_refl _))
  replace MGo1 := Lib.hid (MGo1.out.up hb (Nat.le_refl _))
  replace Ho1 := Lib.hid (Ho1.out.up hb (Nat.le_refl _))
  have zw17 : w16.heap.size ≤ w17.heap.size := hb.size
  clear hb
  go_upto_region 28 with fail
  go_wp2_with fail
  refine (heldI_o _ (bestL z0) _ _ MGo1.out.rd (by omega) (by have := bestL_cnt z0; omega)).mono ?_
  rintro e w18 ⟨rfl, hb⟩
  replace B := Lib.hid (B.out.trans (hb.mono B.out.size))
  replace K0 := Lib.hid (K0.out.below hb K0.out.lt)
  replace Wo1 := Lib.hid (Wo1.out.up hb (Nat.le_refl _))
  replace MGo1 := Lib.hid (MGo1.out.up hb (Nat.le_refl _))
  replace Ho1 := Lib.hid (Ho1.out.up hb (Nat.le_refl _))
  have zw18 : w17.heap.size ≤ w18.heap.size := hb.size
  clear hb
  go_wp2_with fail
  go_ret
  exact ⟨rfl, B.out⟩

end Go.Proofs.Ytkcpncaedocdnaa
