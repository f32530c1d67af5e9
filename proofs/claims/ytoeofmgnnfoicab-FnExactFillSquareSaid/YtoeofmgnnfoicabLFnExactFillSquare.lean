/-
  FnExactFillSquare: the law's walk, out of the contracts.
-/
import Derived.Test.YtoeofmgnnfoicabFillS
import Derived.Test.YtoeofmgnnfoicabMarkI
import Derived.Deep.RegionHeld3
import Derived.Deep.Cut
namespace Go.Proofs.Ytoeofmgnnfoicab
open Go.RowKit

set_option maxHeartbeats 4000000 in
set_option maxRecDepth 100000 in
theorem lawFillSquare_any (w : World) (a0 : Int) (v1 : Value) (z1 : List Int) (r1 : RdI w v1 z1) :
    Calls Try.prog 3 #[.int .i64 a0, v1] w fun e w' => e = .returned (.bool true) ∧ Below w.heap.size w w' := by
  obtain ⟨x1, c1, rfl⟩ := r1.shape
  have l1_0 : z1.length ≤ 9223372036854775807 := by have := RdI.len r1; unfold maxLen at this; omega
  have RP1 := Lib.hid r1
  clear r1
  have B : Hid (Below w.heap.size w w) := Below.refl _ _
  go_enter Try.func3, Try.ntmps3
  by_cases hg1 : (1048576 : Int) < (z1.length : Nat)
  · go_wp2_with fail
    go_ret
    exact ⟨rfl, by first | exact B.out | (repeat' first | exact Below.refl _ _ | assumption | refine Below.alloc ?_ ?_ _ | refine Below.setCell ?_ ?_ _ | refine Below.drew ?_ | (simp; done) | (simp; omega))⟩
  have hs1 : bulkI z1 ≤ 1048576 := by unfold bulkI; omega
  have ne1 : ((fsOk a0 z1) != (fsOk a0 z1)) = false := by simp
  go_upto_region 3 with fail
  go_wp2_with fail
  refine (toI_any _ z1 _ (RP1.out.up B.out (Nat.le_refl _)) hs1).mono ?_
  rintro e w1 ⟨vc1, rfl, c1, hb⟩
  replace c1 := Lib.hid c1
  replace B := Lib.hid (B.out.trans (hb.mono B.out.size))
  have zw1 : w.heap.size ≤ w1.heap.size := hb.size
  clear hb
  go_wp2_with fail
  refine (specFillS_any a0 _ z1 _ c1.out.rd).mono ?_
  rintro e w2 ⟨Wv0, rfl, Wo0, hb⟩
  replace Wo0 := Lib.hid Wo0
  replace B := Lib.hid (B.out.trans (hb.mono B.out.size))
  replace c1 := Lib.hid (c1.out.up hb (Nat.le_refl _))
  have zw2 : w1.heap.size ≤ w2.heap.size := hb.size
  clear hb
  clear c1
  go_upto_region 4 with fail
  go_wp2_with fail
  refine (toI_any _ z1 _ (RP1.out.up B.out (Nat.le_refl _)) hs1).mono ?_
  rintro e w3 ⟨vcp1, rfl, cp1, hb⟩
  replace cp1 := Lib.hid cp1
  replace B := Lib.hid (B.out.trans (hb.mono B.out.size))
  replace Wo0 := Lib.hid (Wo0.out.up hb (Nat.le_refl _))
  have zw3 : w2.heap.size ≤ w3.heap.size := hb.size
  clear hb
  go_upto_region 5 with fail
  go_wp2_with fail
  refine (implFillS_any a0 _ z1 _ cp1.out.rd).mono ?_
  rintro e w4 ⟨Gv0, rfl, Go0, hb⟩
  replace Go0 := Lib.hid Go0
  replace B := Lib.hid (B.out.trans (hb.mono B.out.size))
  replace Wo0 := Lib.hid (Wo0.out.up hb (Nat.le_refl _))
  replace cp1 := Lib.hid (cp1.out.up hb (Nat.le_refl _))
  have zw4 : w3.heap.size ≤ w4.heap.size := hb.size
  clear hb
  go_upto_region 6 with fail
  go_wp2_with fail
  refine (eqI_same _ _ (fsL a0 z1) _ Go0.out.rd Wo0.out.rd).mono ?_
  rintro e w5 ⟨rfl, hb⟩
  replace B := Lib.hid (B.out.trans (hb.mono B.out.size))
  replace Wo0 := Lib.hid (Wo0.out.up hb (Nat.le_refl _))
  replace cp1 := Lib.hid (cp1.out.up hb (Nat.le_refl _))
  replace Go0 := Lib.hid (Go0.out.up hb (Nat.le_refl _))
  have zw5 : w4.heap.size ≤ w5.heap.size := hb.size
  clear hb
  go_upto_region 8 with fail
  go_wp2_with fail
  refine (toI_any _ z1 _ (RP1.out.up B.out (Nat.le_refl _)) hs1).mono ?_
  rintro e w6 ⟨vc1, rfl, c1, hb⟩
  replace c1 := Lib.hid c1
  replace B := Lib.hid (B.out.trans (hb.mono B.out.size))
  replace Wo0 := Lib.hid (Wo0.out.up hb (Nat.le_refl _))
  replace cp1 := Lib.hid (cp1.out.up hb (Nat.le_refl _))
  replace Go0 := Lib.hid (Go0.out.up hb (Nat.le_refl _))
  have zw6 : w5.heap.size ≤ w6.heap.size := hb.size
  clear hb
  go_wp2_with fail
  refine (eqI_same _ _ z1 _ cp1.out.rd c1.out.rd).mono ?_
  rintro e w7 ⟨rfl, hb⟩
  replace B := Lib.hid (B.out.trans (hb.mono B.out.size))
  replace Wo0 := Lib.hid (Wo0.out.up hb (Nat.le_refl _))
  replace cp1 := Lib.hid (cp1.out.up hb (Nat.le_refl _))
  replace Go0 := Lib.hid (Go0.out.up hb (Nat.le_refl _))
  replace c1 := Lib.hid (c1.out.up hb (Nat.le_refl _))
  have zw7 : w6.heap.size ≤ w7.heap.size := hb.size
  clear hb
  clear c1
  have hk0 : (0 : Int) ≤ 1 := by decide
  have hc1 : (0 : Int) ≤ (cntI z1 : Nat) := by omega
  go_upto_region 11 with fail
  go_wp2_with fail
  refine (markI_o _ _ _ z1 _ _ cp1.out (by omega) (by have := cntI_le z1; omega)).mono ?_
  rintro e w8 ⟨rfl, -, hb⟩
  replace B := Lib.hid (B.out.trans (hb.toBelow B.out.size (by rintro k hk1 ⟨h1, h2⟩; omega)))
  replace Wo0 := Lib.hid (Wo0.out.kept hb (by rintro b h1 h2 ⟨h3, h4⟩; omega))
  replace Go0 := Lib.hid (Go0.out.kept hb (by rintro b h1 h2 ⟨h3, h4⟩; omega))
  have zw8 : w7.heap.size ≤ w8.heap.size := hb.size
  clear hb
  clear cp1
  go_upto_region 12 with fail
  go_wp2_with fail
  refine (eqI_same _ _ (fsL a0 z1) _ Go0.out.rd Wo0.out.rd).mono ?_
  rintro e w9 ⟨rfl, hb⟩
  replace B := Lib.hid (B.out.trans (hb.mono B.out.size))
  replace Wo0 := Lib.hid (Wo0.out.up hb (Nat.le_refl _))
  replace Go0 := Lib.hid (Go0.out.up hb (Nat.le_refl _))
  have zw9 : w8.heap.size ≤ w9.heap.size := hb.size
  clear hb
  have hcGo0 : (0 : Int) ≤ (cntI (fsL a0 z1) : Nat) := by omega
  have Go0h := Go0
  clear Go0h
  go_upto_region 15 with fail
  go_wp2_with fail
  refine (markI_o _ _ _ (fsL a0 z1) _ _ Go0.out (by omega) (by have := fsL_cnt a0 z1; omega)).mono ?_
  rintro e w10 ⟨rfl, MGo0, hb⟩
  replace MGo0 := Lib.hid MGo0
  replace B := Lib.hid (B.out.trans (hb.toBelow B.out.size (by rintro k hk1 ⟨h1, h2⟩; omega)))
  replace Wo0 := Lib.hid (Wo0.out.kept hb (by rintro b h1 h2 ⟨h3, h4⟩; omega))
  have zw10 : w9.heap.size ≤ w10.heap.size := hb.size
  clear hb
  clear Go0
  have nm : ((1 + (cntI (fsL a0 z1) : Int) : Int) != (1 + (cntI (fsL a0 z1) : Int) : Int)) = false := by simp
  go_upto_region 17 with fail
  go_wp2_with fail
  refine (heldI_o _ (fsL a0 z1) _ _ MGo0.out.rd (by omega) (by have := fsL_cnt a0 z1; omega)).mono ?_
  rintro e w11 ⟨rfl, hb⟩
  replace B := Lib.hid (B.out.trans (hb.mono B.out.size))
  replace Wo0 := Lib.hid (Wo0.out.up hb (Nat.le_refl _))
  replace MGo0 := Lib.hid (MGo0.out.up hb (Nat.le_refl _))
  have zw11 : w10.heap.size ≤ w11.heap.size := hb.size
  clear hb
  go_upto_region 22 with fail
  go_wp2_with fail
  refine (toI_any _ z1 _ (RP1.out.up B.out (Nat.le_refl _)) hs1).mono ?_
  rintro e w12 ⟨vc1, rfl, c1, hb⟩
  replace c1 := Lib.hid c1
  replace B := Lib.hid (B.out.trans (hb.mono B.out.size))
  replace Wo0 := Lib.hid (Wo0.out.up hb (Nat.le_refl _))
  replace MGo0 := Lib.hid (MGo0.out.up hb (Nat.le_refl _))
  have zw12 : w11.heap.size ≤ w12.heap.size := hb.size
  clear hb
  go_wp2_with fail
  refine (implFillS_any a0 _ z1 _ c1.out.rd).mono ?_
  rintro e w13 ⟨Hv0, rfl, Ho0, hb⟩
  replace Ho0 := Lib.hid Ho0
  replace B := Lib.hid (B.out.trans (hb.mono B.out.size))
  replace Wo0 := Lib.hid (Wo0.out.up hb (Nat.le_refl _))
  replace MGo0 := Lib.hid (MGo0.out.up hb (Nat.le_refl _))
  replace c1 := Lib.hid (c1.out.up hb (Nat.le_refl _))
  have zw13 : w12.heap.size ≤ w13.heap.size := hb.size
  clear hb
  clear c1
  go_upto_region 23 with fail
  go_wp2_with fail
  refine (eqI_same _ _ (fsL a0 z1) _ Ho0.out.rd Wo0.out.rd).mono ?_
  rintro e w14 ⟨rfl, hb⟩
  replace B := Lib.hid (B.out.trans (hb.mono B.out.size))
  replace Wo0 := Lib.hid (Wo0.out.up hb (Nat.le_refl _))
  replace MGo0 := Lib.hid (MGo0.out.up hb (Nat.le_refl _))
  replace Ho0 := Lib.hid (Ho0.out.up hb (Nat.le_refl _))
  have zw14 : w13.heap.size ≤ w14.heap.size := hb.size
  clear hb
  go_upto_region 26 with fail
  go_wp2_with fail
  refine (heldI_o _ (fsL a0 z1) _ _ MGo0.out.rd (by omega) (by have := fsL_cnt a0 z1; omega)).mono ?_
  rintro e w15 ⟨rfl, hb⟩
  replace B := Lib.hid (B.out.trans (hb.mono B.out.size))
  replace Wo0 := Lib.hid (Wo0.out.up hb (Nat.le_refl _))
  replace MGo0 := Lib.hid (MGo0.out.up hb (Nat.le_refl _))
  replace Ho0 := Lib.hid (Ho0.out.up hb (Nat.le_refl _))
  have zw15 : w14.heap.size ≤ w15.heap.size := hb.size
  clear hb
  go_wp2_with fail
  go_ret
  exact ⟨rfl, B.out⟩

end Go.Proofs.Ytoeofmgnnfoicab
