/-
  FnExactFirstQueens: the law's walk, out of the contracts.
-/
import Derived.Test.YtoeofmgnnfoicaaFirstQ
import Derived.Deep.RegionHeld3
import Derived.Deep.Cut
namespace Go.Proofs.Ytoeofmgnnfoicaa
open Go.RowKit

set_option maxHeartbeats 4000000 in
set_option maxRecDepth 100000 in
theorem lawFirstQueens_any (w : World) (a0 : Int) :
    Calls Try.prog 6 #[.int .i64 a0] w fun e w' => e = .returned (.bool true) ∧ Below w.heap.size w w' := by
  have B : Hid (Below w.heap.size w w) := Below.refl _ _
  go_enter Try.func6, Try.ntmps6
  have ne1 : ((fqOk a0) != (fqOk a0)) = false := by simp
  go_upto_region 1 with fail
  go_wp2_with fail
  refine (specFirstQ_any a0 _).mono ?_
  rintro e w1 ⟨Wv0, rfl, Wo0, hb⟩
  replace Wo0 := Lib.hid Wo0
  replace B := Lib.hid (B.out.trans (hb.mono B.out.size))
  have zw1 : w.heap.size ≤ w1.heap.size := hb.size
  clear hb
  go_upto_region 2 with fail
  go_wp2_with fail
  refine (implFirstQ_any a0 _).mono ?_
  rintro e w2 ⟨Gv0, rfl, Go0, hb⟩
  replace Go0 := Lib.hid Go0
  replace B := Lib.hid (B.out.trans (hb.mono B.out.size))
  replace Wo0 := Lib.hid (Wo0.out.up hb (Nat.le_refl _))
  have zw2 : w1.heap.size ≤ w2.heap.size := hb.size
  clear hb
  go_upto_region 3 with fail
  go_wp2_with fail
  refine (eqI_same _ _ (fqList a0) _ Go0.out.rd Wo0.out.rd).mono ?_
  rintro e w3 ⟨rfl, hb⟩
  replace B := Lib.hid (B.out.trans (hb.mono B.out.size))
  replace Wo0 := Lib.hid (Wo0.out.up hb (Nat.le_refl _))
  replace Go0 := Lib.hid (Go0.out.up hb (Nat.le_refl _))
  have zw3 : w2.heap.size ≤ w3.heap.size := hb.size
  clear hb
  have hcGo0 : (0 : Int) ≤ (cntI (fqList a0) : Nat) := by omega
  have Go0h := Go0
  clear Go0h
  go_upto_region 6 with fail
  go_wp2_with fail
  refine (markI_o _ _ _ (fqList a0) _ _ Go0.out (by omega) (by have := fqList_cnt a0; omega)).mono ?_
  rintro e w4 ⟨rfl, MGo0, hb⟩
  replace MGo0 := Lib.hid MGo0
  replace B := Lib.hid (B.out.trans (hb.toBelow B.out.size (by rintro k hk1 ⟨h1, h2⟩; omega)))
  replace Wo0 := Lib.hid (Wo0.out.kept hb (by rintro b h1 h2 ⟨h3, h4⟩; omega))
  have zw4 : w3.heap.size ≤ w4.heap.size := hb.size
  clear hb
  clear Go0
  have nm : ((1 + (cntI (fqList a0) : Int) : Int) != (1 + (cntI (fqList a0) : Int) : Int)) = false := by simp
  go_upto_region 8 with fail
  go_wp2_with fail
  refine (heldI_o _ (fqList a0) _ _ MGo0.out.rd (by omega) (by have := fqList_cnt a0; omega)).mono ?_
  rintro e w5 ⟨rfl, hb⟩
  replace B := Lib.hid (B.out.trans (hb.mono B.out.size))
  replace Wo0 := Lib.hid (Wo0.out.up hb (Nat.le_refl _))
  replace MGo0 := Lib.hid (MGo0.out.up hb (Nat.le_refl _))
  have zw5 : w4.heap.size ≤ w5.heap.size := hb.size
  clear hb
  go_upto_region 13 with fail
  go_wp2_with fail
  refine (implFirstQ_any a0 _).mono ?_
  rintro e w6 ⟨Hv0, rfl, Ho0, hb⟩
  replace Ho0 := Lib.hid Ho0
  replace B := Lib.hid (B.out.trans (hb.mono B.out.size))
  replace Wo0 := Lib.hid (Wo0.out.up hb (Nat.le_refl _))
  replace MGo0 := Lib.hid (MGo0.out.up hb (Nat.le_refl _))
  have zw6 : w5.heap.size ≤ w6.heap.size := hb.size
  clear hb
  go_upto_region 14 with fail
  go_wp2_with fail
  refine (eqI_same _ _ (fqList a0) _ Ho0.out.rd Wo0.out.rd).mono ?_
  rintro e w7 ⟨rfl, hb⟩
  replace B := Lib.hid (B.out.trans (hb.mono B.out.size))
  replace Wo0 := Lib.hid (Wo0.out.up hb (Nat.le_refl _))
  replace MGo0 := Lib.hid (MGo0.out.up hb (Nat.le_refl _))
  replace Ho0 := Lib.hid (Ho0.out.up hb (Nat.le_refl _))
  have zw7 : w6.heap.size ≤ w7.heap.size := hb.size
  clear hb
  go_upto_region 17 with fail
  go_wp2_with fail
  refine (heldI_o _ (fqList a0) _ _ MGo0.out.rd (by omega) (by have := fqList_cnt a0; omega)).mono ?_
  rintro e w8 ⟨rfl, hb⟩
  replace B := Lib.hid (B.out.trans (hb.mono B.out.size))
  replace Wo0 := Lib.hid (Wo0.out.up hb (Nat.le_refl _))
  replace MGo0 := Lib.hid (MGo0.out.up hb (Nat.le_refl _))
  replace Ho0 := Lib.hid (Ho0.out.up hb (Nat.le_refl _))
  have zw8 : w7.heap.size ≤ w8.heap.size := hb.size
  clear hb
  go_wp2_with fail
  go_ret
  exact ⟨rfl, B.out⟩

end Go.Proofs.Ytoeofmgnnfoicaa
