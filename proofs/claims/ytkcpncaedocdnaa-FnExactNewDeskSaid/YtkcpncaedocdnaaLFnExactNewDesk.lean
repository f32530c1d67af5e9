/-
  FnExactNewDesk: the law's walk.
-/
import Derived.Test.YtkcpncaedocdnaaNewDesk
import Derived.Deep.CutRange
namespace Go.Proofs.Ytkcpncaedocdnaa
open Go.RowKit

theorem newD_cnt : cntD newD = 35 := rfl

set_option maxHeartbeats 4000000 in
set_option maxRecDepth 100000 in
theorem lawNewDesk_any (w : World) :
    Calls Try.prog 12 #[] w fun e w' => e = .returned (.bool true) ∧ Below w.heap.size w w' := by
  go_enter Try.func12, Try.ntmps12
  go_wp2_with fail
  refine (specNewDesk_any w).mono ?_
  rintro e w1 ⟨v0, rfl, o0, hb0⟩
  obtain ⟨a1, c1, a2, c2, a3, c3, a4, c4, a5, c5, a6, c6, rfl⟩ := o0.rd.shape
  have O0 := Lib.hid o0
  have B := Lib.hid hb0
  have z1 := hb0.size
  clear o0 hb0
  go_wp2_with fail
  refine Calls.at fun W1 hW => ?_
  have K0 := Lib.hid (show Blk W1 w1.heap.size 79 #[.int .i64 newD.rows.vars, .slice a1 newD.rows.nums.length c1, .slice a2 newD.rows.bnds.length c2, .slice a3 newD.rows.gains.length c3, .slice a4 newD.sizes.length c4, .slice a5 newD.jobs.length c5, .slice a6 newD.ways.length c6] by subst hW; exact Blk.new _ _ _)
  have hb : Below w1.heap.size w1 W1 := by subst hW; (repeat' first | exact Below.refl _ _ | assumption | refine Below.alloc ?_ ?_ _ | refine Below.setCell ?_ ?_ _ | refine Below.drew ?_ | (simp; done) | (simp; omega))
  replace B := Lib.hid (B.out.trans (hb.mono B.out.size))
  replace O0 := Lib.hid (O0.out.up hb (Nat.le_refl _))
  have z2 := K0.out.lt
  clear hW hb
  refine (implNewDesk_any W1).mono ?_
  rintro e w2 ⟨v1, rfl, o1, hb⟩
  obtain ⟨b1, e1, b2, e2, b3, e3, b4, e4, b5, e5, b6, e6, rfl⟩ := o1.rd.shape
  have O1 := Lib.hid o1
  replace B := Lib.hid (B.out.trans (hb.mono B.out.size))
  replace O0 := Lib.hid (O0.out.up hb (Nat.le_refl _))
  replace K0 := Lib.hid (K0.out.below hb K0.out.lt)
  have z3 := hb.size
  clear o1 hb
  go_upto_region 3 with fail
  refine wp_at fun W2 hW => ?_
  have K1 := Lib.hid (show Blk W2 w2.heap.size 79 #[.int .i64 newD.rows.vars, .slice b1 newD.rows.nums.length e1, .slice b2 newD.rows.bnds.length e2, .slice b3 newD.rows.gains.length e3, .slice b4 newD.sizes.length e4, .slice b5 newD.jobs.length e5, .slice b6 newD.ways.length e6] by subst hW; exact Blk.new _ _ _)
  have hb : Below w2.heap.size w2 W2 := by subst hW; (repeat' first | exact Below.refl _ _ | assumption | refine Below.alloc ?_ ?_ _ | refine Below.setCell ?_ ?_ _ | refine Below.drew ?_ | (simp; done) | (simp; omega))
  replace B := Lib.hid (B.out.trans (hb.mono B.out.size))
  replace O0 := Lib.hid (O0.out.up hb (Nat.le_refl _))
  replace O1 := Lib.hid (O1.out.up hb (Nat.le_refl _))
  replace K0 := Lib.hid (K0.out.below hb K0.out.lt)
  have z4 := K1.out.lt
  clear hW hb
  have t0 : W2.cell? ⟨w1.heap.size, 0, none⟩ = some (.int .i64 newD.rows.vars) := K0.out.cell 0 rfl
  have t1 : W2.cell? ⟨w1.heap.size, 1, none⟩ = some (.slice a1 newD.rows.nums.length c1) := K0.out.cell 1 rfl
  have t2 : W2.cell? ⟨w1.heap.size, 2, none⟩ = some (.slice a2 newD.rows.bnds.length c2) := K0.out.cell 2 rfl
  have t3 : W2.cell? ⟨w1.heap.size, 3, none⟩ = some (.slice a3 newD.rows.gains.length c3) := K0.out.cell 3 rfl
  have t4 : W2.cell? ⟨w1.heap.size, 4, none⟩ = some (.slice a4 newD.sizes.length c4) := K0.out.cell 4 rfl
  have t5 : W2.cell? ⟨w1.heap.size, 5, none⟩ = some (.slice a5 newD.jobs.length c5) := K0.out.cell 5 rfl
  have t6 : W2.cell? ⟨w1.heap.size, 6, none⟩ = some (.slice a6 newD.ways.length c6) := K0.out.cell 6 rfl
  have u0 : W2.cell? ⟨w2.heap.size, 0, none⟩ = some (.int .i64 newD.rows.vars) := K1.out.cell 0 rfl
  have u1 : W2.cell? ⟨w2.heap.size, 1, none⟩ = some (.slice b1 newD.rows.nums.length e1) := K1.out.cell 1 rfl
  have u2 : W2.cell? ⟨w2.heap.size, 2, none⟩ = some (.slice b2 newD.rows.bnds.length e2) := K1.out.cell 2 rfl
  have u3 : W2.cell? ⟨w2.heap.size, 3, none⟩ = some (.slice b3 newD.rows.gains.length e3) := K1.out.cell 3 rfl
  have u4 : W2.cell? ⟨w2.heap.size, 4, none⟩ = some (.slice b4 newD.sizes.length e4) := K1.out.cell 4 rfl
  have u5 : W2.cell? ⟨w2.heap.size, 5, none⟩ = some (.slice b5 newD.jobs.length e5) := K1.out.cell 5 rfl
  have u6 : W2.cell? ⟨w2.heap.size, 6, none⟩ = some (.slice b6 newD.ways.length e6) := K1.out.cell 6 rfl
  go_wp2_with fail
  refine (eqD_same _ _ newD W2 O1.out.rd O0.out.rd).mono ?_
  rintro e w3 ⟨rfl, hb⟩
  replace B := Lib.hid (B.out.trans (hb.mono B.out.size))
  replace O0 := Lib.hid (O0.out.up hb (Nat.le_refl _))
  replace O1 := Lib.hid (O1.out.up hb (Nat.le_refl _))
  replace K0 := Lib.hid (K0.out.below hb K0.out.lt)
  replace K1 := Lib.hid (K1.out.below hb K1.out.lt)
  have z5 := hb.size
  clear hb
  clear t0 t1 t2 t3 t4 t5 t6 u0 u1 u2 u3 u4 u5 u6
  have t0 : w3.cell? ⟨w2.heap.size, 0, none⟩ = some (.int .i64 newD.rows.vars) := K1.out.cell 0 rfl
  have t1 : w3.cell? ⟨w2.heap.size, 1, none⟩ = some (.slice b1 newD.rows.nums.length e1) := K1.out.cell 1 rfl
  have t2 : w3.cell? ⟨w2.heap.size, 2, none⟩ = some (.slice b2 newD.rows.bnds.length e2) := K1.out.cell 2 rfl
  have t3 : w3.cell? ⟨w2.heap.size, 3, none⟩ = some (.slice b3 newD.rows.gains.length e3) := K1.out.cell 3 rfl
  have t4 : w3.cell? ⟨w2.heap.size, 4, none⟩ = some (.slice b4 newD.sizes.length e4) := K1.out.cell 4 rfl
  have t5 : w3.cell? ⟨w2.heap.size, 5, none⟩ = some (.slice b5 newD.jobs.length e5) := K1.out.cell 5 rfl
  have t6 : w3.cell? ⟨w2.heap.size, 6, none⟩ = some (.slice b6 newD.ways.length e6) := K1.out.cell 6 rfl
  go_wp2_with fail
  refine (markD_o _ W1.heap.size w2.heap.size newD 1 w3 O1.out (by omega) (by rw [newD_cnt]; omega)).mono ?_
  rintro e w4 ⟨rfl, om, hk⟩
  rw [newD_cnt]
  have OM := Lib.hid om
  replace B := Lib.hid (B.out.trans (hk.toBelow B.out.size (by rintro k hk1 ⟨h1, h2⟩; have := B.out.size; omega)))
  replace O0 := Lib.hid (O0.out.kept hk (by rintro b h1 h2 ⟨h3, h4⟩; omega))
  replace K0 := Lib.hid (K0.out.kept hk (by rintro ⟨h1, h2⟩; omega))
  replace K1 := Lib.hid (K1.out.kept hk (by rintro ⟨h1, h2⟩; omega))
  have z6 := hk.size
  clear om hk O1 t0 t1 t2 t3 t4 t5 t6
  have t0 : w4.cell? ⟨w2.heap.size, 0, none⟩ = some (.int .i64 newD.rows.vars) := K1.out.cell 0 rfl
  have t1 : w4.cell? ⟨w2.heap.size, 1, none⟩ = some (.slice b1 newD.rows.nums.length e1) := K1.out.cell 1 rfl
  have t2 : w4.cell? ⟨w2.heap.size, 2, none⟩ = some (.slice b2 newD.rows.bnds.length e2) := K1.out.cell 2 rfl
  have t3 : w4.cell? ⟨w2.heap.size, 3, none⟩ = some (.slice b3 newD.rows.gains.length e3) := K1.out.cell 3 rfl
  have t4 : w4.cell? ⟨w2.heap.size, 4, none⟩ = some (.slice b4 newD.sizes.length e4) := K1.out.cell 4 rfl
  have t5 : w4.cell? ⟨w2.heap.size, 5, none⟩ = some (.slice b5 newD.jobs.length e5) := K1.out.cell 5 rfl
  have t6 : w4.cell? ⟨w2.heap.size, 6, none⟩ = some (.slice b6 newD.ways.length e6) := K1.out.cell 6 rfl
  go_wp2_with fail
  refine (heldD_o _ newD 1 w4 OM.out.rd (by omega) (by rw [newD_cnt]; omega)).mono ?_
  rintro e w5 ⟨rfl, hb⟩
  rw [newD_cnt]
  replace B := Lib.hid (B.out.trans (hb.mono B.out.size))
  replace O0 := Lib.hid (O0.out.up hb (Nat.le_refl _))
  replace OM := Lib.hid (OM.out.up hb (Nat.le_refl _))
  replace K0 := Lib.hid (K0.out.below hb K0.out.lt)
  replace K1 := Lib.hid (K1.out.below hb K1.out.lt)
  have z7 := hb.size
  clear hb
  clear t0 t1 t2 t3 t4 t5 t6
  go_wp2_with fail
  refine (implNewDesk_any w5).mono ?_
  rintro e w6 ⟨v2, rfl, o2, hb⟩
  obtain ⟨p1, q1, p2, q2, p3, q3, p4, q4, p5, q5, p6, q6, rfl⟩ := o2.rd.shape
  have O2 := Lib.hid o2
  clear o2
  replace B := Lib.hid (B.out.trans (hb.mono B.out.size))
  replace O0 := Lib.hid (O0.out.up hb (Nat.le_refl _))
  replace OM := Lib.hid (OM.out.up hb (Nat.le_refl _))
  replace K0 := Lib.hid (K0.out.below hb K0.out.lt)
  replace K1 := Lib.hid (K1.out.below hb K1.out.lt)
  have z8 := hb.size
  clear hb
  go_upto_region 14 with fail
  refine wp_at fun W3 hW => ?_
  have K2 := Lib.hid (show Blk W3 w6.heap.size 79 #[.int .i64 newD.rows.vars, .slice p1 newD.rows.nums.length q1, .slice p2 newD.rows.bnds.length q2, .slice p3 newD.rows.gains.length q3, .slice p4 newD.sizes.length q4, .slice p5 newD.jobs.length q5, .slice p6 newD.ways.length q6] by subst hW; exact Blk.new _ _ _)
  have hb : Below w6.heap.size w6 W3 := by subst hW; (repeat' first | exact Below.refl _ _ | assumption | refine Below.alloc ?_ ?_ _ | refine Below.setCell ?_ ?_ _ | refine Below.drew ?_ | (simp; done) | (simp; omega))
  clear hW
  replace O2 := Lib.hid (O2.out.up hb (Nat.le_refl _))
  replace B := Lib.hid (B.out.trans (hb.mono B.out.size))
  replace O0 := Lib.hid (O0.out.up hb (Nat.le_refl _))
  replace OM := Lib.hid (OM.out.up hb (Nat.le_refl _))
  replace K0 := Lib.hid (K0.out.below hb K0.out.lt)
  replace K1 := Lib.hid (K1.out.below hb K1.out.lt)
  have z9 := hb.size
  clear hb
  have t0 : W3.cell? ⟨w1.heap.size, 0, none⟩ = some (.int .i64 newD.rows.vars) := K0.out.cell 0 rfl
  have t1 : W3.cell? ⟨w1.heap.size, 1, none⟩ = some (.slice a1 newD.rows.nums.length c1) := K0.out.cell 1 rfl
  have t2 : W3.cell? ⟨w1.heap.size, 2, none⟩ = some (.slice a2 newD.rows.bnds.length c2) := K0.out.cell 2 rfl
  have t3 : W3.cell? ⟨w1.heap.size, 3, none⟩ = some (.slice a3 newD.rows.gains.length c3) := K0.out.cell 3 rfl
  have t4 : W3.cell? ⟨w1.heap.size, 4, none⟩ = some (.slice a4 newD.sizes.length c4) := K0.out.cell 4 rfl
  have t5 : W3.cell? ⟨w1.heap.size, 5, none⟩ = some (.slice a5 newD.jobs.length c5) := K0.out.cell 5 rfl
  have t6 : W3.cell? ⟨w1.heap.size, 6, none⟩ = some (.slice a6 newD.ways.length c6) := K0.out.cell 6 rfl
  have u0 : W3.cell? ⟨w6.heap.size, 0, none⟩ = some (.int .i64 newD.rows.vars) := K2.out.cell 0 rfl
  have u1 : W3.cell? ⟨w6.heap.size, 1, none⟩ = some (.slice p1 newD.rows.nums.length q1) := K2.out.cell 1 rfl
  have u2 : W3.cell? ⟨w6.heap.size, 2, none⟩ = some (.slice p2 newD.rows.bnds.length q2) := K2.out.cell 2 rfl
  have u3 : W3.cell? ⟨w6.heap.size, 3, none⟩ = some (.slice p3 newD.rows.gains.length q3) := K2.out.cell 3 rfl
  have u4 : W3.cell? ⟨w6.heap.size, 4, none⟩ = some (.slice p4 newD.sizes.length q4) := K2.out.cell 4 rfl
  have u5 : W3.cell? ⟨w6.heap.size, 5, none⟩ = some (.slice p5 newD.jobs.length q5) := K2.out.cell 5 rfl
  have u6 : W3.cell? ⟨w6.heap.size, 6, none⟩ = some (.slice p6 newD.ways.length q6) := K2.out.cell 6 rfl
  go_wp2_with fail
  refine (eqD_same _ _ newD W3 O2.out.rd O0.out.rd).mono ?_
  rintro e w7 ⟨rfl, hb⟩
  replace B := Lib.hid (B.out.trans (hb.mono B.out.size))
  replace O0 := Lib.hid (O0.out.up hb (Nat.le_refl _))
  replace OM := Lib.hid (OM.out.up hb (Nat.le_refl _))
  replace K0 := Lib.hid (K0.out.below hb K0.out.lt)
  replace K1 := Lib.hid (K1.out.below hb K1.out.lt)
  have z10 := hb.size
  clear hb
  clear t0 t1 t2 t3 t4 t5 t6 u0 u1 u2 u3 u4 u5 u6
  have t0 : w7.cell? ⟨w2.heap.size, 0, none⟩ = some (.int .i64 newD.rows.vars) := K1.out.cell 0 rfl
  have t1 : w7.cell? ⟨w2.heap.size, 1, none⟩ = some (.slice b1 newD.rows.nums.length e1) := K1.out.cell 1 rfl
  have t2 : w7.cell? ⟨w2.heap.size, 2, none⟩ = some (.slice b2 newD.rows.bnds.length e2) := K1.out.cell 2 rfl
  have t3 : w7.cell? ⟨w2.heap.size, 3, none⟩ = some (.slice b3 newD.rows.gains.length e3) := K1.out.cell 3 rfl
  have t4 : w7.cell? ⟨w2.heap.size, 4, none⟩ = some (.slice b4 newD.sizes.length e4) := K1.out.cell 4 rfl
  have t5 : w7.cell? ⟨w2.heap.size, 5, none⟩ = some (.slice b5 newD.jobs.length e5) := K1.out.cell 5 rfl
  have t6 : w7.cell? ⟨w2.heap.size, 6, none⟩ = some (.slice b6 newD.ways.length e6) := K1.out.cell 6 rfl
  go_wp2_with fail
  refine (heldD_o _ newD 1 w7 OM.out.rd (by omega) (by rw [newD_cnt]; omega)).mono ?_
  rintro e w8 ⟨rfl, hb⟩
  rw [newD_cnt]
  replace B := Lib.hid (B.out.trans (hb.mono B.out.size))
  replace O0 := Lib.hid (O0.out.up hb (Nat.le_refl _))
  have z11 := hb.size
  clear hb
  clear t0 t1 t2 t3 t4 t5 t6
  go_wp2_with fail
  go_ret
  exact ⟨rfl, B.out⟩

end Go.Proofs.Ytkcpncaedocdnaa
