/-
  Desks, by value: rows, sizes, jobs and ways, each in blocks of their own, one part behind another.
-/
import Derived.Test.YtkcpncaedocdnaaRowsO
import Derived.Test.YtkcpncaedocdnaaMarkJ
namespace Go.Proofs.Ytkcpncaedocdnaa
open Go.RowKit

structure DeskD where
  rows : RowsD
  sizes : List Int
  jobs : List JobD
  ways : List Int

def RdD (w : World) (v : Value) (d : DeskD) : Prop := ∃ va vb vc vs vj vw, v = .agg #[.int .i64 d.rows.vars, va, vb, vc, vs, vj, vw] ∧ RdR w (.agg #[.int .i64 d.rows.vars, va, vb, vc]) d.rows ∧ RdI w vs d.sizes ∧ RdJ w vj d.jobs ∧ RdI w vw d.ways
def OwnD (lo hi : Nat) (w : World) (v : Value) (d : DeskD) : Prop := ∃ va vb vc vs vj vw l1 h1 l2 h2 l3 h3 l4 h4, v = .agg #[.int .i64 d.rows.vars, va, vb, vc, vs, vj, vw] ∧ OwnR l1 h1 w (.agg #[.int .i64 d.rows.vars, va, vb, vc]) d.rows ∧ OwnI l2 h2 w vs d.sizes ∧ OwnJ l3 h3 w vj d.jobs ∧ OwnI l4 h4 w vw d.ways ∧
  lo ≤ l1 ∧ l1 ≤ h1 ∧ h1 ≤ l2 ∧ l2 ≤ h2 ∧ h2 ≤ l3 ∧ l3 ≤ h3 ∧ h3 ≤ l4 ∧ l4 ≤ h4 ∧ h4 ≤ hi ∧ h4 ≤ w.heap.size
def bulkD (d : DeskD) : Nat := bulkR d.rows + d.sizes.length + d.jobs.length + d.ways.length
def cntD (d : DeskD) : Nat := cntR d.rows + d.sizes.length + d.jobs.length * 4 + d.ways.length

theorem RdD.shape {w : World} {v : Value} {d : DeskD} (h : RdD w v d) : ∃ a1 c1 a2 c2 a3 c3 a4 c4 a5 c5 a6 c6, v = .agg #[.int .i64 d.rows.vars, .slice a1 d.rows.nums.length c1, .slice a2 d.rows.bnds.length c2, .slice a3 d.rows.gains.length c3, .slice a4 d.sizes.length c4, .slice a5 d.jobs.length c5, .slice a6 d.ways.length c6] := by
  obtain ⟨va, vb, vc, vs, vj, vw, rfl, h1, h2, h3, h4⟩ := h
  obtain ⟨a1, c1, a2, c2, a3, c3, e⟩ := h1.shape
  simp only [Value.agg.injEq, Array.mk.injEq, List.cons.injEq, and_true, true_and] at e
  obtain ⟨rfl, rfl, rfl⟩ := e
  obtain ⟨a4, c4, rfl⟩ := h2.shape
  obtain ⟨a5, c5, rfl⟩ := h3.shape
  obtain ⟨a6, c6, rfl⟩ := h4.shape
  exact ⟨_, _, _, _, _, _, _, _, _, _, _, _, rfl⟩
theorem RdD.parts {w : World} {x0 x1 x2 x3 y z u : Value} {d : DeskD} (h : RdD w (.agg #[x0, x1, x2, x3, y, z, u]) d) : RdR w (.agg #[x0, x1, x2, x3]) d.rows ∧ RdI w y d.sizes ∧ RdJ w z d.jobs ∧ RdI w u d.ways := by
  obtain ⟨va, vb, vc, vs, vj, vw, e, h1, h2, h3, h4⟩ := h
  simp only [Value.agg.injEq, Array.mk.injEq, List.cons.injEq, and_true] at e
  obtain ⟨rfl, rfl, rfl, rfl, rfl, rfl, rfl⟩ := e
  exact ⟨h1, h2, h3, h4⟩
theorem RdD.up {w w' : World} {v : Value} {d : DeskD} {B : Nat} (h : RdD w v d) (hb : Below B w w') (hB : w.heap.size ≤ B) : RdD w' v d := by
  obtain ⟨va, vb, vc, vs, vj, vw, e, h1, h2, h3, h4⟩ := h
  exact ⟨va, vb, vc, vs, vj, vw, e, h1.up hb hB, h2.up hb hB, h3.up hb hB, h4.up hb hB⟩
theorem OwnD.rd {lo hi : Nat} {w : World} {v : Value} {d : DeskD} (h : OwnD lo hi w v d) : RdD w v d := by
  obtain ⟨va, vb, vc, vs, vj, vw, l1, h1, l2, h2, l3, h3, l4, h4, e, o1, o2, o3, o4, _⟩ := h
  exact ⟨va, vb, vc, vs, vj, vw, e, o1.rd, o2.rd, o3.rd, o4.rd⟩
theorem OwnD.up {lo hi : Nat} {w w' : World} {v : Value} {d : DeskD} {B : Nat} (h : OwnD lo hi w v d) (hb : Below B w w') (hB : w.heap.size ≤ B) : OwnD lo hi w' v d := by
  obtain ⟨va, vb, vc, vs, vj, vw, l1, h1, l2, h2, l3, h3, l4, h4, e, o1, o2, o3, o4, r1, r2, r3, r4, r5, r6, r7, r8, r9, r10⟩ := h
  exact ⟨va, vb, vc, vs, vj, vw, l1, h1, l2, h2, l3, h3, l4, h4, e, o1.up hb hB, o2.up hb hB, o3.up hb hB, o4.up hb hB, r1, r2, r3, r4, r5, r6, r7, r8, r9, Nat.le_trans r10 hb.size⟩
theorem OwnD.wide {lo hi lo' hi' : Nat} {w : World} {v : Value} {d : DeskD} (h : OwnD lo hi w v d) (a : lo' ≤ lo) (b : hi ≤ hi') : OwnD lo' hi' w v d := by
  obtain ⟨va, vb, vc, vs, vj, vw, l1, h1, l2, h2, l3, h3, l4, h4, e, o1, o2, o3, o4, r1, r2, r3, r4, r5, r6, r7, r8, r9, r10⟩ := h
  exact ⟨va, vb, vc, vs, vj, vw, l1, h1, l2, h2, l3, h3, l4, h4, e, o1, o2, o3, o4, by omega, r2, r3, r4, r5, r6, r7, r8, by omega, r10⟩
theorem OwnD.kept {lo hi : Nat} {w w' : World} {v : Value} {d : DeskD} {S : Nat → Prop} (h : OwnD lo hi w v d) (hk : Kept S w w') (hs : ∀ b, lo ≤ b → b < hi → ¬ S b) : OwnD lo hi w' v d := by
  obtain ⟨va, vb, vc, vs, vj, vw, l1, h1, l2, h2, l3, h3, l4, h4, e, o1, o2, o3, o4, r1, r2, r3, r4, r5, r6, r7, r8, r9, r10⟩ := h
  exact ⟨va, vb, vc, vs, vj, vw, l1, h1, l2, h2, l3, h3, l4, h4, e, o1.kept hk (fun b a c => hs b (by omega) (by omega)), o2.kept hk (fun b a c => hs b (by omega) (by omega)), o3.kept hk (fun b a c => hs b (by omega) (by omega)), o4.kept hk (fun b a c => hs b (by omega) (by omega)), r1, r2, r3, r4, r5, r6, r7, r8, r9, Nat.le_trans r10 hk.size⟩

set_option maxHeartbeats 1000000 in
set_option maxRecDepth 4000 in
theorem eqD_same (v v' : Value) (d : DeskD) (w : World) (h : RdD w v d) (h' : RdD w v' d) :
    Calls Try.prog 64 #[v, v'] w fun e w' => e = .returned (.bool true) ∧ Below w.heap.size w w' := by
  obtain ⟨a1, c1, a2, c2, a3, c3, a4, c4, a5, c5, a6, c6, rfl⟩ := h.shape
  obtain ⟨b1, e1, b2, e2, b3, e3, b4, e4, b5, e5, b6, e6, rfl⟩ := h'.shape
  obtain ⟨p1, p2, p3, p4⟩ := h.parts
  obtain ⟨q1, q2, q3, q4⟩ := h'.parts
  obtain ⟨⟨n0, x1, x2, x3⟩, y1, y2, y3⟩ := d
  simp only at p1 p2 p3 p4 q1 q2 q3 q4 ⊢
  have P1 := Lib.hid p1
  have P2 := Lib.hid p2
  have P3 := Lib.hid p3
  have P4 := Lib.hid p4
  have Q1 := Lib.hid q1
  have Q2 := Lib.hid q2
  have Q3 := Lib.hid q3
  have Q4 := Lib.hid q4
  clear h h' p1 p2 p3 p4 q1 q2 q3 q4
  go_enter Try.func64, Try.ntmps64
  go_wp2_with fail
  refine Calls.at fun W hW => ?_
  have HB := Lib.hid (show Below w.heap.size w W by subst hW; (repeat' first | exact Below.refl _ _ | assumption | refine Below.alloc ?_ ?_ _ | refine Below.setCell ?_ ?_ _ | refine Below.drew ?_ | (simp; done) | (simp; omega)))
  have HK := Lib.hid (show Blk W w.heap.size 79 #[.int .i64 n0, .slice a1 x1.length c1, .slice a2 x2.length c2, .slice a3 x3.length c3, .slice a4 y1.length c4, .slice a5 y2.length c5, .slice a6 y3.length c6] by subst hW; exact (Blk.new _ _ _).alloc _)
  have HL := Lib.hid (show Blk W (w.heap.size + 1) 79 #[.int .i64 n0, .slice b1 x1.length e1, .slice b2 x2.length e2, .slice b3 x3.length e3, .slice b4 y1.length e4, .slice b5 y2.length e5, .slice b6 y3.length e6] by subst hW; simpa using Blk.new (w.alloc (.cells #[.int .i64 n0, .slice a1 x1.length c1, .slice a2 x2.length c2, .slice a3 x3.length c3, .slice a4 y1.length c4, .slice a5 y2.length c5, .slice a6 y3.length c6] 79)) 79 #[.int .i64 n0, .slice b1 x1.length e1, .slice b2 x2.length e2, .slice b3 x3.length e3, .slice b4 y1.length e4, .slice b5 y2.length e5, .slice b6 y3.length e6])
  clear hW
  refine (eqR_same _ _ ⟨n0, x1, x2, x3⟩ W (P1.out.up HB.out (Nat.le_refl _)) (Q1.out.up HB.out (Nat.le_refl _))).mono ?_
  rintro e w1 ⟨rfl, hb1⟩
  have HB1 := Lib.hid (HB.out.trans (hb1.mono HB.out.size))
  have HK1 := Lib.hid (HK.out.below hb1 HK.out.lt)
  have HL1 := Lib.hid (HL.out.below hb1 HL.out.lt)
  clear hb1
  have d2 : w1.cell? ⟨w.heap.size, 4, none⟩ = some (.slice a4 y1.length c4) := HK1.out.cell 4 rfl
  have g2 : w1.cell? ⟨w.heap.size + 1, 4, none⟩ = some (.slice b4 y1.length e4) := HL1.out.cell 4 rfl
  go_wp2_with fail
  refine (eqI_same _ _ y1 w1 (P2.out.up HB1.out (Nat.le_refl _)) (Q2.out.up HB1.out (Nat.le_refl _))).mono ?_
  rintro e w2 ⟨rfl, hb2⟩
  have HB2 := Lib.hid (HB1.out.trans (hb2.mono HB1.out.size))
  have HK2 := Lib.hid (HK1.out.below hb2 HK1.out.lt)
  have HL2 := Lib.hid (HL1.out.below hb2 HL1.out.lt)
  clear hb2
  have d3 : w2.cell? ⟨w.heap.size, 5, none⟩ = some (.slice a5 y2.length c5) := HK2.out.cell 5 rfl
  have g3 : w2.cell? ⟨w.heap.size + 1, 5, none⟩ = some (.slice b5 y2.length e5) := HL2.out.cell 5 rfl
  go_wp2_with fail
  refine (eqJ_same _ _ y2 w2 (P3.out.up HB2.out (Nat.le_refl _)) (Q3.out.up HB2.out (Nat.le_refl _))).mono ?_
  rintro e w3 ⟨rfl, hb3⟩
  have HB3 := Lib.hid (HB2.out.trans (hb3.mono HB2.out.size))
  have HK3 := Lib.hid (HK2.out.below hb3 HK2.out.lt)
  have HL3 := Lib.hid (HL2.out.below hb3 HL2.out.lt)
  clear hb3
  have d4 : w3.cell? ⟨w.heap.size, 6, none⟩ = some (.slice a6 y3.length c6) := HK3.out.cell 6 rfl
  have g4 : w3.cell? ⟨w.heap.size + 1, 6, none⟩ = some (.slice b6 y3.length e6) := HL3.out.cell 6 rfl
  go_wp2_with fail
  refine (eqI_same _ _ y3 w3 (P4.out.up HB3.out (Nat.le_refl _)) (Q4.out.up HB3.out (Nat.le_refl _))).mono ?_
  rintro e w4 ⟨rfl, hb4⟩
  have HB4 := Lib.hid (HB3.out.trans (hb4.mono HB3.out.size))
  clear hb4
  go_wp2_with fail
  go_ret
  exact ⟨rfl, HB4.out⟩

def mkdD (k : Int) (d : DeskD) : DeskD := ⟨mkdR k d.rows, mkdI (k + cntR d.rows) d.sizes, mkdJ (k + cntR d.rows + d.sizes.length) d.jobs, mkdI (k + cntR d.rows + d.sizes.length + d.jobs.length * 4) d.ways⟩

set_option maxHeartbeats 1000000 in
set_option maxRecDepth 4000 in
theorem markD_o (v : Value) (lo hi : Nat) (d : DeskD) (k : Int) (w : World) (ho : OwnD lo hi w v d) (h0 : 0 ≤ k) (h1 : k + cntD d ≤ 1099511627776) :
    Calls Try.prog 65 #[v, .int .i64 k] w fun e w' => e = .returned (.int .i64 (k + cntD d)) ∧ OwnD lo hi w' v (mkdD k d) ∧ Kept (fun b => lo ≤ b ∧ b < hi) w w' := by
  obtain ⟨a1, c1, a2, c2, a3, c3, a4, c4, a5, c5, a6, c6, hv⟩ := ho.rd.shape
  obtain ⟨va, vb, vc, vs, vj, vw, l1, h1', l2, h2, l3, h3, l4, h4, e, o1, o2, o3, o4, r1, r2, r3, r4, r5, r6, r7, r8, r9, r10⟩ := ho
  rw [e] at hv
  simp only [Value.agg.injEq, Array.mk.injEq, List.cons.injEq, and_true] at hv
  obtain ⟨_, rfl, rfl, rfl, rfl, rfl, rfl⟩ := hv
  subst e
  obtain ⟨⟨n0, x1, x2, x3⟩, y1, y2, y3⟩ := d
  unfold cntD mkdD at *
  simp only at o1 o2 o3 o4 h1 ⊢
  obtain ⟨C, hC⟩ : ∃ C, C = cntR ⟨n0, x1, x2, x3⟩ := ⟨_, rfl⟩
  rw [← hC] at h1 ⊢
  have HC := Lib.hid hC
  have O1 := Lib.hid o1
  have O2 := Lib.hid o2
  have O3 := Lib.hid o3
  have O4 := Lib.hid o4
  have b1 : k + C ≤ 1099511627776 := by omega
  have b2 : k + C + y1.length ≤ 1099511627776 := by omega
  have b3 : k + C + y1.length + y2.length * 4 ≤ 1099511627776 := by omega
  have b4 : k + C + y1.length + y2.length * 4 + y3.length ≤ 1099511627776 := by omega
  clear o1 o2 o3 o4 h1 hC
  go_enter Try.func65, Try.ntmps65
  go_wp2_with fail
  refine Calls.at fun W hW => ?_
  have HB := Lib.hid (show Below w.heap.size w W by subst hW; (repeat' first | exact Below.refl _ _ | assumption | refine Below.alloc ?_ ?_ _ | refine Below.setCell ?_ ?_ _ | refine Below.drew ?_ | (simp; done) | (simp; omega)))
  have HK := Lib.hid (show Blk W w.heap.size 79 #[.int .i64 n0, .slice a1 x1.length c1, .slice a2 x2.length c2, .slice a3 x3.length c3, .slice a4 y1.length c4, .slice a5 y2.length c5, .slice a6 y3.length c6] by subst hW; exact Blk.new _ _ _)
  clear hW
  have OW1 := Lib.hid (O1.out.up HB.out (Nat.le_refl _))
  have OW2 := Lib.hid (O2.out.up HB.out (Nat.le_refl _))
  have OW3 := Lib.hid (O3.out.up HB.out (Nat.le_refl _))
  have OW4 := Lib.hid (O4.out.up HB.out (Nat.le_refl _))
  have hzW := HB.out.size
  have hKl := HK.out.lt
  refine (markR_o _ l1 h1' ⟨n0, x1, x2, x3⟩ k W OW1.out h0 (by rw [← HC.out]; exact b1)).mono ?_
  rintro e w1 ⟨rfl, m1, k1⟩
  rw [← HC.out]
  have HK1 := Lib.hid (HK.out.kept k1 (by omega))
  have M1 := Lib.hid m1
  have OX2 := Lib.hid (OW2.out.kept k1 (by intro b q1 q2 q3; omega))
  have OX3 := Lib.hid (OW3.out.kept k1 (by intro b q1 q2 q3; omega))
  have OX4 := Lib.hid (OW4.out.kept k1 (by intro b q1 q2 q3; omega))
  have KK1 := Lib.hid ((Kept.of_below HB.out (Nat.le_refl _)).trans (k1.mono (S' := fun b => lo ≤ b ∧ b < hi) (by intro b _ q; omega)))
  clear m1 k1
  have d4 : w1.cell? ⟨w.heap.size, 4, none⟩ = some (.slice a4 y1.length c4) := HK1.out.cell 4 rfl
  go_wp2_with fail
  refine (markI_o _ l2 h2 y1 (k + C) w1 OX2.out (by omega) b2).mono ?_
  rintro e w2 ⟨rfl, m2, k2⟩
  have HK2 := Lib.hid (HK1.out.kept k2 (by omega))
  have M12 := Lib.hid (M1.out.kept k2 (by intro b q1 q2 q3; omega))
  have M2 := Lib.hid m2
  have OY3 := Lib.hid (OX3.out.kept k2 (by intro b q1 q2 q3; omega))
  have OY4 := Lib.hid (OX4.out.kept k2 (by intro b q1 q2 q3; omega))
  have KK2 := Lib.hid (KK1.out.trans (k2.mono (S' := fun b => lo ≤ b ∧ b < hi) (by intro b _ q; omega)))
  clear m2 k2 d4
  have d5 : w2.cell? ⟨w.heap.size, 5, none⟩ = some (.slice a5 y2.length c5) := HK2.out.cell 5 rfl
  go_wp2_with fail
  refine (markJ_o _ l3 h3 y2 (k + C + y1.length) w2 OY3.out (by omega) b3).mono ?_
  rintro e w3 ⟨rfl, m3, k3⟩
  have HK3 := Lib.hid (HK2.out.kept k3 (by omega))
  have M13 := Lib.hid (M12.out.kept k3 (by intro b q1 q2 q3; omega))
  have M23 := Lib.hid (M2.out.kept k3 (by intro b q1 q2 q3; omega))
  have M3 := Lib.hid m3
  have OZ4 := Lib.hid (OY4.out.kept k3 (by intro b q1 q2 q3; omega))
  have KK3 := Lib.hid (KK2.out.trans (k3.mono (S' := fun b => lo ≤ b ∧ b < hi) (by intro b _ q; omega)))
  unfold cntJ
  clear m3 k3 d5
  have d6 : w3.cell? ⟨w.heap.size, 6, none⟩ = some (.slice a6 y3.length c6) := HK3.out.cell 6 rfl
  go_wp2_with fail
  refine (markI_o _ l4 h4 y3 (k + C + y1.length + y2.length * 4) w3 OZ4.out (by omega) b4).mono ?_
  rintro e w4 ⟨rfl, m4, k4⟩
  have M14 := Lib.hid (M13.out.kept k4 (by intro b q1 q2 q3; omega))
  have M24 := Lib.hid (M23.out.kept k4 (by intro b q1 q2 q3; omega))
  have M34 := Lib.hid (M3.out.kept k4 (by intro b q1 q2 q3; omega))
  have M4 := Lib.hid m4
  have KK4 := Lib.hid (KK3.out.trans (k4.mono (S' := fun b => lo ≤ b ∧ b < hi) (by intro b _ q; omega)))
  unfold cntI
  clear m4 k4 d6
  go_wp2_with fail
  go_ret
  refine ⟨congrArg (fun x => Ending.returned (Value.int IntKind.i64 x)) (by push_cast; omega), ?_, KK4.out⟩
  have hz4 := KK4.out.size
  exact ⟨_, _, _, _, _, _, l1, h1', l2, h2, l3, h3, l4, h4, rfl, M14.out, M24.out, M34.out, M4.out, r1, r2, r3, r4, r5, r6, r7, r8, r9, by omega⟩

set_option maxHeartbeats 1000000 in
set_option maxRecDepth 4000 in
theorem heldD_o (v : Value) (d : DeskD) (k : Int) (w : World) (h : RdD w v (mkdD k d)) (h0 : 0 ≤ k) (h1 : k + cntD d ≤ 1099511627776) :
    Calls Try.prog 66 #[v, .int .i64 k] w fun e w' => e = .returned (.int .i64 (k + cntD d)) ∧ Below w.heap.size w w' := by
  obtain ⟨a1, c1, a2, c2, a3, c3, a4, c4, a5, c5, a6, c6, rfl⟩ := h.shape
  obtain ⟨p1, p2, p3, p4⟩ := h.parts
  obtain ⟨⟨n0, x1, x2, x3⟩, y1, y2, y3⟩ := d
  unfold cntD mkdD at *
  simp only at p1 p2 p3 p4 h1 ⊢
  obtain ⟨C, hC⟩ : ∃ C, C = cntR ⟨n0, x1, x2, x3⟩ := ⟨_, rfl⟩
  rw [← hC] at h1 p2 p3 p4 ⊢
  have HC := Lib.hid hC
  have P1 := Lib.hid p1
  have P2 := Lib.hid p2
  have P3 := Lib.hid p3
  have P4 := Lib.hid p4
  have b1 : k + C ≤ 1099511627776 := by omega
  have b2 : k + C + y1.length ≤ 1099511627776 := by omega
  have b3 : k + C + y1.length + y2.length * 4 ≤ 1099511627776 := by omega
  have b4 : k + C + y1.length + y2.length * 4 + y3.length ≤ 1099511627776 := by omega
  clear h p1 p2 p3 p4 h1 hC
  obtain ⟨vv, hvv⟩ : ∃ vv, vv = (mkdR k ⟨n0, x1, x2, x3⟩).vars := ⟨_, rfl⟩
  obtain ⟨m1, hm1⟩ : ∃ m, m = (mkdR k ⟨n0, x1, x2, x3⟩).nums.length := ⟨_, rfl⟩
  obtain ⟨m2, hm2⟩ : ∃ m, m = (mkdR k ⟨n0, x1, x2, x3⟩).bnds.length := ⟨_, rfl⟩
  obtain ⟨m3, hm3⟩ : ∃ m, m = (mkdR k ⟨n0, x1, x2, x3⟩).gains.length := ⟨_, rfl⟩
  obtain ⟨m4, hm4⟩ : ∃ m, m = (mkdI (k + C) y1).length := ⟨_, rfl⟩
  obtain ⟨m5, hm5⟩ : ∃ m, m = (mkdJ (k + C + y1.length) y2).length := ⟨_, rfl⟩
  obtain ⟨m6, hm6⟩ : ∃ m, m = (mkdI (k + C + y1.length + y2.length * 4) y3).length := ⟨_, rfl⟩
  rw [← hvv, ← hm1, ← hm2, ← hm3] at P1 ⊢
  rw [← hm4] at P2 ⊢
  rw [← hm5] at P3 ⊢
  rw [← hm6] at P4 ⊢
  clear hvv hm1 hm2 hm3 hm4 hm5 hm6
  go_enter Try.func66, Try.ntmps66
  go_wp2_with fail
  refine Calls.at fun W hW => ?_
  have HB := Lib.hid (show Below w.heap.size w W by subst hW; (repeat' first | exact Below.refl _ _ | assumption | refine Below.alloc ?_ ?_ _ | refine Below.setCell ?_ ?_ _ | refine Below.drew ?_ | (simp; done) | (simp; omega)))
  have HK := Lib.hid (show Blk W w.heap.size 79 #[.int .i64 vv, .slice a1 m1 c1, .slice a2 m2 c2, .slice a3 m3 c3, .slice a4 m4 c4, .slice a5 m5 c5, .slice a6 m6 c6] by subst hW; exact Blk.new _ _ _)
  clear hW
  refine (heldR_o _ ⟨n0, x1, x2, x3⟩ k W (P1.out.up HB.out (Nat.le_refl _)) h0 (by rw [← HC.out]; exact b1)).mono ?_
  rintro e w1 ⟨rfl, hb1⟩
  rw [← HC.out]
  have HB1 := Lib.hid (HB.out.trans (hb1.mono HB.out.size))
  have HK1 := Lib.hid (HK.out.below hb1 HK.out.lt)
  clear hb1
  have d4 : w1.cell? ⟨w.heap.size, 4, none⟩ = some (.slice a4 m4 c4) := HK1.out.cell 4 rfl
  have e1 : ¬ (k + (C : Int) < 0) := by omega
  go_wp2_with fail
  refine (heldI_o _ y1 (k + C) w1 (P2.out.up HB1.out (Nat.le_refl _)) (by omega) b2).mono ?_
  rintro e w2 ⟨rfl, hb2⟩
  unfold cntI
  have HB2 := Lib.hid (HB1.out.trans (hb2.mono HB1.out.size))
  have HK2 := Lib.hid (HK1.out.below hb2 HK1.out.lt)
  clear hb2 d4
  have d5 : w2.cell? ⟨w.heap.size, 5, none⟩ = some (.slice a5 m5 c5) := HK2.out.cell 5 rfl
  have e2 : ¬ (k + (C : Int) + (y1.length : Int) < 0) := by omega
  go_wp2_with fail
  refine (heldJ_o _ y2 (k + C + y1.length) w2 (P3.out.up HB2.out (Nat.le_refl _)) (by omega) b3).mono ?_
  rintro e w3 ⟨rfl, hb3⟩
  unfold cntJ
  have HB3 := Lib.hid (HB2.out.trans (hb3.mono HB2.out.size))
  have HK3 := Lib.hid (HK2.out.below hb3 HK2.out.lt)
  clear hb3 d5
  have d6 : w3.cell? ⟨w.heap.size, 6, none⟩ = some (.slice a6 m6 c6) := HK3.out.cell 6 rfl
  have e3 : ¬ (k + (C : Int) + (y1.length : Int) + ((y2.length * 4 : Nat) : Int) < 0) := by omega
  go_wp2_with fail
  refine (heldI_o _ y3 (k + C + y1.length + y2.length * 4) w3 (P4.out.up HB3.out (Nat.le_refl _)) (by omega) b4).mono ?_
  rintro e w4 ⟨rfl, hb4⟩
  unfold cntI
  have HB4 := Lib.hid (HB3.out.trans (hb4.mono HB3.out.size))
  clear hb4 d6
  have e4 : ¬ (k + (C : Int) + (y1.length : Int) + (y2.length : Int) * 4 + (y3.length : Int) < 0) := by omega
  go_wp2_with fail
  go_ret
  exact ⟨congrArg (fun x => Ending.returned (Value.int IntKind.i64 x)) (by push_cast; omega), HB4.out⟩

end Go.Proofs.Ytkcpncaedocdnaa
