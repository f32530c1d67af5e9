/-
  Desks, by value: rows, sizes, jobs and ways, each in blocks of their own, one part behind another.
-/
import Derived.Test.YtljhohacgceojaaRowsO
import Derived.Test.YtljhohacgceojaaMarkJ
namespace Go.Proofs.Ytljhohacgceojaa
open Go.RowKit

structure DeskD where
  rows : RowsD
  sizes : List Int
  jobs : List JobD
  ways : List Int

def RdD (w : World) (v : Value) (d : DeskD) : Prop := ∃ va vb vc vs vj vw, v = .agg #[.int .i64 d.rows.vars, va, vb, vc, vs, vj, vw] ∧ RdR w (.agg #[.int .i64 d.rows.vars, va, vb, vc]) d.rows ∧ RdI w vs d.sizes ∧ RdJ w vj d.jobs ∧ RdI w vw d.ways
def OwnD (lo hi : Nat) (w : World) (v : Value) (d : DeskD) : Prop := ∃ va vb vc vs vj vw l1 h1 l2 h2 l3 h3 l4 h4, v = .agg #[.int .i64 d.rows.vars, va, vb, vc, vs, vj, vw] ∧ OwnR l1 h1 w (.agg #[.int .i64 d.rows.vars, va, vb, vc]) d.rows ∧ OwnI l2 h2 w vs d.sizes ∧ OwnJ l3 h3 w vj d.jobs ∧ OwnI l4 h4 w vw d.ways ∧
  lo ≤ l1 ∧ l1 ≤ h1 ∧ h1 ≤ l2 ∧ l2 ≤ h2 ∧ h2 ≤ l3 ∧ l3 ≤ h3 ∧ h3 ≤ l4 ∧ l4 ≤ h4 ∧ h4 ≤ hi ∧ h4 ≤ w.heap.size
def bulkD (d : DeskD) : Nat := bulkR d.rows + d.sizes.length + d.jobs.length + d.ways.length
def cntD (d : DeskD) : Nat := cntR d.rows + d.sizes.length + d.jobs.length * 4 + d.ways.length

theorem RdD.shape {w : World} {v : Value} {d : DeskD} (h : RdD w v d) : ∃ a1 c1 a2 c2 a3 c3 a4 c4 a5 c5 a6 c6, v = .agg #[.int .i64 d.rows.vars, .slice a1 d.rows.nums.length c1, .slice a2 d.rows.bnds.length c2, .slice a3 d.rows.gains.length c3, .slice a4 d.sizes.length c4, .slice a5 d.jobs.length c5, .slice a6 d.ways.length c6] := by
  obtain ⟨va, vb, vc, vs, vj, vw, rfl, h1, h2, h3, h4⟩ := h
  obtain ⟨a1, c1, a2, c2, a3, c3, e⟩ := h1.shape
  simp only [Value.agg.injEq, Array.mk.injEq, List.cons.injEq, and_true, true_and] at e
  obtain ⟨rfl, rfl, rfl⟩ := e
  obtain ⟨a4, c4, rfl⟩ := h2.shape
  obtain ⟨a5, c5, rfl⟩ := h3.shape
  obtain ⟨a6, c6, rfl⟩ := h4.shape
  exact ⟨_, _, _, _, _, _, _, _, _, _, _, _, rfl⟩
theorem RdD.parts {w : World} {x0 x1 x2 x3 y z u : Value} {d : DeskD} (h : RdD w (.agg #[x0, x1, x2, x3, y, z, u]) d) : RdR w (.agg #[x0, x1, x2, x3]) d.rows ∧ RdI w y d.sizes ∧ RdJ w z d.jobs ∧ RdI w u d.ways := by
  obtain ⟨va, vb, vc, vs, vj, vw, e, h1, h2, h3, h4⟩ := h
  simp only [Value.agg.injEq, Array.mk.injEq, List.cons.injEq, and_true] at e
  obtain ⟨rfl, rfl, rfl, rfl, rfl, rfl, rfl⟩ := e
  exact ⟨h1, h2, h3, h4⟩
theorem RdD.up {w w' : World} {v : Value} {d : DeskD} {B : Nat} (h : RdD w v d) (hb : Below B w w') (hB : w.heap.size ≤ B) : RdD w' v d := by
  obtain ⟨va, vb, vc, vs, vj, vw, e, h1, h2, h3, h4⟩ := h
  exact ⟨va, vb, vc, vs, vj, vw, e, h1.up hb hB, h2.up hb hB, h3.up hb hB, h4.up hb hB⟩
theorem OwnD.rd {lo hi : Nat} {w : World} {v : Value} {d : DeskD} (h : OwnD lo hi w v d) : RdD w v d := by
  obtain ⟨va, vb, vc, vs, vj, vw, l1, h1, l2, h2, l3, h3, l4, h4, e, o1, o2, o3, o4, _⟩ := h
  exact ⟨va, vb, vc, vs, vj, vw, e, o1.rd, o2.rd, o3.rd, o4.rd⟩
theorem OwnD.up {lo hi : Nat} {w w' : World} {v : Value} {d : DeskD} {B : Nat} (h : OwnD lo hi w v d) (hb : Below B w w') (hB : w.heap.size ≤ B) : OwnD lo hi w' v d := by
  obtain ⟨va, vb, vc, vs, vj, vw, l1, h1, l2, h2, l3, h3, l4, h4, e, o1, o2, o3, o4, r1, r2, r3, r4, r5, r6, r7, r8, r9, r10⟩ := h
  exact ⟨va, vb, vc, vs, vj, vw, l1, h1, l2, h2, l3, h3, l4, h4, e, o1.up hb hB, o2.up hb hB, o3.up hb hB, o4.up hb hB, r1, r2, r3, r4, r5, r6, r7, r8, r9, Nat.le_trans r10 hb.size⟩
theorem OwnD.wide {lo hi lo' hi' : Nat} {w : World} {v : Value} {d : DeskD} (h : OwnD lo hi w v d) (a : lo' ≤ lo) (b : hi ≤ hi') : OwnD lo' hi' w v d := by
  obtain ⟨va, vb, vc, vs, vj, vw, l1, h1, l2, h2, l3, h3, l4, h4, e, o1, o2, o3, o4, r1, r2, r3, r4, r5, r6, r7, r8, r9, r10⟩ := h
  exact ⟨va, vb, vc, vs, vj, vw, l1, h1, l2, h2, l3, h3, l4, h4, e, o1, o2, o3, o4, by omega, r2, r3, r4, r5, r6, r7, r8, by omega, r10⟩
theorem OwnD.kept {lo hi : Nat} {w w' : World} {v : Value} {d : DeskD} {S : Nat → Prop} (h : OwnD lo hi w v d) (hk : Kept S w w') (hs : ∀ b, lo ≤ b → b < hi → ¬ S b) : OwnD lo hi w' v d := by
  obtain ⟨va, vb, vc, vs, vj, vw, l1, h1, l2, h2, l3, h3, l4, h4, e, o1, o2, o3, o4, r1, r2, r3, r4, r5, r6, r7, r8, r9, r10⟩ := h
  exact ⟨va, vb, vc, vs, vj, vw, l1, h1, l2, h2, l3, h3, l4, h4, e, o1.kept hk (fun b a c => hs b (by omega) (by omega)), o2.kept hk (fun b a c => hs b (by omega) (by omega)), o3.kept hk (fun b a c => hs b (by omega) (by omega)), o4.kept hk (fun b a c => hs b (by omega) (by omega)), r1, r2, r3, r4, r5, r6, r7, r8, r9, Nat.le_trans r10 hk.size⟩

set_option maxHeartbeats 1000000 in
set_option maxRecDepth 4000 in
theorem eqD_same (v v' : Value) (d : DeskD) (w : World) (h : RdD w v d) (h' : RdD w v' d) :
    Calls Try.prog 41 #[v, v'] w fun e w' => e = .returned (.bool true) ∧ Below w.heap.size w w' := by
  obtain ⟨a1, c1, a2, c2, a3, c3, a4, c4, a5, c5, a6, c6, rfl⟩ := h.shape
  obtain ⟨b1, e1, b2, e2, b3, e3, b4, e4, b5, e5, b6, e6, rfl⟩ := h'.shape
  obtain ⟨p1, p2, p3, p4⟩ := h.parts
  obtain ⟨q1, q2, q3, q4⟩ := h'.parts
  obtain ⟨⟨n0, x1, x2, x3⟩, y1, y2, y3⟩ := d
  simp only at p1 p2 p3 p4 q1 q2 q3 q4 ⊢
  have P1 := Lib.hid p1
  have P2 := Lib.hid p2
  have P3 := Lib.hid p3
  have P4 := Lib.hid p4
  have Q1 := Lib.hid q1
  have Q2 := Lib.hid q2
  have Q3 := Lib.hid q3
  have Q4 := Lib.hid q4
  clear h h' p1 p2 p3 p4 q1 q2 q3 q4
  go_enter Try.func41, Try.ntmps41
  go_wp2_with fail
  refine Calls.at fun W hW => ?_
  have HB := Lib.hid (show Below w.heap.size w W by subst hW; (repeat' first | exact Below.refl _ _ | assumption | refine Below.alloc ?_ ?_ _ | refine Below.setCell ?_ ?_ _ | refine Below.drew ?_ | (simp; done) | (simp; omega)))
  have HK := Lib.hid (show Blk W w.heap.size 69 #[.int .i64 n0, .slice a1 x1.length c1, .slice a2 x2.length c2, .slice a3 x3.length c3, .slice a4 y1.length c4, .slice a5 y2.length c5, .slice a6 y3.length c6] by subst hW; exact (Blk.new _ _ _).alloc _)
  have HL := Lib.hid (show Blk W (w.heap.size + 1) 69 #[.int .i64 n0, .slice b1 x1.length e1, .slice b2 x2.length e2, .slice b3 x3.length e3, .slice b4 y1.length e4, .slice b5 y2.length e5, .slice b6 y3.length e6] by subst hW; simpa using Blk.new (w.alloc (.cells #[.int .i64 n0, .slice a1 x1.length c1, .slice a2 x2.length c2, .slice a3 x3.length c3, .slice a4 y1.length c4, .slice a5 y2.length c5, .slice a6 y3.length c6] 69)) 69 #[.int .i64 n0, .slice b1 x1.length e1, .slice b2 x2.length e2, .slice b3 x3.length e3, .slice b4 y1.length e4, .slice b5 y2.length e5, .slice b6 y3.length e6])
  clear hW
  refine (eqR_same _ _ ⟨n0, x1, x2, x3⟩ W (P1.out.up HB.out (Nat.le_refl _)) (Q1.out.up HB.out (Nat.le_refl _))).mono ?_
  rintro e w1 ⟨rfl, hb1⟩
  have HB1 := Lib.hid (HB.out.trans (hb1.mono HB.out.size))
  have HK1 := Lib.hid (HK.out.below hb1 HK.out.lt)
  have HL1 := Lib.hid (HL.out.below hb1 HL.out.lt)
  clear hb1
  have d2 : w1.cell? ⟨w.heap.size, 4, none⟩ = some (.slice a4 y1.length c4) := HK1.out.cell 4 rfl
  have g2 : w1.cell? ⟨w.heap.size + 1, 4, none⟩ = some (.slice b4 y1.length e4) := HL1.out.cell 4 rfl
  go_wp2_with fail
  refine (eqI_same _ _ y1 w1 (P2.out.up HB1.out (Nat.le_refl _)) (Q2.out.up HB1.out (Nat.le_refl _))).mono ?_
  rintro e w2 ⟨rfl, hb2⟩
  have HB2 := Lib.hid (HB1.out.trans (hb2.mono HB1.out.size))
  have HK2 := Lib.hid (HK1.out.below hb2 HK1.out.lt)
  have HL2 := Lib.hid (HL1.out.below hb2 HL1.out.lt)
  clear hb2
  have d3 : w2.cell? ⟨w.heap.size, 5, none⟩ = some (.slice a5 y2.length c5) := HK2.out.cell 5 rfl
  have g3 : w2.cell? ⟨w.heap.size + 1, 5, none⟩ = some (.slice b5 y2.length e5) := HL2.out.cell 5 rfl
  go_wp2_with fail
  refine (eqJ_same _ _ y2 w2 (P3.out.up HB2.out (Nat.le_refl _)) (Q3.out.up HB2.out (Nat.le_refl _))).mono ?_
  rintro e w3 ⟨rfl, hb3⟩
  have HB3 := Lib.hid (HB2.out.trans (hb3.mono HB2.out.size))
  have HK3 := Lib.hid (HK2.out.below hb3 HK2.out.lt)
  have HL3 := Lib.hid (HL2.out.below hb3 HL2.out.lt)
  clear hb3
  have d4 : w3.cell? ⟨w.heap.size, 6, none⟩ = some (.slice a6 y3.length c6) := HK3.out.cell 6 rfl
  have g4 : w3.cell? ⟨w.heap.size + 1, 6, none⟩ = some (.slice b6 y3.length e6) := HL3.out.cell 6 rfl
  go_wp2_with fail
  refine (eqI_same _ _ y3 w3 (P4.out.up HB3.out (Nat.le_refl _)) (Q4.out.up HB3.out (Nat.le_refl _))).mono ?_
  rintro e w4 ⟨rfl, hb4⟩
  have HB4 := Lib.hid (HB3.out.trans (hb4.mono HB3.out.size))
  clear hb4
  go_wp2_with fail
  go_ret
  exact ⟨rfl, HB4.out⟩

def mkdD (k : Int) (d : DeskD) : DeskD := ⟨mkdR k d.rows, mkdI (k + cntR d.rows) d.sizes, mkdJ (k + cntR d.rows + d.sizes.length) d.jobs, mkdI (k + cntR d.rows + d.sizes.length + d.jobs.length * 4) d.ways⟩

end Go.Proofs.Ytljhohacgceojaa
