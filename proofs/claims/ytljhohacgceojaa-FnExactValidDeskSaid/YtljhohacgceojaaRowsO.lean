/-
  Rows, by value: an integer and three lists of numbers.
-/
import Derived.Test.YtljhohacgceojaaMarkF
namespace Go.Proofs.Ytljhohacgceojaa
open Go.RowKit

structure RowsD where
  vars : Int
  nums : List Nat
  bnds : List Nat
  gains : List Nat

def RdR (w : World) (v : Value) (r : RowsD) : Prop := ∃ va vb vc, v = .agg #[.int .i64 r.vars, va, vb, vc] ∧ RdF w va r.nums ∧ RdF w vb r.bnds ∧ RdF w vc r.gains
def OwnR (lo hi : Nat) (w : World) (v : Value) (r : RowsD) : Prop := ∃ va vb vc, v = .agg #[.int .i64 r.vars, va, vb, vc] ∧ OwnF lo hi w va r.nums ∧ OwnF lo hi w vb r.bnds ∧ OwnF lo hi w vc r.gains ∧ (∀ g, va.ownBlock = some g → vb.ownBlock ≠ some g) ∧ (∀ g, va.ownBlock = some g → vc.ownBlock ≠ some g) ∧ (∀ g, vb.ownBlock = some g → vc.ownBlock ≠ some g)
def bulkR (r : RowsD) : Nat := r.nums.length + r.bnds.length + r.gains.length
def cntR (r : RowsD) : Nat := r.nums.length + r.bnds.length + r.gains.length
theorem cntR_le (r : RowsD) : cntR r ≤ bulkR r := Nat.le_refl _

theorem RdR.shape {w : World} {v : Value} {r : RowsD} (h : RdR w v r) : ∃ a1 c1 a2 c2 a3 c3, v = .agg #[.int .i64 r.vars, .slice a1 r.nums.length c1, .slice a2 r.bnds.length c2, .slice a3 r.gains.length c3] := by
  obtain ⟨va, vb, vc, rfl, h1, h2, h3⟩ := h
  obtain ⟨a1, c1, rfl⟩ := h1.shape
  obtain ⟨a2, c2, rfl⟩ := h2.shape
  obtain ⟨a3, c3, rfl⟩ := h3.shape
  exact ⟨_, _, _, _, _, _, rfl⟩
theorem RdR.parts {w : World} {x0 x y z : Value} {r : RowsD} (h : RdR w (.agg #[x0, x, y, z]) r) : RdF w x r.nums ∧ RdF w y r.bnds ∧ RdF w z r.gains := by
  obtain ⟨va, vb, vc, e, h1, h2, h3⟩ := h
  simp only [Value.agg.injEq, Array.mk.injEq, List.cons.injEq, and_true] at e
  obtain ⟨_, rfl, rfl, rfl⟩ := e
  exact ⟨h1, h2, h3⟩
theorem RdR.up {w w' : World} {v : Value} {r : RowsD} {B : Nat} (h : RdR w v r) (hb : Below B w w') (hB : w.heap.size ≤ B) : RdR w' v r := by
  obtain ⟨va, vb, vc, e, h1, h2, h3⟩ := h
  exact ⟨va, vb, vc, e, h1.up hb hB, h2.up hb hB, h3.up hb hB⟩
theorem OwnR.rd {lo hi : Nat} {w : World} {v : Value} {r : RowsD} (h : OwnR lo hi w v r) : RdR w v r := by
  obtain ⟨va, vb, vc, e, h1, h2, h3, _⟩ := h
  exact ⟨va, vb, vc, e, h1.rd, h2.rd, h3.rd⟩
theorem OwnR.up {lo hi : Nat} {w w' : World} {v : Value} {r : RowsD} {B : Nat} (h : OwnR lo hi w v r) (hb : Below B w w') (hB : w.heap.size ≤ B) : OwnR lo hi w' v r := by
  obtain ⟨va, vb, vc, e, h1, h2, h3, h4⟩ := h
  exact ⟨va, vb, vc, e, h1.up hb hB, h2.up hb hB, h3.up hb hB, h4⟩
theorem OwnR.wide {lo hi lo' hi' : Nat} {w : World} {v : Value} {r : RowsD} (h : OwnR lo hi w v r) (a : lo' ≤ lo) (b : hi ≤ hi') : OwnR lo' hi' w v r := by
  obtain ⟨va, vb, vc, e, h1, h2, h3, h4⟩ := h
  exact ⟨va, vb, vc, e, h1.wide a b, h2.wide a b, h3.wide a b, h4⟩
theorem OwnR.kept {lo hi : Nat} {w w' : World} {v : Value} {r : RowsD} {S : Nat → Prop} (h : OwnR lo hi w v r) (hk : Kept S w w') (hs : ∀ b, lo ≤ b → b < hi → ¬ S b) : OwnR lo hi w' v r := by
  obtain ⟨va, vb, vc, e, h1, h2, h3, h4⟩ := h
  exact ⟨va, vb, vc, e, h1.kept hk hs, h2.kept hk hs, h3.kept hk hs, h4⟩

set_option maxHeartbeats 1000000 in
theorem szR_any (v : Value) (r : RowsD) (left : Int) (w : World) (h : RdR w v r) (h1 : left ≤ 1048576) (h0 : 0 ≤ left) :
    Calls Try.prog 74 #[v, .int .i64 left] w fun e w' => ∃ s : Int, e = .returned (.int .i64 s) ∧ -1 ≤ s ∧ s ≤ left ∧ (0 ≤ s → (bulkR r : Int) ≤ left - s) ∧ Below w.heap.size w w' := by
  obtain ⟨a1, c1, a2, c2, a3, c3, rfl⟩ := h.shape
  obtain ⟨p1, p2, p3⟩ := h.parts
  obtain ⟨n0, x1, x2, x3⟩ := r
  simp only [bulkR] at p1 p2 p3 ⊢
  have P1 := Lib.hid p1
  have P2 := Lib.hid p2
  have P3 := Lib.hid p3
  clear h p1 p2 p3
  go_enter Try.func74, Try.ntmps74
  go_wp2_with fail
  refine Calls.at fun W hW => ?_
  have HB := Lib.hid (show Below w.heap.size w W by subst hW; (repeat' first | exact Below.refl _ _ | assumption | refine Below.alloc ?_ ?_ _ | refine Below.setCell ?_ ?_ _ | refine Below.drew ?_ | (simp; done) | (simp; omega)))
  have HK := Lib.hid (show Blk W w.heap.size 59 #[.int .i64 n0, .slice a1 x1.length c1, .slice a2 x2.length c2, .slice a3 x3.length c3] by subst hW; exact Blk.new _ _ _)
  clear hW
  refine (szF_any _ x1 left W (P1.out.up HB.out (Nat.le_refl _)) (by omega) (by omega)).mono ?_
  rintro e w1 ⟨s1, rfl, sa1, sb1, sc1, hb1⟩
  have HB1 := Lib.hid (HB.out.trans (hb1.mono HB.out.size))
  have HK1 := Lib.hid (HK.out.below hb1 HK.out.lt)
  clear hb1
  unfold bulkF at sc1
  by_cases hn1 : s1 < 0
  · go_wp2_with fail
    go_ret
    exact ⟨-1, rfl, by omega, by omega, by omega, HB1.out⟩
  have d2 : w1.cell? ⟨w.heap.size, 2, none⟩ = some (.slice a2 x2.length c2) := HK1.out.cell 2 rfl
  go_wp2_with fail
  refine (szF_any _ x2 s1 w1 (P2.out.up HB1.out (Nat.le_refl _)) (by omega) (by omega)).mono ?_
  rintro e w2 ⟨s2, rfl, sa2, sb2, sc2, hb2⟩
  have HB2 := Lib.hid (HB1.out.trans (hb2.mono HB1.out.size))
  have HK2 := Lib.hid (HK1.out.below hb2 HK1.out.lt)
  clear hb2
  unfold bulkF at sc2
  by_cases hn2 : s2 < 0
  · go_wp2_with fail
    go_ret
    exact ⟨-1, rfl, by omega, by omega, by omega, HB2.out⟩
  have d3 : w2.cell? ⟨w.heap.size, 3, none⟩ = some (.slice a3 x3.length c3) := HK2.out.cell 3 rfl
  go_wp2_with fail
  refine (szF_any _ x3 s2 w2 (P3.out.up HB2.out (Nat.le_refl _)) (by omega) (by omega)).mono ?_
  rintro e w3 ⟨s3, rfl, sa3, sb3, sc3, hb3⟩
  have HB3 := Lib.hid (HB2.out.trans (hb3.mono HB2.out.size))
  have HK3 := Lib.hid (HK2.out.below hb3 HK2.out.lt)
  clear hb3
  unfold bulkF at sc3
  by_cases hn3 : s3 < 0
  · go_wp2_with fail
    go_ret
    exact ⟨-1, rfl, by omega, by omega, by omega, HB3.out⟩
  go_wp2_with fail
  go_ret
  exact ⟨s3, rfl, by omega, by omega, by omega, HB3.out⟩

set_option maxHeartbeats 2000000 in
theorem toR_any (v : Value) (r : RowsD) (w : World) (h : RdR w v r) (hb : bulkR r ≤ 1048576) :
    Calls Try.prog 79 #[v] w fun e w' => ∃ v', e = .returned v' ∧ OwnR w.heap.size w'.heap.size w' v' r ∧ Below w.heap.size w w' := by
  obtain ⟨a1, c1, a2, c2, a3, c3, rfl⟩ := h.shape
  obtain ⟨p1, p2, p3⟩ := h.parts
  obtain ⟨n0, x1, x2, x3⟩ := r
  simp only [bulkR] at p1 p2 p3 hb ⊢
  have P1 := Lib.hid p1
  have P2 := Lib.hid p2
  have P3 := Lib.hid p3
  have L1 : Hid (bulkF x1 ≤ 1048576) := by show bulkF x1 ≤ _; unfold bulkF; omega
  have L2 : Hid (bulkF x2 ≤ 1048576) := by show bulkF x2 ≤ _; unfold bulkF; omega
  have L3 : Hid (bulkF x3 ≤ 1048576) := by show bulkF x3 ≤ _; unfold bulkF; omega
  clear h p1 p2 p3 hb
  go_enter Try.func79, Try.ntmps79
  go_wp2_with fail
  refine Calls.at fun W1 hW => ?_
  have hb1 : Below w.heap.size w W1 := by subst hW; (repeat' first | exact Below.refl _ _ | assumption | refine Below.alloc ?_ ?_ _ | refine Below.setCell ?_ ?_ _ | refine Below.drew ?_ | (simp; done) | (simp; omega))
  have hk1 : Blk W1 (w.heap.size + 2) 66 #[.int .i64 n0, .slice none 0 0, .slice none 0 0, .slice none 0 0] := by subst hW; simpa using Blk.new ((w.alloc (.cells #[.int .i64 n0, .slice a1 x1.length c1, .slice a2 x2.length c2, .slice a3 x3.length c3] 59)).alloc (.cells #[.int .i64 0, .slice none 0 0, .slice none 0 0, .slice none 0 0] 66)) 66 #[.int .i64 n0, .slice none 0 0, .slice none 0 0, .slice none 0 0]
  have hk2 : Blk W1 w.heap.size 59 #[.int .i64 n0, .slice a1 x1.length c1, .slice a2 x2.length c2, .slice a3 x3.length c3] := by subst hW; exact ((Blk.new w _ _).alloc _).alloc _
  have hk3 : Blk W1 (w.heap.size + 1) 66 #[.int .i64 0, .slice none 0 0, .slice none 0 0, .slice none 0 0] := by subst hW; simpa using (Blk.new (w.alloc (.cells #[.int .i64 n0, .slice a1 x1.length c1, .slice a2 x2.length c2, .slice a3 x3.length c3] 59)) 66 #[.int .i64 0, .slice none 0 0, .slice none 0 0, .slice none 0 0]).alloc (.cells #[.int .i64 n0, .slice none 0 0, .slice none 0 0, .slice none 0 0] 66)
  have hz1 := hk1.lt
  clear hW
  refine (toF_any _ x1 W1 (P1.out.up hb1 (Nat.le_refl _)) L1.out).mono ?_
  rintro e w1 ⟨y1, rfl, ho1, hbb⟩
  obtain ⟨b1, e1, rfl⟩ := ho1.rd.shape
  have zz1 := hbb.size
  have HB1 := Lib.hid (hb1.trans (hbb.mono hb1.size))
  have HK1 := Lib.hid (hk1.below hbb hk1.lt)
  have HK2 := Lib.hid (hk2.below hbb hk2.lt)
  have HK3 := Lib.hid (hk3.below hbb hk3.lt)
  have O1 := Lib.hid (ho1)
  have c0 : w1.cell? ⟨w.heap.size + 2, 1, none⟩ = some (.slice none 0 0) := HK1.out.cell 1 rfl
  have f0 := HK1.out.free 1
  have d1 : w1.cell? ⟨w.heap.size, 2, none⟩ = some (.slice a2 x2.length c2) := HK2.out.cell 2 rfl
  clear hb1 hbb hk1 hk2 hk3 ho1
  go_wp2_with fail
  refine Calls.at fun W2 hW => ?_
  have z2 : W2.heap.size = w1.heap.size := by subst hW; simp
  have hb2 : Below w.heap.size w W2 := by subst hW; exact HB1.out.setCell (by first | (simp; done) | (simp; omega)) _
  have hk1 : Blk W2 (w.heap.size + 2) 66 #[.int .i64 n0, .slice b1 x1.length e1, .slice none 0 0, .slice none 0 0] := by subst hW; exact HK1.out.set 1 _
  have hk2 : Blk W2 w.heap.size 59 #[.int .i64 n0, .slice a1 x1.length c1, .slice a2 x2.length c2, .slice a3 x3.length c3] := by subst hW; exact HK2.out.other (by first | (simp; done) | (simp; omega)) _
  have hk3 : Blk W2 (w.heap.size + 1) 66 #[.int .i64 0, .slice none 0 0, .slice none 0 0, .slice none 0 0] := by subst hW; exact HK3.out.other (by first | (simp; done) | (simp; omega)) _
  have hks : Kept (· = w.heap.size + 2) w1 W2 := by subst hW; exact Kept.setCell (S := (· = w.heap.size + 2)) (p := ⟨w.heap.size + 1 + 1, 1, none⟩) (Kept.refl _ _) (.inr rfl) _
  have ho1 := O1.out.kept hks (by intro b h1 h2 h3; omega)
  clear hW hks c0 f0 d1 HB1 HK1 HK2 HK3 O1
  refine (toF_any _ x2 W2 (P2.out.up hb2 (Nat.le_refl _)) L2.out).mono ?_
  rintro e w2 ⟨y2, rfl, ho2, hbb⟩
  obtain ⟨b2, e2, rfl⟩ := ho2.rd.shape
  have zz2 := hbb.size
  have HB2 := Lib.hid (hb2.trans (hbb.mono hb2.size))
  have HK1 := Lib.hid (hk1.below hbb hk1.lt)
  have HK2 := Lib.hid (hk2.below hbb hk2.lt)
  have HK3 := Lib.hid (hk3.below hbb hk3.lt)
  have O1 := Lib.hid (ho1.up hbb (Nat.le_refl _))
  have O2 := Lib.hid (ho2)
  have c0 : w2.cell? ⟨w.heap.size + 2, 2, none⟩ = some (.slice none 0 0) := HK1.out.cell 2 rfl
  have f0 := HK1.out.free 2
  have d1 : w2.cell? ⟨w.heap.size, 3, none⟩ = some (.slice a3 x3.length c3) := HK2.out.cell 3 rfl
  clear hb2 hbb hk1 hk2 hk3 ho1 ho2
  go_wp2_with fail
  refine Calls.at fun W3 hW => ?_
  have z3 : W3.heap.size = w2.heap.size := by subst hW; simp
  have hb3 : Below w.heap.size w W3 := by subst hW; exact HB2.out.setCell (by first | (simp; done) | (simp; omega)) _
  have hk1 : Blk W3 (w.heap.size + 2) 66 #[.int .i64 n0, .slice b1 x1.length e1, .slice b2 x2.length e2, .slice none 0 0] := by subst hW; exact HK1.out.set 2 _
  have hk2 : Blk W3 w.heap.size 59 #[.int .i64 n0, .slice a1 x1.length c1, .slice a2 x2.length c2, .slice a3 x3.length c3] := by subst hW; exact HK2.out.other (by first | (simp; done) | (simp; omega)) _
  have hk3 : Blk W3 (w.heap.size + 1) 66 #[.int .i64 0, .slice none 0 0, .slice none 0 0, .slice none 0 0] := by subst hW; exact HK3.out.other (by first | (simp; done) | (simp; omega)) _
  have hks : Kept (· = w.heap.size + 2) w2 W3 := by subst hW; exact Kept.setCell (S := (· = w.heap.size + 2)) (p := ⟨w.heap.size + 1 + 1, 2, none⟩) (Kept.refl _ _) (.inr rfl) _
  have ho1 := O1.out.kept hks (by intro b h1 h2 h3; omega)
  have ho2 := O2.out.kept hks (by intro b h1 h2 h3; omega)
  clear hW hks c0 f0 d1 HB2 HK1 HK2 HK3 O1 O2
  refine (toF_any _ x3 W3 (P3.out.up hb3 (Nat.le_refl _)) L3.out).mono ?_
  rintro e w3 ⟨y3, rfl, ho3, hbb⟩
  obtain ⟨b3, e3, rfl⟩ := ho3.rd.shape
  have zz3 := hbb.size
  have HB3 := Lib.hid (hb3.trans (hbb.mono hb3.size))
  have HK1 := Lib.hid (hk1.below hbb hk1.lt)
  have HK2 := Lib.hid (hk2.below hbb hk2.lt)
  have HK3 := Lib.hid (hk3.below hbb hk3.lt)
  have O1 := Lib.hid (ho1.up hbb (Nat.le_refl _))
  have O2 := Lib.hid (ho2.up hbb (Nat.le_refl _))
  have O3 := Lib.hid (ho3)
  have c0 : w3.cell? ⟨w.heap.size + 2, 3, none⟩ = some (.slice none 0 0) := HK1.out.cell 3 rfl
  have f0 := HK1.out.free 3
  clear hb3 hbb hk1 hk2 hk3 ho1 ho2 ho3
  have g0 : w3.cell? ⟨w.heap.size + 2, 0, none⟩ = some (.int .i64 n0) := HK1.out.cell 0 rfl
  have g1 : w3.cell? ⟨w.heap.size + 2, 1, none⟩ = some (.slice b1 x1.length e1) := HK1.out.cell 1 rfl
  have g2 : w3.cell? ⟨w.heap.size + 2, 2, none⟩ = some (.slice b2 x2.length e2) := HK1.out.cell 2 rfl
  have h0 : w3.cell? ⟨w.heap.size + 1, 0, none⟩ = some (.int .i64 0) := HK3.out.cell 0 rfl
  have h1 : w3.cell? ⟨w.heap.size + 1, 1, none⟩ = some (.slice none 0 0) := HK3.out.cell 1 rfl
  have h2 : w3.cell? ⟨w.heap.size + 1, 2, none⟩ = some (.slice none 0 0) := HK3.out.cell 2 rfl
  have h3 : w3.cell? ⟨w.heap.size + 1, 3, none⟩ = some (.slice none 0 0) := HK3.out.cell 3 rfl
  have i0 := HK3.out.free 0
  have i1 := HK3.out.free 1
  have i2 := HK3.out.free 2
  have i3 := HK3.out.free 3
  go_wp2_with fail
  refine bodyPost_ret (v := .agg #[.int .i64 n0, .slice b1 x1.length e1, .slice b2 x2.length e2, .slice b3 x3.length e3]) (by simp [results, Try.results79, go_sem, *]) rfl ?_
  have wx : ∀ Wf, Kept (fun b => b = w.heap.size + 1 ∨ b = w.heap.size + 2) w3 Wf → Wf.heap.size = w3.heap.size → ∃ v', Ending.returned (.agg #[.int .i64 n0, .slice b1 x1.length e1, .slice b2 x2.length e2, .slice b3 x3.length e3]) = Ending.returned v' ∧ OwnR w.heap.size Wf.heap.size Wf v' ⟨n0, x1, x2, x3⟩ ∧ Below w.heap.size w Wf := by
    intro Wf hk hz
    have k1 := (O1.out.kept hk (by intro b h1 h2 h3; omega)).wide (lo' := w.heap.size) (hi' := Wf.heap.size) (by omega) (by omega)
    have k2 := (O2.out.kept hk (by intro b h1 h2 h3; omega)).wide (lo' := w.heap.size) (hi' := Wf.heap.size) (by omega) (by omega)
    have k3 := (O3.out.kept hk (by intro b h1 h2 h3; omega)).wide (lo' := w.heap.size) (hi' := Wf.heap.size) (by omega) (by omega)
    refine ⟨_, rfl, ⟨_, _, _, rfl, k1, k2, k3, ?_, ?_, ?_⟩, HB3.out.trans (hk.toBelow HB3.out.size (by intro k h1 h2; omega))⟩
    · intro g q1 q2; have := O1.out.blk q1; have := O2.out.blk q2; omega
    · intro g q1 q2; have := O1.out.blk q1; have := O3.out.blk q2; omega
    · intro g q1 q2; have := O2.out.blk q1; have := O3.out.blk q2; omega
  refine wx _ ?_ (by simp)
  repeat' first | exact Kept.refl _ _ | refine Kept.setCell ?_ (.inr (by simp)) _

set_option maxHeartbeats 1000000 in
theorem eqR_same (v v' : Value) (r : RowsD) (w : World) (h : RdR w v r) (h' : RdR w v' r) :
    Calls Try.prog 85 #[v, v'] w fun e w' => e = .returned (.bool true) ∧ Below w.heap.size w w' := by
  obtain ⟨a1, c1, a2, c2, a3, c3, rfl⟩ := h.shape
  obtain ⟨b1, e1, b2, e2, b3, e3, rfl⟩ := h'.shape
  obtain ⟨p1, p2, p3⟩ := h.parts
  obtain ⟨q1, q2, q3⟩ := h'.parts
  obtain ⟨n0, x1, x2, x3⟩ := r
  simp only at p1 p2 p3 q1 q2 q3 ⊢
  have hne : (n0 != n0) = false := by simp
  have P1 := Lib.hid p1
  have P2 := Lib.hid p2
  have P3 := Lib.hid p3
  have Q1 := Lib.hid q1
  have Q2 := Lib.hid q2
  have Q3 := Lib.hid q3
  clear h h' p1 p2 p3 q1 q2 q3
  go_enter Try.func85, Try.ntmps85
  go_wp2_with fail
  refine Calls.at fun W hW => ?_
  have HB := Lib.hid (show Below w.heap.size w W by subst hW; (repeat' first | exact Below.refl _ _ | assumption | refine Below.alloc ?_ ?_ _ | refine Below.setCell ?_ ?_ _ | refine Below.drew ?_ | (simp; done) | (simp; omega)))
  have HK := Lib.hid (show Blk W w.heap.size 66 #[.int .i64 n0, .slice a1 x1.length c1, .slice a2 x2.length c2, .slice a3 x3.length c3] by subst hW; exact (Blk.new _ _ _).alloc _)
  have HL := Lib.hid (show Blk W (w.heap.size + 1) 66 #[.int .i64 n0, .slice b1 x1.length e1, .slice b2 x2.length e2, .slice b3 x3.length e3] by subst hW; simpa using Blk.new (w.alloc (.cells #[.int .i64 n0, .slice a1 x1.length c1, .slice a2 x2.length c2, .slice a3 x3.length c3] 66)) 66 #[.int .i64 n0, .slice b1 x1.length e1, .slice b2 x2.length e2, .slice b3 x3.length e3])
  clear hW
  refine (eqF_same _ _ x1 W (P1.out.up HB.out (Nat.le_refl _)) (Q1.out.up HB.out (Nat.le_refl _))).mono ?_
  rintro e w1 ⟨rfl, hb1⟩
  have HB1 := Lib.hid (HB.out.trans (hb1.mono HB.out.size))
  have HK1 := Lib.hid (HK.out.below hb1 HK.out.lt)
  have HL1 := Lib.hid (HL.out.below hb1 HL.out.lt)
  clear hb1
  have d2 : w1.cell? ⟨w.heap.size, 2, none⟩ = some (.slice a2 x2.length c2) := HK1.out.cell 2 rfl
  have g2 : w1.cell? ⟨w.heap.size + 1, 2, none⟩ = some (.slice b2 x2.length e2) := HL1.out.cell 2 rfl
  go_wp2_with fail
  refine (eqF_same _ _ x2 w1 (P2.out.up HB1.out (Nat.le_refl _)) (Q2.out.up HB1.out (Nat.le_refl _))).mono ?_
  rintro e w2 ⟨rfl, hb2⟩
  have HB2 := Lib.hid (HB1.out.trans (hb2.mono HB1.out.size))
  have HK2 := Lib.hid (HK1.out.below hb2 HK1.out.lt)
  have HL2 := Lib.hid (HL1.out.below hb2 HL1.out.lt)
  clear hb2
  have d3 : w2.cell? ⟨w.heap.size, 3, none⟩ = some (.slice a3 x3.length c3) := HK2.out.cell 3 rfl
  have g3 : w2.cell? ⟨w.heap.size + 1, 3, none⟩ = some (.slice b3 x3.length e3) := HL2.out.cell 3 rfl
  go_wp2_with fail
  refine (eqF_same _ _ x3 w2 (P3.out.up HB2.out (Nat.le_refl _)) (Q3.out.up HB2.out (Nat.le_refl _))).mono ?_
  rintro e w3 ⟨rfl, hb3⟩
  have HB3 := Lib.hid (HB2.out.trans (hb3.mono HB2.out.size))
  have HK3 := Lib.hid (HK2.out.below hb3 HK2.out.lt)
  have HL3 := Lib.hid (HL2.out.below hb3 HL2.out.lt)
  clear hb3
  go_wp2_with fail
  go_ret
  exact ⟨rfl, HB3.out⟩

def mkdR (k : Int) (r : RowsD) : RowsD := ⟨r.vars, mkF k r.nums.length, mkF (k + r.nums.length) r.bnds.length, mkF (k + r.nums.length + r.bnds.length) r.gains.length⟩

theorem keptF {lo hi : Nat} {w w' : World} {v u : Value} {xs : List Nat} (h : OwnF lo hi w v xs) (hk : Kept (fun b => u.ownBlock = some b) w w') (hn : ∀ g, v.ownBlock = some g → u.ownBlock ≠ some g) : OwnF lo hi w' v xs :=
  ⟨owns_kept h.1 hk hn, h.2⟩

end Go.Proofs.Ytljhohacgceojaa
