/-
  FnExactWholeGap: texts joined: RowsO, ValidR, Step.
-/
import Derived.Deep.RegionHeld3
import Derived.Deep.CutRange
import Derived.Test.YtkfiepiipigcmaaMEWholeGapAA
import Derived.Test.YtkfiepiipigcmaaMEWholeGapAB
namespace Go.Proofs.Ytkfiepiipigcmaa
open Go.RowKit

structure RowsD where
  vars : Int
  nums : List Nat
  bnds : List Nat
  gains : List Nat

def RdR (w : World) (v : Value) (r : RowsD) : Prop := ∃ va vb vc, v = .agg #[.int .i64 r.vars, va, vb, vc] ∧ RdF w va r.nums ∧ RdF w vb r.bnds ∧ RdF w vc r.gains
def OwnR (lo hi : Nat) (w : World) (v : Value) (r : RowsD) : Prop := ∃ va vb vc, v = .agg #[.int .i64 r.vars, va, vb, vc] ∧ OwnF lo hi w va r.nums ∧ OwnF lo hi w vb r.bnds ∧ OwnF lo hi w vc r.gains ∧ (∀ g, va.ownBlock = some g → vb.ownBlock ≠ some g) ∧ (∀ g, va.ownBlock = some g → vc.ownBlock ≠ some g) ∧ (∀ g, vb.ownBlock = some g → vc.ownBlock ≠ some g)
def bulkR (r : RowsD) : Nat := r.nums.length + r.bnds.length + r.gains.length
def cntR (r : RowsD) : Nat := r.nums.length + r.bnds.length + r.gains.length
theorem cntR_le (r : RowsD) : cntR r ≤ bulkR r := Nat.le_refl _

theorem RdR.shape {w : World} {v : Value} {r : RowsD} (h : RdR w v r) : ∃ a1 c1 a2 c2 a3 c3, v = .agg #[.int .i64 r.vars, .slice a1 r.nums.length c1, .slice a2 r.bnds.length c2, .slice a3 r.gains.length c3] := by
  obtain ⟨va, vb, vc, rfl, h1, h2, h3⟩ := h
  obtain ⟨a1, c1, rfl⟩ := h1.shape
  obtain ⟨a2, c2, rfl⟩ := h2.shape
  obtain ⟨a3, c3, rfl⟩ := h3.shape
  exact ⟨_, _, _, _, _, _, rfl⟩
theorem RdR.parts {w : World} {x0 x y z : Value} {r : RowsD} (h : RdR w (.agg #[x0, x, y, z]) r) : RdF w x r.nums ∧ RdF w y r.bnds ∧ RdF w z r.gains := by
  obtain ⟨va, vb, vc, e, h1, h2, h3⟩ := h
  simp only [Value.agg.injEq, Array.mk.injEq, List.cons.injEq, and_true] at e
  obtain ⟨_, rfl, rfl, rfl⟩ := e
  exact ⟨h1, h2, h3⟩
theorem RdR.up {w w' : World} {v : Value} {r : RowsD} {B : Nat} (h : RdR w v r) (hb : Below B w w') (hB : w.heap.size ≤ B) : RdR w' v r := by
  obtain ⟨va, vb, vc, e, h1, h2, h3⟩ := h
  exact ⟨va, vb, vc, e, h1.up hb hB, h2.up hb hB, h3.up hb hB⟩
theorem OwnR.rd {lo hi : Nat} {w : World} {v : Value} {r : RowsD} (h : OwnR lo hi w v r) : RdR w v r := by
  obtain ⟨va, vb, vc, e, h1, h2, h3, _⟩ := h
  exact ⟨va, vb, vc, e, h1.rd, h2.rd, h3.rd⟩
theorem OwnR.up {lo hi : Nat} {w w' : World} {v : Value} {r : RowsD} {B : Nat} (h : OwnR lo hi w v r) (hb : Below B w w') (hB : w.heap.size ≤ B) : OwnR lo hi w' v r := by
  obtain ⟨va, vb, vc, e, h1, h2, h3, h4⟩ := h
  exact ⟨va, vb, vc, e, h1.up hb hB, h2.up hb hB, h3.up hb hB, h4⟩
theorem OwnR.wide {lo hi lo' hi' : Nat} {w : World} {v : Value} {r : RowsD} (h : OwnR lo hi w v r) (a : lo' ≤ lo) (b : hi ≤ hi') : OwnR lo' hi' w v r := by
  obtain ⟨va, vb, vc, e, h1, h2, h3, h4⟩ := h
  exact ⟨va, vb, vc, e, h1.wide a b, h2.wide a b, h3.wide a b, h4⟩
theorem OwnR.kept {lo hi : Nat} {w w' : World} {v : Value} {r : RowsD} {S : Nat → Prop} (h : OwnR lo hi w v r) (hk : Kept S w w') (hs : ∀ b, lo ≤ b → b < hi → ¬ S b) : OwnR lo hi w' v r := by
  obtain ⟨va, vb, vc, e, h1, h2, h3, h4⟩ := h
  exact ⟨va, vb, vc, e, h1.kept hk hs, h2.kept hk hs, h3.kept hk hs, h4⟩

set_option maxHeartbeats 1000000 in
theorem szR_any (v : Value) (r : RowsD) (left : Int) (w : World) (h : RdR w v r) (h1 : left ≤ 1048576) (h0 : 0 ≤ left) :
    Calls Try.prog 44 #[v, .int .i64 left] w fun e w' => ∃ s : Int, e = .returned (.int .i64 s) ∧ -1 ≤ s ∧ s ≤ left ∧ (0 ≤ s → (bulkR r : Int) ≤ left - s) ∧ Below w.heap.size w w' := by
  obtain ⟨a1, c1, a2, c2, a3, c3, rfl⟩ := h.shape
  obtain ⟨p1, p2, p3⟩ := h.parts
  obtain ⟨n0, x1, x2, x3⟩ := r
  simp only [bulkR] at p1 p2 p3 ⊢
  have P1 := Lib.hid p1
  have P2 := Lib.hid p2
  have P3 := Lib.hid p3
  clear h p1 p2 p3
  go_enter Try.func44, Try.ntmps44
  go_wp2_with fail
  refine Calls.at fun W hW => ?_
  have HB := Lib.hid (show Below w.heap.size w W by subst hW; (repeat' first | exact Below.refl _ _ | assumption | refine Below.alloc ?_ ?_ _ | refine Below.setCell ?_ ?_ _ | refine Below.drew ?_ | (simp; done) | (simp; omega)))
  have HK := Lib.hid (show Blk W w.heap.size 62 #[.int .i64 n0, .slice a1 x1.length c1, .slice a2 x2.length c2, .slice a3 x3.length c3] by subst hW; exact Blk.new _ _ _)
  clear hW
  refine (szF_any _ x1 left W (P1.out.up HB.out (Nat.le_refl _)) (by omega) (by omega)).mono ?_
  rintro e w1 ⟨s1, rfl, sa1, sb1, sc1, hb1⟩
  have HB1 := Lib.hid (HB.out.trans (hb1.mono HB.out.size))
  have HK1 := Lib.hid (HK.out.below hb1 HK.out.lt)
  clear hb1
  unfold bulkF at sc1
  by_cases hn1 : s1 < 0
  · go_wp2_with fail
    go_ret
    exact ⟨-1, rfl, by omega, by omega, by omega, HB1.out⟩
  have d2 : w1.cell? ⟨w.heap.size, 2, none⟩ = some (.slice a2 x2.length c2) := HK1.out.cell 2 rfl
  go_wp2_with fail
  refine (szF_any _ x2 s1 w1 (P2.out.up HB1.out (Nat.le_refl _)) (by omega) (by omega)).mono ?_
  rintro e w2 ⟨s2, rfl, sa2, sb2, sc2, hb2⟩
  have HB2 := Lib.hid (HB1.out.trans (hb2.mono HB1.out.size))
  have HK2 := Lib.hid (HK1.out.below hb2 HK1.out.lt)
  clear hb2
  unfold bulkF at sc2
  by_cases hn2 : s2 < 0
  · go_wp2_with fail
    go_ret
    exact ⟨-1, rfl, by omega, by omega, by omega, HB2.out⟩
  have d3 : w2.cell? ⟨w.heap.size, 3, none⟩ = some (.slice a3 x3.length c3) := HK2.out.cell 3 rfl
  go_wp2_with fail
  refine (szF_any _ x3 s2 w2 (P3.out.up HB2.out (Nat.le_refl _)) (by omega) (by omega)).mono ?_
  rintro e w3 ⟨s3, rfl, sa3, sb3, sc3, hb3⟩
  have HB3 := Lib.hid (HB2.out.trans (hb3.mono HB2.out.size))
  have HK3 := Lib.hid (HK2.out.below hb3 HK2.out.lt)
  clear hb3
  unfold bulkF at sc3
  by_cases hn3 : s3 < 0
  · go_wp2_with fail
    go_ret
    exact ⟨-1, rfl, by omega, by omega, by omega, HB3.out⟩
  go_wp2_with fail
  go_ret
  exact ⟨s3, rfl, by omega, by omega, by omega, HB3.out⟩

set_option maxHeartbeats 2000000 in
theorem toR_any (v : Value) (r : RowsD) (w : World) (h : RdR w v r) (hb : bulkR r ≤ 1048576) :
    Calls Try.prog 46 #[v] w fun e w' => ∃ v', e = .returned v' ∧ OwnR w.heap.size w'.heap.size w' v' r ∧ Below w.heap.size w w' := by
  obtain ⟨a1, c1, a2, c2, a3, c3, rfl⟩ := h.shape
  obtain ⟨p1, p2, p3⟩ := h.parts
  obtain ⟨n0, x1, x2, x3⟩ := r
  simp only [bulkR] at p1 p2 p3 hb ⊢
  have P1 := Lib.hid p1
  have P2 := Lib.hid p2
  have P3 := Lib.hid p3
  have L1 : Hid (bulkF x1 ≤ 1048576) := by show bulkF x1 ≤ _; unfold bulkF; omega
  have L2 : Hid (bulkF x2 ≤ 1048576) := by show bulkF x2 ≤ _; unfold bulkF; omega
  have L3 : Hid (bulkF x3 ≤ 1048576) := by show bulkF x3 ≤ _; unfold bulkF; omega
  clear h p1 p2 p3 hb
  go_enter Try.func46, Try.ntmps46
  go_wp2_with fail
  refine Calls.at fun W1 hW => ?_
  have hb1 : Below w.heap.size w W1 := by subst hW; (repeat' first | exact Below.refl _ _ | assumption | refine Below.alloc ?_ ?_ _ | refine Below.setCell ?_ ?_ _ | refine Below.drew ?_ | (simp; done) | (simp; omega))
  have hk1 : Blk W1 (w.heap.size + 2) 67 #[.int .i64 n0, .slice none 0 0, .slice none 0 0, .slice none 0 0] := by subst hW; simpa using Blk.new ((w.alloc (.cells #[.int .i64 n0, .slice a1 x1.length c1, .slice a2 x2.length c2, .slice a3 x3.length c3] 62)).alloc (.cells #[.int .i64 0, .slice none 0 0, .slice none 0 0, .slice none 0 0] 67)) 67 #[.int .i64 n0, .slice none 0 0, .slice none 0 0, .slice none 0 0]
  have hk2 : Blk W1 w.heap.size 62 #[.int .i64 n0, .slice a1 x1.length c1, .slice a2 x2.length c2, .slice a3 x3.length c3] := by subst hW; exact ((Blk.new w _ _).alloc _).alloc _
  have hk3 : Blk W1 (w.heap.size + 1) 67 #[.int .i64 0, .slice none 0 0, .slice none 0 0, .slice none 0 0] := by subst hW; simpa using (Blk.new (w.alloc (.cells #[.int .i64 n0, .slice a1 x1.length c1, .slice a2 x2.length c2, .slice a3 x3.length c3] 62)) 67 #[.int .i64 0, .slice none 0 0, .slice none 0 0, .slice none 0 0]).alloc (.cells #[.int .i64 n0, .slice none 0 0, .slice none 0 0, .slice none 0 0] 67)
  have hz1 := hk1.lt
  clear hW
  refine (toF_any _ x1 W1 (P1.out.up hb1 (Nat.le_refl _)) L1.out).mono ?_
  rintro e w1 ⟨y1, rfl, ho1, hbb⟩
  obtain ⟨b1, e1, rfl⟩ := ho1.rd.shape
  have zz1 := hbb.size
  have HB1 := Lib.hid (hb1.trans (hbb.mono hb1.size))
  have HK1 := Lib.hid (hk1.below hbb hk1.lt)
  have HK2 := Lib.hid (hk2.below hbb hk2.lt)
  have HK3 := Lib.hid (hk3.below hbb hk3.lt)
  have O1 := Lib.hid (ho1)
  have c0 : w1.cell? ⟨w.heap.size + 2, 1, none⟩ = some (.slice none 0 0) := HK1.out.cell 1 rfl
  have f0 := HK1.out.free 1
  have d1 : w1.cell? ⟨w.heap.size, 2, none⟩ = some (.slice a2 x2.length c2) := HK2.out.cell 2 rfl
  clear hb1 hbb hk1 hk2 hk3 ho1
  go_wp2_with fail
  refine Calls.at fun W2 hW => ?_
  have z2 : W2.heap.size = w1.heap.size := by subst hW; simp
  have hb2 : Below w.heap.size w W2 := by subst hW; exact HB1.out.setCell (by first | (simp; done) | (simp; omega)) _
  have hk1 : Blk W2 (w.heap.size + 2) 67 #[.int .i64 n0, .slice b1 x1.length e1, .slice none 0 0, .slice none 0 0] := by subst hW; exact HK1.out.set 1 _
  have hk2 : Blk W2 w.heap.size 62 #[.int .i64 n0, .slice a1 x1.length c1, .slice a2 x2.length c2, .slice a3 x3.length c3] := by subst hW; exact HK2.out.other (by first | (simp; done) | (simp; omega)) _
  have hk3 : Blk W2 (w.heap.size + 1) 67 #[.int .i64 0, .slice none 0 0, .slice none 0 0, .slice none 0 0] := by subst hW; exact HK3.out.other (by first | (simp; done) | (simp; omega)) _
  have hks : Kept (· = w.heap.size + 2) w1 W2 := by subst hW; exact Kept.setCell (S := (· = w.heap.size + 2)) (p := ⟨w.heap.size + 1 + 1, 1, none⟩) (Kept.refl _ _) (.inr rfl) _
  have ho1 := O1.out.kept hks (by intro b h1 h2 h3; omega)
  clear hW hks c0 f0 d1 HB1 HK1 HK2 HK3 O1
  refine (toF_any _ x2 W2 (P2.out.up hb2 (Nat.le_refl _)) L2.out).mono ?_
  rintro e w2 ⟨y2, rfl, ho2, hbb⟩
  obtain ⟨b2, e2, rfl⟩ := ho2.rd.shape
  have zz2 := hbb.size
  have HB2 := Lib.hid (hb2.trans (hbb.mono hb2.size))
  have HK1 := Lib.hid (hk1.below hbb hk1.lt)
  have HK2 := Lib.hid (hk2.below hbb hk2.lt)
  have HK3 := Lib.hid (hk3.below hbb hk3.lt)
  have O1 := Lib.hid (ho1.up hbb (Nat.le_refl _))
  have O2 := Lib.hid (ho2)
  have c0 : w2.cell? ⟨w.heap.size + 2, 2, none⟩ = some (.slice none 0 0) := HK1.out.cell 2 rfl
  have f0 := HK1.out.free 2
  have d1 : w2.cell? ⟨w.heap.size, 3, none⟩ = some (.slice a3 x3.length c3) := HK2.out.cell 3 rfl
  clear hb2 hbb hk1 hk2 hk3 ho1 ho2
  go_wp2_with fail
  refine Calls.at fun W3 hW => ?_
  have z3 : W3.heap.size = w2.heap.size := by subst hW; simp
  have hb3 : Below w.heap.size w W3 := by subst hW; exact HB2.out.setCell (by first | (simp; done) | (simp; omega)) _
  have hk1 : Blk W3 (w.heap.size + 2) 67 #[.int .i64 n0, .slice b1 x1.length e1, .slice b2 x2.length e2, .slice none 0 0] := by subst hW; exact HK1.out.set 2 _
  have hk2 : Blk W3 w.heap.size 62 #[.int .i64 n0, .slice a1 x1.length c1, .slice a2 x2.length c2, .slice a3 x3.length c3] := by subst hW; exact HK2.out.other (by first | (simp; done) | (simp; omega)) _
  have hk3 : Blk W3 (w.heap.size + 1) 67 #[.int .i64 0, .slice none 0 0, .slice none 0 0, .slice none 0 0] := by subst hW; exact HK3.out.other (by first | (simp; done) | (simp; omega)) _
  have hks : Kept (· = w.heap.size + 2) w2 W3 := by subst hW; exact Kept.setCell (S := (· = w.heap.size + 2)) (p := ⟨w.heap.size + 1 + 1, 2, none⟩) (Kept.refl _ _) (.inr rfl) _
  have ho1 := O1.out.kept hks (by intro b h1 h2 h3; omega)
  have ho2 := O2.out.kept hks (by intro b h1 h2 h3; omega)
  clear hW hks c0 f0 d1 HB2 HK1 HK2 HK3 O1 O2
  refine (toF_any _ x3 W3 (P3.out.up hb3 (Nat.le_refl _)) L3.out).mono ?_
  rintro e w3 ⟨y3, rfl, ho3, hbb⟩
  obtain ⟨b3, e3, rfl⟩ := ho3.rd.shape
  have zz3 := hbb.size
  have HB3 := Lib.hid (hb3.trans (hbb.mono hb3.size))
  have HK1 := Lib.hid (hk1.below hbb hk1.lt)
  have HK2 := Lib.hid (hk2.below hbb hk2.lt)
  have HK3 := Lib.hid (hk3.below hbb hk3.lt)
  have O1 := Lib.hid (ho1.up hbb (Nat.le_refl _))
  have O2 := Lib.hid (ho2.up hbb (Nat.le_refl _))
  have O3 := Lib.hid (ho3)
  have c0 : w3.cell? ⟨w.heap.size + 2, 3, none⟩ = some (.slice none 0 0) := HK1.out.cell 3 rfl
  have f0 := HK1.out.free 3
  clear hb3 hbb hk1 hk2 hk3 ho1 ho2 ho3
  have g0 : w3.cell? ⟨w.heap.size + 2, 0, none⟩ = some (.int .i64 n0) := HK1.out.cell 0 rfl
  have g1 : w3.cell? ⟨w.heap.size + 2, 1, none⟩ = some (.slice b1 x1.length e1) := HK1.out.cell 1 rfl
  have g2 : w3.cell? ⟨w.heap.size + 2, 2, none⟩ = some (.slice b2 x2.length e2) := HK1.out.cell 2 rfl
  have h0 : w3.cell? ⟨w.heap.size + 1, 0, none⟩ = some (.int .i64 0) := HK3.out.cell 0 rfl
  have h1 : w3.cell? ⟨w.heap.size + 1, 1, none⟩ = some (.slice none 0 0) := HK3.out.cell 1 rfl
  have h2 : w3.cell? ⟨w.heap.size + 1, 2, none⟩ = some (.slice none 0 0) := HK3.out.cell 2 rfl
  have h3 : w3.cell? ⟨w.heap.size + 1, 3, none⟩ = some (.slice none 0 0) := HK3.out.cell 3 rfl
  have i0 := HK3.out.free 0
  have i1 := HK3.out.free 1
  have i2 := HK3.out.free 2
  have i3 := HK3.out.free 3
  go_wp2_with fail
  refine bodyPost_ret (v := .agg #[.int .i64 n0, .slice b1 x1.length e1, .slice b2 x2.length e2, .slice b3 x3.length e3]) (by simp [results, Try.results46, go_sem, *]) rfl ?_
  have wx : ∀ Wf, Kept (fun b => b = w.heap.size + 1 ∨ b = w.heap.size + 2) w3 Wf → Wf.heap.size = w3.heap.size → ∃ v', Ending.returned (.agg #[.int .i64 n0, .slice b1 x1.length e1, .slice b2 x2.length e2, .slice b3 x3.length e3]) = Ending.returned v' ∧ OwnR w.heap.size Wf.heap.size Wf v' ⟨n0, x1, x2, x3⟩ ∧ Below w.heap.size w Wf := by
    intro Wf hk hz
    have k1 := (O1.out.kept hk (by intro b h1 h2 h3; omega)).wide (lo' := w.heap.size) (hi' := Wf.heap.size) (by omega) (by omega)
    have k2 := (O2.out.kept hk (by intro b h1 h2 h3; omega)).wide (lo' := w.heap.size) (hi' := Wf.heap.size) (by omega) (by omega)
    have k3 := (O3.out.kept hk (by intro b h1 h2 h3; omega)).wide (lo' := w.heap.size) (hi' := Wf.heap.size) (by omega) (by omega)
    refine ⟨_, rfl, ⟨_, _, _, rfl, k1, k2, k3, ?_, ?_, ?_⟩, HB3.out.trans (hk.toBelow HB3.out.size (by intro k h1 h2; omega))⟩
    · intro g q1 q2; have := O1.out.blk q1; have := O2.out.blk q2; omega
    · intro g q1 q2; have := O1.out.blk q1; have := O3.out.blk q2; omega
    · intro g q1 q2; have := O2.out.blk q1; have := O3.out.blk q2; omega
  refine wx _ ?_ (by simp)
  repeat' first | exact Kept.refl _ _ | refine Kept.setCell ?_ (.inr (by simp)) _

set_option maxHeartbeats 1000000 in
theorem eqR_same (v v' : Value) (r : RowsD) (w : World) (h : RdR w v r) (h' : RdR w v' r) :
    Calls Try.prog 49 #[v, v'] w fun e w' => e = .returned (.bool true) ∧ Below w.heap.size w w' := by
  obtain ⟨a1, c1, a2, c2, a3, c3, rfl⟩ := h.shape
  obtain ⟨b1, e1, b2, e2, b3, e3, rfl⟩ := h'.shape
  obtain ⟨p1, p2, p3⟩ := h.parts
  obtain ⟨q1, q2, q3⟩ := h'.parts
  obtain ⟨n0, x1, x2, x3⟩ := r
  simp only at p1 p2 p3 q1 q2 q3 ⊢
  have hne : (n0 != n0) = false := by simp
  have P1 := Lib.hid p1
  have P2 := Lib.hid p2
  have P3 := Lib.hid p3
  have Q1 := Lib.hid q1
  have Q2 := Lib.hid q2
  have Q3 := Lib.hid q3
  clear h h' p1 p2 p3 q1 q2 q3
  go_enter Try.func49, Try.ntmps49
  go_wp2_with fail
  refine Calls.at fun W hW => ?_
  have HB := Lib.hid (show Below w.heap.size w W by subst hW; (repeat' first | exact Below.refl _ _ | assumption | refine Below.alloc ?_ ?_ _ | refine Below.setCell ?_ ?_ _ | refine Below.drew ?_ | (simp; done) | (simp; omega)))
  have HK := Lib.hid (show Blk W w.heap.size 67 #[.int .i64 n0, .slice a1 x1.length c1, .slice a2 x2.length c2, .slice a3 x3.length c3] by subst hW; exact (Blk.new _ _ _).alloc _)
  have HL := Lib.hid (show Blk W (w.heap.size + 1) 67 #[.int .i64 n0, .slice b1 x1.length e1, .slice b2 x2.length e2, .slice b3 x3.length e3] by subst hW; simpa using Blk.new (w.alloc (.cells #[.int .i64 n0, .slice a1 x1.length c1, .slice a2 x2.length c2, .slice a3 x3.length c3] 67)) 67 #[.int .i64 n0, .slice b1 x1.length e1, .slice b2 x2.length e2, .slice b3 x3.length e3])
  clear hW
  refine (eqF_same _ _ x1 W (P1.out.up HB.out (Nat.le_refl _)) (Q1.out.up HB.out (Nat.le_refl _))).mono ?_
  rintro e w1 ⟨rfl, hb1⟩
  have HB1 := Lib.hid (HB.out.trans (hb1.mono HB.out.size))
  have HK1 := Lib.hid (HK.out.below hb1 HK.out.lt)
  have HL1 := Lib.hid (HL.out.below hb1 HL.out.lt)
  clear hb1
  have d2 : w1.cell? ⟨w.heap.size, 2, none⟩ = some (.slice a2 x2.length c2) := HK1.out.cell 2 rfl
  have g2 : w1.cell? ⟨w.heap.size + 1, 2, none⟩ = some (.slice b2 x2.length e2) := HL1.out.cell 2 rfl
  go_wp2_with fail
  refine (eqF_same _ _ x2 w1 (P2.out.up HB1.out (Nat.le_refl _)) (Q2.out.up HB1.out (Nat.le_refl _))).mono ?_
  rintro e w2 ⟨rfl, hb2⟩
  have HB2 := Lib.hid (HB1.out.trans (hb2.mono HB1.out.size))
  have HK2 := Lib.hid (HK1.out.below hb2 HK1.out.lt)
  have HL2 := Lib.hid (HL1.out.below hb2 HL1.out.lt)
  clear hb2
  have d3 : w2.cell? ⟨w.heap.size, 3, none⟩ = some (.slice a3 x3.length c3) := HK2.out.cell 3 rfl
  have g3 : w2.cell? ⟨w.heap.size + 1, 3, none⟩ = some (.slice b3 x3.length e3) := HL2.out.cell 3 rfl
  go_wp2_with fail
  refine (eqF_same _ _ x3 w2 (P3.out.up HB2.out (Nat.le_refl _)) (Q3.out.up HB2.out (Nat.le_refl _))).mono ?_
  rintro e w3 ⟨rfl, hb3⟩
  have HB3 := Lib.hid (HB2.out.trans (hb3.mono HB2.out.size))
  have HK3 := Lib.hid (HK2.out.below hb3 HK2.out.lt)
  have HL3 := Lib.hid (HL2.out.below hb3 HL2.out.lt)
  clear hb3
  go_wp2_with fail
  go_ret
  exact ⟨rfl, HB3.out⟩

def mkdR (k : Int) (r : RowsD) : RowsD := ⟨r.vars, mkF k r.nums.length, mkF (k + r.nums.length) r.bnds.length, mkF (k + r.nums.length + r.bnds.length) r.gains.length⟩

theorem keptF {lo hi : Nat} {w w' : World} {v u : Value} {xs : List Nat} (h : OwnF lo hi w v xs) (hk : Kept (fun b => u.ownBlock = some b) w w') (hn : ∀ g, v.ownBlock = some g → u.ownBlock ≠ some g) : OwnF lo hi w' v xs :=
  ⟨owns_kept h.1 hk hn, h.2⟩

end Go.Proofs.Ytkfiepiipigcmaa

namespace Go.Proofs.Ytkfiepiipigcmaa
open Go.RowKit

structure ValR (r : RowsD) : Prop where
  v1 : 1 ≤ r.vars
  v8 : r.vars ≤ 8
  b1 : 1 ≤ r.bnds.length
  b8 : r.bnds.length ≤ 8
  gl : (r.gains.length : Int) = r.vars
  nl : (r.nums.length : Int) = r.vars * r.bnds.length
  fn : allFin r.nums = true
  fg : allFin r.gains = true
  lb : ∀ i, i < r.bnds.length → least (r.bnds.getD i 0) = true
open Classical in
noncomputable def validR (r : RowsD) : Bool := decide (ValR r)
theorem validR_true {r : RowsD} (h : ValR r) : validR r = true := by simp [validR, h]
theorem validR_false {r : RowsD} (h : ¬ ValR r) : validR r = false := by simp [validR, h]
theorem validR_iff {r : RowsD} : validR r = true ↔ ValR r := by simp [validR]
theorem least_fin {x : Nat} (h : least x = true) : fin32 x = true := by
  unfold least at h; simp only [Bool.and_eq_true] at h; exact h.1

theorem lt_of_least {x : Nat} (h : least x = true) : (FloatKind.f32.format.order x 0 == some .lt) = false := by
  rw [lt_geq (least_fin h)]
  unfold least at h; simp only [Bool.and_eq_true] at h
  simp [h.2]
theorem least_of {x : Nat} (hf : fin32 x = true) (h : (FloatKind.f32.format.order x 0 == some .lt) = false) : least x = true := by
  rw [lt_geq hf] at h
  unfold least
  simp at h
  simp [hf, h]
theorem mulR {n0 : Int} {k : Nat} (h1 : 1 ≤ n0) (h8 : n0 ≤ 8) (hk : k ≤ 8) : 0 ≤ n0 * (k : Int) ∧ n0 * (k : Int) ≤ 64 := by
  constructor
  · exact Int.mul_nonneg (by omega) (by omega)
  · have : n0 * (k : Int) ≤ 8 * 8 := Int.mul_le_mul h8 (by omega) (by omega) (by decide)
    omega

set_option maxHeartbeats 4000000 in
set_option maxRecDepth 4000 in
theorem VR_hA (n0 : Int) (x1 x2 x3 : List Nat) (a1 a2 a3 : Option Addr) (c1 c2 c3 : Nat) (w : World) (P1 : Hid (RdF w (.slice a1 x1.length c1) x1)) (P2 : Hid (RdF w (.slice a2 x2.length c2) x2)) (P3 : Hid (RdF w (.slice a3 x3.length c3) x3)) (l1 : x1.length ≤ 9223372036854775807) (l2 : x2.length ≤ 9223372036854775807) (l3 : x3.length ≤ 9223372036854775807)
    (hA : ¬ (1 ≤ n0 ∧ n0 ≤ 8)) :
    Calls Try.prog 119 #[.agg #[.int .i64 n0, .slice a1 x1.length c1, .slice a2 x2.length c2, .slice a3 x3.length c3]] w fun e w' => e = .returned (.bool (validR ⟨n0, x1, x2, x3⟩)) ∧ Below w.heap.size w w' := by
    have hin := inB_false (lo := 1) (hi := 8) (n := n0) hA
    have HNO := Lib.hid (validR_false (r := ⟨n0, x1, x2, x3⟩) (fun h => hA ⟨h.v1, h.v8⟩))
    clear hA
    go_enter Try.func119, Try.ntmps119
    go_wp2_with fail
    refine wp_at fun W hW => ?_
    have HB := Lib.hid (show Below w.heap.size w W by subst hW; (repeat' first | exact Below.refl _ _ | assumption | refine Below.alloc ?_ ?_ _ | refine Below.setCell ?_ ?_ _ | refine Below.drew ?_ | (simp; done) | (simp; omega)))
    have HK := Lib.hid (show Blk W w.heap.size 67 #[.int .i64 n0, .slice a1 x1.length c1, .slice a2 x2.length c2, .slice a3 x3.length c3] by subst hW; exact Blk.new _ _ _)
    clear hW
    have d0 : W.cell? ⟨w.heap.size, 0, none⟩ = some (.int .i64 n0) := HK.out.cell 0 rfl
    have d1 : W.cell? ⟨w.heap.size, 1, none⟩ = some (.slice a1 x1.length c1) := HK.out.cell 1 rfl
    have d2 : W.cell? ⟨w.heap.size, 2, none⟩ = some (.slice a2 x2.length c2) := HK.out.cell 2 rfl
    have d3 : W.cell? ⟨w.heap.size, 3, none⟩ = some (.slice a3 x3.length c3) := HK.out.cell 3 rfl
    go_quiet (first
      | (go_at_call 64; exact quiet_same (size_any _ _ (by unfold maxLen; omega)))
      | (go_at_call 65; exact quiet_same (within_any _ _ _ _)))
    go_wp2_with fail
    go_ret
    exact ⟨by rw [HNO.out]; rfl, below_drewN HB.out _⟩

set_option maxHeartbeats 4000000 in
set_option maxRecDepth 4000 in
theorem VR_hB (n0 : Int) (x1 x2 x3 : List Nat) (a1 a2 a3 : Option Addr) (c1 c2 c3 : Nat) (w : World) (P1 : Hid (RdF w (.slice a1 x1.length c1) x1)) (P2 : Hid (RdF w (.slice a2 x2.length c2) x2)) (P3 : Hid (RdF w (.slice a3 x3.length c3) x3)) (l1 : x1.length ≤ 9223372036854775807) (l2 : x2.length ≤ 9223372036854775807) (l3 : x3.length ≤ 9223372036854775807)
    (hA : 1 ≤ n0 ∧ n0 ≤ 8) (hB : ¬ (1 ≤ x2.length ∧ x2.length ≤ 8)) :
    Calls Try.prog 119 #[.agg #[.int .i64 n0, .slice a1 x1.length c1, .slice a2 x2.length c2, .slice a3 x3.length c3]] w fun e w' => e = .returned (.bool (validR ⟨n0, x1, x2, x3⟩)) ∧ Below w.heap.size w w' := by
    have hin := inB_true (lo := 1) (hi := 8) (n := n0) hA
    have hin2 := inB_false (lo := 1) (hi := 8) (n := (x2.length : Int)) (by omega)
    have HNO := Lib.hid (validR_false (r := ⟨n0, x1, x2, x3⟩) (fun h => hB ⟨h.b1, h.b8⟩))
    clear hA hB
    go_enter Try.func119, Try.ntmps119
    go_wp2_with fail
    refine wp_at fun W hW => ?_
    have HB := Lib.hid (show Below w.heap.size w W by subst hW; (repeat' first | exact Below.refl _ _ | assumption | refine Below.alloc ?_ ?_ _ | refine Below.setCell ?_ ?_ _ | refine Below.drew ?_ | (simp; done) | (simp; omega)))
    have HK := Lib.hid (show Blk W w.heap.size 67 #[.int .i64 n0, .slice a1 x1.length c1, .slice a2 x2.length c2, .slice a3 x3.length c3] by subst hW; exact Blk.new _ _ _)
    clear hW
    have d0 : W.cell? ⟨w.heap.size, 0, none⟩ = some (.int .i64 n0) := HK.out.cell 0 rfl
    have d1 : W.cell? ⟨w.heap.size, 1, none⟩ = some (.slice a1 x1.length c1) := HK.out.cell 1 rfl
    have d2 : W.cell? ⟨w.heap.size, 2, none⟩ = some (.slice a2 x2.length c2) := HK.out.cell 2 rfl
    have d3 : W.cell? ⟨w.heap.size, 3, none⟩ = some (.slice a3 x3.length c3) := HK.out.cell 3 rfl
    go_quiet (first
      | (go_at_call 64; exact quiet_same (size_any _ _ (by unfold maxLen; omega)))
      | (go_at_call 65; exact quiet_same (within_any _ _ _ _)))
    go_wp2_with fail
    go_ret
    exact ⟨by rw [HNO.out]; rfl, below_drewN HB.out _⟩

set_option maxHeartbeats 4000000 in
set_option maxRecDepth 4000 in
theorem VR_hC (n0 : Int) (x1 x2 x3 : List Nat) (a1 a2 a3 : Option Addr) (c1 c2 c3 : Nat) (w : World) (P1 : Hid (RdF w (.slice a1 x1.length c1) x1)) (P2 : Hid (RdF w (.slice a2 x2.length c2) x2)) (P3 : Hid (RdF w (.slice a3 x3.length c3) x3)) (l1 : x1.length ≤ 9223372036854775807) (l2 : x2.length ≤ 9223372036854775807) (l3 : x3.length ≤ 9223372036854775807)
    (hA : 1 ≤ n0 ∧ n0 ≤ 8) (hB : 1 ≤ x2.length ∧ x2.length ≤ 8) (hC : ¬ ((x3.length : Int) = n0)) :
    Calls Try.prog 119 #[.agg #[.int .i64 n0, .slice a1 x1.length c1, .slice a2 x2.length c2, .slice a3 x3.length c3]] w fun e w' => e = .returned (.bool (validR ⟨n0, x1, x2, x3⟩)) ∧ Below w.heap.size w w' := by
    have hin := inB_true (lo := 1) (hi := 8) (n := n0) hA
    have hin2 := inB_true (lo := 1) (hi := 8) (n := (x2.length : Int)) (by omega)
    have hcb : ((x3.length : Int) != n0) = true := by simp [hC]
    have HNO := Lib.hid (validR_false (r := ⟨n0, x1, x2, x3⟩) (fun h => hC h.gl))
    clear hA hC
    go_enter Try.func119, Try.ntmps119
    go_wp2_with fail
    refine wp_at fun W hW => ?_
    have HB := Lib.hid (show Below w.heap.size w W by subst hW; (repeat' first | exact Below.refl _ _ | assumption | refine Below.alloc ?_ ?_ _ | refine Below.setCell ?_ ?_ _ | refine Below.drew ?_ | (simp; done) | (simp; omega)))
    have HK := Lib.hid (show Blk W w.heap.size 67 #[.int .i64 n0, .slice a1 x1.length c1, .slice a2 x2.length c2, .slice a3 x3.length c3] by subst hW; exact Blk.new _ _ _)
    clear hW
    have d0 : W.cell? ⟨w.heap.size, 0, none⟩ = some (.int .i64 n0) := HK.out.cell 0 rfl
    have d1 : W.cell? ⟨w.heap.size, 1, none⟩ = some (.slice a1 x1.length c1) := HK.out.cell 1 rfl
    have d2 : W.cell? ⟨w.heap.size, 2, none⟩ = some (.slice a2 x2.length c2) := HK.out.cell 2 rfl
    have d3 : W.cell? ⟨w.heap.size, 3, none⟩ = some (.slice a3 x3.length c3) := HK.out.cell 3 rfl
    go_quiet (first
      | (go_at_call 64; exact quiet_same (size_any _ _ (by unfold maxLen; omega)))
      | (go_at_call 65; exact quiet_same (within_any _ _ _ _)))
    go_wp2_with fail
    go_ret
    exact ⟨by rw [HNO.out]; rfl, below_drewN HB.out _⟩

set_option maxHeartbeats 4000000 in
set_option maxRecDepth 4000 in
theorem VR_hD (n0 : Int) (x1 x2 x3 : List Nat) (a1 a2 a3 : Option Addr) (c1 c2 c3 : Nat) (w : World) (P1 : Hid (RdF w (.slice a1 x1.length c1) x1)) (P2 : Hid (RdF w (.slice a2 x2.length c2) x2)) (P3 : Hid (RdF w (.slice a3 x3.length c3) x3)) (l1 : x1.length ≤ 9223372036854775807) (l2 : x2.length ≤ 9223372036854775807) (l3 : x3.length ≤ 9223372036854775807)
    (hA : 1 ≤ n0 ∧ n0 ≤ 8) (hB : 1 ≤ x2.length ∧ x2.length ≤ 8) (hC : (x3.length : Int) = n0) (hD : ¬ ((x1.length : Int) = n0 * x2.length)) :
    Calls Try.prog 119 #[.agg #[.int .i64 n0, .slice a1 x1.length c1, .slice a2 x2.length c2, .slice a3 x3.length c3]] w fun e w' => e = .returned (.bool (validR ⟨n0, x1, x2, x3⟩)) ∧ Below w.heap.size w w' := by
    have hin := inB_true (lo := 1) (hi := 8) (n := n0) hA
    have hin2 := inB_true (lo := 1) (hi := 8) (n := (x2.length : Int)) (by omega)
    have hcb : ((x3.length : Int) != n0) = false := by simp [hC]
    obtain ⟨M, hM⟩ : ∃ M : Int, M = n0 * x2.length := ⟨_, rfl⟩
    have hM0 : 0 ≤ M ∧ M ≤ 64 := by have := mulR hA.1 hA.2 hB.2; omega
    have hmul : IntKind.i64.wrap (n0 * (x2.length : Int)) = M := by rw [IntWalk.i64_in _ (by omega), hM]
    have hdb : ((x1.length : Int) != M) = true := by rw [hM]; simp [hD]
    have HM := Lib.hid hM
    clear hM
    have HNO := Lib.hid (validR_false (r := ⟨n0, x1, x2, x3⟩) (fun h => hD h.nl))
    clear hA hC hD
    go_enter Try.func119, Try.ntmps119
    go_wp2_with fail
    refine wp_at fun W hW => ?_
    have HB := Lib.hid (show Below w.heap.size w W by subst hW; (repeat' first | exact Below.refl _ _ | assumption | refine Below.alloc ?_ ?_ _ | refine Below.setCell ?_ ?_ _ | refine Below.drew ?_ | (simp; done) | (simp; omega)))
    have HK := Lib.hid (show Blk W w.heap.size 67 #[.int .i64 n0, .slice a1 x1.length c1, .slice a2 x2.length c2, .slice a3 x3.length c3] by subst hW; exact Blk.new _ _ _)
    clear hW
    have d0 : W.cell? ⟨w.heap.size, 0, none⟩ = some (.int .i64 n0) := HK.out.cell 0 rfl
    have d1 : W.cell? ⟨w.heap.size, 1, none⟩ = some (.slice a1 x1.length c1) := HK.out.cell 1 rfl
    have d2 : W.cell? ⟨w.heap.size, 2, none⟩ = some (.slice a2 x2.length c2) := HK.out.cell 2 rfl
    have d3 : W.cell? ⟨w.heap.size, 3, none⟩ = some (.slice a3 x3.length c3) := HK.out.cell 3 rfl
    go_quiet (first
      | (go_at_call 64; exact quiet_same (size_any _ _ (by unfold maxLen; omega)))
      | (go_at_call 65; exact quiet_same (within_any _ _ _ _)))
    go_wp2_with fail
    go_ret
    exact ⟨by rw [HNO.out]; rfl, below_drewN HB.out _⟩

set_option maxHeartbeats 4000000 in
set_option maxRecDepth 4000 in
theorem VR_yes (n0 : Int) (x1 x2 x3 : List Nat) (a1 a2 a3 : Option Addr) (c1 c2 c3 : Nat) (w : World) (P1 : Hid (RdF w (.slice a1 x1.length c1) x1)) (P2 : Hid (RdF w (.slice a2 x2.length c2) x2)) (P3 : Hid (RdF w (.slice a3 x3.length c3) x3)) (l1 : x1.length ≤ 9223372036854775807) (l2 : x2.length ≤ 9223372036854775807) (l3 : x3.length ≤ 9223372036854775807)
    (hA : 1 ≤ n0 ∧ n0 ≤ 8) (hB : 1 ≤ x2.length ∧ x2.length ≤ 8) (hC : (x3.length : Int) = n0) (hD : (x1.length : Int) = n0 * x2.length)  :
    Calls Try.prog 119 #[.agg #[.int .i64 n0, .slice a1 x1.length c1, .slice a2 x2.length c2, .slice a3 x3.length c3]] w fun e w' => e = .returned (.bool (validR ⟨n0, x1, x2, x3⟩)) ∧ Below w.heap.size w w' := by
  have hin := inB_true (lo := 1) (hi := 8) (n := n0) hA
  have hin2 := inB_true (lo := 1) (hi := 8) (n := (x2.length : Int)) (by omega)
  have hcb : ((x3.length : Int) != n0) = false := by simp [hC]
  obtain ⟨M, hM⟩ : ∃ M : Int, M = n0 * x2.length := ⟨_, rfl⟩
  have hM0 : 0 ≤ M ∧ M ≤ 64 := by have := mulR hA.1 hA.2 hB.2; omega
  have hmul : IntKind.i64.wrap (n0 * (x2.length : Int)) = M := by rw [IntWalk.i64_in _ (by omega), hM]
  have hdb : ((x1.length : Int) != M) = false := by rw [hM]; simp [hD]
  have HM := Lib.hid hM
  clear hM
  have HC := Lib.hid hC
  have HD := Lib.hid hD
  have HA := Lib.hid hA
  have HBB := Lib.hid hB
  clear hA hC hD
  go_enter Try.func119, Try.ntmps119
  go_wp2_with fail
  refine wp_at fun W hW => ?_
  have HB := Lib.hid (show Below w.heap.size w W by subst hW; (repeat' first | exact Below.refl _ _ | assumption | refine Below.alloc ?_ ?_ _ | refine Below.setCell ?_ ?_ _ | refine Below.drew ?_ | (simp; done) | (simp; omega)))
  have HK := Lib.hid (show Blk W w.heap.size 67 #[.int .i64 n0, .slice a1 x1.length c1, .slice a2 x2.length c2, .slice a3 x3.length c3] by subst hW; exact Blk.new _ _ _)
  clear hW
  have d0 : W.cell? ⟨w.heap.size, 0, none⟩ = some (.int .i64 n0) := HK.out.cell 0 rfl
  have d1 : W.cell? ⟨w.heap.size, 1, none⟩ = some (.slice a1 x1.length c1) := HK.out.cell 1 rfl
  have d2 : W.cell? ⟨w.heap.size, 2, none⟩ = some (.slice a2 x2.length c2) := HK.out.cell 2 rfl
  have d3 : W.cell? ⟨w.heap.size, 3, none⟩ = some (.slice a3 x3.length c3) := HK.out.cell 3 rfl
  go_quiet (first
    | (go_at_call 64; exact quiet_same (size_any _ _ (by unfold maxLen; omega)))
    | (go_at_call 65; exact quiet_same (within_any _ _ _ _)))
  obtain ⟨W2, hW2⟩ : ∃ W2, W2 = W.drewN nq := ⟨_, rfl⟩
  rw [← hW2]
  have HB2 := Lib.hid (show Below w.heap.size w W2 by subst hW2; exact below_drewN HB.out _)
  have HK2 := Lib.hid (show Blk W2 w.heap.size 67 #[.int .i64 n0, .slice a1 x1.length c1, .slice a2 x2.length c2, .slice a3 x3.length c3] by subst hW2; exact HK.out)
  clear hW2 d0 d1 d2 d3
  have d2 : W2.cell? ⟨w.heap.size, 2, none⟩ = some (.slice a2 x2.length c2) := HK2.out.cell 2 rfl
  go_wp2_with fail
  go_loopw [43] (fun i wr => ∃ k : Nat, i = .int .i64 k ∧ k ≤ x2.length ∧ Hid (∀ j, j < k → (FloatKind.f32.format.order (x2.getD j 0) 0 == some .lt) = false) ∧ wr = W2) (fun i _ => x2.length - (intOf i).toNat)
  case atStart => exact ⟨0, rfl, Nat.zero_le _, fun j hj => by omega, rfl⟩
  case round =>
    obtain ⟨k, rfl, hk, hall, rfl⟩ := hrel
    by_cases hlt : k < x2.length
    · obtain ⟨b, off, rfl, _, hc⟩ := (P2.out.up HB2.out (Nat.le_refl _)).at hlt
      obtain ⟨x, hx⟩ : ∃ x, x = x2.getD k 0 := ⟨_, rfl⟩
      rw [← hx] at hc
      have HX := Lib.hid hx
      clear hx
      by_cases hq : (FloatKind.f32.format.order x 0 == some .lt) = true
      · have HNO := Lib.hid (validR_false (r := ⟨n0, x1, x2, x3⟩) (fun h => by
          have h1 := lt_of_least (h.lb k hlt)
          simp only at h1
          rw [← HX.out, hq] at h1
          cases h1))
        go_wp2_with fail
        go_ret
        exact ⟨by rw [HNO.out]; rfl, HB2.out⟩
      · rw [Bool.not_eq_true] at hq
        go_wp2_with fail
        go_roundw
        case rel => exact ⟨k + 1, by go_num, by omega, fun j hj => by
          rcases Nat.lt_succ_iff_lt_or_eq.1 hj with h | rfl
          · exact hall.out j h
          · rw [← HX.out]; exact hq, by first | trivial | rfl⟩
        case measure => simp [intOf]; omega
    · obtain rfl : k = x2.length := by omega
      go_wp2_with fail
      refine (areFinite_any _ x2 _ (P2.out.up HB2.out (Nat.le_refl _))).mono ?_
      rintro e w1 ⟨rfl, hd1⟩
      have HB3 := Lib.hid (show Below w.heap.size w w1 by obtain ⟨m, rfl⟩ := hd1; exact below_drewN HB2.out _)
      have HK3 := Lib.hid (show Blk w1 w.heap.size 67 #[.int .i64 n0, .slice a1 x1.length c1, .slice a2 x2.length c2, .slice a3 x3.length c3] by obtain ⟨m, rfl⟩ := hd1; exact HK2.out)
      clear hd1
      by_cases hf2 : allFin x2 = true
      case neg =>
        rw [Bool.not_eq_true] at hf2
        have HNO := Lib.hid (validR_false (r := ⟨n0, x1, x2, x3⟩) (fun h => by
          have : allFin x2 = true := allFin_yes fun i hi => least_fin (h.lb i hi)
          rw [hf2] at this; cases this))
        rw [hf2]
        go_wp2_with fail
        go_ret
        exact ⟨by rw [HNO.out]; rfl, HB3.out⟩
      rw [hf2]
      have HF2 := Lib.hid hf2
      clear hf2
      have d3 : w1.cell? ⟨w.heap.size, 3, none⟩ = some (.slice a3 x3.length c3) := HK3.out.cell 3 rfl
      go_wp2_with fail
      refine (areFinite_any _ x3 _ (P3.out.up HB3.out (Nat.le_refl _))).mono ?_
      rintro e w2 ⟨rfl, hd1⟩
      have HB4 := Lib.hid (show Below w.heap.size w w2 by obtain ⟨m, rfl⟩ := hd1; exact below_drewN HB3.out _)
      have HK4 := Lib.hid (show Blk w2 w.heap.size 67 #[.int .i64 n0, .slice a1 x1.length c1, .slice a2 x2.length c2, .slice a3 x3.length c3] by obtain ⟨m, rfl⟩ := hd1; exact HK3.out)
      clear hd1 d3
      by_cases hf3 : allFin x3 = true
      case neg =>
        rw [Bool.not_eq_true] at hf3
        have HNO := Lib.hid (validR_false (r := ⟨n0, x1, x2, x3⟩) (fun h => by
          have := h.fg
          simp only at this
          rw [hf3] at this; cases this))
        rw [hf3]
        go_wp2_with fail
        go_ret
        exact ⟨by rw [HNO.out]; rfl, HB4.out⟩
      rw [hf3]
      have HF3 := Lib.hid hf3
      clear hf3
      have d1 : w2.cell? ⟨w.heap.size, 1, none⟩ = some (.slice a1 x1.length c1) := HK4.out.cell 1 rfl
      go_wp2_with fail
      refine (areFinite_any _ x1 _ (P1.out.up HB4.out (Nat.le_refl _))).mono ?_
      rintro e w3 ⟨rfl, hd1⟩
      have HB5 := Lib.hid (show Below w.heap.size w w3 by obtain ⟨m, rfl⟩ := hd1; exact below_drewN HB4.out _)
      clear hd1 d1
      have HV : Hid (validR ⟨n0, x1, x2, x3⟩ = allFin x1) := by
        show validR _ = allFin x1
        by_cases hf1 : allFin x1 = true
        · rw [hf1]
          exact validR_true ⟨HA.out.1, HA.out.2, HBB.out.1, HBB.out.2, HC.out, HD.out, hf1, HF3.out, fun i hi => least_of (allFin_get HF2.out hi) (hall.out i hi)⟩
        · rw [Bool.not_eq_true] at hf1
          rw [hf1]
          exact validR_false (fun h => by have := h.fn; simp only at this; rw [hf1] at this; cases this)
      go_wp2_with fail
      go_ret
      exact ⟨by rw [HV.out]; rfl, HB5.out⟩

set_option maxHeartbeats 4000000 in
set_option maxRecDepth 4000 in
theorem ValidRows_any (v : Value) (r : RowsD) (w : World) (h : RdR w v r) :
    Calls Try.prog 119 #[v] w fun e w' => e = .returned (.bool (validR r)) ∧ Below w.heap.size w w' := by
  obtain ⟨a1, c1, a2, c2, a3, c3, rfl⟩ := h.shape
  obtain ⟨p1, p2, p3⟩ := h.parts
  obtain ⟨n0, x1, x2, x3⟩ := r
  simp only at p1 p2 p3 ⊢
  have l1 := p1.len
  have l2 := p2.len
  have l3 := p3.len
  unfold maxLen at l1 l2 l3
  have P1 := Lib.hid p1
  have P2 := Lib.hid p2
  have P3 := Lib.hid p3
  clear h p1 p2 p3
  by_cases hA : 1 ≤ n0 ∧ n0 ≤ 8
  case neg => exact VR_hA n0 x1 x2 x3 a1 a2 a3 c1 c2 c3 w P1 P2 P3 (by omega) (by omega) (by omega) hA
  by_cases hB : 1 ≤ x2.length ∧ x2.length ≤ 8
  case neg => exact VR_hB n0 x1 x2 x3 a1 a2 a3 c1 c2 c3 w P1 P2 P3 (by omega) (by omega) (by omega) hA hB
  by_cases hC : (x3.length : Int) = n0
  case neg => exact VR_hC n0 x1 x2 x3 a1 a2 a3 c1 c2 c3 w P1 P2 P3 (by omega) (by omega) (by omega) hA hB hC
  by_cases hD : (x1.length : Int) = n0 * x2.length
  case neg => exact VR_hD n0 x1 x2 x3 a1 a2 a3 c1 c2 c3 w P1 P2 P3 (by omega) (by omega) (by omega) hA hB hC hD
  exact VR_yes n0 x1 x2 x3 a1 a2 a3 c1 c2 c3 w P1 P2 P3 (by omega) (by omega) (by omega) hA hB hC hD


end Go.Proofs.Ytkfiepiipigcmaa

namespace Go.Proofs.Ytkfiepiipigcmaa
open Go.RowKit

theorem wp_app_ints {w : World} {o : Oper} {a : Act} {K : Act → World → Prop} {Q : Exit → Act → World → Prop} (s x : Operand)
    (ho : o.op = .call { callee := .builtin .append, args := #[s, x], argTypes := #[24, 24] })
    (base : Nat) (v : Value) (n : Nat) (xs : List Int) (hs : a.eval s = v) (hown : w.ownsRow base 2 1 v n (xs.map I64))
    (sv : Value) (news : List Int) (hx : a.eval x = sv) (hsv : Slc w sv (news.map I64)) (m : Nat) (ys : List Int) (hm : m = n + news.length) (hys : ys = xs ++ news) (hlen : m ≤ 17592186044416) (hbase : base ≤ w.heap.size)
    (h : ∀ a' cap' w', w'.ownsRow base 2 1 (.slice a' m cap') m (ys.map I64) → Below base w w' → w.grownBy w' v.ownBlock → (Value.slice a' m cap' = .slice none 0 0 ↔ v = .slice none 0 0 ∧ news = []) → K (a.put o.dst (.slice a' m cap')) w') :
    o.wp Try.prog a w K Q := by
  obtain ⟨i0, hi, hz0, hz1, hz2⟩ := info_parts Try.infoI64
  subst hm hys
  have hk : ∀ v' w', w'.ownsRow base 2 1 v' (n + news.length) (xs.map I64 ++ news.map I64) → w.grownBy w' v.ownBlock → (v' = .slice none 0 0 ↔ v = .slice none 0 0 ∧ news = []) → K (a.put o.dst v') w' := by
    intro v' w' h1 h2 h3
    have h1' : w'.ownsRow base 2 1 v' (n + news.length) ((xs ++ news).map I64) := by simpa using h1
    obtain ⟨a', cap', rfl⟩ := owns_shape h1'
    exact h a' cap' w' h1' (below_grown hown hbase h2) h2 h3
  rcases hsv with ⟨rfl, hnil⟩ | ⟨ad, cap, rfl, hcl, hcm, hc⟩
  · have hn : news = [] := by simpa using hnil
    subst hn
    have hrun := run_append_owned_none (P := Try.prog) (w := w) base 24 o.type 2 i0 1 Try.underlying24 hi v n (xs.map I64) hown
    unfold Oper.wp
    simp [execOp, ho, resolve, invoke, builtin, hs, hx, hrun, Result.andThen]
    exact hk v w (by simpa using hown) (World.grownBy.refl _ _) (by simp)
  · refine wp_append_own w s x 24 ho base 2 i0 (.int .i64 0) 1 8 Try.underlying24 hi hz0 hz1 hz2 rfl (by decide) v n (xs.map I64) hs hown ad (news.map I64).length cap (news.map I64) hx (by simp) hc (i64_one news) (by simp [maxLen]; omega) (by simp; omega) hbase ?_
    intro v' w' h2 h3 h4
    exact hk v' w' (by simpa using h2) h3 (by rw [h4]; simp)

theorem step_app_own {w : World} {ops : Array Oper} {o : Oper} {a : Act} {K : Act → World → Prop} {Q : Exit → Act → World → Prop} {E : Prop} (hgd : o.guard = none) (s x : Operand)
    (ho : o.op = .call { callee := .builtin .append, args := #[s, x], argTypes := #[24, 24] })
    (base : Nat) (ad : Addr) (n cap : Nat) (xs : List Int) (hs : a.eval s = .slice (some ad) n cap) (hown : w.ownsRow base 2 1 (.slice (some ad) n cap) n (xs.map I64))
    (sv : Value) (news : List Int) (hx : a.eval x = sv) (hsv : Slc w sv (news.map I64)) (m : Nat) (ys : List Int) (hm : m = n + news.length) (hys : ys = xs ++ news) (hlen : m ≤ 17592186044416) (hbase : base ≤ w.heap.size)
    (h : ∀ g cap' w', w'.ownsRow base 2 1 (.slice (some ⟨g, 0, none⟩) m cap') m (ys.map I64) → Below base w w' → w.grownBy w' (Value.slice (some ad) n cap).ownBlock → K (a.put o.dst (.slice (some ⟨g, 0, none⟩) m cap')) w') :
    if Region.wanted o (yielded ops a.tmps) = true then Oper.wp Try.prog o a w K Q else E := by
  have hw : Region.wanted o (yielded ops a.tmps) = true := by simp [Region.wanted, hgd]
  rw [if_pos hw]
  refine wp_app_ints s x ho base _ n xs hs hown sv news hx hsv m ys hm hys hlen hbase ?_
  intro a' cap' w' h1 h2 h3 h4
  obtain ⟨g, c, e, _⟩ := owns_some h1 (by intro e; have := h4.1 e; simp at this)
  simp only [Value.slice.injEq, true_and] at e
  obtain ⟨rfl, rfl⟩ := e
  exact h g _ w' h1 h2 h3

/-- A slice in one block reads on where this block is kept. -/
theorem slc_keptB {S : Nat → Prop} {w w' : World} {ad : Addr} {n cap : Nat} {vs : List Value} (h : Slc w (.slice (some ad) n cap) vs) (hk : Kept S w w') (hs : ¬ S ad.block) : Slc w' (.slice (some ad) n cap) vs := by
  rcases h with ⟨e1, _⟩ | ⟨ad2, cap2, e1, h1, h2, hc⟩
  · simp at e1
  · simp only [Value.slice.injEq, Option.some.injEq] at e1
    obtain ⟨rfl, rfl, rfl⟩ := e1
    refine .inr ⟨ad, cap, rfl, h1, h2, fun i u hi => ?_⟩
    have h0 := hc i u hi
    rw [hk.cell (cell_lt h0) (by rw [addr_add_block]; exact hs)]
    exact h0

/-- A new row of one stays as it is behind an append to another. -/
theorem slc_grown {w w' : World} {ad : Addr} {n cap : Nat} {vs : List Value} {row : Option Nat} (h : Slc w (.slice (some ad) n cap) vs) (hg : w.grownBy w' row) (hne : row ≠ some ad.block) : Slc w' (.slice (some ad) n cap) vs :=
  slc_keptB (S := fun k => row = some k) h ⟨hg.os, hg.tape, hg.output, hg.size, fun k hk hn => hg.block k hk fun e => hn e.symm⟩ hne

theorem slc_drew {w : World} {v : Value} {vs : List Value} (h : Slc w v vs) : Slc w.drew v vs := h
theorem slc_alloc {w : World} {v : Value} {vs : List Value} (h : Slc w v vs) (o : Obj) : Slc (w.alloc o) v vs := h.below ((Below.refl _ _).alloc (Nat.le_refl _) _) (Nat.le_refl _)

theorem slc_oneB (w : World) (z : Int) (b : Nat) (hb : b = w.heap.size) : Slc (w.alloc (.cells #[.int .i64 z] 2)) (.slice (some ⟨b, 0, none⟩) 1 1) ([z].map I64) := by subst hb; exact slc_one w z

theorem owns_emptyB (w : World) (b : Nat) (hb : b = w.heap.size) : (w.alloc (.cells #[] 2)).ownsRow w.heap.size 2 1 (.slice (some ⟨b, 0, none⟩) 0 0) 0 (([] : List Int).map I64) := by subst hb; exact owns_empty w
theorem owns_drew {w : World} {base : Nat} {e : TypeId} {v : Value} {n : Nat} {vs : List Value} (h : w.ownsRow base e 1 v n vs) : w.drew.ownsRow base e 1 v n vs := h

end Go.Proofs.Ytkfiepiipigcmaa
