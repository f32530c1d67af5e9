/-
  Case, by value.  (Printed by genstruct.py.)
-/
import Derived.Test.YtljhohacgceojaaFormO
namespace Go.Proofs.Ytljhohacgceojaa
open Go.RowKit

structure CaseD where
  name : ByteArray
  form : FormD
  proof : List (List Int)

def RdCs (w : World) (v : Value) (d : CaseD) : Prop := ∃ v1 v2, v = .agg #[.string d.name, .int .i64 d.form.letters, v1, v2] ∧ RdFm w (.agg #[.int .i64 d.form.letters, v1]) d.form ∧ RdL w v2 d.proof ∧ d.name.size ≤ maxLen
def OwnCs (lo hi : Nat) (w : World) (v : Value) (d : CaseD) : Prop := ∃ v1 v2 l1 h1 l2 h2, v = .agg #[.string d.name, .int .i64 d.form.letters, v1, v2] ∧ OwnFm l1 h1 w (.agg #[.int .i64 d.form.letters, v1]) d.form ∧ OwnL l2 h2 w v2 d.proof ∧ d.name.size ≤ maxLen ∧
  lo ≤ l1 ∧ l1 ≤ h1 ∧ h1 ≤ l2 ∧ l2 ≤ h2 ∧ h2 ≤ hi ∧ h2 ≤ w.heap.size
def bulkCs (d : CaseD) : Nat := d.name.size + bulkFm d.form + bulkL d.proof
def cntCs (d : CaseD) : Nat := cntFm d.form + cntL d.proof

theorem RdCs.shape {w : World} {v : Value} {d : CaseD} (h : RdCs w v d) : ∃ a1 c1 a2 c2, v = .agg #[.string d.name, .int .i64 d.form.letters, .slice a1 d.form.clauses.length c1, .slice a2 d.proof.length c2] := by
  obtain ⟨v1, v2, rfl, p1, p2, y1⟩ := h
  obtain ⟨a1, c1, e1⟩ := p1.shape
  simp only [Value.agg.injEq, Array.mk.injEq, List.cons.injEq, and_true, true_and] at e1
  obtain rfl := e1
  obtain ⟨a2, c2, rfl⟩ := p2.shape
  exact ⟨_, _, _, _, rfl⟩
theorem RdCs.parts {w : World} {z1 z2 z3 z4 : Value} {d : CaseD} (h : RdCs w (.agg #[z1, z2, z3, z4]) d) : RdFm w (.agg #[z2, z3]) d.form ∧ RdL w z4 d.proof ∧ d.name.size ≤ maxLen := by
  obtain ⟨v1, v2, e, p1, p2, y1⟩ := h
  simp only [Value.agg.injEq, Array.mk.injEq, List.cons.injEq, and_true] at e
  obtain ⟨rfl, rfl, rfl, rfl⟩ := e
  exact ⟨p1, p2, y1⟩
theorem RdCs.up {w w' : World} {v : Value} {d : CaseD} {B : Nat} (h : RdCs w v d) (hb : Below B w w') (hB : w.heap.size ≤ B) : RdCs w' v d := by
  obtain ⟨v1, v2, e, p1, p2, y1⟩ := h
  exact ⟨v1, v2, e, p1.up hb hB, p2.up hb hB, y1⟩
theorem OwnCs.rd {lo hi : Nat} {w : World} {v : Value} {d : CaseD} (h : OwnCs lo hi w v d) : RdCs w v d := by
  obtain ⟨v1, v2, l1, h1, l2, h2, e, p1, p2, y1, r1, r2, r3, r4, r5, r6⟩ := h
  exact ⟨v1, v2, e, p1.rd, p2.rd, y1⟩
theorem OwnCs.up {lo hi : Nat} {w w' : World} {v : Value} {d : CaseD} {B : Nat} (h : OwnCs lo hi w v d) (hb : Below B w w') (hB : w.heap.size ≤ B) : OwnCs lo hi w' v d := by
  obtain ⟨v1, v2, l1, h1, l2, h2, e, p1, p2, y1, r1, r2, r3, r4, r5, r6⟩ := h
  exact ⟨v1, v2, l1, h1, l2, h2, e, p1.up hb hB, p2.up hb hB, y1, r1, r2, r3, r4, r5, Nat.le_trans r6 hb.size⟩
theorem OwnCs.wide {lo hi lo' hi' : Nat} {w : World} {v : Value} {d : CaseD} (h : OwnCs lo hi w v d) (a : lo' ≤ lo) (b : hi ≤ hi') : OwnCs lo' hi' w v d := by
  obtain ⟨v1, v2, l1, h1, l2, h2, e, p1, p2, y1, r1, r2, r3, r4, r5, r6⟩ := h
  exact ⟨v1, v2, l1, h1, l2, h2, e, p1, p2, y1, by omega, r2, r3, r4, by omega, r6⟩
theorem OwnCs.kept {lo hi : Nat} {w w' : World} {v : Value} {d : CaseD} {S : Nat → Prop} (h : OwnCs lo hi w v d) (hk : Kept S w w') (hs : ∀ b, lo ≤ b → b < hi → ¬ S b) : OwnCs lo hi w' v d := by
  obtain ⟨v1, v2, l1, h1, l2, h2, e, p1, p2, y1, r1, r2, r3, r4, r5, r6⟩ := h
  exact ⟨v1, v2, l1, h1, l2, h2, e, p1.kept hk (fun b a c => hs b (by omega) (by omega)), p2.kept hk (fun b a c => hs b (by omega) (by omega)), y1, r1, r2, r3, r4, r5, Nat.le_trans r6 hk.size⟩

set_option maxHeartbeats 2000000 in
set_option maxRecDepth 4000 in
theorem szCs_any (v : Value) (d : CaseD) (left : Int) (w : World) (h : RdCs w v d) (h1 : left ≤ 1048576) (h0 : 0 ≤ left) :
    Calls Try.prog 17 #[v, .int .i64 left] w fun e w' => ∃ s : Int, e = .returned (.int .i64 s) ∧ -1 ≤ s ∧ s ≤ left ∧ (0 ≤ s → (bulkCs d : Int) ≤ left - s) ∧ Below w.heap.size w w' := by
  obtain ⟨a1, c1, a2, c2, rfl⟩ := h.shape
  obtain ⟨p1, p2, ys1⟩ := h.parts
  obtain ⟨n1, x2, x3⟩ := d
  unfold bulkCs
  simp only at p1 p2 ys1 ⊢
  have P1 := Lib.hid p1
  have P2 := Lib.hid p2
  clear h p1 p2
  unfold maxLen at ys1
  by_cases hs : left - (n1.size : Int) < 0
  · go_enter Try.func17, Try.ntmps17
    go_wp2_with fail
    go_ret
    refine ⟨-1, rfl, by omega, by omega, by omega, ?_⟩
    (repeat' first | exact Below.refl _ _ | assumption | refine Below.alloc ?_ ?_ _ | refine Below.setCell ?_ ?_ _ | refine Below.drew ?_ | (simp; done) | (simp; omega))
  go_enter Try.func17, Try.ntmps17
  go_wp2_with fail
  refine Calls.at fun W hW => ?_
  have HB := Lib.hid (show Below w.heap.size w W by subst hW; (repeat' first | exact Below.refl _ _ | assumption | refine Below.alloc ?_ ?_ _ | refine Below.setCell ?_ ?_ _ | refine Below.drew ?_ | (simp; done) | (simp; omega)))
  have HK := Lib.hid (show Blk W w.heap.size 32 #[.string n1, .int .i64 x2.letters, .slice a1 x2.clauses.length c1, .slice a2 x3.length c2] by subst hW; exact Blk.new _ _ _)
  clear hW
  refine (szFm_any _ x2 (left - (n1.size : Int)) W (P1.out.up HB.out (Nat.le_refl _)) (by omega) (by omega)).mono ?_
  rintro e w1 ⟨s1, rfl, sa1, sb1, sc1, hb1⟩
  have HB1 := Lib.hid (HB.out.trans (hb1.mono HB.out.size))
  have HK1 := Lib.hid (HK.out.below hb1 HK.out.lt)
  clear hb1
  by_cases hn1 : s1 < 0
  · go_wp2_with fail
    go_ret
    exact ⟨-1, rfl, by omega, by omega, by omega, HB1.out⟩
  have d2_0 : w1.cell? ⟨w.heap.size, 3, none⟩ = some (.slice a2 x3.length c2) := HK1.out.cell 3 rfl
  go_wp2_with fail
  refine (szL_any _ x3 s1 w1 (P2.out.up HB1.out (Nat.le_refl _)) (by omega) (by omega)).mono ?_
  rintro e w2 ⟨s2, rfl, sa2, sb2, sc2, hb2⟩
  have HB2 := Lib.hid (HB1.out.trans (hb2.mono HB1.out.size))
  have HK2 := Lib.hid (HK1.out.below hb2 HK1.out.lt)
  clear hb2
  by_cases hn2 : s2 < 0
  · go_wp2_with fail
    go_ret
    exact ⟨-1, rfl, by omega, by omega, by omega, HB2.out⟩
  go_wp2_with fail
  go_ret
  exact ⟨s2, rfl, by omega, by omega, by omega, HB2.out⟩

set_option maxHeartbeats 2000000 in
set_option maxRecDepth 4000 in
theorem toCs_any (v : Value) (d : CaseD) (w : World) (h : RdCs w v d) (hb : bulkCs d ≤ 1048576) :
    Calls Try.prog 19 #[v] w fun e w' => ∃ v', e = .returned v' ∧ OwnCs w.heap.size w'.heap.size w' v' d ∧ Below w.heap.size w w' := by
  obtain ⟨a1, c1, a2, c2, rfl⟩ := h.shape
  obtain ⟨p1, p2, ys1⟩ := h.parts
  obtain ⟨n1, x2, x3⟩ := d
  unfold bulkCs at hb
  simp only at p1 p2 ys1 hb ⊢
  have P1 := Lib.hid p1
  have L1 : Hid (bulkFm x2 ≤ 1048576) := by show bulkFm x2 ≤ _; omega
  have P2 := Lib.hid p2
  have L2 : Hid (bulkL x3 ≤ 1048576) := by show bulkL x3 ≤ _; omega
  clear h p1 p2 hb
  go_enter Try.func19, Try.ntmps19
  go_wp2_with fail
  refine Calls.at fun W1 hW => ?_
  have hb1 : Below w.heap.size w W1 := by subst hW; (repeat' first | exact Below.refl _ _ | assumption | refine Below.alloc ?_ ?_ _ | refine Below.setCell ?_ ?_ _ | refine Below.drew ?_ | (simp; done) | (simp; omega))
  have hk1 : Blk W1 (w.heap.size + 2) 37 #[.string n1, .int .i64 0, .slice none 0 0, .slice none 0 0] := by subst hW; simpa using Blk.new ((w.alloc (.cells #[.string n1, .int .i64 x2.letters, .slice a1 x2.clauses.length c1, .slice a2 x3.length c2] 32)).alloc (.cells #[.string ⟨#[]⟩, .int .i64 0, .slice none 0 0, .slice none 0 0] 37)) 37 #[.string n1, .int .i64 0, .slice none 0 0, .slice none 0 0]
  have hk2 : Blk W1 w.heap.size 32 #[.string n1, .int .i64 x2.letters, .slice a1 x2.clauses.length c1, .slice a2 x3.length c2] := by subst hW; exact ((Blk.new w _ _).alloc _).alloc _
  have hk3 : Blk W1 (w.heap.size + 1) 37 #[.string ⟨#[]⟩, .int .i64 0, .slice none 0 0, .slice none 0 0] := by subst hW; simpa using (Blk.new (w.alloc (.cells #[.string n1, .int .i64 x2.letters, .slice a1 x2.clauses.length c1, .slice a2 x3.length c2] 32)) 37 #[.string ⟨#[]⟩, .int .i64 0, .slice none 0 0, .slice none 0 0]).alloc (.cells #[.string n1, .int .i64 0, .slice none 0 0, .slice none 0 0] 37)
  have hz1 := hk1.lt
  clear hW
  refine (toFm_any _ x2 W1 (P1.out.up hb1 (Nat.le_refl _)) L1.out).mono ?_
  rintro e w1 ⟨y1, rfl, ho1, hbb⟩
  obtain ⟨b1, e1, rfl⟩ := ho1.rd.shape
  have zz1 := hbb.size
  have HB1 := Lib.hid (hb1.trans (hbb.mono hb1.size))
  have HK1 := Lib.hid (hk1.below hbb hk1.lt)
  have HK2 := Lib.hid (hk2.below hbb hk2.lt)
  have HK3 := Lib.hid (hk3.below hbb hk3.lt)
  have O1 := Lib.hid (ho1)
  have k1_0 : w1.cell? ⟨w.heap.size + 2, 1, none⟩ = some (.int .i64 0) := HK1.out.cell 1 rfl
  have f1_0 := HK1.out.free 1
  have k1_1 : w1.cell? ⟨w.heap.size + 2, 2, none⟩ = some (.slice none 0 0) := HK1.out.cell 2 rfl
  have f1_1 := HK1.out.free 2
  have d1_0 : w1.cell? ⟨w.heap.size, 3, none⟩ = some (.slice a2 x3.length c2) := HK2.out.cell 3 rfl
  clear hb1 hbb hk1 hk2 hk3 ho1
  go_wp2_with fail
  refine Calls.at fun W2 hW => ?_
  have z2 : W2.heap.size = w1.heap.size := by subst hW; simp
  have hb2 : Below w.heap.size w W2 := by subst hW; exact ((HB1.out.setCell (by first | (simp; done) | (simp; omega)) _).setCell (by first | (simp; done) | (simp; omega)) _)
  have hk1 : Blk W2 (w.heap.size + 2) 37 #[.string n1, .int .i64 x2.letters, .slice b1 x2.clauses.length e1, .slice none 0 0] := by subst hW; exact ((HK1.out.set 1 _).set 2 _)
  have hk2 : Blk W2 w.heap.size 32 #[.string n1, .int .i64 x2.letters, .slice a1 x2.clauses.length c1, .slice a2 x3.length c2] := by subst hW; exact ((HK2.out.other (by first | (simp; done) | (simp; omega)) _).other (by first | (simp; done) | (simp; omega)) _)
  have hk3 : Blk W2 (w.heap.size + 1) 37 #[.string ⟨#[]⟩, .int .i64 0, .slice none 0 0, .slice none 0 0] := by subst hW; exact ((HK3.out.other (by first | (simp; done) | (simp; omega)) _).other (by first | (simp; done) | (simp; omega)) _)
  have hks : Kept (· = w.heap.size + 2) w1 W2 := by subst hW; exact (Kept.setCell (S := (· = w.heap.size + 2)) (p := ⟨w.heap.size + 1 + 1, 2, none⟩) (Kept.setCell (S := (· = w.heap.size + 2)) (p := ⟨w.heap.size + 1 + 1, 1, none⟩) (Kept.refl _ _) (.inr rfl) _) (.inr rfl) _)
  have ho1 := O1.out.kept hks (by intro b h1 h2 h3; omega)
  clear hW hks k1_0 f1_0 k1_1 f1_1 d1_0 HB1 HK1 HK2 HK3 O1
  refine (toL_any _ x3 W2 (P2.out.up hb2 (Nat.le_refl _)) L2.out).mono ?_
  rintro e w2 ⟨y2, rfl, ho2, hbb⟩
  obtain ⟨b2, e2, rfl⟩ := ho2.rd.shape
  have zz2 := hbb.size
  have HB2 := Lib.hid (hb2.trans (hbb.mono hb2.size))
  have HK1 := Lib.hid (hk1.below hbb hk1.lt)
  have HK2 := Lib.hid (hk2.below hbb hk2.lt)
  have HK3 := Lib.hid (hk3.below hbb hk3.lt)
  have O1 := Lib.hid (ho1.up hbb (Nat.le_refl _))
  have O2 := Lib.hid (ho2)
  have k2_0 : w2.cell? ⟨w.heap.size + 2, 3, none⟩ = some (.slice none 0 0) := HK1.out.cell 3 rfl
  have f2_0 := HK1.out.free 3
  clear hb2 hbb hk1 hk2 hk3 ho1 ho2
  have g0 : w2.cell? ⟨w.heap.size + 2, 0, none⟩ = some (.string n1) := HK1.out.cell 0 rfl
  have g1 : w2.cell? ⟨w.heap.size + 2, 1, none⟩ = some (.int .i64 x2.letters) := HK1.out.cell 1 rfl
  have g2 : w2.cell? ⟨w.heap.size + 2, 2, none⟩ = some (.slice b1 x2.clauses.length e1) := HK1.out.cell 2 rfl
  have h0 : w2.cell? ⟨w.heap.size + 1, 0, none⟩ = some (.string ⟨#[]⟩) := HK3.out.cell 0 rfl
  have i0 := HK3.out.free 0
  have h1 : w2.cell? ⟨w.heap.size + 1, 1, none⟩ = some (.int .i64 0) := HK3.out.cell 1 rfl
  have i1 := HK3.out.free 1
  have h2 : w2.cell? ⟨w.heap.size + 1, 2, none⟩ = some (.slice none 0 0) := HK3.out.cell 2 rfl
  have i2 := HK3.out.free 2
  have h3 : w2.cell? ⟨w.heap.size + 1, 3, none⟩ = some (.slice none 0 0) := HK3.out.cell 3 rfl
  have i3 := HK3.out.free 3
  go_wp2_with fail
  refine bodyPost_ret (v := .agg #[.string n1, .int .i64 x2.letters, .slice b1 x2.clauses.length e1, .slice b2 x3.length e2]) (by simp [results, Try.results19, go_sem, *]) rfl ?_
  have wx : ∀ Wf, Kept (fun b => b = w.heap.size + 1 ∨ b = w.heap.size + 2) w2 Wf → Wf.heap.size = w2.heap.size → ∃ v', Ending.returned (.agg #[.string n1, .int .i64 x2.letters, .slice b1 x2.clauses.length e1, .slice b2 x3.length e2]) = Ending.returned v' ∧ OwnCs w.heap.size Wf.heap.size Wf v' ⟨n1, x2, x3⟩ ∧ Below w.heap.size w Wf := by
    intro Wf hk hz
    have k1 := O1.out.kept hk (by intro b h1 h2 h3; omega)
    have k2 := O2.out.kept hk (by intro b h1 h2 h3; omega)
    refine ⟨_, rfl, ⟨_, _, _, _, _, _, rfl, k1, k2, ys1, by omega, by omega, by omega, by omega, by omega, by omega⟩, HB2.out.trans (hk.toBelow HB2.out.size (by intro k h1 h2; omega))⟩
  refine wx _ ?_ (by simp)
  repeat' first | exact Kept.refl _ _ | refine Kept.setCell ?_ (.inr (by simp)) _

set_option maxHeartbeats 2000000 in
set_option maxRecDepth 4000 in
theorem eqCs_same (v v' : Value) (d : CaseD) (w : World) (h : RdCs w v d) (h' : RdCs w v' d) :
    Calls Try.prog 21 #[v, v'] w fun e w' => e = .returned (.bool true) ∧ Below w.heap.size w w' := by
  obtain ⟨a1, c1, a2, c2, rfl⟩ := h.shape
  obtain ⟨b1, e1, b2, e2, rfl⟩ := h'.shape
  obtain ⟨p1, p2, ys1⟩ := h.parts
  obtain ⟨q1, q2, yt1⟩ := h'.parts
  obtain ⟨n1, x2, x3⟩ := d
  simp only at p1 p2 q1 q2 ⊢
  have P1 := Lib.hid p1
  have Q1 := Lib.hid q1
  have P2 := Lib.hid p2
  have Q2 := Lib.hid q2
  clear h h' p1 p2 q1 q2
  go_enter Try.func21, Try.ntmps21
  go_wp2_with fail
  refine Calls.at fun W hW => ?_
  have HB := Lib.hid (show Below w.heap.size w W by subst hW; (repeat' first | exact Below.refl _ _ | assumption | refine Below.alloc ?_ ?_ _ | refine Below.setCell ?_ ?_ _ | refine Below.drew ?_ | (simp; done) | (simp; omega)))
  have HK := Lib.hid (show Blk W w.heap.size 37 #[.string n1, .int .i64 x2.letters, .slice a1 x2.clauses.length c1, .slice a2 x3.length c2] by subst hW; exact (Blk.new _ _ _).alloc _)
  have HL := Lib.hid (show Blk W (w.heap.size + 1) 37 #[.string n1, .int .i64 x2.letters, .slice b1 x2.clauses.length e1, .slice b2 x3.length e2] by subst hW; simpa using Blk.new (w.alloc (.cells #[.string n1, .int .i64 x2.letters, .slice a1 x2.clauses.length c1, .slice a2 x3.length c2] 37)) 37 #[.string n1, .int .i64 x2.letters, .slice b1 x2.clauses.length e1, .slice b2 x3.length e2])
  clear hW
  refine (eqFm_same _ _ x2 W (P1.out.up HB.out (Nat.le_refl _)) (Q1.out.up HB.out (Nat.le_refl _))).mono ?_
  rintro e w1 ⟨rfl, hb1⟩
  have HB1 := Lib.hid (HB.out.trans (hb1.mono HB.out.size))
  have HK1 := Lib.hid (HK.out.below hb1 HK.out.lt)
  have HL1 := Lib.hid (HL.out.below hb1 HL.out.lt)
  clear hb1
  have d2_0 : w1.cell? ⟨w.heap.size, 3, none⟩ = some (.slice a2 x3.length c2) := HK1.out.cell 3 rfl
  have g2_0 : w1.cell? ⟨w.heap.size + 1, 3, none⟩ = some (.slice b2 x3.length e2) := HL1.out.cell 3 rfl
  go_wp2_with fail
  refine (eqL_same _ _ x3 w1 (P2.out.up HB1.out (Nat.le_refl _)) (Q2.out.up HB1.out (Nat.le_refl _))).mono ?_
  rintro e w2 ⟨rfl, hb2⟩
  have HB2 := Lib.hid (HB1.out.trans (hb2.mono HB1.out.size))
  clear hb2
  go_wp2_with fail
  go_ret
  exact ⟨rfl, HB2.out⟩

def mkdCs (k : Int) (d : CaseD) : CaseD := ⟨d.name, mkdFm k d.form, mkdL (k + cntFm d.form) d.proof⟩

set_option maxHeartbeats 2000000 in
set_option maxRecDepth 4000 in
theorem markCs_o (v : Value) (lo hi : Nat) (d : CaseD) (k : Int) (w : World) (ho : OwnCs lo hi w v d) (h0 : 0 ≤ k) (h1 : k + cntCs d ≤ 1099511627776) :
    Calls Try.prog 32 #[v, .int .i64 k] w fun e w' => e = .returned (.int .i64 (k + cntCs d)) ∧ OwnCs lo hi w' v (mkdCs k d) ∧ Kept (fun b => lo ≤ b ∧ b < hi) w w' := by
  obtain ⟨a1, c1, a2, c2, hv⟩ := ho.rd.shape
  obtain ⟨v1, v2, l1, h1', l2, h2, e, o1, o2, y1, r1, r2, r3, r4, r5, r6⟩ := ho
  rw [e] at hv
  simp only [Value.agg.injEq, Array.mk.injEq, List.cons.injEq, and_true, true_and] at hv
  obtain ⟨rfl, rfl⟩ := hv
  subst e
  obtain ⟨n1, x2, x3⟩ := d
  unfold cntCs mkdCs at *
  simp only at o1 o2 h1 ⊢
  obtain ⟨C1, hC1⟩ : ∃ C, C = cntFm x2 := ⟨_, rfl⟩
  obtain ⟨C2, hC2⟩ : ∃ C, C = cntL x3 := ⟨_, rfl⟩
  try rw [← hC1] at h1
  try rw [← hC1]
  have HC1 := Lib.hid hC1
  try rw [← hC2] at h1
  try rw [← hC2]
  have HC2 := Lib.hid hC2
  have b1 : k + C1 ≤ 1099511627776 := by omega
  have b2 : k + C1 + C2 ≤ 1099511627776 := by omega
  have O1 := Lib.hid o1
  have O2 := Lib.hid o2
  clear o1 o2 h1 hC1 hC2
  go_enter Try.func32, Try.ntmps32
  go_wp2_with fail
  refine Calls.at fun W hW => ?_
  have HB := Lib.hid (show Below w.heap.size w W by subst hW; (repeat' first | exact Below.refl _ _ | assumption | refine Below.alloc ?_ ?_ _ | refine Below.setCell ?_ ?_ _ | refine Below.drew ?_ | (simp; done) | (simp; omega)))
  have HK := Lib.hid (show Blk W w.heap.size 37 #[.string n1, .int .i64 x2.letters, .slice a1 x2.clauses.length c1, .slice a2 x3.length c2] by subst hW; exact Blk.new _ _ _)
  clear hW
  have A1 := Lib.hid (O1.out.up HB.out (Nat.le_refl _))
  have A2 := Lib.hid (O2.out.up HB.out (Nat.le_refl _))
  have hzW := HB.out.size
  have hKl := HK.out.lt
  refine (markFm_o _ l1 h1' x2 (k) W A1.out (by omega) (by rw [← HC1.out]; exact b1)).mono ?_
  rintro e w1 ⟨rfl, m1, k1⟩
  rw [← HC1.out]
  have HK1 := Lib.hid (HK.out.kept k1 (by omega))
  have M1 := Lib.hid m1
  replace A2 := Lib.hid (A2.out.kept k1 (by intro b q1 q2 q3; omega))
  have KK1 := Lib.hid ((Kept.of_below HB.out (Nat.le_refl _)).trans (k1.mono (S' := fun b => lo ≤ b ∧ b < hi) (by intro b _ q; omega)))
  clear m1 k1
  have d2_0 : w1.cell? ⟨w.heap.size, 3, none⟩ = some (.slice a2 x3.length c2) := HK1.out.cell 3 rfl
  go_wp2_with fail
  refine (markL_o _ l2 h2 x3 (k + C1) w1 A2.out (by omega) (by rw [← HC2.out]; exact b2)).mono ?_
  rintro e w2 ⟨rfl, m2, k2⟩
  rw [← HC2.out]
  have HK2 := Lib.hid (HK1.out.kept k2 (by omega))
  replace M1 := Lib.hid (M1.out.kept k2 (by intro b q1 q2 q3; omega))
  have M2 := Lib.hid m2
  have KK2 := Lib.hid (KK1.out.trans (k2.mono (S' := fun b => lo ≤ b ∧ b < hi) (by intro b _ q; omega)))
  clear m2 k2 d2_0
  go_wp2_with fail
  go_ret
  refine ⟨congrArg (fun x => Ending.returned (Value.int IntKind.i64 x)) (by have := HC2.out; push_cast; omega), ?_, KK2.out⟩
  have hz := KK2.out.size
  exact ⟨_, _, l1, h1', l2, h2, rfl, M1.out, M2.out, y1, r1, r2, r3, r4, r5, by omega⟩

set_option maxHeartbeats 2000000 in
set_option maxRecDepth 4000 in
theorem heldCs_o (v : Value) (d : CaseD) (k : Int) (w : World) (h : RdCs w v (mkdCs k d)) (h0 : 0 ≤ k) (h1 : k + cntCs d ≤ 1099511627776) :
    Calls Try.prog 33 #[v, .int .i64 k] w fun e w' => e = .returned (.int .i64 (k + cntCs d)) ∧ Below w.heap.size w w' := by
  obtain ⟨a1, c1, a2, c2, rfl⟩ := h.shape
  obtain ⟨p1, p2, ys1⟩ := h.parts
  obtain ⟨n1, x2, x3⟩ := d
  unfold cntCs mkdCs at *
  simp only at p1 p2 h1 ⊢
  obtain ⟨C1, hC1⟩ : ∃ C, C = cntFm x2 := ⟨_, rfl⟩
  obtain ⟨C2, hC2⟩ : ∃ C, C = cntL x3 := ⟨_, rfl⟩
  rw [← hC1] at h1 ⊢
  rw [← hC1] at p2
  have HC1 := Lib.hid hC1
  rw [← hC2] at h1 ⊢
  have HC2 := Lib.hid hC2
  have b1 : k + C1 ≤ 1099511627776 := by omega
  have b2 : k + C1 + C2 ≤ 1099511627776 := by omega
  have P1 := Lib.hid p1
  obtain ⟨g1_0, hg1_0⟩ : ∃ x, x = (mkdFm (k) x2).letters := ⟨_, rfl⟩
  obtain ⟨g1_1, hg1_1⟩ : ∃ x, x = (mkdFm (k) x2).clauses.length := ⟨_, rfl⟩
  have P2 := Lib.hid p2
  obtain ⟨g2_0, hg2_0⟩ : ∃ x, x = (mkdL (k + C1) x3).length := ⟨_, rfl⟩
  clear h p1 p2 h1 hC1 hC2
  rw [← hg1_0] at P1 ⊢
  rw [← hg1_1] at P1 ⊢
  rw [← hg2_0] at P2 ⊢
  clear hg1_0 hg1_1 hg2_0
  go_enter Try.func33, Try.ntmps33
  go_wp2_with fail
  refine Calls.at fun W hW => ?_
  have HB := Lib.hid (show Below w.heap.size w W by subst hW; (repeat' first | exact Below.refl _ _ | assumption | refine Below.alloc ?_ ?_ _ | refine Below.setCell ?_ ?_ _ | refine Below.drew ?_ | (simp; done) | (simp; omega)))
  have HK := Lib.hid (show Blk W w.heap.size 37 #[.string n1, .int .i64 g1_0, .slice a1 g1_1 c1, .slice a2 g2_0 c2] by subst hW; exact Blk.new _ _ _)
  clear hW
  refine (heldFm_o _ x2 (k) W (P1.out.up HB.out (Nat.le_refl _)) (by omega) (by rw [← HC1.out]; exact b1)).mono ?_
  rintro e w1 ⟨rfl, hb1⟩
  rw [← HC1.out]
  have HB1 := Lib.hid (HB.out.trans (hb1.mono HB.out.size))
  have HK1 := Lib.hid (HK.out.below hb1 HK.out.lt)
  clear hb1
  have d2_0 : w1.cell? ⟨w.heap.size, 3, none⟩ = some (.slice a2 g2_0 c2) := HK1.out.cell 3 rfl
  have e1 : ¬ (k + (C1 : Int) < 0) := by omega
  go_wp2_with fail
  refine (heldL_o _ x3 (k + C1) w1 (P2.out.up HB1.out (Nat.le_refl _)) (by omega) (by rw [← HC2.out]; exact b2)).mono ?_
  rintro e w2 ⟨rfl, hb2⟩
  rw [← HC2.out]
  have HB2 := Lib.hid (HB1.out.trans (hb2.mono HB1.out.size))
  clear hb2
  have e2 : ¬ (k + (C1 : Int) + (C2 : Int) < 0) := by omega
  go_wp2_with fail
  go_ret
  exact ⟨congrArg (fun x => Ending.returned (Value.int IntKind.i64 x)) (by push_cast; omega), HB2.out⟩

end Go.Proofs.Ytljhohacgceojaa
