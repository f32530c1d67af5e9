/-
  FnExactScaleRows: texts joined: CaseO, Flat, Jobs, CaseL, OpenC.
-/
import Derived.Deep.RegionHeld3
import Derived.Lib.SmallJoins
import Derived.Test.YtkkcgclliomocaaMEScaleRowsAA
import Derived.Test.YtkkcgclliomocaaMEScaleRowsAC
import Derived.Test.YtkkcgclliomocaaMEScaleRowsAH
namespace Go.Proofs.Ytkkcgclliomocaa
open Go.RowKit

structure CaseD where
  name : ByteArray
  form : FormD
  proof : List (List Int)

def RdCs (w : World) (v : Value) (d : CaseD) : Prop := ∃ v1 v2, v = .agg #[.string d.name, .int .i64 d.form.letters, v1, v2] ∧ RdFm w (.agg #[.int .i64 d.form.letters, v1]) d.form ∧ RdL w v2 d.proof ∧ d.name.size ≤ maxLen
def OwnCs (lo hi : Nat) (w : World) (v : Value) (d : CaseD) : Prop := ∃ v1 v2 l1 h1 l2 h2, v = .agg #[.string d.name, .int .i64 d.form.letters, v1, v2] ∧ OwnFm l1 h1 w (.agg #[.int .i64 d.form.letters, v1]) d.form ∧ OwnL l2 h2 w v2 d.proof ∧ d.name.size ≤ maxLen ∧
  lo ≤ l1 ∧ l1 ≤ h1 ∧ h1 ≤ l2 ∧ l2 ≤ h2 ∧ h2 ≤ hi ∧ h2 ≤ w.heap.size
def bulkCs (d : CaseD) : Nat := d.name.size + bulkFm d.form + bulkL d.proof
def cntCs (d : CaseD) : Nat := cntFm d.form + cntL d.proof

theorem RdCs.shape {w : World} {v : Value} {d : CaseD} (h : RdCs w v d) : ∃ a1 c1 a2 c2, v = .agg #[.string d.name, .int .i64 d.form.letters, .slice a1 d.form.clauses.length c1, .slice a2 d.proof.length c2] := by
  obtain ⟨v1, v2, rfl, p1, p2, y1⟩ := h
  obtain ⟨a1, c1, e1⟩ := p1.shape
  simp only [Value.agg.injEq, Array.mk.injEq, List.cons.injEq, and_true, true_and] at e1
  obtain rfl := e1
  obtain ⟨a2, c2, rfl⟩ := p2.shape
  exact ⟨_, _, _, _, rfl⟩
theorem RdCs.parts {w : World} {z1 z2 z3 z4 : Value} {d : CaseD} (h : RdCs w (.agg #[z1, z2, z3, z4]) d) : RdFm w (.agg #[z2, z3]) d.form ∧ RdL w z4 d.proof ∧ d.name.size ≤ maxLen := by
  obtain ⟨v1, v2, e, p1, p2, y1⟩ := h
  simp only [Value.agg.injEq, Array.mk.injEq, List.cons.injEq, and_true] at e
  obtain ⟨rfl, rfl, rfl, rfl⟩ := e
  exact ⟨p1, p2, y1⟩
theorem RdCs.up {w w' : World} {v : Value} {d : CaseD} {B : Nat} (h : RdCs w v d) (hb : Below B w w') (hB : w.heap.size ≤ B) : RdCs w' v d := by
  obtain ⟨v1, v2, e, p1, p2, y1⟩ := h
  exact ⟨v1, v2, e, p1.up hb hB, p2.up hb hB, y1⟩
theorem OwnCs.rd {lo hi : Nat} {w : World} {v : Value} {d : CaseD} (h : OwnCs lo hi w v d) : RdCs w v d := by
  obtain ⟨v1, v2, l1, h1, l2, h2, e, p1, p2, y1, r1, r2, r3, r4, r5, r6⟩ := h
  exact ⟨v1, v2, e, p1.rd, p2.rd, y1⟩
theorem OwnCs.up {lo hi : Nat} {w w' : World} {v : Value} {d : CaseD} {B : Nat} (h : OwnCs lo hi w v d) (hb : Below B w w') (hB : w.heap.size ≤ B) : OwnCs lo hi w' v d := by
  obtain ⟨v1, v2, l1, h1, l2, h2, e, p1, p2, y1, r1, r2, r3, r4, r5, r6⟩ := h
  exact ⟨v1, v2, l1, h1, l2, h2, e, p1.up hb hB, p2.up hb hB, y1, r1, r2, r3, r4, r5, Nat.le_trans r6 hb.size⟩
theorem OwnCs.wide {lo hi lo' hi' : Nat} {w : World} {v : Value} {d : CaseD} (h : OwnCs lo hi w v d) (a : lo' ≤ lo) (b : hi ≤ hi') : OwnCs lo' hi' w v d := by
  obtain ⟨v1, v2, l1, h1, l2, h2, e, p1, p2, y1, r1, r2, r3, r4, r5, r6⟩ := h
  exact ⟨v1, v2, l1, h1, l2, h2, e, p1, p2, y1, by omega, r2, r3, r4, by omega, r6⟩
theorem OwnCs.kept {lo hi : Nat} {w w' : World} {v : Value} {d : CaseD} {S : Nat → Prop} (h : OwnCs lo hi w v d) (hk : Kept S w w') (hs : ∀ b, lo ≤ b → b < hi → ¬ S b) : OwnCs lo hi w' v d := by
  obtain ⟨v1, v2, l1, h1, l2, h2, e, p1, p2, y1, r1, r2, r3, r4, r5, r6⟩ := h
  exact ⟨v1, v2, l1, h1, l2, h2, e, p1.kept hk (fun b a c => hs b (by omega) (by omega)), p2.kept hk (fun b a c => hs b (by omega) (by omega)), y1, r1, r2, r3, r4, r5, Nat.le_trans r6 hk.size⟩

set_option maxHeartbeats 2000000 in
set_option maxRecDepth 4000 in
theorem eqCs_same (v v' : Value) (d : CaseD) (w : World) (h : RdCs w v d) (h' : RdCs w v' d) :
    Calls Try.prog 19 #[v, v'] w fun e w' => e = .returned (.bool true) ∧ Below w.heap.size w w' := by
  obtain ⟨a1, c1, a2, c2, rfl⟩ := h.shape
  obtain ⟨b1, e1, b2, e2, rfl⟩ := h'.shape
  obtain ⟨p1, p2, ys1⟩ := h.parts
  obtain ⟨q1, q2, yt1⟩ := h'.parts
  obtain ⟨n1, x2, x3⟩ := d
  simp only at p1 p2 q1 q2 ⊢
  have P1 := Lib.hid p1
  have Q1 := Lib.hid q1
  have P2 := Lib.hid p2
  have Q2 := Lib.hid q2
  clear h h' p1 p2 q1 q2
  go_enter Try.func19, Try.ntmps19
  go_wp2_with fail
  refine Calls.at fun W hW => ?_
  have HB := Lib.hid (show Below w.heap.size w W by subst hW; (repeat' first | exact Below.refl _ _ | assumption | refine Below.alloc ?_ ?_ _ | refine Below.setCell ?_ ?_ _ | refine Below.drew ?_ | (simp; done) | (simp; omega)))
  have HK := Lib.hid (show Blk W w.heap.size 33 #[.string n1, .int .i64 x2.letters, .slice a1 x2.clauses.length c1, .slice a2 x3.length c2] by subst hW; exact (Blk.new _ _ _).alloc _)
  have HL := Lib.hid (show Blk W (w.heap.size + 1) 33 #[.string n1, .int .i64 x2.letters, .slice b1 x2.clauses.length e1, .slice b2 x3.length e2] by subst hW; simpa using Blk.new (w.alloc (.cells #[.string n1, .int .i64 x2.letters, .slice a1 x2.clauses.length c1, .slice a2 x3.length c2] 33)) 33 #[.string n1, .int .i64 x2.letters, .slice b1 x2.clauses.length e1, .slice b2 x3.length e2])
  clear hW
  refine (eqFm_same _ _ x2 W (P1.out.up HB.out (Nat.le_refl _)) (Q1.out.up HB.out (Nat.le_refl _))).mono ?_
  rintro e w1 ⟨rfl, hb1⟩
  have HB1 := Lib.hid (HB.out.trans (hb1.mono HB.out.size))
  have HK1 := Lib.hid (HK.out.below hb1 HK.out.lt)
  have HL1 := Lib.hid (HL.out.below hb1 HL.out.lt)
  clear hb1
  have d2_0 : w1.cell? ⟨w.heap.size, 3, none⟩ = some (.slice a2 x3.length c2) := HK1.out.cell 3 rfl
  have g2_0 : w1.cell? ⟨w.heap.size + 1, 3, none⟩ = some (.slice b2 x3.length e2) := HL1.out.cell 3 rfl
  go_wp2_with fail
  refine (eqL_same _ _ x3 w1 (P2.out.up HB1.out (Nat.le_refl _)) (Q2.out.up HB1.out (Nat.le_refl _))).mono ?_
  rintro e w2 ⟨rfl, hb2⟩
  have HB2 := Lib.hid (HB1.out.trans (hb2.mono HB1.out.size))
  clear hb2
  go_wp2_with fail
  go_ret
  exact ⟨rfl, HB2.out⟩

def mkdCs (k : Int) (d : CaseD) : CaseD := ⟨d.name, mkdFm k d.form, mkdL (k + cntFm d.form) d.proof⟩

set_option maxHeartbeats 2000000 in
set_option maxRecDepth 4000 in
theorem markCs_o (v : Value) (lo hi : Nat) (d : CaseD) (k : Int) (w : World) (ho : OwnCs lo hi w v d) (h0 : 0 ≤ k) (h1 : k + cntCs d ≤ 1099511627776) :
    Calls Try.prog 20 #[v, .int .i64 k] w fun e w' => e = .returned (.int .i64 (k + cntCs d)) ∧ OwnCs lo hi w' v (mkdCs k d) ∧ Kept (fun b => lo ≤ b ∧ b < hi) w w' := by
  obtain ⟨a1, c1, a2, c2, hv⟩ := ho.rd.shape
  obtain ⟨v1, v2, l1, h1', l2, h2, e, o1, o2, y1, r1, r2, r3, r4, r5, r6⟩ := ho
  rw [e] at hv
  simp only [Value.agg.injEq, Array.mk.injEq, List.cons.injEq, and_true, true_and] at hv
  obtain ⟨rfl, rfl⟩ := hv
  subst e
  obtain ⟨n1, x2, x3⟩ := d
  unfold cntCs mkdCs at *
  simp only at o1 o2 h1 ⊢
  obtain ⟨C1, hC1⟩ : ∃ C, C = cntFm x2 := ⟨_, rfl⟩
  obtain ⟨C2, hC2⟩ : ∃ C, C = cntL x3 := ⟨_, rfl⟩
  try rw [← hC1] at h1
  try rw [← hC1]
  have HC1 := Lib.hid hC1
  try rw [← hC2] at h1
  try rw [← hC2]
  have HC2 := Lib.hid hC2
  have b1 : k + C1 ≤ 1099511627776 := by omega
  have b2 : k + C1 + C2 ≤ 1099511627776 := by omega
  have O1 := Lib.hid o1
  have O2 := Lib.hid o2
  clear o1 o2 h1 hC1 hC2
  go_enter Try.func20, Try.ntmps20
  go_wp2_with fail
  refine Calls.at fun W hW => ?_
  have HB := Lib.hid (show Below w.heap.size w W by subst hW; (repeat' first | exact Below.refl _ _ | assumption | refine Below.alloc ?_ ?_ _ | refine Below.setCell ?_ ?_ _ | refine Below.drew ?_ | (simp; done) | (simp; omega)))
  have HK := Lib.hid (show Blk W w.heap.size 33 #[.string n1, .int .i64 x2.letters, .slice a1 x2.clauses.length c1, .slice a2 x3.length c2] by subst hW; exact Blk.new _ _ _)
  clear hW
  have A1 := Lib.hid (O1.out.up HB.out (Nat.le_refl _))
  have A2 := Lib.hid (O2.out.up HB.out (Nat.le_refl _))
  have hzW := HB.out.size
  have hKl := HK.out.lt
  refine (markFm_o _ l1 h1' x2 (k) W A1.out (by omega) (by rw [← HC1.out]; exact b1)).mono ?_
  rintro e w1 ⟨rfl, m1, k1⟩
  rw [← HC1.out]
  have HK1 := Lib.hid (HK.out.kept k1 (by omega))
  have M1 := Lib.hid m1
  replace A2 := Lib.hid (A2.out.kept k1 (by intro b q1 q2 q3; omega))
  have KK1 := Lib.hid ((Kept.of_below HB.out (Nat.le_refl _)).trans (k1.mono (S' := fun b => lo ≤ b ∧ b < hi) (by intro b _ q; omega)))
  clear m1 k1
  have d2_0 : w1.cell? ⟨w.heap.size, 3, none⟩ = some (.slice a2 x3.length c2) := HK1.out.cell 3 rfl
  go_wp2_with fail
  refine (markL_o _ l2 h2 x3 (k + C1) w1 A2.out (by omega) (by rw [← HC2.out]; exact b2)).mono ?_
  rintro e w2 ⟨rfl, m2, k2⟩
  rw [← HC2.out]
  have HK2 := Lib.hid (HK1.out.kept k2 (by omega))
  replace M1 := Lib.hid (M1.out.kept k2 (by intro b q1 q2 q3; omega))
  have M2 := Lib.hid m2
  have KK2 := Lib.hid (KK1.out.trans (k2.mono (S' := fun b => lo ≤ b ∧ b < hi) (by intro b _ q; omega)))
  clear m2 k2 d2_0
  go_wp2_with fail
  go_ret
  refine ⟨congrArg (fun x => Ending.returned (Value.int IntKind.i64 x)) (by have := HC2.out; push_cast; omega), ?_, KK2.out⟩
  have hz := KK2.out.size
  exact ⟨_, _, l1, h1', l2, h2, rfl, M1.out, M2.out, y1, r1, r2, r3, r4, r5, by omega⟩

set_option maxHeartbeats 2000000 in
set_option maxRecDepth 4000 in
theorem heldCs_o (v : Value) (d : CaseD) (k : Int) (w : World) (h : RdCs w v (mkdCs k d)) (h0 : 0 ≤ k) (h1 : k + cntCs d ≤ 1099511627776) :
    Calls Try.prog 21 #[v, .int .i64 k] w fun e w' => e = .returned (.int .i64 (k + cntCs d)) ∧ Below w.heap.size w w' := by
  obtain ⟨a1, c1, a2, c2, rfl⟩ := h.shape
  obtain ⟨p1, p2, ys1⟩ := h.parts
  obtain ⟨n1, x2, x3⟩ := d
  unfold cntCs mkdCs at *
  simp only at p1 p2 h1 ⊢
  obtain ⟨C1, hC1⟩ : ∃ C, C = cntFm x2 := ⟨_, rfl⟩
  obtain ⟨C2, hC2⟩ : ∃ C, C = cntL x3 := ⟨_, rfl⟩
  rw [← hC1] at h1 ⊢
  rw [← hC1] at p2
  have HC1 := Lib.hid hC1
  rw [← hC2] at h1 ⊢
  have HC2 := Lib.hid hC2
  have b1 : k + C1 ≤ 1099511627776 := by omega
  have b2 : k + C1 + C2 ≤ 1099511627776 := by omega
  have P1 := Lib.hid p1
  obtain ⟨g1_0, hg1_0⟩ : ∃ x, x = (mkdFm (k) x2).letters := ⟨_, rfl⟩
  obtain ⟨g1_1, hg1_1⟩ : ∃ x, x = (mkdFm (k) x2).clauses.length := ⟨_, rfl⟩
  have P2 := Lib.hid p2
  obtain ⟨g2_0, hg2_0⟩ : ∃ x, x = (mkdL (k + C1) x3).length := ⟨_, rfl⟩
  clear h p1 p2 h1 hC1 hC2
  rw [← hg1_0] at P1 ⊢
  rw [← hg1_1] at P1 ⊢
  rw [← hg2_0] at P2 ⊢
  clear hg1_0 hg1_1 hg2_0
  go_enter Try.func21, Try.ntmps21
  go_wp2_with fail
  refine Calls.at fun W hW => ?_
  have HB := Lib.hid (show Below w.heap.size w W by subst hW; (repeat' first | exact Below.refl _ _ | assumption | refine Below.alloc ?_ ?_ _ | refine Below.setCell ?_ ?_ _ | refine Below.drew ?_ | (simp; done) | (simp; omega)))
  have HK := Lib.hid (show Blk W w.heap.size 33 #[.string n1, .int .i64 g1_0, .slice a1 g1_1 c1, .slice a2 g2_0 c2] by subst hW; exact Blk.new _ _ _)
  clear hW
  refine (heldFm_o _ x2 (k) W (P1.out.up HB.out (Nat.le_refl _)) (by omega) (by rw [← HC1.out]; exact b1)).mono ?_
  rintro e w1 ⟨rfl, hb1⟩
  rw [← HC1.out]
  have HB1 := Lib.hid (HB.out.trans (hb1.mono HB.out.size))
  have HK1 := Lib.hid (HK.out.below hb1 HK.out.lt)
  clear hb1
  have d2_0 : w1.cell? ⟨w.heap.size, 3, none⟩ = some (.slice a2 g2_0 c2) := HK1.out.cell 3 rfl
  have e1 : ¬ (k + (C1 : Int) < 0) := by omega
  go_wp2_with fail
  refine (heldL_o _ x3 (k + C1) w1 (P2.out.up HB1.out (Nat.le_refl _)) (by omega) (by rw [← HC2.out]; exact b2)).mono ?_
  rintro e w2 ⟨rfl, hb2⟩
  rw [← HC2.out]
  have HB2 := Lib.hid (HB1.out.trans (hb2.mono HB1.out.size))
  clear hb2
  have e2 : ¬ (k + (C1 : Int) + (C2 : Int) < 0) := by omega
  go_wp2_with fail
  go_ret
  exact ⟨congrArg (fun x => Ending.returned (Value.int IntKind.i64 x)) (by push_cast; omega), HB2.out⟩

end Go.Proofs.Ytkkcgclliomocaa

namespace Go.Proofs.Ytkkcgclliomocaa
open Go.RowKit

theorem flat_len {α : Type} (f : α → List Value) (c : Nat) (hf : ∀ a, (f a).length = c) : ∀ (l : List α), (l.flatMap f).length = l.length * c
  | [] => by simp
  | a :: r => by
    have ih := flat_len f c hf r
    simp only [List.flatMap_cons, List.length_append, List.length_cons, hf a, ih]
    rw [Nat.add_mul]; omega

theorem flat_at {α : Type} (f : α → List Value) (c : Nat) (hf : ∀ a, (f a).length = c) : ∀ (l : List α) (i d : Nat) (a : α), l[i]? = some a → d < c → (l.flatMap f)[i * c + d]? = (f a)[d]?
  | [], i, d, a, h, _ => by simp at h
  | b :: r, 0, d, a, h, hd => by
    simp only [List.getElem?_cons_zero, Option.some.injEq] at h
    subst h
    simp only [List.flatMap_cons, Nat.zero_mul, Nat.zero_add]
    rw [List.getElem?_append_left (by rw [hf b]; exact hd)]
  | b :: r, i + 1, d, a, h, hd => by
    have ih := flat_at f c hf r i d a (by simpa using h) hd
    simp only [List.flatMap_cons]
    rw [List.getElem?_append_right (by rw [hf b, Nat.add_mul]; omega), ← ih]
    congr 1
    rw [hf b, Nat.add_mul]; omega

/-- Cells written one behind another. -/
def putAt : List Value → Nat → List Value → List Value
  | L, _, [] => L
  | L, b, u :: us => putAt (L.set b u) (b + 1) us

theorem putAt_append : ∀ (us A B : List Value) (b : Nat), A.length ≤ b → putAt (A ++ B) b us = A ++ putAt B (b - A.length) us
  | [], A, B, b, _ => rfl
  | u :: us, A, B, b, h => by
    simp only [putAt]
    rw [List.set_append_right _ _ h, putAt_append us A _ (b + 1) (by omega), show b + 1 - A.length = b - A.length + 1 by omega]
theorem putAt_whole : ∀ (us A B : List Value), A.length = us.length → putAt (A ++ B) 0 us = us ++ B
  | [], A, B, h => by
    have : A = [] := List.length_eq_zero_iff.1 (by simpa using h)
    subst this; rfl
  | u :: us, [], B, h => by simp at h
  | u :: us, x :: A, B, h => by
    simp only [putAt, List.cons_append, List.set_cons_zero]
    have := putAt_append us [u] (A ++ B) 1 (by simp)
    simp only [List.cons_append, List.nil_append, List.length_cons, List.length_nil] at this
    rw [this]
    simp only [Nat.sub_self]
    rw [putAt_whole us A B (by simpa using h)]

theorem flat_put {α : Type} (f : α → List Value) (c : Nat) (hf : ∀ a, (f a).length = c) : ∀ (l : List α) (i : Nat) (a : α), i < l.length → putAt (l.flatMap f) (i * c) (f a) = (l.set i a).flatMap f
  | [], i, a, h => by simp at h
  | b :: r, 0, a, _ => by
    simp only [List.flatMap_cons, Nat.zero_mul, List.set_cons_zero]
    exact putAt_whole _ _ _ (by rw [hf, hf])
  | b :: r, i + 1, a, h => by
    have ih := flat_put f c hf r i a (by simpa using h)
    simp only [List.flatMap_cons, List.set_cons_succ]
    rw [putAt_append _ _ _ _ (by rw [hf, Nat.add_mul]; omega), ← ih]
    congr 2
    rw [hf, Nat.add_mul]; omega

theorem made_rows (zs : List Value) (n : Nat) (h : zs ≠ []) : (madeCells zs.toArray (n * zs.length)).toList = (List.replicate n zs).flatten := by
  have hp : 0 < zs.length := List.length_pos_iff.2 h
  induction n with
  | zero => simp [madeCells]
  | succ n ih =>
    rw [List.replicate_succ, List.flatten_cons, ← ih]
    apply List.ext_getElem?
    intro j
    by_cases hj : j < zs.length
    · have hj2 : j < (n + 1) * zs.length := by rw [Nat.add_mul]; omega
      rw [List.getElem?_append_left hj]
      simp [madeCells, hj2, Nat.mod_eq_of_lt hj, hj]
    · rw [List.getElem?_append_right (by omega)]
      by_cases hj2 : j < (n + 1) * zs.length
      · have hj3 : j - zs.length < n * zs.length := by rw [Nat.add_mul] at hj2; omega
        have hm : (j - zs.length) % zs.length = j % zs.length := by
          rw [Nat.mod_eq_sub_mod (a := j) (by omega)]
        simp [madeCells, hj2, hj3, hm]
      · have hj3 : ¬ j - zs.length < n * zs.length := by rw [Nat.add_mul] at hj2; omega
        simp [madeCells, hj2, hj3]

theorem flat_made {α : Type} (f : α → List Value) (z : α) (n : Nat) (h : f z ≠ []) : (madeCells (f z).toArray (n * (f z).length)).toList = (List.replicate n z).flatMap f := by
  rw [made_rows _ _ h, List.flatMap_def, List.map_replicate]

end Go.Proofs.Ytkkcgclliomocaa

namespace Go.Proofs.Ytkkcgclliomocaa
open Go.RowKit

structure JobD where
  long : Int
  due : Int
  weight : Int
  ready : Int
def J0 : JobD := ⟨0, 0, 0, 0⟩
def jobCells (j : JobD) : List Value := [I64 j.long, I64 j.due, I64 j.weight, I64 j.ready]
def jobsC (js : List JobD) : List Value := js.flatMap jobCells
theorem jobsC_len (js : List JobD) : (jobsC js).length = js.length * 4 := by
  induction js with
  | nil => rfl
  | cons j r ih => simp only [jobsC, List.flatMap_cons, List.length_append, List.length_cons, jobCells] at ih ⊢; simp at ih ⊢; omega
theorem jobsC_at : ∀ (js : List JobD) (i c : Nat), i < js.length → c < 4 → (jobsC js)[i * 4 + c]? = (jobCells (js.getD i J0))[c]?
  | [], i, c, h, _ => by simp at h
  | j :: r, 0, c, _, hc => by
    simp only [jobsC, List.flatMap_cons, Nat.zero_mul, Nat.zero_add, List.getD_cons_zero]
    rw [List.getElem?_append_left (by simp [jobCells]; omega)]
  | j :: r, i + 1, c, h, hc => by
    have ih := jobsC_at r i c (by simpa using h) hc
    simp only [jobsC, List.flatMap_cons, List.getD_cons_succ] at ih ⊢
    rw [List.getElem?_append_right (by simp [jobCells]; omega), ← ih]
    congr 1
    simp [jobCells]; omega

/-- The slice reads as these jobs. -/
def RdJ (w : World) (v : Value) (js : List JobD) : Prop :=
  (∃ a cap, v = .slice a 0 cap ∧ cap ≤ maxLen ∧ js = []) ∨ ∃ b off cap, v = .slice (some ⟨b, off, none⟩) js.length cap ∧ js.length ≤ cap ∧ cap ≤ maxLen ∧ ∀ i, i < js.length → ∀ c u, (jobCells (js.getD i J0))[c]? = some u → w.cell? ⟨b, off + i * 4 + c, none⟩ = some u
def OwnJ (lo hi : Nat) (w : World) (v : Value) (js : List JobD) : Prop := w.ownsRow lo 113 4 v js.length (jobsC js) ∧ ∀ g, v.ownBlock = some g → g < hi
def bulkJ (js : List JobD) : Nat := js.length
def cntJ (js : List JobD) : Nat := js.length * 4

theorem RdJ.shape {w : World} {v : Value} {js : List JobD} (h : RdJ w v js) : ∃ a c, v = .slice a js.length c := by
  rcases h with ⟨a, cap, rfl, _, rfl⟩ | ⟨b, off, cap, rfl, _⟩
  · exact ⟨a, cap, rfl⟩
  · exact ⟨_, cap, rfl⟩
theorem RdJ.len {w : World} {v : Value} {js : List JobD} (h : RdJ w v js) : js.length ≤ maxLen := by
  rcases h with ⟨a, cap, rfl, _, rfl⟩ | ⟨b, off, cap, rfl, h1, h2, _⟩
  · simp [maxLen]
  · omega
theorem RdJ.at {w : World} {a : Option Addr} {n c : Nat} {js : List JobD} (h : RdJ w (.slice a n c) js) {i : Nat} (hi : i < js.length) :
    ∃ b off, a = some ⟨b, off, none⟩ ∧ b < w.heap.size ∧ w.cell? ⟨b, off + i * 4, none⟩ = some (.int .i64 (js.getD i J0).long) ∧ w.cell? ⟨b, off + i * 4 + 1, none⟩ = some (.int .i64 (js.getD i J0).due) ∧ w.cell? ⟨b, off + i * 4 + 2, none⟩ = some (.int .i64 (js.getD i J0).weight) ∧ w.cell? ⟨b, off + i * 4 + 3, none⟩ = some (.int .i64 (js.getD i J0).ready) := by
  rcases h with ⟨_, _, _, _, rfl⟩ | ⟨b, off, cap, e, _, _, hc⟩
  · simp at hi
  · simp only [Value.slice.injEq] at e
    obtain ⟨rfl, rfl, rfl⟩ := e
    have h0 := hc i hi 0 _ rfl
    exact ⟨b, off, rfl, cell_lt h0, h0, hc i hi 1 _ rfl, hc i hi 2 _ rfl, hc i hi 3 _ rfl⟩
theorem RdJ.up {w w' : World} {v : Value} {js : List JobD} {B : Nat} (h : RdJ w v js) (hb : Below B w w') (hB : w.heap.size ≤ B) : RdJ w' v js := by
  rcases h with h | ⟨b, off, cap, e, h1, h2, hc⟩
  · exact .inl h
  · exact .inr ⟨b, off, cap, e, h1, h2, fun i hi c u hu => held_of hb (hc i hi c u hu) hB⟩

theorem ownsK_below {w w' : World} {base B size : Nat} {e : TypeId} {v : Value} {n : Nat} {vs : List Value} (h : w.ownsRow base e size v n vs) (hb : Below B w w') (hB : w.heap.size ≤ B) : w'.ownsRow base e size v n vs := by
  refine ⟨h.1, ?_⟩
  rcases h.2 with h2 | ⟨g, cap, cur, hv, h3, hg, r⟩
  · exact .inl h2
  · exact .inr ⟨g, cap, cur, hv, h3, by rw [hb.block g (by have := lt_of_block hg; omega)]; exact hg, r⟩
theorem ownsK_base {w : World} {base base' size : Nat} {e : TypeId} {v : Value} {n : Nat} {vs : List Value} (h : w.ownsRow base e size v n vs) (hb : base' ≤ base) : w.ownsRow base' e size v n vs := by
  refine ⟨h.1, ?_⟩
  rcases h.2 with h2 | ⟨g, cap, cur, hv, h3, hg, r⟩
  · exact .inl h2
  · exact .inr ⟨g, cap, cur, hv, by omega, hg, r⟩
theorem ownsK_kept {S : Nat → Prop} {w w' : World} {base size : Nat} {e : TypeId} {v : Value} {n : Nat} {vs : List Value} (h : w.ownsRow base e size v n vs) (hk : Kept S w w') (hs : ∀ g, v.ownBlock = some g → ¬ S g) : w'.ownsRow base e size v n vs := by
  refine ⟨h.1, ?_⟩
  rcases h.2 with h2 | ⟨g, cap, cur, hv, h3, hg, r⟩
  · exact .inl h2
  · exact .inr ⟨g, cap, cur, hv, h3, by rw [hk.block g (lt_of_block hg) (hs g (by rw [hv]; rfl))]; exact hg, r⟩

theorem OwnJ.rd {lo hi : Nat} {w : World} {v : Value} {js : List JobD} (h : OwnJ lo hi w v js) : RdJ w v js := by
  rcases h.1.2 with ⟨rfl, e⟩ | ⟨g, cap, cur, rfl, hb, hg, hn, hm, hs, ht⟩
  · left; exact ⟨none, 0, rfl, by simp [maxLen], List.length_eq_zero_iff.1 e⟩
  · right
    refine ⟨g, 0, cap, rfl, hn, hm, fun i hi c u hu => ?_⟩
    have hc : c < 4 := by
      have := (List.getElem?_eq_some_iff.1 hu).1
      simpa [jobCells] using this
    have h1 := h.1.cellAt (i * 4 + c) (by omega)
    rw [jobsC_at js i c hi hc, hu] at h1
    simpa [Nat.add_assoc] using h1
theorem OwnJ.up {lo hi : Nat} {w w' : World} {v : Value} {js : List JobD} {B : Nat} (h : OwnJ lo hi w v js) (hb : Below B w w') (hB : w.heap.size ≤ B) : OwnJ lo hi w' v js := ⟨ownsK_below h.1 hb hB, h.2⟩
theorem OwnJ.wide {lo hi lo' hi' : Nat} {w : World} {v : Value} {js : List JobD} (h : OwnJ lo hi w v js) (h1 : lo' ≤ lo) (h2 : hi ≤ hi') : OwnJ lo' hi' w v js := ⟨ownsK_base h.1 h1, fun g hg => Nat.lt_of_lt_of_le (h.2 g hg) h2⟩
theorem OwnJ.kept {lo hi : Nat} {w w' : World} {v : Value} {js : List JobD} {S : Nat → Prop} (h : OwnJ lo hi w v js) (hk : Kept S w w') (hs : ∀ b, lo ≤ b → b < hi → ¬ S b) : OwnJ lo hi w' v js :=
  ⟨ownsK_kept h.1 hk fun g hg => hs g (h.1.lt g hg).1 (h.2 g hg), h.2⟩
theorem OwnJ.mk {lo : Nat} {w : World} {v : Value} {js : List JobD} (h : w.ownsRow lo 113 4 v js.length (jobsC js)) : OwnJ lo w.heap.size w v js := ⟨h, fun g hg => (h.lt g hg).2⟩

end Go.Proofs.Ytkkcgclliomocaa

namespace Go.Proofs.Ytkkcgclliomocaa
open Go.RowKit

def ICL : CaseD := ⟨⟨#[]⟩, ⟨0, []⟩, []⟩
/-- One of a list: its data, the values of its slices, and where they lie. -/
structure RowCL where
  d : CaseD
  a1 : Value
  a2 : Value
  l : Nat
  h : Nat
def cellsCL (r : RowCL) : List Value := [.string r.d.name, .int .i64 r.d.form.letters, r.a1, r.a2]
def aggCL (r : RowCL) : Value := .agg #[.string r.d.name, .int .i64 r.d.form.letters, r.a1, r.a2]
theorem cellsCL_len (r : RowCL) : (cellsCL r).length = 4 := rfl
def sumCL : List CaseD → Nat
  | [] => 0
  | z :: r => bulkCs z + sumCL r
theorem sumCL_append : ∀ (a b : List CaseD), sumCL (a ++ b) = sumCL a + sumCL b
  | [], b => by simp [sumCL]
  | z :: r, b => by simp only [List.cons_append, sumCL, sumCL_append r b]; omega
def bulkCL (ds : List CaseD) : Nat := ds.length + sumCL ds
theorem sumCL_take_succ (ds : List CaseD) (k : Nat) (hk : k < ds.length) : sumCL (ds.take (k + 1)) = sumCL (ds.take k) + bulkCs (ds.getD k ICL) := by
  rw [List.take_succ_eq_append_getElem hk, sumCL_append]
  simp [hk, sumCL]
theorem bulkCL_le (ds : List CaseD) (k : Nat) : sumCL (ds.take k) + ds.length ≤ bulkCL ds := by
  unfold bulkCL
  have : sumCL (ds.take k) + sumCL (ds.drop k) = sumCL ds := by rw [← sumCL_append, List.take_append_drop]
  omega

/-- The slice reads as these. -/
def RdCL (w : World) (v : Value) (ds : List CaseD) : Prop := (∃ a cap, v = .slice a 0 cap ∧ cap ≤ maxLen ∧ ds = []) ∨
  ∃ (b off cap : Nat) (rows : List RowCL), v = .slice (some ⟨b, off, none⟩) ds.length cap ∧ ds.length ≤ cap ∧ cap ≤ maxLen ∧ ds = rows.map (·.d) ∧
    ∀ (i : Nat) (r : RowCL), rows[i]? = some r → (∀ c u, (cellsCL r)[c]? = some u → w.cell? ⟨b, off + i * 4 + c, none⟩ = some u) ∧ RdCs w (aggCL r) r.d
def OwnECL (lo hi : Nat) (w : World) (rows : List RowCL) : Prop :=
  (∀ (i : Nat) (r : RowCL), rows[i]? = some r → OwnCs r.l r.h w (aggCL r) r.d ∧ lo ≤ r.l ∧ r.h ≤ hi) ∧ ∀ (i j : Nat) (r s : RowCL), i < j → rows[i]? = some r → rows[j]? = some s → r.h ≤ s.l
def OwnCL (lo hi : Nat) (w : World) (v : Value) (ds : List CaseD) : Prop :=
  ∃ rows : List RowCL, ds = rows.map (·.d) ∧ w.ownsRow lo 33 4 v ds.length (rows.flatMap cellsCL) ∧ (∀ g, v.ownBlock = some g → g < hi ∧ ∀ (i : Nat) (r : RowCL), rows[i]? = some r → ¬ (r.l ≤ g ∧ g < r.h)) ∧ OwnECL lo hi w rows

theorem RdCL.shape {w : World} {v : Value} {ds : List CaseD} (h : RdCL w v ds) : ∃ a c, v = .slice a ds.length c := by
  rcases h with ⟨a, cap, rfl, _, rfl⟩ | ⟨b, off, cap, rows, rfl, _⟩
  · exact ⟨a, cap, rfl⟩
  · exact ⟨_, cap, rfl⟩
theorem RdCL.len {w : World} {v : Value} {ds : List CaseD} (h : RdCL w v ds) : ds.length ≤ maxLen := by
  rcases h with ⟨a, cap, rfl, _, rfl⟩ | ⟨b, off, cap, rows, rfl, h1, h2, _⟩
  · simp [maxLen]
  · omega
theorem RdCL.up {w w' : World} {v : Value} {ds : List CaseD} {B : Nat} (h : RdCL w v ds) (hb : Below B w w') (hB : w.heap.size ≤ B) : RdCL w' v ds := by
  rcases h with h | ⟨b, off, cap, rows, e, h1, h2, h3, hc⟩
  · exact .inl h
  · exact .inr ⟨b, off, cap, rows, e, h1, h2, h3, fun i r hr => ⟨fun c u hu => held_of hb ((hc i r hr).1 c u hu) hB, (hc i r hr).2.up hb hB⟩⟩
theorem RdCL.at {w : World} {a : Option Addr} {n c : Nat} {ds : List CaseD} (h : RdCL w (.slice a n c) ds) {i : Nat} (hi : i < ds.length) :
    ∃ b off a1 a2, a = some ⟨b, off, none⟩ ∧ b < w.heap.size ∧ w.cell? ⟨b, off + i * 4, none⟩ = some (.string (ds.getD i ICL).name) ∧ w.cell? ⟨b, off + i * 4 + 1, none⟩ = some (.int .i64 (ds.getD i ICL).form.letters) ∧ w.cell? ⟨b, off + i * 4 + 2, none⟩ = some (a1) ∧ w.cell? ⟨b, off + i * 4 + 3, none⟩ = some (a2) ∧ RdCs w (.agg #[.string (ds.getD i ICL).name, .int .i64 (ds.getD i ICL).form.letters, a1, a2]) (ds.getD i ICL) := by
  rcases h with ⟨_, _, _, _, rfl⟩ | ⟨b, off, cap, rows, e, _, _, hd, hc⟩
  · simp at hi
  · simp only [Value.slice.injEq] at e
    obtain ⟨rfl, rfl, rfl⟩ := e
    have hir : i < rows.length := by rw [hd] at hi; simpa using hi
    have hg : ds.getD i ICL = rows[i].d := by rw [hd]; simp [hir]
    obtain ⟨h1, h2⟩ := hc i _ (List.getElem?_eq_getElem hir)
    rw [hg]
    have h0 := h1 0 _ rfl
    exact ⟨b, off, rows[i].a1, rows[i].a2, rfl, cell_lt h0, h0, h1 1 _ rfl, h1 2 _ rfl, h1 3 _ rfl, h2⟩

theorem OwnECL.up {lo hi : Nat} {w w' : World} {rows : List RowCL} {B : Nat} (h : OwnECL lo hi w rows) (hb : Below B w w') (hB : w.heap.size ≤ B) : OwnECL lo hi w' rows :=
  ⟨fun i r hr => ⟨(h.1 i r hr).1.up hb hB, (h.1 i r hr).2⟩, h.2⟩
theorem OwnECL.wide {lo hi lo' hi' : Nat} {w : World} {rows : List RowCL} (h : OwnECL lo hi w rows) (a : lo' ≤ lo) (b : hi ≤ hi') : OwnECL lo' hi' w rows :=
  ⟨fun i r hr => ⟨(h.1 i r hr).1, Nat.le_trans a (h.1 i r hr).2.1, Nat.le_trans (h.1 i r hr).2.2 b⟩, h.2⟩
theorem OwnECL.kept {lo hi : Nat} {w w' : World} {rows : List RowCL} {S : Nat → Prop} (h : OwnECL lo hi w rows) (hk : Kept S w w') (hs : ∀ (i : Nat) (r : RowCL), rows[i]? = some r → ∀ b, r.l ≤ b → b < r.h → ¬ S b) : OwnECL lo hi w' rows :=
  ⟨fun i r hr => ⟨(h.1 i r hr).1.kept hk (hs i r hr), (h.1 i r hr).2⟩, h.2⟩
theorem OwnCL.len {lo hi : Nat} {w : World} {v : Value} {ds : List CaseD} (h : OwnCL lo hi w v ds) : ds.length ≤ maxLen := by
  obtain ⟨rows, _, h2, _⟩ := h
  rcases h2.2 with ⟨_, e⟩ | ⟨g, cap, cur, _, _, _, hn, hm, _⟩
  · rw [e]; simp [maxLen]
  · omega
theorem OwnCL.rd {lo hi : Nat} {w : World} {v : Value} {ds : List CaseD} (h : OwnCL lo hi w v ds) : RdCL w v ds := by
  have hlen := h.len
  obtain ⟨rows, h1, h2, h3, h4⟩ := h
  have h2' := h2
  rcases h2.2 with ⟨rfl, e⟩ | ⟨g, cap, cur, rfl, hb, hg, hn, hm, hs, ht⟩
  · left; exact ⟨none, 0, rfl, by simp [maxLen], List.length_eq_zero_iff.1 e⟩
  · right
    refine ⟨g, 0, cap, rows, rfl, hn, hm, h1, fun i r hr => ⟨fun c u hu => ?_, (h4.1 i r hr).1.rd⟩⟩
    have hc : c < 4 := by
      have := (List.getElem?_eq_some_iff.1 hu).1
      rwa [cellsCL_len] at this
    have hi : i < ds.length := by rw [h1, List.length_map]; exact (List.getElem?_eq_some_iff.1 hr).1
    have h5 := h2'.cellAt (i * 4 + c) (by omega)
    rw [flat_at cellsCL 4 cellsCL_len rows i c r hr hc, hu] at h5
    simpa [Nat.add_assoc] using h5
theorem OwnCL.up {lo hi : Nat} {w w' : World} {v : Value} {ds : List CaseD} {B : Nat} (h : OwnCL lo hi w v ds) (hb : Below B w w') (hB : w.heap.size ≤ B) : OwnCL lo hi w' v ds := by
  obtain ⟨rows, h1, h2, h3, h4⟩ := h
  exact ⟨rows, h1, ownsK_below h2 hb hB, h3, h4.up hb hB⟩
theorem OwnCL.wide {lo hi lo' hi' : Nat} {w : World} {v : Value} {ds : List CaseD} (h : OwnCL lo hi w v ds) (a : lo' ≤ lo) (b : hi ≤ hi') : OwnCL lo' hi' w v ds := by
  obtain ⟨rows, h1, h2, h3, h4⟩ := h
  exact ⟨rows, h1, ownsK_base h2 a, fun g hg => ⟨Nat.lt_of_lt_of_le (h3 g hg).1 b, (h3 g hg).2⟩, h4.wide a b⟩
theorem OwnCL.kept {lo hi : Nat} {w w' : World} {v : Value} {ds : List CaseD} {S : Nat → Prop} (h : OwnCL lo hi w v ds) (hk : Kept S w w') (hs : ∀ b, lo ≤ b → b < hi → ¬ S b) : OwnCL lo hi w' v ds := by
  obtain ⟨rows, h1, h2, h3, h4⟩ := h
  exact ⟨rows, h1, ownsK_kept h2 hk fun g hg => hs g (h2.lt g hg).1 (h3 g hg).1, h3, h4.kept hk fun i r hr b a c => hs b (by have := (h4.1 i r hr).2.1; omega) (by have := (h4.1 i r hr).2.2; omega)⟩


theorem Try.infoZCL : (Try.prog.info? 33).map (fun i => (i.zero, i.size, i.bytes)) = some (some (.agg #[.string ⟨#[]⟩, .int .i64 0, .slice none 0 0, .slice none 0 0]), 4, 72) := by kernel_rfl

set_option maxHeartbeats 2000000 in
set_option maxRecDepth 4000 in
theorem eqCL_same (v v' : Value) (ds : List CaseD) (w : World) (h : RdCL w v ds) (h' : RdCL w v' ds) :
    Calls Try.prog 23 #[v, v'] w fun e w' => e = .returned (.bool true) ∧ Below w.heap.size w w' := by
  obtain ⟨a, c, rfl⟩ := h.shape
  obtain ⟨a', c', rfl⟩ := h'.shape
  have hl := h.len
  unfold maxLen at hl
  have hne : ((ds.length : Int) != (ds.length : Int)) = false := by simp
  have HS := Lib.hid h
  have HS' := Lib.hid h'
  clear h h'
  go_enter Try.func23, Try.ntmps23
  go_wp2_with fail
  go_loopw [5] (fun i wr => ∃ k : Nat, i = .int .i64 k ∧ k ≤ ds.length ∧ Below w.heap.size w wr) (fun i _ => ds.length - (intOf i).toNat)
  case atStart => exact ⟨0, rfl, Nat.zero_le _, Below.refl _ _⟩
  case round =>
    obtain ⟨k, rfl, hk, hbl⟩ := hrel
    have HB := Lib.hid hbl
    clear hbl
    by_cases hlt : k < ds.length
    · obtain ⟨b, off, z1, z2, rfl, hb0, x0, x1, x2, x3, hu⟩ := (HS.out.up HB.out (Nat.le_refl _)).at hlt
      obtain ⟨b', off', z1', z2', rfl, hb0', y0, y1, y2, y3, hu'⟩ := (HS'.out.up HB.out (Nat.le_refl _)).at hlt
      obtain ⟨d, hd⟩ : ∃ d, d = ds.getD k ICL := ⟨_, rfl⟩
      rw [← hd] at x0 x1 y0 y1 hu hu'
      obtain ⟨p1, q1, p2, q2, hsz⟩ := hu.shape
      obtain ⟨P1, Q1, P2, Q2, hsy⟩ := hu'.shape
      simp only [Value.agg.injEq, Array.mk.injEq, List.cons.injEq, and_true, true_and] at hsz hsy
      obtain ⟨rfl, rfl⟩ := hsz
      obtain ⟨rfl, rfl⟩ := hsy
      have HU := Lib.hid hu
      have HU' := Lib.hid hu'
      clear hd hu hu'
      have kk : (k : Int) < (ds.length : Int) := by omega
      have HKEEP := Lib.hid (show ∀ X, Below wr.heap.size wr X → (fun X => X.cell? ⟨b, off + k * 4, none⟩ = some (.string d.name) ∧ X.cell? ⟨b, off + k * 4 + 1, none⟩ = some (.int .i64 d.form.letters) ∧ X.cell? ⟨b, off + k * 4 + 2, none⟩ = some ((.slice p1 d.form.clauses.length q1)) ∧ X.cell? ⟨b, off + k * 4 + 3, none⟩ = some ((.slice p2 d.proof.length q2)) ∧ X.cell? ⟨b', off' + k * 4, none⟩ = some (.string d.name) ∧ X.cell? ⟨b', off' + k * 4 + 1, none⟩ = some (.int .i64 d.form.letters) ∧ X.cell? ⟨b', off' + k * 4 + 2, none⟩ = some ((.slice P1 d.form.clauses.length Q1)) ∧ X.cell? ⟨b', off' + k * 4 + 3, none⟩ = some ((.slice P2 d.proof.length Q2)) ∧ Below wr.heap.size wr X) X from fun X hb => ⟨held_of hb x0 (Nat.le_refl _), held_of hb x1 (Nat.le_refl _), held_of hb x2 (Nat.le_refl _), held_of hb x3 (Nat.le_refl _), held_of hb y0 (Nat.le_refl _), held_of hb y1 (Nat.le_refl _), held_of hb y2 (Nat.le_refl _), held_of hb y3 (Nat.le_refl _), hb⟩)
      go_wp2_with fail
      go_region_held3 (fun X => X.cell? ⟨b, off + k * 4, none⟩ = some (.string d.name) ∧ X.cell? ⟨b, off + k * 4 + 1, none⟩ = some (.int .i64 d.form.letters) ∧ X.cell? ⟨b, off + k * 4 + 2, none⟩ = some ((.slice p1 d.form.clauses.length q1)) ∧ X.cell? ⟨b, off + k * 4 + 3, none⟩ = some ((.slice p2 d.proof.length q2)) ∧ X.cell? ⟨b', off' + k * 4, none⟩ = some (.string d.name) ∧ X.cell? ⟨b', off' + k * 4 + 1, none⟩ = some (.int .i64 d.form.letters) ∧ X.cell? ⟨b', off' + k * 4 + 2, none⟩ = some ((.slice P1 d.form.clauses.length Q1)) ∧ X.cell? ⟨b', off' + k * 4 + 3, none⟩ = some ((.slice P2 d.proof.length Q2)) ∧ Below wr.heap.size wr X)
        (first | exact HKEEP.out _ hbn | (refine HKEEP.out _ ?_; (repeat' first | exact Below.refl _ _ | assumption | refine Below.alloc ?_ ?_ _ | refine Below.setCell ?_ ?_ _ | refine Below.drew ?_ | (simp; done) | (simp; omega)); done) | go_keep)
        (first
          | (go_at_call 19; have hcur := (‹_ ∧ _ ∧ _ ∧ _ ∧ _ ∧ _ ∧ _ ∧ _ ∧ Below wr.heap.size wr _›).2.2.2.2.2.2.2.2; refine (eqCs_same _ _ d _ (HU.out.up hcur (Nat.le_refl _)) (HU'.out.up hcur (Nat.le_refl _))).mono ?_; rintro e w1 ⟨rfl, hb1⟩; have hbn : Below wr.heap.size wr w1 := Below.trans hcur (hb1.mono hcur.size))
          | fail)
      go_wp2_with fail
      go_roundw
      case rel => exact ⟨k + 1, by go_num, by omega, HB.out.trans (hbn.mono HB.out.size)⟩
      case measure => simp [intOf]; omega
    · obtain rfl : k = ds.length := by omega
      go_wp2_with fail
      go_ret
      exact ⟨rfl, HB.out⟩

end Go.Proofs.Ytkkcgclliomocaa

namespace Go.Proofs.Ytkkcgclliomocaa
open Go.ChangeShapes Go.WideShapes Go.ChangeAt Go.RowKit
set_option linter.unusedVariables false

section
variable {H : Type} {enc : TypeId × Value → H} {w : World} {base : Nat} {spare : Nat → Bool} {held : Bool}

theorem cells_four {a : Addr} {cs : List Value} (h : w.cells? base a (0 + 4) = some cs) : ∃ v0 v1 v2 v3, cs = [v0, v1, v2, v3] ∧ w.cell? (a.add 0) = some v0 ∧ w.cell? (a.add 1) = some v1 ∧ w.cell? (a.add 2) = some v2 ∧ w.cell? (a.add 3) = some v3 := by
  simp only [World.cells?, Nat.zero_add] at h
  split at h
  · rw [show List.range 4 = [0, 1, 2, 3] from rfl] at h
    cases h0 : w.cell? (a.add 0) with
    | none => rw [List.mapM_cons, h0] at h; simp at h
    | some v0 =>
      cases h1 : w.cell? (a.add 1) with
      | none => rw [List.mapM_cons, h0, List.mapM_cons, h1] at h; simp at h
      | some v1 =>
        cases h2 : w.cell? (a.add 2) with
        | none => rw [List.mapM_cons, h0, List.mapM_cons, h1, List.mapM_cons, h2] at h; simp at h
        | some v2 =>
          cases h3 : w.cell? (a.add 3) with
          | none => rw [List.mapM_cons, h0, List.mapM_cons, h1, List.mapM_cons, h2, List.mapM_cons, h3] at h; simp at h
          | some v3 =>
            rw [List.mapM_cons, h0, List.mapM_cons, h1, List.mapM_cons, h2, List.mapM_cons, h3] at h
            simp at h
            exact ⟨v0, v1, v2, v3, h.symm, rfl, rfl, rfl, rfl⟩
  · cases h

/-- An address whose cells read has no spot: its cells lie one behind another. -/
theorem add_plain {a : Addr} {u : Value} (h : w.cell? (a.add 0) = some u) : ∃ b off, a = ⟨b, off, none⟩ := by
  obtain ⟨b, off, spot⟩ := a
  have h0 := World.cell?_spot h
  have : spot = none := by simpa [Addr.add] using h0
  subst this
  exact ⟨b, off, rfl⟩

theorem trod_three {P : Program} {t : TypeId} {f0 f1 f2 : Field} {fuel : Nat} {cs : List Value} {x : DataW H × List MemPlace} (ht : P.underlying t = some (.struct #[f0, f1, f2])) (h : DataW.trod enc P w base spare held fuel t cs = some x) :
    ∃ y0 y1 y2 n, cs.length = P.cellsOf t ∧ DataW.trod enc P w base spare held n f0.type ((cs.drop f0.offset).take (P.cellsOf f0.type)) = some y0 ∧
      DataW.trod enc P w base spare held n f1.type ((cs.drop f1.offset).take (P.cellsOf f1.type)) = some y1 ∧ DataW.trod enc P w base spare held n f2.type ((cs.drop f2.offset).take (P.cellsOf f2.type)) = some y2 := by
  obtain ⟨xs, n, _, rfl, hl, hlen, hf⟩ := DataW.trod_struct ht h
  match xs, hlen with
  | [y0, y1, y2], _ => exact ⟨y0, y1, y2, n, hl, by simpa using hf 0 f0 rfl, by simpa using hf 1 f1 rfl, by simpa using hf 2 f2 rfl⟩

theorem cells_lists : Try.prog.cellsOf 29 = 1 := by kernel_rfl
theorem cells_str : Try.prog.cellsOf 9 = 1 := by kernel_rfl
theorem cells_num : Try.prog.cellsOf 2 = 1 := by kernel_rfl

def WfFm (d : FormD) : Prop := (-9223372036854775808 ≤ d.letters ∧ d.letters ≤ 9223372036854775807) ∧ WfL d.clauses
def WfCs (d : CaseD) : Prop := WfFm d.form ∧ WfL d.proof
def WfCL (ds : List CaseD) : Prop := ∀ d ∈ ds, WfCs d

end
end Go.Proofs.Ytkkcgclliomocaa
