/-
  Form, by value.  (Printed by genstruct.py.)
-/
import Derived.Test.YtljhohacgceojaaMarkL
import Derived.Test.YtljhohacgceojaaHeldL
namespace Go.Proofs.Ytljhohacgceojaa
open Go.RowKit

structure FormD where
  letters : Int
  clauses : List (List Int)

def RdFm (w : World) (v : Value) (d : FormD) : Prop := ∃ v1, v = .agg #[.int .i64 d.letters, v1] ∧ RdL w v1 d.clauses
def OwnFm (lo hi : Nat) (w : World) (v : Value) (d : FormD) : Prop := ∃ v1 l1 h1, v = .agg #[.int .i64 d.letters, v1] ∧ OwnL l1 h1 w v1 d.clauses ∧
  lo ≤ l1 ∧ l1 ≤ h1 ∧ h1 ≤ hi ∧ h1 ≤ w.heap.size
def bulkFm (d : FormD) : Nat := bulkL d.clauses
def cntFm (d : FormD) : Nat := cntL d.clauses

theorem RdFm.shape {w : World} {v : Value} {d : FormD} (h : RdFm w v d) : ∃ a1 c1, v = .agg #[.int .i64 d.letters, .slice a1 d.clauses.length c1] := by
  obtain ⟨v1, rfl, p1⟩ := h
  obtain ⟨a1, c1, rfl⟩ := p1.shape
  exact ⟨_, _, rfl⟩
theorem RdFm.parts {w : World} {z1 z2 : Value} {d : FormD} (h : RdFm w (.agg #[z1, z2]) d) : RdL w z2 d.clauses := by
  obtain ⟨v1, e, p1⟩ := h
  simp only [Value.agg.injEq, Array.mk.injEq, List.cons.injEq, and_true] at e
  obtain ⟨rfl, rfl⟩ := e
  exact p1
theorem RdFm.up {w w' : World} {v : Value} {d : FormD} {B : Nat} (h : RdFm w v d) (hb : Below B w w') (hB : w.heap.size ≤ B) : RdFm w' v d := by
  obtain ⟨v1, e, p1⟩ := h
  exact ⟨v1, e, p1.up hb hB⟩
theorem OwnFm.rd {lo hi : Nat} {w : World} {v : Value} {d : FormD} (h : OwnFm lo hi w v d) : RdFm w v d := by
  obtain ⟨v1, l1, h1, e, p1, r1, r2, r3, r4⟩ := h
  exact ⟨v1, e, p1.rd⟩
theorem OwnFm.up {lo hi : Nat} {w w' : World} {v : Value} {d : FormD} {B : Nat} (h : OwnFm lo hi w v d) (hb : Below B w w') (hB : w.heap.size ≤ B) : OwnFm lo hi w' v d := by
  obtain ⟨v1, l1, h1, e, p1, r1, r2, r3, r4⟩ := h
  exact ⟨v1, l1, h1, e, p1.up hb hB, r1, r2, r3, Nat.le_trans r4 hb.size⟩
theorem OwnFm.wide {lo hi lo' hi' : Nat} {w : World} {v : Value} {d : FormD} (h : OwnFm lo hi w v d) (a : lo' ≤ lo) (b : hi ≤ hi') : OwnFm lo' hi' w v d := by
  obtain ⟨v1, l1, h1, e, p1, r1, r2, r3, r4⟩ := h
  exact ⟨v1, l1, h1, e, p1, by omega, r2, by omega, r4⟩
theorem OwnFm.kept {lo hi : Nat} {w w' : World} {v : Value} {d : FormD} {S : Nat → Prop} (h : OwnFm lo hi w v d) (hk : Kept S w w') (hs : ∀ b, lo ≤ b → b < hi → ¬ S b) : OwnFm lo hi w' v d := by
  obtain ⟨v1, l1, h1, e, p1, r1, r2, r3, r4⟩ := h
  exact ⟨v1, l1, h1, e, p1.kept hk (fun b a c => hs b (by omega) (by omega)), r1, r2, r3, Nat.le_trans r4 hk.size⟩

set_option maxHeartbeats 2000000 in
set_option maxRecDepth 4000 in
theorem szFm_any (v : Value) (d : FormD) (left : Int) (w : World) (h : RdFm w v d) (h1 : left ≤ 1048576) (h0 : 0 ≤ left) :
    Calls Try.prog 50 #[v, .int .i64 left] w fun e w' => ∃ s : Int, e = .returned (.int .i64 s) ∧ -1 ≤ s ∧ s ≤ left ∧ (0 ≤ s → (bulkFm d : Int) ≤ left - s) ∧ Below w.heap.size w w' := by
  obtain ⟨a1, c1, rfl⟩ := h.shape
  obtain p1 := h.parts
  obtain ⟨n1, x2⟩ := d
  unfold bulkFm
  simp only at p1 ⊢
  have P1 := Lib.hid p1
  clear h p1
  go_enter Try.func50, Try.ntmps50
  go_wp2_with fail
  refine Calls.at fun W hW => ?_
  have HB := Lib.hid (show Below w.heap.size w W by subst hW; (repeat' first | exact Below.refl _ _ | assumption | refine Below.alloc ?_ ?_ _ | refine Below.setCell ?_ ?_ _ | refine Below.drew ?_ | (simp; done) | (simp; omega)))
  have HK := Lib.hid (show Blk W w.heap.size 30 #[.int .i64 n1, .slice a1 x2.length c1] by subst hW; exact Blk.new _ _ _)
  clear hW
  refine (szL_any _ x2 left W (P1.out.up HB.out (Nat.le_refl _)) (by omega) (by omega)).mono ?_
  rintro e w1 ⟨s1, rfl, sa1, sb1, sc1, hb1⟩
  have HB1 := Lib.hid (HB.out.trans (hb1.mono HB.out.size))
  have HK1 := Lib.hid (HK.out.below hb1 HK.out.lt)
  clear hb1
  by_cases hn1 : s1 < 0
  · go_wp2_with fail
    go_ret
    exact ⟨-1, rfl, by omega, by omega, by omega, HB1.out⟩
  go_wp2_with fail
  go_ret
  exact ⟨s1, rfl, by omega, by omega, by omega, HB1.out⟩

set_option maxHeartbeats 2000000 in
set_option maxRecDepth 4000 in
theorem toFm_any (v : Value) (d : FormD) (w : World) (h : RdFm w v d) (hb : bulkFm d ≤ 1048576) :
    Calls Try.prog 53 #[v] w fun e w' => ∃ v', e = .returned v' ∧ OwnFm w.heap.size w'.heap.size w' v' d ∧ Below w.heap.size w w' := by
  obtain ⟨a1, c1, rfl⟩ := h.shape
  obtain p1 := h.parts
  obtain ⟨n1, x2⟩ := d
  unfold bulkFm at hb
  simp only at p1 hb ⊢
  have P1 := Lib.hid p1
  have L1 : Hid (bulkL x2 ≤ 1048576) := by show bulkL x2 ≤ _; omega
  clear h p1 hb
  go_enter Try.func53, Try.ntmps53
  go_wp2_with fail
  refine Calls.at fun W1 hW => ?_
  have hb1 : Below w.heap.size w W1 := by subst hW; (repeat' first | exact Below.refl _ _ | assumption | refine Below.alloc ?_ ?_ _ | refine Below.setCell ?_ ?_ _ | refine Below.drew ?_ | (simp; done) | (simp; omega))
  have hk1 : Blk W1 (w.heap.size + 2) 35 #[.int .i64 n1, .slice none 0 0] := by subst hW; simpa using Blk.new ((w.alloc (.cells #[.int .i64 n1, .slice a1 x2.length c1] 30)).alloc (.cells #[.int .i64 0, .slice none 0 0] 35)) 35 #[.int .i64 n1, .slice none 0 0]
  have hk2 : Blk W1 w.heap.size 30 #[.int .i64 n1, .slice a1 x2.length c1] := by subst hW; exact ((Blk.new w _ _).alloc _).alloc _
  have hk3 : Blk W1 (w.heap.size + 1) 35 #[.int .i64 0, .slice none 0 0] := by subst hW; simpa using (Blk.new (w.alloc (.cells #[.int .i64 n1, .slice a1 x2.length c1] 30)) 35 #[.int .i64 0, .slice none 0 0]).alloc (.cells #[.int .i64 n1, .slice none 0 0] 35)
  have hz1 := hk1.lt
  clear hW
  refine (toL_any _ x2 W1 (P1.out.up hb1 (Nat.le_refl _)) L1.out).mono ?_
  rintro e w1 ⟨y1, rfl, ho1, hbb⟩
  obtain ⟨b1, e1, rfl⟩ := ho1.rd.shape
  have zz1 := hbb.size
  have HB1 := Lib.hid (hb1.trans (hbb.mono hb1.size))
  have HK1 := Lib.hid (hk1.below hbb hk1.lt)
  have HK2 := Lib.hid (hk2.below hbb hk2.lt)
  have HK3 := Lib.hid (hk3.below hbb hk3.lt)
  have O1 := Lib.hid (ho1)
  have k1_0 : w1.cell? ⟨w.heap.size + 2, 1, none⟩ = some (.slice none 0 0) := HK1.out.cell 1 rfl
  have f1_0 := HK1.out.free 1
  clear hb1 hbb hk1 hk2 hk3 ho1
  have g0 : w1.cell? ⟨w.heap.size + 2, 0, none⟩ = some (.int .i64 n1) := HK1.out.cell 0 rfl
  have h0 : w1.cell? ⟨w.heap.size + 1, 0, none⟩ = some (.int .i64 0) := HK3.out.cell 0 rfl
  have i0 := HK3.out.free 0
  have h1 : w1.cell? ⟨w.heap.size + 1, 1, none⟩ = some (.slice none 0 0) := HK3.out.cell 1 rfl
  have i1 := HK3.out.free 1
  go_wp2_with fail
  refine bodyPost_ret (v := .agg #[.int .i64 n1, .slice b1 x2.length e1]) (by simp [results, Try.results53, go_sem, *]) rfl ?_
  have wx : ∀ Wf, Kept (fun b => b = w.heap.size + 1 ∨ b = w.heap.size + 2) w1 Wf → Wf.heap.size = w1.heap.size → ∃ v', Ending.returned (.agg #[.int .i64 n1, .slice b1 x2.length e1]) = Ending.returned v' ∧ OwnFm w.heap.size Wf.heap.size Wf v' ⟨n1, x2⟩ ∧ Below w.heap.size w Wf := by
    intro Wf hk hz
    have k1 := O1.out.kept hk (by intro b h1 h2 h3; omega)
    refine ⟨_, rfl, ⟨_, _, _, rfl, k1, by omega, by omega, by omega, by omega⟩, HB1.out.trans (hk.toBelow HB1.out.size (by intro k h1 h2; omega))⟩
  refine wx _ ?_ (by simp)
  repeat' first | exact Kept.refl _ _ | refine Kept.setCell ?_ (.inr (by simp)) _

set_option maxHeartbeats 2000000 in
set_option maxRecDepth 4000 in
theorem eqFm_same (v v' : Value) (d : FormD) (w : World) (h : RdFm w v d) (h' : RdFm w v' d) :
    Calls Try.prog 58 #[v, v'] w fun e w' => e = .returned (.bool true) ∧ Below w.heap.size w w' := by
  obtain ⟨a1, c1, rfl⟩ := h.shape
  obtain ⟨b1, e1, rfl⟩ := h'.shape
  obtain p1 := h.parts
  obtain q1 := h'.parts
  obtain ⟨n1, x2⟩ := d
  simp only at p1 q1 ⊢
  have hne0 : (n1 != n1) = false := by simp
  have P1 := Lib.hid p1
  have Q1 := Lib.hid q1
  clear h h' p1 q1
  go_enter Try.func58, Try.ntmps58
  go_wp2_with fail
  refine Calls.at fun W hW => ?_
  have HB := Lib.hid (show Below w.heap.size w W by subst hW; (repeat' first | exact Below.refl _ _ | assumption | refine Below.alloc ?_ ?_ _ | refine Below.setCell ?_ ?_ _ | refine Below.drew ?_ | (simp; done) | (simp; omega)))
  have HK := Lib.hid (show Blk W w.heap.size 35 #[.int .i64 n1, .slice a1 x2.length c1] by subst hW; exact (Blk.new _ _ _).alloc _)
  have HL := Lib.hid (show Blk W (w.heap.size + 1) 35 #[.int .i64 n1, .slice b1 x2.length e1] by subst hW; simpa using Blk.new (w.alloc (.cells #[.int .i64 n1, .slice a1 x2.length c1] 35)) 35 #[.int .i64 n1, .slice b1 x2.length e1])
  clear hW
  refine (eqL_same _ _ x2 W (P1.out.up HB.out (Nat.le_refl _)) (Q1.out.up HB.out (Nat.le_refl _))).mono ?_
  rintro e w1 ⟨rfl, hb1⟩
  have HB1 := Lib.hid (HB.out.trans (hb1.mono HB.out.size))
  clear hb1
  go_wp2_with fail
  go_ret
  exact ⟨rfl, HB1.out⟩

def mkdFm (k : Int) (d : FormD) : FormD := ⟨d.letters, mkdL k d.clauses⟩

set_option maxHeartbeats 2000000 in
set_option maxRecDepth 4000 in
theorem markFm_o (v : Value) (lo hi : Nat) (d : FormD) (k : Int) (w : World) (ho : OwnFm lo hi w v d) (h0 : 0 ≤ k) (h1 : k + cntFm d ≤ 1099511627776) :
    Calls Try.prog 69 #[v, .int .i64 k] w fun e w' => e = .returned (.int .i64 (k + cntFm d)) ∧ OwnFm lo hi w' v (mkdFm k d) ∧ Kept (fun b => lo ≤ b ∧ b < hi) w w' := by
  obtain ⟨a1, c1, hv⟩ := ho.rd.shape
  obtain ⟨v1, l1, h1', e, o1, r1, r2, r3, r4⟩ := ho
  rw [e] at hv
  simp only [Value.agg.injEq, Array.mk.injEq, List.cons.injEq, and_true, true_and] at hv
  obtain rfl := hv
  subst e
  obtain ⟨n1, x2⟩ := d
  unfold cntFm mkdFm at *
  simp only at o1 h1 ⊢
  obtain ⟨C1, hC1⟩ : ∃ C, C = cntL x2 := ⟨_, rfl⟩
  try rw [← hC1] at h1
  try rw [← hC1]
  have HC1 := Lib.hid hC1
  have b1 : k + C1 ≤ 1099511627776 := by omega
  have O1 := Lib.hid o1
  clear o1 h1 hC1
  go_enter Try.func69, Try.ntmps69
  go_wp2_with fail
  refine Calls.at fun W hW => ?_
  have HB := Lib.hid (show Below w.heap.size w W by subst hW; (repeat' first | exact Below.refl _ _ | assumption | refine Below.alloc ?_ ?_ _ | refine Below.setCell ?_ ?_ _ | refine Below.drew ?_ | (simp; done) | (simp; omega)))
  have HK := Lib.hid (show Blk W w.heap.size 35 #[.int .i64 n1, .slice a1 x2.length c1] by subst hW; exact Blk.new _ _ _)
  clear hW
  have A1 := Lib.hid (O1.out.up HB.out (Nat.le_refl _))
  have hzW := HB.out.size
  have hKl := HK.out.lt
  refine (markL_o _ l1 h1' x2 (k) W A1.out (by omega) (by rw [← HC1.out]; exact b1)).mono ?_
  rintro e w1 ⟨rfl, m1, k1⟩
  rw [← HC1.out]
  have HK1 := Lib.hid (HK.out.kept k1 (by omega))
  have M1 := Lib.hid m1
  have KK1 := Lib.hid ((Kept.of_below HB.out (Nat.le_refl _)).trans (k1.mono (S' := fun b => lo ≤ b ∧ b < hi) (by intro b _ q; omega)))
  clear m1 k1
  go_wp2_with fail
  go_ret
  refine ⟨congrArg (fun x => Ending.returned (Value.int IntKind.i64 x)) (by have := HC1.out; push_cast; omega), ?_, KK1.out⟩
  have hz := KK1.out.size
  exact ⟨_, l1, h1', rfl, M1.out, r1, r2, r3, by omega⟩

set_option maxHeartbeats 2000000 in
set_option maxRecDepth 4000 in
theorem heldFm_o (v : Value) (d : FormD) (k : Int) (w : World) (h : RdFm w v (mkdFm k d)) (h0 : 0 ≤ k) (h1 : k + cntFm d ≤ 1099511627776) :
    Calls Try.prog 71 #[v, .int .i64 k] w fun e w' => e = .returned (.int .i64 (k + cntFm d)) ∧ Below w.heap.size w w' := by
  obtain ⟨a1, c1, rfl⟩ := h.shape
  obtain p1 := h.parts
  obtain ⟨n1, x2⟩ := d
  unfold cntFm mkdFm at *
  simp only at p1 h1 ⊢
  obtain ⟨C1, hC1⟩ : ∃ C, C = cntL x2 := ⟨_, rfl⟩
  rw [← hC1] at h1 ⊢
  have HC1 := Lib.hid hC1
  have b1 : k + C1 ≤ 1099511627776 := by omega
  have P1 := Lib.hid p1
  obtain ⟨g1_0, hg1_0⟩ : ∃ x, x = (mkdL (k) x2).length := ⟨_, rfl⟩
  clear h p1 h1 hC1
  rw [← hg1_0] at P1 ⊢
  clear hg1_0
  go_enter Try.func71, Try.ntmps71
  go_wp2_with fail
  refine Calls.at fun W hW => ?_
  have HB := Lib.hid (show Below w.heap.size w W by subst hW; (repeat' first | exact Below.refl _ _ | assumption | refine Below.alloc ?_ ?_ _ | refine Below.setCell ?_ ?_ _ | refine Below.drew ?_ | (simp; done) | (simp; omega)))
  have HK := Lib.hid (show Blk W w.heap.size 35 #[.int .i64 n1, .slice a1 g1_0 c1] by subst hW; exact Blk.new _ _ _)
  clear hW
  refine (heldL_o _ x2 (k) W (P1.out.up HB.out (Nat.le_refl _)) (by omega) (by rw [← HC1.out]; exact b1)).mono ?_
  rintro e w1 ⟨rfl, hb1⟩
  rw [← HC1.out]
  have HB1 := Lib.hid (HB.out.trans (hb1.mono HB.out.size))
  clear hb1
  have e1 : ¬ (k + (C1 : Int) < 0) := by omega
  go_wp2_with fail
  go_ret
  exact ⟨congrArg (fun x => Ending.returned (Value.int IntKind.i64 x)) (by push_cast; omega), HB1.out⟩

end Go.Proofs.Ytljhohacgceojaa
