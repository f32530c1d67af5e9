/-
  FnExactReadRows: texts joined: OpenR, OpenL, OpenC, DeskO, JobsT, DeskT, OpenD, SameNL, SameJ, SameRw, SameD, SameDD, ValidD, ValidD2, Cities, CitiesM, AreCit, DeskS.
-/
import Derived.Lib.SmallJoins
import Derived.Test.YtggpbekclegfoaaDoorMEReadRowsAB
import Derived.Test.YtggpbekclegfoaaDoorMEReadRowsAC
import Derived.Test.YtggpbekclegfoaaDoorMEReadRowsAD
import Derived.Test.YtggpbekclegfoaaDoorMEReadRowsAE
import Derived.Test.YtggpbekclegfoaaDoorMEReadRowsAG
import Derived.Test.YtggpbekclegfoaaDoorMEReadRowsAH
import Derived.Test.YtggpbekclegfoaaDoorMEReadRowsAI
namespace Go.Proofs.YtggpbekclegfoaaDoor
open Go.ChangeShapes Go.WideShapes Go.ChangeAt Go.RowKit
set_option linter.unusedVariables false

def WfF (zs : List Nat) : Prop := True
def WfR (r : RowsD) : Prop := True

section
variable {H : Type} {enc : TypeId × Value → H} {w : World} {base : Nat} {spare : Nat → Bool} {held : Bool}

theorem cells_f32 : Tryd.prog.cellsOf 83 = 1 := by kernel_rfl
theorem cells_floats : Tryd.prog.cellsOf 30 = 1 := by kernel_rfl
theorem cells_i64' : Tryd.prog.cellsOf 2 = 1 := by kernel_rfl
theorem cells_rows : Tryd.prog.cellsOf 32 = 4 := by kernel_rfl

set_option maxRecDepth 100000 in
theorem trod_f32 {n : Nat} {cs : List Value} {x : DataW H × List MemPlace} (h : DataW.trod enc Tryd.prog w base spare held n 83 cs = some x) : ∃ b, cs = [.float .f32 b] := by
  cases n with
  | zero => simp [DataW.trod] at h
  | succ n =>
    simp only [DataW.trod, Tryd.underlying83] at h
    revert h
    repeat' split
    all_goals first | (intro h; cases h; done) | skip
    all_goals first | (intro _; exact ⟨_, rfl⟩) | skip
    all_goals (intro h; simp_all)

set_option maxRecDepth 100000 in
theorem trod_F {fuel : Nat} {cs : List Value} {x : DataW H × List MemPlace} (h : DataW.trod enc Tryd.prog w base spare held fuel 30 cs = some x) : ∃ v zs, cs = [v] ∧ RdF w v zs ∧ WfF zs := by
  rcases DataW.trod_slice Tryd.underlying30 h with ⟨rfl, _⟩ | ⟨a, len, cap, elems, rest, n, _, rfl, _, hb, hl, hm, hlen, hel, _, _⟩
  · exact ⟨_, [], rfl, .inl ⟨rfl, rfl⟩, trivial⟩
  · rw [cells_f32] at hel
    have hex : ∀ i, i < len → ∃ q : Nat, w.cell? (a.add i) = some (.float .f32 q) := by
      intro i hi
      have h1 := hel i hi
      rw [List.getElem?_eq_getElem (by omega)] at h1
      cases hc : w.cells? base (a.add (i * 1)) 1 with
      | none => rw [hc] at h1; simp at h1
      | some cs' =>
        rw [hc] at h1
        simp only [Option.bind_some] at h1
        obtain ⟨u, rfl, hu⟩ := cells_one hc
        obtain ⟨b, e⟩ := trod_f32 h1
        simp at e
        subst e
        exact ⟨b, by simpa using hu⟩
    obtain ⟨l, hll, hlp⟩ := exists_list _ len hex
    refine ⟨_, l, rfl, .inr ⟨a, cap, by simp [hll], by simp [hll]; omega, hm, ?_⟩, trivial⟩
    intro i u hi
    simp only [List.getElem?_map, Option.map_eq_some_iff] at hi
    obtain ⟨q, hq, rfl⟩ := hi
    exact hlp i q hq

set_option maxRecDepth 100000 in
theorem arg_F {r : Reach} {b0 : Nat} {v : Value} {d : DataW H} {p : List MemPlace} (hv : Value.okWide Tryd.prog w r b0 30 v) (h : DataW.Trod enc Tryd.prog w base spare held 30 v d p) : ∃ zs, RdF w v zs ∧ WfF zs := by
  obtain ⟨a, len, cap, rfl⟩ := okWide_slice Tryd.underlying30 hv
  obtain ⟨fuel, hf⟩ := h
  obtain ⟨v, zs, e, h1, h2⟩ := trod_F hf
  simp [Value.cells] at e
  subst e
  exact ⟨zs, h1, h2⟩

set_option maxRecDepth 100000 in
theorem trod_i64 {n : Nat} {cs : List Value} {x : DataW H × List MemPlace} (h : DataW.trod enc Tryd.prog w base spare held n 2 cs = some x) : ∃ z, cs = [.int .i64 z] := by
  cases n with
  | zero => simp [DataW.trod] at h
  | succ n =>
    simp only [DataW.trod, Tryd.underlying2] at h
    revert h
    repeat' split
    all_goals first | (intro h; cases h; done) | skip
    all_goals first | (intro _; exact ⟨_, rfl⟩) | skip
    all_goals (intro h; simp_all)

set_option maxRecDepth 100000 in
theorem arg_R {r : Reach} {b0 : Nat} {v : Value} {d : DataW H} {p : List MemPlace} (hv : Value.okWide Tryd.prog w r b0 32 v) (h : DataW.Trod enc Tryd.prog w base spare held 32 v d p) : ∃ t, RdR w v t ∧ WfR t := by
  obtain ⟨cs, rfl, hsz⟩ := okWide_struct Tryd.underlying32 hv
  obtain ⟨fuel, hf⟩ := h
  obtain ⟨y0, y1, y2, y3, n, _, hl, h0, h1, h2, h3⟩ := Go.Joins.trod_struct4 Tryd.underlying32 hf
  rw [cells_rows] at hl
  simp only [Value.cells] at hl h0 h1 h2 h3
  obtain ⟨l⟩ := cs
  match l, hl with
  | [a, b, c, e], _ =>
    rw [cells_floats] at h1 h2 h3
    rw [cells_i64'] at h0
    obtain ⟨z, e0⟩ := trod_i64 h0
    obtain ⟨vb, p, e1, r1, _⟩ := trod_F (w := w) h1
    obtain ⟨vc, q, e2, r2, _⟩ := trod_F (w := w) h2
    obtain ⟨vd, s, e3, r3, _⟩ := trod_F (w := w) h3
    simp at e0 e1 e2 e3
    subst e0 e1 e2 e3
    exact ⟨⟨z, p, q, s⟩, ⟨_, _, _, rfl, r1, r2, r3⟩, trivial⟩
end
end Go.Proofs.YtggpbekclegfoaaDoor

namespace Go.Proofs.YtggpbekclegfoaaDoor
open Go.ChangeShapes Go.WideShapes Go.ChangeAt Go.RowKit
set_option linter.unusedVariables false

section
variable {H : Type} {enc : TypeId × Value → H} {w : World} {base : Nat} {spare : Nat → Bool} {held : Bool}

theorem cells_ints' : Tryd.prog.cellsOf 52 = 1 := by kernel_rfl
def WfL (zss : List (List Int)) : Prop := ∀ zs ∈ zss, WfI zs

end
end Go.Proofs.YtggpbekclegfoaaDoor

namespace Go.Proofs.YtggpbekclegfoaaDoor
open Go.ChangeShapes Go.WideShapes Go.ChangeAt Go.RowKit
set_option linter.unusedVariables false

section
variable {H : Type} {enc : TypeId × Value → H} {w : World} {base : Nat} {spare : Nat → Bool} {held : Bool}

theorem cells_four {a : Addr} {cs : List Value} (h : w.cells? base a (0 + 4) = some cs) : ∃ v0 v1 v2 v3, cs = [v0, v1, v2, v3] ∧ w.cell? (a.add 0) = some v0 ∧ w.cell? (a.add 1) = some v1 ∧ w.cell? (a.add 2) = some v2 ∧ w.cell? (a.add 3) = some v3 := by
  simp only [World.cells?, Nat.zero_add] at h
  split at h
  · rw [show List.range 4 = [0, 1, 2, 3] from rfl] at h
    cases h0 : w.cell? (a.add 0) with
    | none => rw [List.mapM_cons, h0] at h; simp at h
    | some v0 =>
      cases h1 : w.cell? (a.add 1) with
      | none => rw [List.mapM_cons, h0, List.mapM_cons, h1] at h; simp at h
      | some v1 =>
        cases h2 : w.cell? (a.add 2) with
        | none => rw [List.mapM_cons, h0, List.mapM_cons, h1, List.mapM_cons, h2] at h; simp at h
        | some v2 =>
          cases h3 : w.cell? (a.add 3) with
          | none => rw [List.mapM_cons, h0, List.mapM_cons, h1, List.mapM_cons, h2, List.mapM_cons, h3] at h; simp at h
          | some v3 =>
            rw [List.mapM_cons, h0, List.mapM_cons, h1, List.mapM_cons, h2, List.mapM_cons, h3] at h
            simp at h
            exact ⟨v0, v1, v2, v3, h.symm, rfl, rfl, rfl, rfl⟩
  · cases h

/-- An address whose cells read has no spot: its cells lie one behind another. -/
theorem add_plain {a : Addr} {u : Value} (h : w.cell? (a.add 0) = some u) : ∃ b off, a = ⟨b, off, none⟩ := by
  obtain ⟨b, off, spot⟩ := a
  have h0 := World.cell?_spot h
  have : spot = none := by simpa [Addr.add] using h0
  subst this
  exact ⟨b, off, rfl⟩

theorem trod_three {P : Program} {t : TypeId} {f0 f1 f2 : Field} {fuel : Nat} {cs : List Value} {x : DataW H × List MemPlace} (ht : P.underlying t = some (.struct #[f0, f1, f2])) (h : DataW.trod enc P w base spare held fuel t cs = some x) :
    ∃ y0 y1 y2 n, cs.length = P.cellsOf t ∧ DataW.trod enc P w base spare held n f0.type ((cs.drop f0.offset).take (P.cellsOf f0.type)) = some y0 ∧
      DataW.trod enc P w base spare held n f1.type ((cs.drop f1.offset).take (P.cellsOf f1.type)) = some y1 ∧ DataW.trod enc P w base spare held n f2.type ((cs.drop f2.offset).take (P.cellsOf f2.type)) = some y2 := by
  obtain ⟨xs, n, _, rfl, hl, hlen, hf⟩ := DataW.trod_struct ht h
  match xs, hlen with
  | [y0, y1, y2], _ => exact ⟨y0, y1, y2, n, hl, by simpa using hf 0 f0 rfl, by simpa using hf 1 f1 rfl, by simpa using hf 2 f2 rfl⟩

theorem cells_str : Tryd.prog.cellsOf 9 = 1 := by kernel_rfl
theorem cells_num : Tryd.prog.cellsOf 2 = 1 := by kernel_rfl

def WfFm (d : FormD) : Prop := (-9223372036854775808 ≤ d.letters ∧ d.letters ≤ 9223372036854775807) ∧ WfL d.clauses
def WfCs (d : CaseD) : Prop := WfFm d.form ∧ WfL d.proof
def WfCL (ds : List CaseD) : Prop := ∀ d ∈ ds, WfCs d

end
end Go.Proofs.YtggpbekclegfoaaDoor

namespace Go.Proofs.YtggpbekclegfoaaDoor
open Go.RowKit

structure DeskD where
  rows : RowsD
  sizes : List Int
  jobs : List JobD
  ways : List Int

def RdD (w : World) (v : Value) (d : DeskD) : Prop := ∃ va vb vc vs vj vw, v = .agg #[.int .i64 d.rows.vars, va, vb, vc, vs, vj, vw] ∧ RdR w (.agg #[.int .i64 d.rows.vars, va, vb, vc]) d.rows ∧ RdI w vs d.sizes ∧ RdJ w vj d.jobs ∧ RdI w vw d.ways
def OwnD (lo hi : Nat) (w : World) (v : Value) (d : DeskD) : Prop := ∃ va vb vc vs vj vw l1 h1 l2 h2 l3 h3 l4 h4, v = .agg #[.int .i64 d.rows.vars, va, vb, vc, vs, vj, vw] ∧ OwnR l1 h1 w (.agg #[.int .i64 d.rows.vars, va, vb, vc]) d.rows ∧ OwnI l2 h2 w vs d.sizes ∧ OwnJ l3 h3 w vj d.jobs ∧ OwnI l4 h4 w vw d.ways ∧
  lo ≤ l1 ∧ l1 ≤ h1 ∧ h1 ≤ l2 ∧ l2 ≤ h2 ∧ h2 ≤ l3 ∧ l3 ≤ h3 ∧ h3 ≤ l4 ∧ l4 ≤ h4 ∧ h4 ≤ hi ∧ h4 ≤ w.heap.size
def bulkD (d : DeskD) : Nat := bulkR d.rows + d.sizes.length + d.jobs.length + d.ways.length
def cntD (d : DeskD) : Nat := cntR d.rows + d.sizes.length + d.jobs.length * 4 + d.ways.length

theorem RdD.shape {w : World} {v : Value} {d : DeskD} (h : RdD w v d) : ∃ a1 c1 a2 c2 a3 c3 a4 c4 a5 c5 a6 c6, v = .agg #[.int .i64 d.rows.vars, .slice a1 d.rows.nums.length c1, .slice a2 d.rows.bnds.length c2, .slice a3 d.rows.gains.length c3, .slice a4 d.sizes.length c4, .slice a5 d.jobs.length c5, .slice a6 d.ways.length c6] := by
  obtain ⟨va, vb, vc, vs, vj, vw, rfl, h1, h2, h3, h4⟩ := h
  obtain ⟨a1, c1, a2, c2, a3, c3, e⟩ := h1.shape
  simp only [Value.agg.injEq, Array.mk.injEq, List.cons.injEq, and_true, true_and] at e
  obtain ⟨rfl, rfl, rfl⟩ := e
  obtain ⟨a4, c4, rfl⟩ := h2.shape
  obtain ⟨a5, c5, rfl⟩ := h3.shape
  obtain ⟨a6, c6, rfl⟩ := h4.shape
  exact ⟨_, _, _, _, _, _, _, _, _, _, _, _, rfl⟩
theorem RdD.parts {w : World} {x0 x1 x2 x3 y z u : Value} {d : DeskD} (h : RdD w (.agg #[x0, x1, x2, x3, y, z, u]) d) : RdR w (.agg #[x0, x1, x2, x3]) d.rows ∧ RdI w y d.sizes ∧ RdJ w z d.jobs ∧ RdI w u d.ways := by
  obtain ⟨va, vb, vc, vs, vj, vw, e, h1, h2, h3, h4⟩ := h
  simp only [Value.agg.injEq, Array.mk.injEq, List.cons.injEq, and_true] at e
  obtain ⟨rfl, rfl, rfl, rfl, rfl, rfl, rfl⟩ := e
  exact ⟨h1, h2, h3, h4⟩
theorem RdD.up {w w' : World} {v : Value} {d : DeskD} {B : Nat} (h : RdD w v d) (hb : Below B w w') (hB : w.heap.size ≤ B) : RdD w' v d := by
  obtain ⟨va, vb, vc, vs, vj, vw, e, h1, h2, h3, h4⟩ := h
  exact ⟨va, vb, vc, vs, vj, vw, e, h1.up hb hB, h2.up hb hB, h3.up hb hB, h4.up hb hB⟩
theorem OwnD.rd {lo hi : Nat} {w : World} {v : Value} {d : DeskD} (h : OwnD lo hi w v d) : RdD w v d := by
  obtain ⟨va, vb, vc, vs, vj, vw, l1, h1, l2, h2, l3, h3, l4, h4, e, o1, o2, o3, o4, _⟩ := h
  exact ⟨va, vb, vc, vs, vj, vw, e, o1.rd, o2.rd, o3.rd, o4.rd⟩
theorem OwnD.up {lo hi : Nat} {w w' : World} {v : Value} {d : DeskD} {B : Nat} (h : OwnD lo hi w v d) (hb : Below B w w') (hB : w.heap.size ≤ B) : OwnD lo hi w' v d := by
  obtain ⟨va, vb, vc, vs, vj, vw, l1, h1, l2, h2, l3, h3, l4, h4, e, o1, o2, o3, o4, r1, r2, r3, r4, r5, r6, r7, r8, r9, r10⟩ := h
  exact ⟨va, vb, vc, vs, vj, vw, l1, h1, l2, h2, l3, h3, l4, h4, e, o1.up hb hB, o2.up hb hB, o3.up hb hB, o4.up hb hB, r1, r2, r3, r4, r5, r6, r7, r8, r9, Nat.le_trans r10 hb.size⟩
theorem OwnD.wide {lo hi lo' hi' : Nat} {w : World} {v : Value} {d : DeskD} (h : OwnD lo hi w v d) (a : lo' ≤ lo) (b : hi ≤ hi') : OwnD lo' hi' w v d := by
  obtain ⟨va, vb, vc, vs, vj, vw, l1, h1, l2, h2, l3, h3, l4, h4, e, o1, o2, o3, o4, r1, r2, r3, r4, r5, r6, r7, r8, r9, r10⟩ := h
  exact ⟨va, vb, vc, vs, vj, vw, l1, h1, l2, h2, l3, h3, l4, h4, e, o1, o2, o3, o4, by omega, r2, r3, r4, r5, r6, r7, r8, by omega, r10⟩
theorem OwnD.kept {lo hi : Nat} {w w' : World} {v : Value} {d : DeskD} {S : Nat → Prop} (h : OwnD lo hi w v d) (hk : Kept S w w') (hs : ∀ b, lo ≤ b → b < hi → ¬ S b) : OwnD lo hi w' v d := by
  obtain ⟨va, vb, vc, vs, vj, vw, l1, h1, l2, h2, l3, h3, l4, h4, e, o1, o2, o3, o4, r1, r2, r3, r4, r5, r6, r7, r8, r9, r10⟩ := h
  exact ⟨va, vb, vc, vs, vj, vw, l1, h1, l2, h2, l3, h3, l4, h4, e, o1.kept hk (fun b a c => hs b (by omega) (by omega)), o2.kept hk (fun b a c => hs b (by omega) (by omega)), o3.kept hk (fun b a c => hs b (by omega) (by omega)), o4.kept hk (fun b a c => hs b (by omega) (by omega)), r1, r2, r3, r4, r5, r6, r7, r8, r9, Nat.le_trans r10 hk.size⟩

def mkdD (k : Int) (d : DeskD) : DeskD := ⟨mkdR k d.rows, mkdI (k + cntR d.rows) d.sizes, mkdJ (k + cntR d.rows + d.sizes.length) d.jobs, mkdI (k + cntR d.rows + d.sizes.length + d.jobs.length * 4) d.ways⟩

end Go.Proofs.YtggpbekclegfoaaDoor

namespace Go.Proofs.YtggpbekclegfoaaDoor
open Go.RowKit

set_option maxHeartbeats 400000 in
theorem szJ_any (v : Value) (js : List JobD) (left : Int) (w : World) (h : RdJ w v js) (h1 : left ≤ 1048576) (h0 : 0 ≤ left) :
    Calls Tryd.prog 7 #[v, .int .i64 left] w fun e w' => ∃ r : Int, e = .returned (.int .i64 r) ∧ -1 ≤ r ∧ r ≤ left ∧ (0 ≤ r → (bulkJ js : Int) ≤ left - r) ∧ Below w.heap.size w w' := by
  obtain ⟨a, c, rfl⟩ := h.shape
  have hl := h.len
  unfold maxLen at hl
  unfold bulkJ
  clear h
  by_cases hn : left - js.length < 0
  · go_enter Tryd.func7, Tryd.ntmps7
    go_wp2_with fail
    go_ret
    exact ⟨-1, rfl, by omega, by omega, by omega, Below.refl _ _⟩
  · go_enter Tryd.func7, Tryd.ntmps7
    go_wp2_with fail
    go_ret
    exact ⟨left - js.length, rfl, by omega, by omega, by omega, Below.refl _ _⟩

set_option maxHeartbeats 400000 in
theorem toJob_any (j : JobD) (w : World) :
    Calls Tryd.prog 27 #[jobV j] w fun e w' => e = .returned (jobV j) ∧ Below w.heap.size w w' := by
  obtain ⟨a, b, c, d⟩ := j
  unfold jobV
  simp only
  go_enter Tryd.func27, Tryd.ntmps27
  go_wp2_with fail
  refine bodyPost_ret (v := .agg #[.int .i64 a, .int .i64 b, .int .i64 c, .int .i64 d]) (by simp [results, Tryd.results27, go_sem]) rfl ⟨rfl, ?_⟩
  (repeat' first | exact Below.refl _ _ | assumption | refine Below.alloc ?_ ?_ _ | refine Below.setCell ?_ ?_ _ | refine Below.drew ?_ | (simp; done) | (simp; omega))

theorem Tryd.infoJob : (Tryd.prog.info? 49).map (fun i => (i.zero, i.size, i.bytes)) = some (some (.agg #[.int .i64 0, .int .i64 0, .int .i64 0, .int .i64 0]), 4, 32) := by kernel_rfl

theorem jobsC_zeros (n : Nat) : jobsC (List.replicate n J0) = (madeCells (Value.agg #[.int .i64 0, .int .i64 0, .int .i64 0, .int .i64 0]).cells (n * 4)).toList := by
  exact (flat_made jobCells J0 n (by simp [jobCells])).symm

set_option maxHeartbeats 1000000 in
theorem toJ_any (v : Value) (js : List JobD) (w : World) (h : RdJ w v js) (hb : bulkJ js ≤ 1048576) :
    Calls Tryd.prog 9 #[v] w fun e w' => ∃ v', e = .returned v' ∧ OwnJ w.heap.size w'.heap.size w' v' js ∧ Below w.heap.size w w' := by
  obtain ⟨i0, hi, hz0, hz1, hz2⟩ := info_parts Tryd.infoJob
  obtain ⟨a, c, rfl⟩ := h.shape
  unfold bulkJ at hb
  have HS := Lib.hid h
  clear h
  go_enter Tryd.func9, Tryd.ntmps9
  go_wp2_with (at_make; refine wpList_make_full _ rfl _ _ 26 rfl w.heap.size 49 i0 (.agg #[.int .i64 0, .int .i64 0, .int .i64 0, .int .i64 0]) 4 Tryd.underlying26 hi hz0 hz1 .i64 .i64 js.length js.length js.length rfl rfl rfl rfl (by rw [hz2]; omega) (by unfold maxLen; omega) (by simp) ?_; intro w1 hown hgrow)
  have hb1 : Below w.heap.size w w1 := (Below.refl _ _).grown hgrow (Nat.le_refl _) (by intro k hk; cases hk)
  rw [← jobsC_zeros] at hown
  have HO := Lib.hid hown
  have HB := Lib.hid hb1
  clear hown hb1 hgrow
  go_loopw [4] (fun i wr => ∃ k : Nat, i = .int .i64 k ∧ k ≤ js.length ∧ wr.ownsRow w.heap.size 49 4 (.slice (some ⟨w.heap.size, 0, none⟩) js.length js.length) js.length (jobsC (js.take k ++ List.replicate (js.length - k) J0)) ∧ Below w.heap.size w wr) (fun i _ => js.length - (intOf i).toNat)
  case atStart => exact ⟨0, rfl, Nat.zero_le _, by simpa using HO.out, HB.out⟩
  case round =>
    obtain ⟨k, rfl, hk, hown, hbel⟩ := hrel
    have HO1 := Lib.hid hown
    have HB1 := Lib.hid hbel
    clear hown hbel
    by_cases hlt : k < js.length
    · obtain ⟨b, off, rfl, hb0, x0, x1, x2, x3⟩ := (HS.out.up HB1.out (Nat.le_refl _)).at hlt
      obtain ⟨j, hj⟩ : ∃ j, j = js.getD k J0 := ⟨_, rfl⟩
      rw [← hj] at x0 x1 x2 x3
      have HJ := Lib.hid hj
      clear hj
      go_wp2_with fail
      refine (toJob_any j wr).mono ?_
      rintro e w2 ⟨rfl, hb2⟩
      have HO2 := Lib.hid (ownsK_below HO1.out hb2 (Nat.le_refl _))
      have HB2 := Lib.hid (HB1.out.trans (hb2.mono HB1.out.size))
      have hlen : (js.take k ++ List.replicate (js.length - k) J0).length = js.length := by simp; omega
      have d0 := HO2.out.cellAt (k * 4) (by omega)
      have d1 := HO2.out.cellAt (k * 4 + 1) (by omega)
      have d2 := HO2.out.cellAt (k * 4 + 2) (by omega)
      have d3 := HO2.out.cellAt (k * 4 + 3) (by omega)
      have hz : (js.take k ++ List.replicate (js.length - k) J0).getD k J0 = J0 := by
        rw [List.getD_eq_getElem?_getD, List.getElem?_append_right (by simp; omega)]
        rw [List.getElem?_replicate, if_pos (by simp; omega)]
        rfl
      have e0 := jobsC_at (js.take k ++ List.replicate (js.length - k) J0) k 0 (by omega) (by omega)
      rw [Nat.add_zero] at e0
      rw [e0, hz] at d0
      rw [jobsC_at _ k 1 (by omega) (by omega), hz] at d1
      rw [jobsC_at _ k 2 (by omega) (by omega), hz] at d2
      rw [jobsC_at _ k 3 (by omega) (by omega), hz] at d3
      simp only [J0, jobCells, List.getElem?_cons_zero, List.getElem?_cons_succ, I64] at d0 d1 d2 d3
      have f0 := HO2.out.frozenAt (k * 4)
      have f1 := HO2.out.frozenAt (k * 4 + 1)
      have f2 := HO2.out.frozenAt (k * 4 + 2)
      have f3 := HO2.out.frozenAt (k * 4 + 3)
      have HST := Lib.hid ((((HO2.out.stored (k * 4) (.int .i64 j.long)).1.stored (k * 4 + 1) (.int .i64 j.due)).1.stored (k * 4 + 2) (.int .i64 j.weight)).1.stored (k * 4 + 3) (.int .i64 j.ready)).1
      have HJC := Lib.hid (jobsC_set (js.take k ++ List.replicate (js.length - k) J0) k j.long j.due j.weight j.ready (by omega))
      have HLT := Lib.hid (set_mid (js.take k) (List.replicate (js.length - (k + 1)) J0) J0 j k (by simp; omega))
      clear e0 hlen hz hb2
      unfold jobV
      go_wp2_with fail
      go_roundw
      case rel =>
        refine ⟨k + 1, by go_num, by omega, ?_, (((HB2.out.setCell (Nat.le_refl _) _).setCell (Nat.le_refl _) _).setCell (Nat.le_refl _) _).setCell (Nat.le_refl _) _⟩
        have h1 := HST.out
        have h2 := HJC.out
        unfold I64 at h2
        rw [h2, show js.length - k = (js.length - (k + 1)) + 1 by omega, List.replicate_succ, HLT.out] at h1
        have e : js.take (k + 1) = js.take k ++ [j] := by rw [List.take_succ_eq_append_getElem hlt, HJ.out]; simp [hlt]
        rw [e, List.append_assoc]
        exact h1
      case measure => simp [intOf]; omega
    · obtain rfl : k = js.length := by omega
      go_wp2_with fail
      go_ret
      refine ⟨_, rfl, ?_, HB1.out⟩
      have := HO1.out
      simp at this
      exact OwnJ.mk this

end Go.Proofs.YtggpbekclegfoaaDoor

namespace Go.Proofs.YtggpbekclegfoaaDoor
open Go.RowKit

end Go.Proofs.YtggpbekclegfoaaDoor

namespace Go.Proofs.YtggpbekclegfoaaDoor
open Go.ChangeShapes Go.WideShapes Go.ChangeAt Go.RowKit
set_option linter.unusedVariables false

def WfJ (js : List JobD) : Prop := True
def BitsF (zs : List Nat) : Prop := ∀ z ∈ zs, z < 4294967296
def WfD (d : DeskD) : Prop := BitsF d.rows.nums ∧ BitsF d.rows.bnds ∧ BitsF d.rows.gains

section
variable {H : Type} {enc : TypeId × Value → H} {w : World} {base : Nat} {spare : Nat → Bool} {held : Bool}

theorem cells_job : Tryd.prog.cellsOf 51 = 4 := by kernel_rfl
theorem cells_jobs : Tryd.prog.cellsOf 22 = 1 := by kernel_rfl
set_option maxRecDepth 100000 in
theorem trod_Jo {fuel : Nat} {cs : List Value} {x : DataW H × List MemPlace} (h : DataW.trod enc Tryd.prog w base spare held fuel 51 cs = some x) : ∃ j : JobD, cs = jobCells j := by
  obtain ⟨y0, y1, y2, y3, n, _, hl, h0, h1, h2, h3⟩ := Go.Joins.trod_struct4 Tryd.underlying51 h
  rw [cells_job] at hl
  match cs, hl with
  | [a, b, c, e], _ =>
    rw [cells_i64'] at h0 h1 h2 h3
    obtain ⟨z0, e0⟩ := trod_i64 h0
    obtain ⟨z1, e1⟩ := trod_i64 h1
    obtain ⟨z2, e2⟩ := trod_i64 h2
    obtain ⟨z3, e3⟩ := trod_i64 h3
    simp at e0 e1 e2 e3
    subst e0 e1 e2 e3
    exact ⟨⟨z0, z1, z2, z3⟩, rfl⟩

set_option maxRecDepth 100000 in
theorem trod_J {fuel : Nat} {cs : List Value} {x : DataW H × List MemPlace} (h : DataW.trod enc Tryd.prog w base spare held fuel 22 cs = some x) : ∃ v js, cs = [v] ∧ RdJ w v js := by
  rcases DataW.trod_slice Tryd.underlying22 h with ⟨rfl, _⟩ | ⟨a, len, cap, elems, rest, n, _, rfl, _, hb, hl, hm, hlen, hel, _, _⟩
  · exact ⟨_, [], rfl, .inl ⟨none, 0, rfl, by simp [maxLen], rfl⟩⟩
  · rw [cells_job] at hel
    have hex : ∀ i, i < len → ∃ q : JobD, (i = 0 → ∃ b off, a = ⟨b, off, none⟩) ∧ (∀ c u, (jobCells q)[c]? = some u → w.cell? ((a.add (i * 4)).add c) = some u) := by
      intro i hi
      have h1 := hel i hi
      rw [List.getElem?_eq_getElem (by omega)] at h1
      cases hc : w.cells? base (a.add (i * 4)) 4 with
      | none => rw [hc] at h1; simp at h1
      | some cs' =>
        rw [hc] at h1
        simp only [Option.bind_some] at h1
        obtain ⟨v0, v1, v2, v3, rfl, q0, q1, q2, q3⟩ := cells_four hc
        obtain ⟨q, e⟩ := trod_Jo h1
        simp [jobCells] at e
        obtain ⟨rfl, rfl, rfl, rfl⟩ := e
        refine ⟨q, ?_, ?_⟩
        · rintro rfl
          obtain ⟨b, off, ha⟩ := add_plain q0
          exact ⟨b, off, by simpa [Addr.add] using ha⟩
        · intro c u hu
          match c, hu with
          | 0, hu => simp [jobCells] at hu; subst hu; exact q0
          | 1, hu => simp [jobCells] at hu; subst hu; exact q1
          | 2, hu => simp [jobCells] at hu; subst hu; exact q2
          | 3, hu => simp [jobCells] at hu; subst hu; exact q3
          | c + 4, hu => simp [jobCells] at hu
    obtain ⟨l, hll, hlp⟩ := exists_list _ len hex
    by_cases hz : len = 0
    · subst hz
      exact ⟨_, [], rfl, .inl ⟨some a, cap, rfl, hm, rfl⟩⟩
    · have h0 : l[0]? = some (l[0]'(by omega)) := List.getElem?_eq_getElem (by omega)
      obtain ⟨b, off, rfl⟩ := (hlp 0 _ h0).1 rfl
      refine ⟨_, l, rfl, .inr ⟨b, off, cap, by simp [hll], by omega, hm, fun i hi c u hu => ?_⟩⟩
      have hg : l[i]? = some (l.getD i J0) := by simp [hi]
      have h5 := (hlp i _ hg).2 c u hu
      have e : ((⟨b, off, none⟩ : Addr).add (i * 4)).add c = ⟨b, off + i * 4 + c, none⟩ := by
        unfold Addr.add
        by_cases q1 : i * 4 = 0 <;> by_cases q2 : c = 0 <;> simp [q1, q2]
      rwa [e] at h5

set_option maxRecDepth 100000 in
theorem arg_J {r : Reach} {b0 : Nat} {v : Value} {d : DataW H} {p : List MemPlace} (hv : Value.okWide Tryd.prog w r b0 22 v) (h : DataW.Trod enc Tryd.prog w base spare held 22 v d p) : ∃ zs, RdJ w v zs ∧ WfJ zs := by
  obtain ⟨a, len, cap, rfl⟩ := okWide_slice Tryd.underlying22 hv
  obtain ⟨fuel, hf⟩ := h
  obtain ⟨v, zs, e, h1⟩ := trod_J hf
  simp [Value.cells] at e
  subst e
  exact ⟨zs, h1, trivial⟩

set_option maxRecDepth 100000 in
theorem trod_f32w {n : Nat} {cs : List Value} {x : DataW H × List MemPlace} (h : DataW.trod enc Tryd.prog w base spare held n 83 cs = some x) : ∃ b, cs = [.float .f32 b] ∧ b < 4294967296 := by
  cases n with
  | zero => simp [DataW.trod] at h
  | succ n =>
    obtain ⟨b, rfl⟩ := trod_f32 h
    refine ⟨b, rfl, ?_⟩
    simp only [DataW.trod, Tryd.underlying83] at h
    split at h
    · next hw =>
      have := hw.2
      simpa [Lit.wf] using this
    · cases h

set_option maxRecDepth 100000 in
theorem trod_Fw {fuel : Nat} {cs : List Value} {x : DataW H × List MemPlace} (h : DataW.trod enc Tryd.prog w base spare held fuel 30 cs = some x) : ∃ v zs, cs = [v] ∧ RdF w v zs ∧ BitsF zs := by
  rcases DataW.trod_slice Tryd.underlying30 h with ⟨rfl, _⟩ | ⟨a, len, cap, elems, rest, n, _, rfl, _, hb, hl, hm, hlen, hel, _, _⟩
  · exact ⟨_, [], rfl, .inl ⟨rfl, rfl⟩, by intro z hz; simp at hz⟩
  · rw [cells_f32] at hel
    have hex : ∀ i, i < len → ∃ q : Nat, w.cell? (a.add i) = some (.float .f32 q) ∧ q < 4294967296 := by
      intro i hi
      have h1 := hel i hi
      rw [List.getElem?_eq_getElem (by omega)] at h1
      cases hc : w.cells? base (a.add (i * 1)) 1 with
      | none => rw [hc] at h1; simp at h1
      | some cs' =>
        rw [hc] at h1
        simp only [Option.bind_some] at h1
        obtain ⟨u, rfl, hu⟩ := cells_one hc
        obtain ⟨b, e, hb⟩ := trod_f32w h1
        simp at e
        subst e
        exact ⟨b, by simpa using hu, hb⟩
    obtain ⟨l, hll, hlp⟩ := exists_list _ len hex
    refine ⟨_, l, rfl, .inr ⟨a, cap, by simp [hll], by simp [hll]; omega, hm, ?_⟩, ?_⟩
    · intro i u hi
      simp only [List.getElem?_map, Option.map_eq_some_iff] at hi
      obtain ⟨q, hq, rfl⟩ := hi
      exact (hlp i q hq).1
    · intro z hz
      obtain ⟨i, hi, he⟩ := List.mem_iff_getElem.1 hz
      have := (hlp i _ (List.getElem?_eq_getElem hi)).2
      rwa [he] at this

set_option maxRecDepth 100000 in
theorem trod_R {fuel : Nat} {cs : List Value} {x : DataW H × List MemPlace} (h : DataW.trod enc Tryd.prog w base spare held fuel 32 cs = some x) : ∃ va vb vc d, cs = [.int .i64 d.vars, va, vb, vc] ∧ RdR w (.agg #[.int .i64 d.vars, va, vb, vc]) d ∧ BitsF d.nums ∧ BitsF d.bnds ∧ BitsF d.gains := by
  obtain ⟨y0, y1, y2, y3, n, _, hl, h0, h1, h2, h3⟩ := Go.Joins.trod_struct4 Tryd.underlying32 h
  rw [cells_rows] at hl
  match cs, hl with
  | [a, b, c, e], _ =>
    rw [cells_floats] at h1 h2 h3
    rw [cells_i64'] at h0
    obtain ⟨z, e0⟩ := trod_i64 h0
    obtain ⟨vb, p, e1, r1, f1⟩ := trod_Fw (w := w) h1
    obtain ⟨vc, q, e2, r2, f2⟩ := trod_Fw (w := w) h2
    obtain ⟨vd, s, e3, r3, f3⟩ := trod_Fw (w := w) h3
    simp at e0 e1 e2 e3
    subst e0 e1 e2 e3
    exact ⟨_, _, _, ⟨z, p, q, s⟩, rfl, ⟨_, _, _, rfl, r1, r2, r3⟩, f1, f2, f3⟩

end
end Go.Proofs.YtggpbekclegfoaaDoor

namespace Go.Proofs.YtggpbekclegfoaaDoor
open Go.RowKit

def sameF : List Nat → List Nat → Bool := eqBy sameX

end Go.Proofs.YtggpbekclegfoaaDoor

namespace Go.Proofs.YtggpbekclegfoaaDoor
open Go.RowKit

def sameJ (x y : JobD) : Bool := (x.long == y.long) && ((x.due == y.due) && ((x.weight == y.weight) && (x.ready == y.ready)))
def sameJs : List JobD → List JobD → Bool := eqBy sameJ
theorem jobs_five (x y : JobD) : ((x.long == y.long) = true ∧ (x.due == y.due) = true ∧ (x.weight == y.weight) = true ∧ (x.ready == y.ready) = true ∧ sameJ x y = true) ∨ ((x.long == y.long) = false ∧ sameJ x y = false) ∨ ((x.long == y.long) = true ∧ (x.due == y.due) = false ∧ sameJ x y = false) ∨ ((x.long == y.long) = true ∧ (x.due == y.due) = true ∧ (x.weight == y.weight) = false ∧ sameJ x y = false) ∨ ((x.long == y.long) = true ∧ (x.due == y.due) = true ∧ (x.weight == y.weight) = true ∧ (x.ready == y.ready) = false ∧ sameJ x y = false) := by
  unfold sameJ
  cases (x.long == y.long) <;> cases (x.due == y.due) <;> cases (x.weight == y.weight) <;> cases (x.ready == y.ready) <;> simp
theorem RdJ.drewN' {w : World} {v : Value} {js : List JobD} (h : RdJ w v js) (n : Nat) : RdJ (w.drewN n) v js := h.up (below_drewN (Below.refl w.heap.size w) n) (Nat.le_refl _)

end Go.Proofs.YtggpbekclegfoaaDoor

namespace Go.Proofs.YtggpbekclegfoaaDoor
open Go.RowKit

def sameR (r s : RowsD) : Bool := (r.vars == s.vars) && (sameF r.nums s.nums && (sameF r.bnds s.bnds && sameF r.gains s.gains))
end Go.Proofs.YtggpbekclegfoaaDoor

namespace Go.Proofs.YtggpbekclegfoaaDoor
open Go.RowKit

def sameD (d e : DeskD) : Bool := sameR d.rows e.rows && (decide (d.sizes = e.sizes) && (sameJs d.jobs e.jobs && decide (d.ways = e.ways)))

end Go.Proofs.YtggpbekclegfoaaDoor

namespace Go.Proofs.YtggpbekclegfoaaDoor
open Go.RowKit

end Go.Proofs.YtggpbekclegfoaaDoor

namespace Go.Proofs.YtggpbekclegfoaaDoor
open Go.RowKit

def jobB (j : JobD) : Bool := inB 1 1000 j.long && (inB 0 100000 j.due && (inB 0 100000 j.ready && inB 0 1000 j.weight))
def areJobsB (js : List JobD) : Bool := inB 1 12 js.length && allB js.length (fun i => jobB (js.getD i J0))

set_option maxHeartbeats 2000000 in
set_option maxRecDepth 4000 in
theorem AreJobs_any (v : Value) (js : List JobD) (w : World) (h : RdJ w v js) :
    Calls Tryd.prog 28 #[v] w fun e w' => e = .returned (.bool (areJobsB js)) ∧ Below w.heap.size w w' := by
  obtain ⟨a, c, rfl⟩ := h.shape
  have hm := h.len
  simp only [maxLen] at hm
  have HP := Lib.hid h
  clear h
  obtain ⟨q1, hq1⟩ : ∃ q, inB 1 12 (js.length : Int) = q := ⟨_, rfl⟩
  have HQ1 := Lib.hid hq1
  clear hq1
  go_enter Tryd.func28, Tryd.ntmps28
  cases q1
  · have HN := Lib.hid (show areJobsB js = false by unfold areJobsB; rw [HQ1.out]; rfl)
    go_wp2_with (first | (go_at_call 52; refine (size_any _ _ (by unfold maxLen; omega)).mono ?_; rintro e w' ⟨rfl, rfl⟩) | (go_at_call 51; refine (within_any _ _ _ _).mono ?_; rintro e w' ⟨rfl, rfl⟩; rw [HQ1.out]))
    go_ret
    exact ⟨by rw [HN.out]; rfl, Below.refl _ _⟩
  go_wp2_with (first | (go_at_call 52; refine (size_any _ _ (by unfold maxLen; omega)).mono ?_; rintro e w' ⟨rfl, rfl⟩) | (go_at_call 51; refine (within_any _ _ _ _).mono ?_; rintro e w' ⟨rfl, rfl⟩; rw [HQ1.out]))
  go_loopw [12] (fun i wr => ∃ k : Nat, i = .int .i64 k ∧ k ≤ js.length ∧ Hid (∀ j, j < k → jobB (js.getD j J0) = true) ∧ Hid (Below w.heap.size w wr)) (fun i _ => js.length - (intOf i).toNat)
  case atStart => exact ⟨0, rfl, Nat.zero_le _, fun j hj => by omega, Below.refl _ _⟩
  case round =>
    obtain ⟨k, rfl, hk, hall, HB⟩ := hrel
    by_cases hlt : k < js.length
    · obtain ⟨b, off, rfl, hb, x0, x1, x2, x3⟩ := (HP.out.up HB.out (Nat.le_refl _)).at hlt
      obtain ⟨x, hx⟩ : ∃ x, x = js.getD k J0 := ⟨_, rfl⟩
      rw [← hx] at x0 x1 x2 x3
      have HX := Lib.hid hx
      clear hx
      obtain ⟨t1, h1⟩ : ∃ t, inB 1 1000 x.long = t := ⟨_, rfl⟩
      obtain ⟨t2, h2⟩ : ∃ t, inB 0 100000 x.due = t := ⟨_, rfl⟩
      obtain ⟨t3, h3⟩ : ∃ t, inB 0 100000 x.ready = t := ⟨_, rfl⟩
      obtain ⟨t4, h4⟩ : ∃ t, inB 0 1000 x.weight = t := ⟨_, rfl⟩
      have HJ := Lib.hid (show jobB x = (t1 && (t2 && (t3 && t4))) by unfold jobB; rw [h1, h2, h3, h4])
      have T1 := Lib.hid h1
      have T2 := Lib.hid h2
      have T3 := Lib.hid h3
      have T4 := Lib.hid h4
      have hz := HB.out.size
      clear h1 h2 h3 h4
      have HNO := Lib.hid (show jobB x = false → areJobsB js = false from fun h => by unfold areJobsB; rw [allB_false hlt (by rw [← HX.out]; exact h), Bool.and_false])
      cases t1
      · have HN := Lib.hid (HNO.out (by rw [HJ.out]; simp))
        go_wp2_with (go_at_call 51; refine (within_any _ _ _ _).mono ?_; rintro e w' ⟨rfl, rfl⟩; first | rw [T1.out] | rw [T2.out] | rw [T3.out] | rw [T4.out])
        go_ret
        refine ⟨by rw [HN.out]; rfl, HB.out.trans (Below.mono ?_ hz)⟩
        (repeat' first | exact Below.refl _ _ | assumption | refine Below.alloc ?_ ?_ _ | refine Below.setCell ?_ ?_ _ | refine Below.drew ?_ | (simp; done) | (simp; omega))
      cases t2
      · have HN := Lib.hid (HNO.out (by rw [HJ.out]; simp))
        go_wp2_with (go_at_call 51; refine (within_any _ _ _ _).mono ?_; rintro e w' ⟨rfl, rfl⟩; first | rw [T1.out] | rw [T2.out] | rw [T3.out] | rw [T4.out])
        go_ret
        refine ⟨by rw [HN.out]; rfl, HB.out.trans (Below.mono ?_ hz)⟩
        (repeat' first | exact Below.refl _ _ | assumption | refine Below.alloc ?_ ?_ _ | refine Below.setCell ?_ ?_ _ | refine Below.drew ?_ | (simp; done) | (simp; omega))
      cases t3
      · have HN := Lib.hid (HNO.out (by rw [HJ.out]; simp))
        go_wp2_with (go_at_call 51; refine (within_any _ _ _ _).mono ?_; rintro e w' ⟨rfl, rfl⟩; first | rw [T1.out] | rw [T2.out] | rw [T3.out] | rw [T4.out])
        go_ret
        refine ⟨by rw [HN.out]; rfl, HB.out.trans (Below.mono ?_ hz)⟩
        (repeat' first | exact Below.refl _ _ | assumption | refine Below.alloc ?_ ?_ _ | refine Below.setCell ?_ ?_ _ | refine Below.drew ?_ | (simp; done) | (simp; omega))
      cases t4
      · have HN := Lib.hid (HNO.out (by rw [HJ.out]; simp))
        go_wp2_with (go_at_call 51; refine (within_any _ _ _ _).mono ?_; rintro e w' ⟨rfl, rfl⟩; first | rw [T1.out] | rw [T2.out] | rw [T3.out] | rw [T4.out])
        go_ret
        refine ⟨by rw [HN.out]; rfl, HB.out.trans (Below.mono ?_ hz)⟩
        (repeat' first | exact Below.refl _ _ | assumption | refine Below.alloc ?_ ?_ _ | refine Below.setCell ?_ ?_ _ | refine Below.drew ?_ | (simp; done) | (simp; omega))
      go_wp2_with (go_at_call 51; refine (within_any _ _ _ _).mono ?_; rintro e w' ⟨rfl, rfl⟩; first | rw [T1.out] | rw [T2.out] | rw [T3.out] | rw [T4.out])
      go_roundw
      case rel =>
        refine ⟨k + 1, by go_num, by omega, fun j hj => ?_, HB.out.trans (Below.mono ?_ hz)⟩
        · by_cases hjk : j < k
          · exact hall.out j hjk
          · obtain rfl : j = k := by omega
            rw [← HX.out, HJ.out]; rfl
        · (repeat' first | exact Below.refl _ _ | assumption | refine Below.alloc ?_ ?_ _ | refine Below.setCell ?_ ?_ _ | refine Below.drew ?_ | (simp; done) | (simp; omega))
      case measure => simp [intOf]; omega
    · obtain rfl : k = js.length := by omega
      have HN := Lib.hid (show areJobsB js = true by unfold areJobsB; rw [HQ1.out, allB_true hall.out]; rfl)
      go_wp2_with fail
      go_ret
      exact ⟨by rw [HN.out]; rfl, HB.out⟩

end Go.Proofs.YtggpbekclegfoaaDoor

namespace Go.Proofs.YtggpbekclegfoaaDoor
open Go.RowKit

def areSizesB (xs : List Int) : Bool := inB 1 16 xs.length && allIn 1 1000 xs
end Go.Proofs.YtggpbekclegfoaaDoor

namespace Go.Proofs.YtggpbekclegfoaaDoor
open Go.RowKit

/-- The least n in k+1 .. k+f with n * n = L, or -1. -/
def citF (L : Nat) : Nat → Nat → Int
  | 0, _ => -1
  | f + 1, n => if ((L : Int) == (n : Int) * (n : Int)) = true then (n : Int) else citF L f (n + 1)
def citN (L : Nat) : Int := citF L 10 1

end Go.Proofs.YtggpbekclegfoaaDoor

namespace Go.Proofs.YtggpbekclegfoaaDoor
open Go.RowKit

def symB (n : Nat) (xs : List Int) (i k : Nat) : Bool := (xs.getD (i * n + k) 0 == xs.getD (k * n + i) 0) && (!(i == k) || xs.getD (i * n + k) 0 == 0)
def areCitiesB (xs : List Int) : Bool := decide (0 ≤ citN xs.length) && (allIn 0 1000 xs && allB (citN xs.length).toNat (fun i => allB (i + 1) (fun k => symB (citN xs.length).toNat xs i k)))

theorem citF_spec (L : Nat) : ∀ f n, (citF L f n = -1 ∧ ∀ j, n ≤ j → j < n + f → j * j ≠ L) ∨ ∃ j : Nat, citF L f n = (j : Int) ∧ n ≤ j ∧ j < n + f ∧ j * j = L
  | 0, n => .inl ⟨rfl, fun j h1 h2 => by omega⟩
  | f + 1, n => by
    have ih := citF_spec L f (n + 1)
    unfold citF
    by_cases h : n * n = L
    · right
      refine ⟨n, ?_, by omega, by omega, h⟩
      rw [if_pos]
      simp only [beq_iff_eq]
      rw [← h]; push_cast; rfl
    · rw [if_neg (by simp only [beq_iff_eq]; intro e; apply h; have e2 : (L : Int) = ((n * n : Nat) : Int) := by rw [e]; push_cast; rfl
                     omega)]
      rcases ih with ⟨h1, h2⟩ | ⟨j, h1, h2, h3, h4⟩
      · left
        refine ⟨h1, fun j h3 h4 => ?_⟩
        by_cases e : j = n
        · subst e; exact h
        · exact h2 j (by omega) (by omega)
      · exact .inr ⟨j, h1, by omega, by omega, h4⟩
theorem citN_cases (L : Nat) : (citN L = -1 ∧ ∀ j, 1 ≤ j → j ≤ 10 → j * j ≠ L) ∨ ∃ j : Nat, citN L = (j : Int) ∧ 1 ≤ j ∧ j ≤ 10 ∧ j * j = L := by
  rcases citF_spec L 10 1 with ⟨h1, h2⟩ | ⟨j, h1, h2, h3, h4⟩
  · exact .inl ⟨h1, fun j a b => h2 j a (by omega)⟩
  · exact .inr ⟨j, h1, h2, by omega, h4⟩
theorem citN_eq {L n : Nat} (h1 : 1 ≤ n) (h2 : n ≤ 10) (h : n * n = L) : citN L = (n : Int) := by
  rcases citN_cases L with ⟨_, h3⟩ | ⟨j, h3, _, _, h4⟩
  · exact absurd h (h3 n h1 h2)
  · rw [h3]
    have : j = n := Nat.mul_self_inj.1 (by omega)
    omega
theorem symB_symm {n : Nat} {xs : List Int} {i k : Nat} (h : symB n xs i k = true) : symB n xs k i = true := by
  unfold symB at h ⊢
  simp only [Bool.and_eq_true, beq_iff_eq, Bool.or_eq_true, Bool.not_eq_true', beq_eq_false_iff_ne] at h ⊢
  obtain ⟨h1, h2⟩ := h
  refine ⟨h1.symm, ?_⟩
  rcases h2 with h2 | h2
  · exact .inl (Ne.symm h2)
  · right; omega
theorem symAll {n : Nat} {xs : List Int} : allB n (fun i => allB (i + 1) (fun k => symB n xs i k)) = true ↔ ∀ i k, i < n → k < n → symB n xs i k = true := by
  rw [allB_iff]
  constructor
  · intro h i k hi hk
    by_cases hik : k ≤ i
    · exact allB_iff.1 (h i hi) k (by omega)
    · exact symB_symm (allB_iff.1 (h k hk) i (by omega))
  · intro h i hi
    exact allB_iff.2 fun k hk => h i k hi (by omega)
theorem inAll {n : Nat} {xs : List Int} (hn : xs.length = n * n) : allIn 0 1000 xs = true ↔ ∀ i k, i < n → k < n → inB 0 1000 (xs.getD (i * n + k) 0) = true := by
  rw [allIn_iff]
  constructor
  · intro h i k hi hk
    refine h _ ?_
    rw [hn]
    have : (i + 1) * n ≤ n * n := Nat.mul_le_mul_right _ hi
    rw [Nat.add_mul] at this
    omega
  · intro h i hi
    have hn0 : 0 < n := by
      rcases Nat.eq_zero_or_pos n with e | e
      · subst e; omega
      · exact e
    have := h (i / n) (i % n) (by rw [Nat.div_lt_iff_lt_mul hn0]; omega) (Nat.mod_lt _ hn0)
    rwa [Nat.mul_comm, Nat.div_add_mod] at this
/-- The reference's test. -/
theorem areCities_spec {n : Nat} {xs : List Int} (h1 : 1 ≤ n) (h2 : n ≤ 10) (hn : n * n = xs.length) : areCitiesB xs = allB n (fun i => allB n (fun k => inB 0 1000 (xs.getD (i * n + k) 0) && symB n xs i k)) := by
  unfold areCitiesB
  rw [citN_eq h1 h2 hn, Int.toNat_natCast, show decide ((0 : Int) ≤ (n : Int)) = true by simp, Bool.true_and, Bool.eq_iff_iff, Bool.and_eq_true, inAll hn.symm, symAll, allB_iff]
  constructor
  · rintro ⟨a, b⟩ i hi
    exact allB_iff.2 fun k hk => by rw [a i k hi hk, b i k hi hk]; rfl
  · intro h
    have h' := fun i k hi hk => Bool.and_eq_true_iff.1 (allB_iff.1 (h i hi) k hk)
    exact ⟨fun i k hi hk => (h' i k hi hk).1, fun i k hi hk => (h' i k hi hk).2⟩
theorem areCities_not {xs : List Int} (h : ∀ j, 1 ≤ j → j ≤ 10 → j * j ≠ xs.length) : areCitiesB xs = false := by
  rcases citN_cases xs.length with ⟨h1, _⟩ | ⟨j, _, a, b, c⟩
  · unfold areCitiesB; rw [h1]; rfl
  · exact absurd c (h j a b)

end Go.Proofs.YtggpbekclegfoaaDoor

namespace Go.Proofs.YtggpbekclegfoaaDoor
open Go.RowKit

/-- The facts of an index i * n + k: as an integer, in range. -/
theorem ix_facts {L n i k : Nat} (hL : L = n * n) (hn : n ≤ 10) (hi : i < n) (hk : k < n) : (0 : Int) ≤ (i : Int) * n ∧ (i : Int) * n + k < (L : Int) ∧ (0 : Int) ≤ (i : Int) * n + k ∧ ((i : Int) * n + k).toNat = i * n + k ∧ IntKind.i64.wrap ((i : Int) * n) = (i : Int) * n ∧ IntKind.i64.wrap ((i : Int) * n + k) = (i : Int) * n + k ∧ i * n + k < L := by
  have h0 : ((i * n : Nat) : Int) = (i : Int) * n := by push_cast; rfl
  have h1 : (i + 1) * n ≤ n * n := Nat.mul_le_mul_right _ hi
  have h2 : n * n ≤ 10 * 10 := Nat.mul_le_mul hn hn
  rw [Nat.add_mul] at h1
  refine ⟨by omega, by omega, by omega, by omega, IntWalk.i64_in _ (by omega), IntWalk.i64_in _ (by omega), by omega⟩

end Go.Proofs.YtggpbekclegfoaaDoor

namespace Go.Proofs.YtggpbekclegfoaaDoor
open Go.RowKit

theorem jobB_s (j : JobD) : jobB j = (inB 1 1000 j.long && (inB 0 100000 j.due && (inB 0 1000 j.weight && inB 0 100000 j.ready))) := by
  unfold jobB; rw [Bool.and_comm (inB 0 100000 j.ready)]

set_option maxHeartbeats 1000000 in
theorem l06Job_any (b o : Nat) (j : JobD) (w : World) (d0 : w.cell? ⟨b, o, none⟩ = some (.int .i64 j.long)) (d1 : w.cell? ⟨b, o + 1, none⟩ = some (.int .i64 j.due)) (d2 : w.cell? ⟨b, o + 2, none⟩ = some (.int .i64 j.weight)) (d3 : w.cell? ⟨b, o + 3, none⟩ = some (.int .i64 j.ready)) :
    Calls Tryd.prog 49 #[.pointer (some ⟨b, o, none⟩)] w fun e w' => e = .returned (.bool (jobB j)) ∧ w = w' := by
  obtain ⟨t1, h1⟩ : ∃ t, inB 1 1000 j.long = t := ⟨_, rfl⟩
  obtain ⟨t2, h2⟩ : ∃ t, inB 0 100000 j.due = t := ⟨_, rfl⟩
  obtain ⟨t3, h3⟩ : ∃ t, inB 0 1000 j.weight = t := ⟨_, rfl⟩
  obtain ⟨t4, h4⟩ : ∃ t, inB 0 100000 j.ready = t := ⟨_, rfl⟩
  have HJ := Lib.hid (show jobB j = (t1 && (t2 && (t3 && t4))) by rw [jobB_s, h1, h2, h3, h4])
  have T1 := Lib.hid h1
  have T2 := Lib.hid h2
  have T3 := Lib.hid h3
  have T4 := Lib.hid h4
  clear h1 h2 h3 h4
  go_enter Tryd.func49, Tryd.ntmps49
  cases t1
  · go_wp2_with (go_at_call 55; refine (in_any _ _ _ _).mono ?_; rintro e w' ⟨rfl, rfl⟩; first | rw [T1.out] | rw [T2.out] | rw [T3.out] | rw [T4.out])
    go_ret
    exact ⟨by rw [HJ.out]; rfl, rfl⟩
  cases t2
  · go_wp2_with (go_at_call 55; refine (in_any _ _ _ _).mono ?_; rintro e w' ⟨rfl, rfl⟩; first | rw [T1.out] | rw [T2.out] | rw [T3.out] | rw [T4.out])
    go_ret
    exact ⟨by rw [HJ.out]; rfl, rfl⟩
  cases t3
  · go_wp2_with (go_at_call 55; refine (in_any _ _ _ _).mono ?_; rintro e w' ⟨rfl, rfl⟩; first | rw [T1.out] | rw [T2.out] | rw [T3.out] | rw [T4.out])
    go_ret
    exact ⟨by rw [HJ.out]; rfl, rfl⟩
  go_wp2_with (go_at_call 55; refine (in_any _ _ _ _).mono ?_; rintro e w' ⟨rfl, rfl⟩; first | rw [T1.out] | rw [T2.out] | rw [T3.out] | rw [T4.out])
  go_ret
  exact ⟨by rw [HJ.out]; simp, rfl⟩

set_option maxHeartbeats 1000000 in
theorem l06Are_any (v : Value) (js : List JobD) (w : World) (h : RdJ w v js) :
    Calls Tryd.prog 25 #[v] w fun e w' => e = .returned (.bool (areJobsB js)) ∧ w = w' := by
  obtain ⟨a, c, rfl⟩ := h.shape
  have hm := h.len
  simp only [maxLen] at hm
  have HP := Lib.hid h
  clear h
  go_enter Tryd.func25, Tryd.ntmps25
  go_wp2_with fail
  go_loop [3] (fun i => ∃ k : Nat, i = .int .i64 k ∧ k ≤ js.length ∧ Hid (∀ j, j < k → jobB (js.getD j J0) = true)) (fun i => js.length - (intOf i).toNat)
  case atStart => exact ⟨0, rfl, Nat.zero_le _, fun j hj => by omega⟩
  case round =>
    obtain ⟨k, rfl, hk, hall⟩ := hrel
    by_cases hlt : k < js.length
    · obtain ⟨b, off, rfl, hb, d0, d1, d2, d3⟩ := HP.out.at hlt
      obtain ⟨x, hx⟩ : ∃ x, x = js.getD k J0 := ⟨_, rfl⟩
      rw [← hx] at d0 d1 d2 d3
      have HX := Lib.hid hx
      have HC := Lib.hid (l06Job_any b (off + k * 4) x w d0 d1 d2 d3)
      clear hx d0 d1 d2 d3
      obtain ⟨q, hq⟩ : ∃ q, jobB x = q := ⟨_, rfl⟩
      rw [hq] at HC
      have HQ := Lib.hid hq
      clear hq
      cases q
      · have HN := Lib.hid (show areJobsB js = false by unfold areJobsB; rw [allB_false hlt (by rw [← HX.out, HQ.out]), Bool.and_false])
        go_wp2_with (go_at_call 49; refine HC.out.mono ?_; rintro e w' ⟨rfl, rfl⟩)
        go_ret
        exact ⟨by rw [HN.out]; rfl, rfl⟩
      · go_wp2_with (go_at_call 49; refine HC.out.mono ?_; rintro e w' ⟨rfl, rfl⟩)
        go_round
        case rel => exact ⟨k + 1, by go_num, by omega, fun j hj => by
          rcases Nat.lt_succ_iff_lt_or_eq.1 hj with h | rfl
          · exact hall.out j h
          · rw [← HX.out]; exact HQ.out⟩
        case measure => simp [intOf]; omega
    · obtain rfl : k = js.length := by omega
      have HA := Lib.hid (show areJobsB js = inB 1 12 js.length by unfold areJobsB; rw [allB_true hall.out, Bool.and_true])
      by_cases h1 : 1 ≤ js.length
      · by_cases h2 : js.length ≤ 12
        · have HN := Lib.hid (show areJobsB js = true by rw [HA.out, inB_iff]; omega)
          go_wp2_with fail
          go_ret
          exact ⟨by rw [HN.out]; exact congrArg (fun b => Ending.returned (Value.bool b)) (decide_eq_true (by omega)), rfl⟩
        · have HN := Lib.hid (show areJobsB js = false by rw [HA.out, ← Bool.not_eq_true, inB_iff]; omega)
          go_wp2_with fail
          go_ret
          exact ⟨by rw [HN.out]; exact congrArg (fun b => Ending.returned (Value.bool b)) (decide_eq_false (by omega)), rfl⟩
      · have HN := Lib.hid (show areJobsB js = false by rw [HA.out, ← Bool.not_eq_true, inB_iff]; omega)
        go_wp2_with fail
        go_ret
        exact ⟨by rw [HN.out]; rfl, rfl⟩

end Go.Proofs.YtggpbekclegfoaaDoor
