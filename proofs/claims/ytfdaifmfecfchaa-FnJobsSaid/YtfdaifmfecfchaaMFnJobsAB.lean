/-
  FnJobs: texts joined: CaseO, Flat, Jobs, CaseL, Same, SameL, Str, SameC, Float, PredF, Float64, MarkF, SameN, OpenI.
-/
import Derived.Deep.RegionHeld3
import Derived.Laws.FloatArith
import Derived.Laws.Externs
import Derived.ProofKit
import Derived.OpenShut
import Derived.Test.YtfdaifmfecfchaaMFnJobsAA
namespace Go.Proofs.Ytfdaifmfecfchaa
open Go.RowKit

structure CaseD where
  name : ByteArray
  form : FormD
  proof : List (List Int)

def RdCs (w : World) (v : Value) (d : CaseD) : Prop := ∃ v1 v2, v = .agg #[.string d.name, .int .i64 d.form.letters, v1, v2] ∧ RdFm w (.agg #[.int .i64 d.form.letters, v1]) d.form ∧ RdL w v2 d.proof ∧ d.name.size ≤ maxLen
def OwnCs (lo hi : Nat) (w : World) (v : Value) (d : CaseD) : Prop := ∃ v1 v2 l1 h1 l2 h2, v = .agg #[.string d.name, .int .i64 d.form.letters, v1, v2] ∧ OwnFm l1 h1 w (.agg #[.int .i64 d.form.letters, v1]) d.form ∧ OwnL l2 h2 w v2 d.proof ∧ d.name.size ≤ maxLen ∧
  lo ≤ l1 ∧ l1 ≤ h1 ∧ h1 ≤ l2 ∧ l2 ≤ h2 ∧ h2 ≤ hi ∧ h2 ≤ w.heap.size
def bulkCs (d : CaseD) : Nat := d.name.size + bulkFm d.form + bulkL d.proof
def cntCs (d : CaseD) : Nat := cntFm d.form + cntL d.proof

theorem RdCs.shape {w : World} {v : Value} {d : CaseD} (h : RdCs w v d) : ∃ a1 c1 a2 c2, v = .agg #[.string d.name, .int .i64 d.form.letters, .slice a1 d.form.clauses.length c1, .slice a2 d.proof.length c2] := by
  obtain ⟨v1, v2, rfl, p1, p2, y1⟩ := h
  obtain ⟨a1, c1, e1⟩ := p1.shape
  simp only [Value.agg.injEq, Array.mk.injEq, List.cons.injEq, and_true, true_and] at e1
  obtain rfl := e1
  obtain ⟨a2, c2, rfl⟩ := p2.shape
  exact ⟨_, _, _, _, rfl⟩
theorem RdCs.parts {w : World} {z1 z2 z3 z4 : Value} {d : CaseD} (h : RdCs w (.agg #[z1, z2, z3, z4]) d) : RdFm w (.agg #[z2, z3]) d.form ∧ RdL w z4 d.proof ∧ d.name.size ≤ maxLen := by
  obtain ⟨v1, v2, e, p1, p2, y1⟩ := h
  simp only [Value.agg.injEq, Array.mk.injEq, List.cons.injEq, and_true] at e
  obtain ⟨rfl, rfl, rfl, rfl⟩ := e
  exact ⟨p1, p2, y1⟩
theorem RdCs.up {w w' : World} {v : Value} {d : CaseD} {B : Nat} (h : RdCs w v d) (hb : Below B w w') (hB : w.heap.size ≤ B) : RdCs w' v d := by
  obtain ⟨v1, v2, e, p1, p2, y1⟩ := h
  exact ⟨v1, v2, e, p1.up hb hB, p2.up hb hB, y1⟩
theorem OwnCs.rd {lo hi : Nat} {w : World} {v : Value} {d : CaseD} (h : OwnCs lo hi w v d) : RdCs w v d := by
  obtain ⟨v1, v2, l1, h1, l2, h2, e, p1, p2, y1, r1, r2, r3, r4, r5, r6⟩ := h
  exact ⟨v1, v2, e, p1.rd, p2.rd, y1⟩
theorem OwnCs.up {lo hi : Nat} {w w' : World} {v : Value} {d : CaseD} {B : Nat} (h : OwnCs lo hi w v d) (hb : Below B w w') (hB : w.heap.size ≤ B) : OwnCs lo hi w' v d := by
  obtain ⟨v1, v2, l1, h1, l2, h2, e, p1, p2, y1, r1, r2, r3, r4, r5, r6⟩ := h
  exact ⟨v1, v2, l1, h1, l2, h2, e, p1.up hb hB, p2.up hb hB, y1, r1, r2, r3, r4, r5, Nat.le_trans r6 hb.size⟩
theorem OwnCs.wide {lo hi lo' hi' : Nat} {w : World} {v : Value} {d : CaseD} (h : OwnCs lo hi w v d) (a : lo' ≤ lo) (b : hi ≤ hi') : OwnCs lo' hi' w v d := by
  obtain ⟨v1, v2, l1, h1, l2, h2, e, p1, p2, y1, r1, r2, r3, r4, r5, r6⟩ := h
  exact ⟨v1, v2, l1, h1, l2, h2, e, p1, p2, y1, by omega, r2, r3, r4, by omega, r6⟩
theorem OwnCs.kept {lo hi : Nat} {w w' : World} {v : Value} {d : CaseD} {S : Nat → Prop} (h : OwnCs lo hi w v d) (hk : Kept S w w') (hs : ∀ b, lo ≤ b → b < hi → ¬ S b) : OwnCs lo hi w' v d := by
  obtain ⟨v1, v2, l1, h1, l2, h2, e, p1, p2, y1, r1, r2, r3, r4, r5, r6⟩ := h
  exact ⟨v1, v2, l1, h1, l2, h2, e, p1.kept hk (fun b a c => hs b (by omega) (by omega)), p2.kept hk (fun b a c => hs b (by omega) (by omega)), y1, r1, r2, r3, r4, r5, Nat.le_trans r6 hk.size⟩

def mkdCs (k : Int) (d : CaseD) : CaseD := ⟨d.name, mkdFm k d.form, mkdL (k + cntFm d.form) d.proof⟩

end Go.Proofs.Ytfdaifmfecfchaa

namespace Go.Proofs.Ytfdaifmfecfchaa
open Go.RowKit

theorem flat_len {α : Type} (f : α → List Value) (c : Nat) (hf : ∀ a, (f a).length = c) : ∀ (l : List α), (l.flatMap f).length = l.length * c
  | [] => by simp
  | a :: r => by
    have ih := flat_len f c hf r
    simp only [List.flatMap_cons, List.length_append, List.length_cons, hf a, ih]
    rw [Nat.add_mul]; omega

theorem flat_at {α : Type} (f : α → List Value) (c : Nat) (hf : ∀ a, (f a).length = c) : ∀ (l : List α) (i d : Nat) (a : α), l[i]? = some a → d < c → (l.flatMap f)[i * c + d]? = (f a)[d]?
  | [], i, d, a, h, _ => by simp at h
  | b :: r, 0, d, a, h, hd => by
    simp only [List.getElem?_cons_zero, Option.some.injEq] at h
    subst h
    simp only [List.flatMap_cons, Nat.zero_mul, Nat.zero_add]
    rw [List.getElem?_append_left (by rw [hf b]; exact hd)]
  | b :: r, i + 1, d, a, h, hd => by
    have ih := flat_at f c hf r i d a (by simpa using h) hd
    simp only [List.flatMap_cons]
    rw [List.getElem?_append_right (by rw [hf b, Nat.add_mul]; omega), ← ih]
    congr 1
    rw [hf b, Nat.add_mul]; omega

/-- Cells written one behind another. -/
def putAt : List Value → Nat → List Value → List Value
  | L, _, [] => L
  | L, b, u :: us => putAt (L.set b u) (b + 1) us

theorem putAt_append : ∀ (us A B : List Value) (b : Nat), A.length ≤ b → putAt (A ++ B) b us = A ++ putAt B (b - A.length) us
  | [], A, B, b, _ => rfl
  | u :: us, A, B, b, h => by
    simp only [putAt]
    rw [List.set_append_right _ _ h, putAt_append us A _ (b + 1) (by omega), show b + 1 - A.length = b - A.length + 1 by omega]
theorem putAt_whole : ∀ (us A B : List Value), A.length = us.length → putAt (A ++ B) 0 us = us ++ B
  | [], A, B, h => by
    have : A = [] := List.length_eq_zero_iff.1 (by simpa using h)
    subst this; rfl
  | u :: us, [], B, h => by simp at h
  | u :: us, x :: A, B, h => by
    simp only [putAt, List.cons_append, List.set_cons_zero]
    have := putAt_append us [u] (A ++ B) 1 (by simp)
    simp only [List.cons_append, List.nil_append, List.length_cons, List.length_nil] at this
    rw [this]
    simp only [Nat.sub_self]
    rw [putAt_whole us A B (by simpa using h)]

theorem flat_put {α : Type} (f : α → List Value) (c : Nat) (hf : ∀ a, (f a).length = c) : ∀ (l : List α) (i : Nat) (a : α), i < l.length → putAt (l.flatMap f) (i * c) (f a) = (l.set i a).flatMap f
  | [], i, a, h => by simp at h
  | b :: r, 0, a, _ => by
    simp only [List.flatMap_cons, Nat.zero_mul, List.set_cons_zero]
    exact putAt_whole _ _ _ (by rw [hf, hf])
  | b :: r, i + 1, a, h => by
    have ih := flat_put f c hf r i a (by simpa using h)
    simp only [List.flatMap_cons, List.set_cons_succ]
    rw [putAt_append _ _ _ _ (by rw [hf, Nat.add_mul]; omega), ← ih]
    congr 2
    rw [hf, Nat.add_mul]; omega

theorem made_rows (zs : List Value) (n : Nat) (h : zs ≠ []) : (madeCells zs.toArray (n * zs.length)).toList = (List.replicate n zs).flatten := by
  have hp : 0 < zs.length := List.length_pos_iff.2 h
  induction n with
  | zero => simp [madeCells]
  | succ n ih =>
    rw [List.replicate_succ, List.flatten_cons, ← ih]
    apply List.ext_getElem?
    intro j
    by_cases hj : j < zs.length
    · have hj2 : j < (n + 1) * zs.length := by rw [Nat.add_mul]; omega
      rw [List.getElem?_append_left hj]
      simp [madeCells, hj2, Nat.mod_eq_of_lt hj, hj]
    · rw [List.getElem?_append_right (by omega)]
      by_cases hj2 : j < (n + 1) * zs.length
      · have hj3 : j - zs.length < n * zs.length := by rw [Nat.add_mul] at hj2; omega
        have hm : (j - zs.length) % zs.length = j % zs.length := by
          rw [Nat.mod_eq_sub_mod (a := j) (by omega)]
        simp [madeCells, hj2, hj3, hm]
      · have hj3 : ¬ j - zs.length < n * zs.length := by rw [Nat.add_mul] at hj2; omega
        simp [madeCells, hj2, hj3]

theorem flat_made {α : Type} (f : α → List Value) (z : α) (n : Nat) (h : f z ≠ []) : (madeCells (f z).toArray (n * (f z).length)).toList = (List.replicate n z).flatMap f := by
  rw [made_rows _ _ h, List.flatMap_def, List.map_replicate]

end Go.Proofs.Ytfdaifmfecfchaa

namespace Go.Proofs.Ytfdaifmfecfchaa
open Go.RowKit

structure JobD where
  long : Int
  due : Int
  weight : Int
  ready : Int
def J0 : JobD := ⟨0, 0, 0, 0⟩
def jobCells (j : JobD) : List Value := [I64 j.long, I64 j.due, I64 j.weight, I64 j.ready]
def jobsC (js : List JobD) : List Value := js.flatMap jobCells
theorem jobsC_len (js : List JobD) : (jobsC js).length = js.length * 4 := by
  induction js with
  | nil => rfl
  | cons j r ih => simp only [jobsC, List.flatMap_cons, List.length_append, List.length_cons, jobCells] at ih ⊢; simp at ih ⊢; omega
theorem jobsC_at : ∀ (js : List JobD) (i c : Nat), i < js.length → c < 4 → (jobsC js)[i * 4 + c]? = (jobCells (js.getD i J0))[c]?
  | [], i, c, h, _ => by simp at h
  | j :: r, 0, c, _, hc => by
    simp only [jobsC, List.flatMap_cons, Nat.zero_mul, Nat.zero_add, List.getD_cons_zero]
    rw [List.getElem?_append_left (by simp [jobCells]; omega)]
  | j :: r, i + 1, c, h, hc => by
    have ih := jobsC_at r i c (by simpa using h) hc
    simp only [jobsC, List.flatMap_cons, List.getD_cons_succ] at ih ⊢
    rw [List.getElem?_append_right (by simp [jobCells]; omega), ← ih]
    congr 1
    simp [jobCells]; omega

/-- The slice reads as these jobs. -/
def RdJ (w : World) (v : Value) (js : List JobD) : Prop :=
  (∃ a cap, v = .slice a 0 cap ∧ cap ≤ maxLen ∧ js = []) ∨ ∃ b off cap, v = .slice (some ⟨b, off, none⟩) js.length cap ∧ js.length ≤ cap ∧ cap ≤ maxLen ∧ ∀ i, i < js.length → ∀ c u, (jobCells (js.getD i J0))[c]? = some u → w.cell? ⟨b, off + i * 4 + c, none⟩ = some u
def OwnJ (lo hi : Nat) (w : World) (v : Value) (js : List JobD) : Prop := w.ownsRow lo 39 4 v js.length (jobsC js) ∧ ∀ g, v.ownBlock = some g → g < hi
def bulkJ (js : List JobD) : Nat := js.length
def cntJ (js : List JobD) : Nat := js.length * 4

theorem RdJ.shape {w : World} {v : Value} {js : List JobD} (h : RdJ w v js) : ∃ a c, v = .slice a js.length c := by
  rcases h with ⟨a, cap, rfl, _, rfl⟩ | ⟨b, off, cap, rfl, _⟩
  · exact ⟨a, cap, rfl⟩
  · exact ⟨_, cap, rfl⟩
theorem RdJ.len {w : World} {v : Value} {js : List JobD} (h : RdJ w v js) : js.length ≤ maxLen := by
  rcases h with ⟨a, cap, rfl, _, rfl⟩ | ⟨b, off, cap, rfl, h1, h2, _⟩
  · simp [maxLen]
  · omega
theorem RdJ.at {w : World} {a : Option Addr} {n c : Nat} {js : List JobD} (h : RdJ w (.slice a n c) js) {i : Nat} (hi : i < js.length) :
    ∃ b off, a = some ⟨b, off, none⟩ ∧ b < w.heap.size ∧ w.cell? ⟨b, off + i * 4, none⟩ = some (.int .i64 (js.getD i J0).long) ∧ w.cell? ⟨b, off + i * 4 + 1, none⟩ = some (.int .i64 (js.getD i J0).due) ∧ w.cell? ⟨b, off + i * 4 + 2, none⟩ = some (.int .i64 (js.getD i J0).weight) ∧ w.cell? ⟨b, off + i * 4 + 3, none⟩ = some (.int .i64 (js.getD i J0).ready) := by
  rcases h with ⟨_, _, _, _, rfl⟩ | ⟨b, off, cap, e, _, _, hc⟩
  · simp at hi
  · simp only [Value.slice.injEq] at e
    obtain ⟨rfl, rfl, rfl⟩ := e
    have h0 := hc i hi 0 _ rfl
    exact ⟨b, off, rfl, cell_lt h0, h0, hc i hi 1 _ rfl, hc i hi 2 _ rfl, hc i hi 3 _ rfl⟩
theorem RdJ.up {w w' : World} {v : Value} {js : List JobD} {B : Nat} (h : RdJ w v js) (hb : Below B w w') (hB : w.heap.size ≤ B) : RdJ w' v js := by
  rcases h with h | ⟨b, off, cap, e, h1, h2, hc⟩
  · exact .inl h
  · exact .inr ⟨b, off, cap, e, h1, h2, fun i hi c u hu => held_of hb (hc i hi c u hu) hB⟩

theorem ownsK_below {w w' : World} {base B size : Nat} {e : TypeId} {v : Value} {n : Nat} {vs : List Value} (h : w.ownsRow base e size v n vs) (hb : Below B w w') (hB : w.heap.size ≤ B) : w'.ownsRow base e size v n vs := by
  refine ⟨h.1, ?_⟩
  rcases h.2 with h2 | ⟨g, cap, cur, hv, h3, hg, r⟩
  · exact .inl h2
  · exact .inr ⟨g, cap, cur, hv, h3, by rw [hb.block g (by have := lt_of_block hg; omega)]; exact hg, r⟩
theorem ownsK_base {w : World} {base base' size : Nat} {e : TypeId} {v : Value} {n : Nat} {vs : List Value} (h : w.ownsRow base e size v n vs) (hb : base' ≤ base) : w.ownsRow base' e size v n vs := by
  refine ⟨h.1, ?_⟩
  rcases h.2 with h2 | ⟨g, cap, cur, hv, h3, hg, r⟩
  · exact .inl h2
  · exact .inr ⟨g, cap, cur, hv, by omega, hg, r⟩
theorem ownsK_kept {S : Nat → Prop} {w w' : World} {base size : Nat} {e : TypeId} {v : Value} {n : Nat} {vs : List Value} (h : w.ownsRow base e size v n vs) (hk : Kept S w w') (hs : ∀ g, v.ownBlock = some g → ¬ S g) : w'.ownsRow base e size v n vs := by
  refine ⟨h.1, ?_⟩
  rcases h.2 with h2 | ⟨g, cap, cur, hv, h3, hg, r⟩
  · exact .inl h2
  · exact .inr ⟨g, cap, cur, hv, h3, by rw [hk.block g (lt_of_block hg) (hs g (by rw [hv]; rfl))]; exact hg, r⟩

theorem OwnJ.rd {lo hi : Nat} {w : World} {v : Value} {js : List JobD} (h : OwnJ lo hi w v js) : RdJ w v js := by
  rcases h.1.2 with ⟨rfl, e⟩ | ⟨g, cap, cur, rfl, hb, hg, hn, hm, hs, ht⟩
  · left; exact ⟨none, 0, rfl, by simp [maxLen], List.length_eq_zero_iff.1 e⟩
  · right
    refine ⟨g, 0, cap, rfl, hn, hm, fun i hi c u hu => ?_⟩
    have hc : c < 4 := by
      have := (List.getElem?_eq_some_iff.1 hu).1
      simpa [jobCells] using this
    have h1 := h.1.cellAt (i * 4 + c) (by omega)
    rw [jobsC_at js i c hi hc, hu] at h1
    simpa [Nat.add_assoc] using h1
theorem OwnJ.up {lo hi : Nat} {w w' : World} {v : Value} {js : List JobD} {B : Nat} (h : OwnJ lo hi w v js) (hb : Below B w w') (hB : w.heap.size ≤ B) : OwnJ lo hi w' v js := ⟨ownsK_below h.1 hb hB, h.2⟩
theorem OwnJ.wide {lo hi lo' hi' : Nat} {w : World} {v : Value} {js : List JobD} (h : OwnJ lo hi w v js) (h1 : lo' ≤ lo) (h2 : hi ≤ hi') : OwnJ lo' hi' w v js := ⟨ownsK_base h.1 h1, fun g hg => Nat.lt_of_lt_of_le (h.2 g hg) h2⟩
theorem OwnJ.kept {lo hi : Nat} {w w' : World} {v : Value} {js : List JobD} {S : Nat → Prop} (h : OwnJ lo hi w v js) (hk : Kept S w w') (hs : ∀ b, lo ≤ b → b < hi → ¬ S b) : OwnJ lo hi w' v js :=
  ⟨ownsK_kept h.1 hk fun g hg => hs g (h.1.lt g hg).1 (h.2 g hg), h.2⟩
theorem OwnJ.mk {lo : Nat} {w : World} {v : Value} {js : List JobD} (h : w.ownsRow lo 39 4 v js.length (jobsC js)) : OwnJ lo w.heap.size w v js := ⟨h, fun g hg => (h.lt g hg).2⟩

end Go.Proofs.Ytfdaifmfecfchaa

namespace Go.Proofs.Ytfdaifmfecfchaa
open Go.RowKit

def ICL : CaseD := ⟨⟨#[]⟩, ⟨0, []⟩, []⟩
/-- One of a list: its data, the values of its slices, and where they lie. -/
structure RowCL where
  d : CaseD
  a1 : Value
  a2 : Value
  l : Nat
  h : Nat
def cellsCL (r : RowCL) : List Value := [.string r.d.name, .int .i64 r.d.form.letters, r.a1, r.a2]
def aggCL (r : RowCL) : Value := .agg #[.string r.d.name, .int .i64 r.d.form.letters, r.a1, r.a2]
theorem cellsCL_len (r : RowCL) : (cellsCL r).length = 4 := rfl
def sumCL : List CaseD → Nat
  | [] => 0
  | z :: r => bulkCs z + sumCL r
theorem sumCL_append : ∀ (a b : List CaseD), sumCL (a ++ b) = sumCL a + sumCL b
  | [], b => by simp [sumCL]
  | z :: r, b => by simp only [List.cons_append, sumCL, sumCL_append r b]; omega
def bulkCL (ds : List CaseD) : Nat := ds.length + sumCL ds
theorem sumCL_take_succ (ds : List CaseD) (k : Nat) (hk : k < ds.length) : sumCL (ds.take (k + 1)) = sumCL (ds.take k) + bulkCs (ds.getD k ICL) := by
  rw [List.take_succ_eq_append_getElem hk, sumCL_append]
  simp [hk, sumCL]
theorem bulkCL_le (ds : List CaseD) (k : Nat) : sumCL (ds.take k) + ds.length ≤ bulkCL ds := by
  unfold bulkCL
  have : sumCL (ds.take k) + sumCL (ds.drop k) = sumCL ds := by rw [← sumCL_append, List.take_append_drop]
  omega

/-- The slice reads as these. -/
def RdCL (w : World) (v : Value) (ds : List CaseD) : Prop := (∃ a cap, v = .slice a 0 cap ∧ cap ≤ maxLen ∧ ds = []) ∨
  ∃ (b off cap : Nat) (rows : List RowCL), v = .slice (some ⟨b, off, none⟩) ds.length cap ∧ ds.length ≤ cap ∧ cap ≤ maxLen ∧ ds = rows.map (·.d) ∧
    ∀ (i : Nat) (r : RowCL), rows[i]? = some r → (∀ c u, (cellsCL r)[c]? = some u → w.cell? ⟨b, off + i * 4 + c, none⟩ = some u) ∧ RdCs w (aggCL r) r.d
def OwnECL (lo hi : Nat) (w : World) (rows : List RowCL) : Prop :=
  (∀ (i : Nat) (r : RowCL), rows[i]? = some r → OwnCs r.l r.h w (aggCL r) r.d ∧ lo ≤ r.l ∧ r.h ≤ hi) ∧ ∀ (i j : Nat) (r s : RowCL), i < j → rows[i]? = some r → rows[j]? = some s → r.h ≤ s.l
theorem RdCL.shape {w : World} {v : Value} {ds : List CaseD} (h : RdCL w v ds) : ∃ a c, v = .slice a ds.length c := by
  rcases h with ⟨a, cap, rfl, _, rfl⟩ | ⟨b, off, cap, rows, rfl, _⟩
  · exact ⟨a, cap, rfl⟩
  · exact ⟨_, cap, rfl⟩
theorem RdCL.len {w : World} {v : Value} {ds : List CaseD} (h : RdCL w v ds) : ds.length ≤ maxLen := by
  rcases h with ⟨a, cap, rfl, _, rfl⟩ | ⟨b, off, cap, rows, rfl, h1, h2, _⟩
  · simp [maxLen]
  · omega
theorem RdCL.up {w w' : World} {v : Value} {ds : List CaseD} {B : Nat} (h : RdCL w v ds) (hb : Below B w w') (hB : w.heap.size ≤ B) : RdCL w' v ds := by
  rcases h with h | ⟨b, off, cap, rows, e, h1, h2, h3, hc⟩
  · exact .inl h
  · exact .inr ⟨b, off, cap, rows, e, h1, h2, h3, fun i r hr => ⟨fun c u hu => held_of hb ((hc i r hr).1 c u hu) hB, (hc i r hr).2.up hb hB⟩⟩
theorem RdCL.at {w : World} {a : Option Addr} {n c : Nat} {ds : List CaseD} (h : RdCL w (.slice a n c) ds) {i : Nat} (hi : i < ds.length) :
    ∃ b off a1 a2, a = some ⟨b, off, none⟩ ∧ b < w.heap.size ∧ w.cell? ⟨b, off + i * 4, none⟩ = some (.string (ds.getD i ICL).name) ∧ w.cell? ⟨b, off + i * 4 + 1, none⟩ = some (.int .i64 (ds.getD i ICL).form.letters) ∧ w.cell? ⟨b, off + i * 4 + 2, none⟩ = some (a1) ∧ w.cell? ⟨b, off + i * 4 + 3, none⟩ = some (a2) ∧ RdCs w (.agg #[.string (ds.getD i ICL).name, .int .i64 (ds.getD i ICL).form.letters, a1, a2]) (ds.getD i ICL) := by
  rcases h with ⟨_, _, _, _, rfl⟩ | ⟨b, off, cap, rows, e, _, _, hd, hc⟩
  · simp at hi
  · simp only [Value.slice.injEq] at e
    obtain ⟨rfl, rfl, rfl⟩ := e
    have hir : i < rows.length := by rw [hd] at hi; simpa using hi
    have hg : ds.getD i ICL = rows[i].d := by rw [hd]; simp [hir]
    obtain ⟨h1, h2⟩ := hc i _ (List.getElem?_eq_getElem hir)
    rw [hg]
    have h0 := h1 0 _ rfl
    exact ⟨b, off, rows[i].a1, rows[i].a2, rfl, cell_lt h0, h0, h1 1 _ rfl, h1 2 _ rfl, h1 3 _ rfl, h2⟩

theorem OwnECL.up {lo hi : Nat} {w w' : World} {rows : List RowCL} {B : Nat} (h : OwnECL lo hi w rows) (hb : Below B w w') (hB : w.heap.size ≤ B) : OwnECL lo hi w' rows :=
  ⟨fun i r hr => ⟨(h.1 i r hr).1.up hb hB, (h.1 i r hr).2⟩, h.2⟩
theorem OwnECL.wide {lo hi lo' hi' : Nat} {w : World} {rows : List RowCL} (h : OwnECL lo hi w rows) (a : lo' ≤ lo) (b : hi ≤ hi') : OwnECL lo' hi' w rows :=
  ⟨fun i r hr => ⟨(h.1 i r hr).1, Nat.le_trans a (h.1 i r hr).2.1, Nat.le_trans (h.1 i r hr).2.2 b⟩, h.2⟩
theorem OwnECL.kept {lo hi : Nat} {w w' : World} {rows : List RowCL} {S : Nat → Prop} (h : OwnECL lo hi w rows) (hk : Kept S w w') (hs : ∀ (i : Nat) (r : RowCL), rows[i]? = some r → ∀ b, r.l ≤ b → b < r.h → ¬ S b) : OwnECL lo hi w' rows :=
  ⟨fun i r hr => ⟨(h.1 i r hr).1.kept hk (hs i r hr), (h.1 i r hr).2⟩, h.2⟩
end Go.Proofs.Ytfdaifmfecfchaa

namespace Go.Proofs.Ytfdaifmfecfchaa
open Go.RowKit

end Go.Proofs.Ytfdaifmfecfchaa

namespace Go.Proofs.Ytfdaifmfecfchaa
open Go.RowKit

theorem gtake_ne {α : Type} {d : α} {xs ys : List α} {k : Nat} (h : xs.getD k d ≠ ys.getD k d) : xs ≠ ys := by
  rintro rfl; exact h rfl
theorem gtake_succ {α : Type} {d : α} {xs ys : List α} {k : Nat} (hx : k < xs.length) (hy : k < ys.length) (h : xs.take k = ys.take k) (h2 : xs.getD k d = ys.getD k d) : xs.take (k + 1) = ys.take (k + 1) := by
  rw [List.take_succ_eq_append_getElem hx, List.take_succ_eq_append_getElem hy, h]
  simp [hx, hy] at h2
  rw [h2]

theorem RdL.drewN {w : World} {v : Value} {zss : List (List Int)} (h : RdL w v zss) (n : Nat) : RdL (w.drewN n) v zss := by
  obtain ⟨vs, h1, h2⟩ := h
  exact ⟨vs, h1.drewN n, h2.1, fun i u zs a b => (h2.2 i u zs a b).drewN n⟩

end Go.Proofs.Ytfdaifmfecfchaa

namespace Go.Proofs.Ytfdaifmfecfchaa
open Go.RowKit

theorem str_ext {s t : ByteArray} (h : s.toList = t.toList) : s = t := by
  rw [ByteArray.toList_eq, ByteArray.toList_eq] at h
  exact ByteArray.ext (Array.ext' h)
theorem str_ne {s t : ByteArray} (h : s ≠ t) : (s.toList == t.toList) = false := by
  cases hb : s.toList == t.toList
  · rfl
  · exact absurd (str_ext (eq_of_beq hb)) h

@[go_sem] theorem binOp_string_neq_true (t : TypeId) (a b : ByteArray) (h : (a.toList == b.toList) = false) : binOp .neq t (.string a) (.string b) = pure (.bool true) := by
  rw [binOp_string_neq, h]; rfl
@[go_sem] theorem binOp_string_neq_same (t : TypeId) (a : ByteArray) : binOp .neq t (.string a) (.string a) = pure (.bool false) := by
  rw [binOp_string_neq]; simp
@[go_sem] theorem binOp_string_eql_false (t : TypeId) (a b : ByteArray) (h : (a.toList == b.toList) = false) : binOp .eql t (.string a) (.string b) = pure (.bool false) := by
  rw [binOp_string_eql, h]
@[go_sem] theorem binOp_string_eql_same (t : TypeId) (a : ByteArray) : binOp .eql t (.string a) (.string a) = pure (.bool true) := by
  rw [binOp_string_eql]; simp

def allB (m : Nat) (p : Nat → Bool) : Bool := (List.range m).all p
theorem allB_true {m : Nat} {p : Nat → Bool} (h : ∀ i, i < m → p i = true) : allB m p = true := by
  unfold allB; rw [List.all_eq_true]; intro i hi; exact h i (List.mem_range.1 hi)
theorem allB_false {m : Nat} {p : Nat → Bool} {i : Nat} (hi : i < m) (h : p i = false) : allB m p = false := by
  unfold allB
  cases hb : (List.range m).all p
  · rfl
  · rw [List.all_eq_true] at hb
    have := hb i (List.mem_range.2 hi)
    rw [h] at this; cases this
theorem allB_iff {m : Nat} {p : Nat → Bool} : allB m p = true ↔ ∀ i, i < m → p i = true := by
  unfold allB; rw [List.all_eq_true]
  exact ⟨fun h i hi => h i (List.mem_range.2 hi), fun h i hi => h i (List.mem_range.1 hi)⟩

theorem inB_iff {lo hi n : Int} : inB lo hi n = true ↔ lo ≤ n ∧ n ≤ hi := by unfold inB; simp
theorem bool_false {b : Bool} (h : ¬ b = true) : b = false := by cases b <;> simp_all

end Go.Proofs.Ytfdaifmfecfchaa

namespace Go.Proofs.Ytfdaifmfecfchaa
open Go.RowKit

def eqBy {α : Type} (f : α → α → Bool) : List α → List α → Bool
  | [], [] => true
  | x :: xs, y :: ys => f x y && eqBy f xs ys
  | _, _ => false
theorem eqBy_len {α : Type} (f : α → α → Bool) : ∀ (a b : List α), a.length ≠ b.length → eqBy f a b = false
  | [], [], h => by simp at h
  | [], y :: ys, _ => rfl
  | x :: xs, [], _ => rfl
  | x :: xs, y :: ys, h => by simp only [eqBy, eqBy_len f xs ys (by simpa using h), Bool.and_false]
theorem eqBy_ne {α : Type} (f : α → α → Bool) (d : α) : ∀ (a b : List α) (k : Nat), k < a.length → k < b.length → f (a.getD k d) (b.getD k d) = false → eqBy f a b = false
  | [], b, k, h, _, _ => by simp at h
  | x :: xs, [], k, _, h, _ => by simp at h
  | x :: xs, y :: ys, 0, _, _, h => by simp only [List.getD_cons_zero] at h; simp only [eqBy, h, Bool.false_and]
  | x :: xs, y :: ys, k + 1, h1, h2, h => by
    simp only [List.getD_cons_succ] at h
    simp only [eqBy, eqBy_ne f d xs ys k (by simpa using h1) (by simpa using h2) h, Bool.and_false]
theorem eqBy_all {α : Type} (f : α → α → Bool) (d : α) : ∀ (a b : List α), a.length = b.length → (∀ k, k < a.length → f (a.getD k d) (b.getD k d) = true) → eqBy f a b = true
  | [], [], _, _ => rfl
  | [], y :: ys, h, _ => by simp at h
  | x :: xs, [], h, _ => by simp at h
  | x :: xs, y :: ys, h, h2 => by
    have h0 := h2 0 (by simp)
    simp only [List.getD_cons_zero] at h0
    simp only [eqBy, h0, Bool.true_and]
    exact eqBy_all f d xs ys (by simpa using h) fun k hk => by have := h2 (k + 1) (by simpa using hk); simpa using this

def sameC (x y : CaseD) : Bool := (decide (x.name = y.name) && (decide (x.form.letters = y.form.letters) && decide (x.form.clauses = y.form.clauses))) && decide (x.proof = y.proof)
def sameCL : List CaseD → List CaseD → Bool := eqBy sameC

end Go.Proofs.Ytfdaifmfecfchaa

namespace Go.Proofs.Ytfdaifmfecfchaa
open Go.RowKit

def F32 (b : Nat) : Value := .float .f32 b
def nan32 (x : Nat) : Bool := (Ieee.single.read x).isNaN
def fin32 (x : Nat) : Bool := match Ieee.single.read x with
  | .number .. => true
  | _ => false

theorem order_self (f : Ieee.Format) (x : Nat) (h : (f.read x).isNaN = false) : f.order x x = some .eq := by
  unfold Ieee.Format.order
  cases hr : f.read x with
  | nan a b => rw [hr] at h; simp [Ieee.Datum.isNaN] at h
  | infinity s => simp [Ieee.Datum.order]
  | number s m e => simp [Ieee.Datum.order]
theorem order_nanL (f : Ieee.Format) (x y : Nat) (h : (f.read x).isNaN = true) : f.order x y = none := by
  unfold Ieee.Format.order
  cases hr : f.read x with
  | nan a b => simp [Ieee.Datum.order]
  | infinity s => rw [hr] at h; simp [Ieee.Datum.isNaN] at h
  | number s m e => rw [hr] at h; simp [Ieee.Datum.isNaN] at h
theorem order_nanR (f : Ieee.Format) (x y : Nat) (h : (f.read y).isNaN = true) : f.order x y = none := by
  unfold Ieee.Format.order
  cases hr : f.read y with
  | nan a b => cases f.read x <;> simp [Ieee.Datum.order]
  | infinity s => rw [hr] at h; simp [Ieee.Datum.isNaN] at h
  | number s m e => rw [hr] at h; simp [Ieee.Datum.isNaN] at h

theorem sub_fin {x : Nat} (h : fin32 x = true) : Ieee.single.sub x x = some 0 := by
  unfold fin32 at h
  unfold Ieee.Format.sub
  cases hr : Ieee.single.read x with
  | nan a b => rw [hr] at h; simp at h
  | infinity s => rw [hr] at h; simp at h
  | number s m e =>
    have ht : Ieee.signed s m 0 + Ieee.signed (!s) m 0 = 0 := by cases s <;> simp [Ieee.signed] <;> omega
    simp only [Ieee.Datum.opposite, Ieee.Datum.sum, Option.map_some, Int.min_self, Int.sub_self, Int.toNat_zero, ht, if_true, Int.natAbs_zero]
    cases s <;> simp [Ieee.Format.write, Ieee.Format.nearest, Ieee.Format.word]
theorem sub_not {x : Nat} (h : fin32 x = false) : Ieee.single.sub x x = none := by
  unfold fin32 at h
  unfold Ieee.Format.sub
  cases hr : Ieee.single.read x with
  | nan a b => simp [Ieee.Datum.opposite, Ieee.Datum.sum]
  | infinity s => cases s <;> simp [Ieee.Datum.opposite, Ieee.Datum.sum]
  | number s m e => rw [hr] at h; simp at h

/-- The bits of a NaN that the tape names. -/
def tape32 (q : Question) (w : World) : Nat := q.cut (w.tape w.drawn q)
theorem nan_cut32 (t : Nat) : (Ieee.single.read ((t % 2) * 2 ^ 31 + 0x7f800000 + 1 + (t / 2) % (2 ^ 23 - 1))).isNaN = true := by
  have h1 : t % 2 < 2 := Nat.mod_lt _ (by decide)
  have h2 : (t / 2) % (2 ^ 23 - 1) < 2 ^ 23 - 1 := Nat.mod_lt _ (by decide)
  generalize t % 2 = s at h1 ⊢
  generalize (t / 2) % (2 ^ 23 - 1) = r at h2 ⊢
  have e : (s * 2 ^ 31 + 0x7f800000 + 1 + r) % 2147483648 = 0x7f800000 + 1 + r := by omega
  unfold Ieee.Format.read
  have c1 : Ieee.single.signWeight = 2147483648 := rfl
  have c2 : Ieee.single.binade = 8388608 := rfl
  have c3 : Ieee.single.infRung = 2139095040 := rfl
  simp only [c1, c2, c3, e]
  rw [if_neg (by omega), if_neg (by omega), if_neg (by omega)]
  rfl
theorem nan_cut64 (t : Nat) : (Ieee.double.read ((t % 2) * 2 ^ 63 + 0x7ff0000000000000 + 1 + (t / 2) % (2 ^ 52 - 1))).isNaN = true := by
  have h1 : t % 2 < 2 := Nat.mod_lt _ (by decide)
  have h2 : (t / 2) % (2 ^ 52 - 1) < 2 ^ 52 - 1 := Nat.mod_lt _ (by decide)
  generalize t % 2 = s at h1 ⊢
  generalize (t / 2) % (2 ^ 52 - 1) = r at h2 ⊢
  have e : (s * 2 ^ 63 + 0x7ff0000000000000 + 1 + r) % 9223372036854775808 = 0x7ff0000000000000 + 1 + r := by omega
  unfold Ieee.Format.read
  have c1 : Ieee.double.signWeight = 9223372036854775808 := rfl
  have c2 : Ieee.double.binade = 4503599627370496 := rfl
  have c3 : Ieee.double.infRung = 9218868437227405312 := rfl
  simp only [c1, c2, c3, e]
  rw [if_neg (by omega), if_neg (by omega), if_neg (by omega)]
  rfl

/-- A difference that is no number: a NaN that the tape names. -/
theorem run_sub_none {P : Program} (t : TypeId) (x y : Nat) (h : Ieee.single.sub x y = none) (w : World) :
    (binOp .sub t (.float .f32 x) (.float .f32 y)).run P w = .ok (.float .f32 (tape32 (.nanBits .f32 x y) w)) w.drew := by
  have h' : FloatKind.f32.format.sub x y = none := h
  simp [binOp, Op.floatArith, h', tape32, Question.forced, Result.andThen]
theorem tape32_nan (x y : Nat) (w : World) : (Ieee.single.read (tape32 (.nanBits .f32 x y) w)).isNaN = true := by
  unfold tape32
  exact nan_cut32 _
theorem run_sub_some {P : Program} (t : TypeId) (x y r : Nat) (h : Ieee.single.sub x y = some r) (w : World) :
    (binOp .sub t (.float .f32 x) (.float .f32 y)).run P w = .ok (.float .f32 r) w := run_float_arith w .sub t .f32 x y r h

end Go.Proofs.Ytfdaifmfecfchaa

namespace Go.Proofs.Ytfdaifmfecfchaa
open Go.RowKit

def RdF (w : World) (v : Value) (xs : List Nat) : Prop := Slc w v (xs.map F32)
def OwnF (lo hi : Nat) (w : World) (v : Value) (xs : List Nat) : Prop := w.ownsRow lo 53 1 v xs.length (xs.map F32) ∧ ∀ g, v.ownBlock = some g → g < hi
def bulkF (xs : List Nat) : Nat := xs.length

theorem RdF.shape {w : World} {v : Value} {xs : List Nat} (h : RdF w v xs) : ∃ a c, v = .slice a xs.length c := by
  obtain ⟨a, c, e⟩ := Slc.shape h; exact ⟨a, c, by simpa using e⟩
theorem RdF.up {w w' : World} {v : Value} {xs : List Nat} {B : Nat} (h : RdF w v xs) (hb : Below B w w') (hB : w.heap.size ≤ B) : RdF w' v xs := Slc.below h hb hB
theorem RdF.at {w : World} {a : Option Addr} {n c : Nat} {xs : List Nat} (h : RdF w (.slice a n c) xs) {i : Nat} (hi : i < xs.length) :
    ∃ b off, a = some ⟨b, off, none⟩ ∧ b < w.heap.size ∧ w.cell? ⟨b, off + i, none⟩ = some (.float .f32 (xs.getD i 0)) := Slc.at h (by simp [F32, hi])
theorem RdF.len {w : World} {v : Value} {xs : List Nat} (h : RdF w v xs) : xs.length ≤ maxLen := by simpa using Slc.len h
theorem RdF.drewN {w : World} {v : Value} {xs : List Nat} (h : RdF w v xs) (n : Nat) : RdF (w.drewN n) v xs := Slc.drewN h n
theorem OwnF.rd {lo hi : Nat} {w : World} {v : Value} {xs : List Nat} (h : OwnF lo hi w v xs) : RdF w v xs := slc_of_owns h.1
theorem OwnF.up {lo hi : Nat} {w w' : World} {v : Value} {xs : List Nat} {B : Nat} (h : OwnF lo hi w v xs) (hb : Below B w w') (hB : w.heap.size ≤ B) : OwnF lo hi w' v xs := ⟨owns_below h.1 hb hB, h.2⟩
theorem OwnF.wide {lo hi lo' hi' : Nat} {w : World} {v : Value} {xs : List Nat} (h : OwnF lo hi w v xs) (h1 : lo' ≤ lo) (h2 : hi ≤ hi') : OwnF lo' hi' w v xs := ⟨owns_base h.1 h1, fun g hg => Nat.lt_of_lt_of_le (h.2 g hg) h2⟩
theorem OwnF.kept {lo hi : Nat} {w w' : World} {v : Value} {xs : List Nat} {S : Nat → Prop} (h : OwnF lo hi w v xs) (hk : Kept S w w') (hs : ∀ b, lo ≤ b → b < hi → ¬ S b) : OwnF lo hi w' v xs :=
  ⟨owns_kept h.1 hk fun g hg => hs g (owns_lt h.1 hg).1 (h.2 g hg), h.2⟩
theorem OwnF.mk {lo : Nat} {w : World} {v : Value} {n : Nat} {xs : List Nat} (h : w.ownsRow lo 53 1 v n (xs.map F32)) : OwnF lo w.heap.size w v xs := by
  obtain rfl : xs.length = n := by simpa using owns_len h
  exact ⟨h, fun g hg => (owns_lt h hg).2⟩

theorem Try.infoF32 : (Try.prog.info? 53).map (fun i => (i.zero, i.size, i.bytes)) = some (some (.float .f32 0), 1, 4) := by kernel_rfl

theorem fill_f {xs : List Nat} {k : Nat} {x : Nat} (hk : k < xs.length) (hx : x = xs.getD k 0) :
    ((xs.take k ++ List.replicate (xs.length - k) 0).map F32).set k (.float .f32 x) = (xs.take (k + 1) ++ List.replicate (xs.length - (k + 1)) 0).map F32 := by
  subst hx
  have e : List.replicate (xs.length - k) (0 : Nat) = 0 :: List.replicate (xs.length - (k + 1)) 0 := by
    rw [show xs.length - k = (xs.length - (k + 1)) + 1 by omega, List.replicate_succ]
  rw [e, List.take_succ_eq_append_getElem hk, List.map_append, List.map_cons, set_mid _ _ _ _ _ (by simp; omega), List.map_append, List.map_append, List.append_assoc, show xs.getD k 0 = xs[k] from by simp [hk]]
  rfl

@[go_sem] theorem run_store_float (P : Program) (w : World) (a : Addr) (m : Mode) (k : FloatKind) (n : Nat) : (store a (.float k n) m).run P w = stored P w a (.float k n) m := run_store P w a _ m rfl

/-! ### The same number -/

theorem zero_div {r : Nat} (h : Ieee.double.order r 0 = some .eq) : ∃ q, Ieee.double.div 4607182418800017408 r = some q := by
  have e1 : Ieee.double.read 4607182418800017408 = .number false 4503599627370496 (-52) := by decide +kernel
  have e0 : Ieee.double.read 0 = .number false 0 (-1074) := by decide +kernel
  unfold Ieee.Format.order at h
  unfold Ieee.Format.div
  rw [e1]
  rw [e0] at h
  cases hr : Ieee.double.read r with
  | nan a b => rw [hr] at h; simp [Ieee.Datum.order] at h
  | infinity s => rw [hr] at h; cases s <;> simp [Ieee.Datum.order] at h
  | number s m e =>
    by_cases hm : m = 0
    · subst hm; simp [Ieee.Datum.quotient]
    · simp [Ieee.Datum.quotient, hm]

end Go.Proofs.Ytfdaifmfecfchaa

namespace Go.Proofs.Ytfdaifmfecfchaa
open Go.RowKit

theorem read32_bound {b m : Nat} {s : Bool} {e : Int} (h : Ieee.single.read b = .number s m e) : m < 16777216 ∧ -149 ≤ e ∧ e ≤ 104 := by
  unfold Ieee.Format.read at h
  have c1 : Ieee.single.signWeight = 2147483648 := rfl
  have c2 : Ieee.single.binade = 8388608 := rfl
  have c3 : Ieee.single.infRung = 2139095040 := rfl
  have c4 : Ieee.single.leastPlace = -149 := by decide +kernel
  simp only [c1, c2, c3, c4] at h
  split at h
  · simp only [Ieee.Datum.number.injEq] at h
    obtain ⟨_, rfl, rfl⟩ := h
    omega
  · split at h
    · simp only [Ieee.Datum.number.injEq] at h
      obtain ⟨_, rfl, rfl⟩ := h
      omega
    · split at h <;> simp at h

theorem read_word64 (s : Bool) (r : Nat) (h : r < 9218868437227405312) : (Ieee.double.read (Ieee.double.word s r)).isNaN = false ∧ (Ieee.double.read (Ieee.double.word s r)).isInfinity = false := by
  have c1 : Ieee.double.signWeight = 9223372036854775808 := rfl
  have c2 : Ieee.double.binade = 4503599627370496 := rfl
  have c3 : Ieee.double.infRung = 9218868437227405312 := rfl
  have e : (Ieee.double.word s r) % 9223372036854775808 = r := by
    unfold Ieee.Format.word
    rw [c1]
    cases s <;> simp <;> omega
  unfold Ieee.Format.read
  simp only [c1, c2, c3, e]
  split
  · exact ⟨rfl, rfl⟩
  · first
    | exact ⟨rfl, rfl⟩
    | (rw [if_pos h]; exact ⟨rfl, rfl⟩)

theorem near_aux (Q K : Nat) (hQ : Q ≤ 1149) (hK : K < 9007199254740992) : min (Q * 4503599627370496 + K) 9218868437227405312 < 9218868437227405312 := by
  have : Q * 4503599627370496 ≤ 1149 * 4503599627370496 := Nat.mul_le_mul_right _ hQ
  omega
theorem nearest64 (s : Bool) {m : Nat} {e : Int} (hm : m < 16777216) (h1 : -149 ≤ e) (h2 : e ≤ 104) : ∃ r, r < 9218868437227405312 ∧ Ieee.double.nearest s m e = Ieee.double.word s r := by
  unfold Ieee.Format.nearest
  by_cases h0 : m = 0
  · rw [if_pos h0]; exact ⟨0, by decide, rfl⟩
  · rw [if_neg h0]
    have hl : m.log2 ≤ 23 := by
      have : m.log2 < 24 := (Nat.log2_lt h0).2 (by omega)
      omega
    have hlt : m < 2 ^ (m.log2 + 1) := Nat.lt_log2_self
    have c4 : Ieee.double.leastPlace = -1074 := by decide +kernel
    have c2 : Ieee.double.binade = 4503599627370496 := rfl
    have c3 : Ieee.double.infRung = 9218868437227405312 := rfl
    have c5 : Ieee.double.fractionBits = 52 := rfl
    have hlast : max (e + (m.log2 : Int) - (52 : Nat)) (-1074) = e + m.log2 - 52 := by omega
    simp only [c4, c2, c3, c5, hlast]
    have ha : (e - (e + (m.log2 : Int) - 52)).toNat = 52 - m.log2 := by omega
    have hb : (e + (m.log2 : Int) - 52 - e).toNat = 0 := by omega
    rw [ha, hb]
    have hk : m <<< (52 - m.log2) < 9007199254740992 := by
      rw [Nat.shiftLeft_eq]
      have : m * 2 ^ (52 - m.log2) < 2 ^ (m.log2 + 1) * 2 ^ (52 - m.log2) := Nat.mul_lt_mul_of_pos_right hlt (Nat.two_pow_pos _)
      rw [← Nat.pow_add, show m.log2 + 1 + (52 - m.log2) = 53 by omega] at this
      exact this
    generalize m <<< (52 - m.log2) = K at hk
    have hcut : Ieee.Toward.even.cut s K 0 = K := by
      unfold Ieee.Toward.cut
      simp [Nat.mod_one]
    rw [hcut]
    have hQ : (e + (m.log2 : Int) - 52 - -1074).toNat ≤ 1149 := by omega
    exact ⟨_, near_aux _ _ hQ hk, rfl⟩

/-- What is no NaN has a place among the doubles, and is no NaN there. -/
theorem conv64 {b : Nat} (h : nan32 b = false) : ∃ r, floatToFloatBits .f32 b .f64 = some r ∧ (Ieee.double.read r).isNaN = false := by
  unfold nan32 at h
  unfold floatToFloatBits
  rw [if_neg (by decide)]
  have e : FloatKind.f32.decode b = Ieee.single.read b := rfl
  rw [e]
  cases hr : Ieee.single.read b with
  | nan x y => rw [hr] at h; simp [Ieee.Datum.isNaN] at h
  | infinity s =>
    refine ⟨_, rfl, ?_⟩
    cases s <;> decide +kernel
  | number s m e =>
    obtain ⟨a1, a2, a3⟩ := read32_bound hr
    obtain ⟨r, b1, b2⟩ := nearest64 s a1 a2 a3
    have b3 : FloatKind.f64.encode (.number s m e) = Ieee.double.word s r := b2
    have b4 := read_word64 s r b1
    simp only [b3]
    rw [if_neg (by rw [show FloatKind.f64.decode (Ieee.double.word s r) = Ieee.double.read (Ieee.double.word s r) from rfl, b4.2]; simp)]
    exact ⟨_, rfl, b4.1⟩

/-- The bits of a double that the tape names. -/
def tape64 (q : Question) (w : World) : Nat := q.cut (w.tape w.drawn q)
theorem tape64_nan (b : Nat) (w : World) : (Ieee.double.read (tape64 (.nanConv .f64 b) w)).isNaN = true := by
  unfold tape64
  exact nan_cut64 _
theorem run_conv_nan {P : Program} (src dst : TypeId) (b : Nat) (hs : (P.underlying src).isSome = true) (hd : P.underlying dst = some (.float .f64)) (h : nan32 b = true) (w : World) :
    (convert src dst (.float .f32 b)).run P w = .ok (.float .f64 (tape64 (.nanConv .f64 b) w)) w.drew := by
  unfold nan32 at h
  obtain ⟨u, hs'⟩ := Option.isSome_iff_exists.1 hs
  have e : FloatKind.f32.decode b = Ieee.single.read b := rfl
  cases hr : Ieee.single.read b with
  | nan x y => cases u <;> simp [convert, run_underlying hs', run_underlying hd, Conv.floatToFloat, e, hr, Question.forced, tape64, Result.andThen]
  | infinity s => rw [hr] at h; simp [Ieee.Datum.isNaN] at h
  | number s m e => rw [hr] at h; simp [Ieee.Datum.isNaN] at h

theorem Try.und32 : Try.prog.underlying 53 = some (.float .f32) := Try.underlying53
theorem Try.und64 : Try.prog.underlying 57 = some (.float .f64) := Try.underlying57

theorem drew_ex {w W : World} (h : ∃ m, W = w.drewN m) : ∃ m, W.drew = w.drewN m := by obtain ⟨m, rfl⟩ := h; exact ⟨m + 1, rfl⟩
theorem drewN_ex {w W : World} (h : ∃ m, W = w.drewN m) (n : Nat) : ∃ m, W.drewN n = w.drewN m := by obtain ⟨m, rfl⟩ := h; exact ⟨m + n, World.drewN_drewN _ _ _⟩
end Go.Proofs.Ytfdaifmfecfchaa

namespace Go.Proofs.Ytfdaifmfecfchaa
open Go.RowKit

/-- What is left behind the marks. -/
def mkF (k : Int) (n : Nat) : List Nat := (List.range n).map fun (i : Nat) => floatOfInt .f32 (k + i)
theorem mkF_len (k : Int) (n : Nat) : (mkF k n).length = n := by simp [mkF]
def cntF (xs : List Nat) : Nat := xs.length
theorem cntF_le (xs : List Nat) : cntF xs ≤ bulkF xs := Nat.le_refl _
def mkdF (k : Int) (xs : List Nat) : List Nat := mkF k xs.length

theorem markF_set {k : Int} {xs : List Nat} {j : Nat} (hj : j < xs.length) : ((mkF k j ++ xs.drop j).map F32).set j (.float .f32 (floatOfInt .f32 (k + j))) = (mkF k (j + 1) ++ xs.drop (j + 1)).map F32 := by
  have e : xs.drop j = xs[j] :: xs.drop (j + 1) := List.drop_eq_getElem_cons hj
  rw [e, List.map_append, List.map_cons, set_mid _ _ _ _ _ (by simp [mkF]), List.map_append]
  simp [mkF, List.range_succ, F32]

theorem OwnF.blk {lo hi : Nat} {w : World} {v : Value} {xs : List Nat} (h : OwnF lo hi w v xs) {b : Nat} (hb : v.ownBlock = some b) : lo ≤ b ∧ b < hi := ⟨(owns_lt h.1 hb).1, h.2 b hb⟩

/-! ### Held -/

theorem read_word32 (s : Bool) (r : Nat) (h : r ≤ 2139095040) : (Ieee.single.read (Ieee.single.word s r)).isNaN = false := by
  have c1 : Ieee.single.signWeight = 2147483648 := rfl
  have c2 : Ieee.single.binade = 8388608 := rfl
  have c3 : Ieee.single.infRung = 2139095040 := rfl
  have e : (Ieee.single.word s r) % 2147483648 = r := by
    unfold Ieee.Format.word
    rw [c1]
    cases s <;> simp <;> omega
  unfold Ieee.Format.read
  simp only [c1, c2, c3, e]
  split
  · rfl
  · split
    · rfl
    · rw [if_pos (by omega)]; rfl
theorem nearest_nan (s : Bool) (m : Nat) (e : Int) : (Ieee.single.read (Ieee.single.nearest s m e)).isNaN = false := by
  unfold Ieee.Format.nearest
  split
  · exact read_word32 _ _ (by omega)
  · exact read_word32 _ _ (Nat.min_le_right _ _)
theorem ofInt_nan (n : Int) : (Ieee.single.read (floatOfInt .f32 n)).isNaN = false := nearest_nan _ _ _

end Go.Proofs.Ytfdaifmfecfchaa

namespace Go.Proofs.Ytfdaifmfecfchaa
open Go.RowKit

/-- Two numbers are the same: both not a number, or the same bits. -/
def sameX (x y : Nat) : Bool := if (nan32 x || nan32 y) = true then nan32 x && nan32 y else decide (x = y)

theorem neq_nan {x : Nat} (h : nan32 x = true) : (FloatKind.f32.format.order x x != some .eq) = true := by
  rw [show FloatKind.f32.format.order x x = none from order_nanL _ _ _ h]; rfl
theorem neq_num {x : Nat} (h : nan32 x = false) : (FloatKind.f32.format.order x x != some .eq) = false := by
  rw [show FloatKind.f32.format.order x x = some .eq from order_self _ _ h]; rfl

def codeX (x : Nat) : Int := if nan32 x = true then 2143289344 else x
theorem codeX_same (x y : Nat) : (codeX x == codeX y) = sameX x y := by
  have h0 : nan32 2143289344 = true := by decide +kernel
  unfold codeX sameX
  cases hx : nan32 x <;> cases hy : nan32 y
  · simp only [Bool.or_false, Bool.false_eq_true, if_false]
    by_cases h : x = y
    · subst h; simp
    · simp [h]; omega
  · have : x ≠ 2143289344 := by rintro rfl; rw [h0] at hx; cases hx
    simp; omega
  · have : y ≠ 2143289344 := by rintro rfl; rw [h0] at hy; cases hy
    simp; omega
  · simp
end Go.Proofs.Ytfdaifmfecfchaa

namespace Go.Proofs.Ytfdaifmfecfchaa
open Go.ChangeShapes Go.WideShapes Go.ChangeAt Go.RowKit
set_option linter.unusedVariables false

def WfI (zs : List Int) : Prop := ∀ z ∈ zs, -9223372036854775808 ≤ z ∧ z ≤ 9223372036854775807

section
variable {H : Type} {enc : TypeId × Value → H} {w : World} {base : Nat} {spare : Nat → Bool} {held : Bool}

theorem cells_i64 : Try.prog.cellsOf 2 = 1 := by kernel_rfl
theorem wf_i64_bounds {z : Int} (h : (Lit.int .i64 z).wf = true) : -9223372036854775808 ≤ z ∧ z ≤ 9223372036854775807 := bounds_i64 h

set_option maxRecDepth 100000 in
theorem trod_I {fuel : Nat} {cs : List Value} {x : DataW H × List MemPlace} (h : DataW.trod enc Try.prog w base spare held fuel 27 cs = some x) : ∃ v zs, cs = [v] ∧ RdI w v zs ∧ WfI zs := by
  rcases open_ints Try.underlying27 Try.underlying2 cells_i64 h with ⟨rfl, _⟩ | ⟨a, len, cap, zs, rfl, _, hl, hm, hz, _, hcell, hwz⟩
  · exact ⟨_, [], rfl, .inl ⟨rfl, rfl⟩, by intro z hz; simp at hz⟩
  · have hle : len ≤ zs.length := by rw [hz]; split <;> omega
    refine ⟨_, zs.take len, rfl, .inr ⟨a, cap, by simp [Nat.min_eq_left hle], by simp; omega, hm, ?_⟩, fun z hz' => wf_i64_bounds (hwz z (List.mem_of_mem_take hz'))⟩
    intro i u hi
    have hlt : i < len := by
      have := (List.getElem?_eq_some_iff.1 hi).1
      simp at this; omega
    have h2 := hcell i (by omega)
    rw [h2, ← hi]
    simp [I64, List.getElem?_take, hlt, show i < zs.length by omega]

set_option maxRecDepth 100000 in
theorem arg_I {r : Reach} {b0 : Nat} {v : Value} {d : DataW H} {p : List MemPlace} (hv : Value.okWide Try.prog w r b0 27 v) (h : DataW.Trod enc Try.prog w base spare held 27 v d p) : ∃ zs, RdI w v zs ∧ WfI zs := by
  obtain ⟨a, len, cap, rfl⟩ := okWide_slice Try.underlying27 hv
  obtain ⟨fuel, hf⟩ := h
  obtain ⟨v, zs, e, h1, h2⟩ := trod_I hf
  simp [Value.cells] at e
  subst e
  exact ⟨zs, h1, h2⟩
theorem cells_one {a : Addr} {cs : List Value} (h : w.cells? base a 1 = some cs) : ∃ v, cs = [v] ∧ w.cell? a = some v := by
  simp [World.cells?] at h
  obtain ⟨_, h⟩ := h
  cases hc : w.cell? (a.add 0) with
  | none => rw [hc] at h; simp at h
  | some v =>
    rw [hc] at h
    simp at h
    exact ⟨v, h.symm, by simpa [Addr.add] using hc⟩

theorem exists_list {α : Type} (P : Nat → α → Prop) : ∀ (n : Nat), (∀ i, i < n → ∃ x, P i x) → ∃ l : List α, l.length = n ∧ ∀ (i : Nat) x, l[i]? = some x → P i x
  | 0, _ => ⟨[], rfl, by intro i x h; simp at h⟩
  | n + 1, h => by
    obtain ⟨l, hl, hp⟩ := exists_list P n (fun i hi => h i (by omega))
    obtain ⟨x, hx⟩ := h n (by omega)
    refine ⟨l ++ [x], by simp [hl], fun i y hy => ?_⟩
    by_cases hi : i < n
    · rw [List.getElem?_append_left (by omega)] at hy
      exact hp i y hy
    · have : i < (l ++ [x]).length := (List.getElem?_eq_some_iff.1 hy).1
      simp [hl] at this
      obtain rfl : i = n := by omega
      rw [List.getElem?_append_right (by omega), hl] at hy
      simp at hy
      exact hy ▸ hx
end
end Go.Proofs.Ytfdaifmfecfchaa
