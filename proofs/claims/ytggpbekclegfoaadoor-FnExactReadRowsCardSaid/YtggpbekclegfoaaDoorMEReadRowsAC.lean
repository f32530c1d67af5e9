/-
  FnExactReadRows: texts joined: Flat, Jobs, CaseL, ClauseM, Reg, Clause, CaseV, StoreM, Check, DecS.
-/
import Derived.Deep.RegionHeld3
import Derived.Lib.AppendStr
import Derived.Laws.BytesArg
import Derived.Lib.SlBytesConst
import Derived.ArgAppend
import Derived.Lib.ItoaNum
import Derived.Lib.LaidTab
import Derived.Test.YtggpbekclegfoaaDoorMEReadRowsAA
import Derived.Test.YtggpbekclegfoaaDoorMEReadRowsAB
namespace Go.Proofs.YtggpbekclegfoaaDoor
open Go.RowKit

theorem flat_len {α : Type} (f : α → List Value) (c : Nat) (hf : ∀ a, (f a).length = c) : ∀ (l : List α), (l.flatMap f).length = l.length * c
  | [] => by simp
  | a :: r => by
    have ih := flat_len f c hf r
    simp only [List.flatMap_cons, List.length_append, List.length_cons, hf a, ih]
    rw [Nat.add_mul]; omega

theorem flat_at {α : Type} (f : α → List Value) (c : Nat) (hf : ∀ a, (f a).length = c) : ∀ (l : List α) (i d : Nat) (a : α), l[i]? = some a → d < c → (l.flatMap f)[i * c + d]? = (f a)[d]?
  | [], i, d, a, h, _ => by simp at h
  | b :: r, 0, d, a, h, hd => by
    simp only [List.getElem?_cons_zero, Option.some.injEq] at h
    subst h
    simp only [List.flatMap_cons, Nat.zero_mul, Nat.zero_add]
    rw [List.getElem?_append_left (by rw [hf b]; exact hd)]
  | b :: r, i + 1, d, a, h, hd => by
    have ih := flat_at f c hf r i d a (by simpa using h) hd
    simp only [List.flatMap_cons]
    rw [List.getElem?_append_right (by rw [hf b, Nat.add_mul]; omega), ← ih]
    congr 1
    rw [hf b, Nat.add_mul]; omega

/-- Cells written one behind another. -/
def putAt : List Value → Nat → List Value → List Value
  | L, _, [] => L
  | L, b, u :: us => putAt (L.set b u) (b + 1) us

theorem putAt_append : ∀ (us A B : List Value) (b : Nat), A.length ≤ b → putAt (A ++ B) b us = A ++ putAt B (b - A.length) us
  | [], A, B, b, _ => rfl
  | u :: us, A, B, b, h => by
    simp only [putAt]
    rw [List.set_append_right _ _ h, putAt_append us A _ (b + 1) (by omega), show b + 1 - A.length = b - A.length + 1 by omega]
theorem putAt_whole : ∀ (us A B : List Value), A.length = us.length → putAt (A ++ B) 0 us = us ++ B
  | [], A, B, h => by
    have : A = [] := List.length_eq_zero_iff.1 (by simpa using h)
    subst this; rfl
  | u :: us, [], B, h => by simp at h
  | u :: us, x :: A, B, h => by
    simp only [putAt, List.cons_append, List.set_cons_zero]
    have := putAt_append us [u] (A ++ B) 1 (by simp)
    simp only [List.cons_append, List.nil_append, List.length_cons, List.length_nil] at this
    rw [this]
    simp only [Nat.sub_self]
    rw [putAt_whole us A B (by simpa using h)]

theorem flat_put {α : Type} (f : α → List Value) (c : Nat) (hf : ∀ a, (f a).length = c) : ∀ (l : List α) (i : Nat) (a : α), i < l.length → putAt (l.flatMap f) (i * c) (f a) = (l.set i a).flatMap f
  | [], i, a, h => by simp at h
  | b :: r, 0, a, _ => by
    simp only [List.flatMap_cons, Nat.zero_mul, List.set_cons_zero]
    exact putAt_whole _ _ _ (by rw [hf, hf])
  | b :: r, i + 1, a, h => by
    have ih := flat_put f c hf r i a (by simpa using h)
    simp only [List.flatMap_cons, List.set_cons_succ]
    rw [putAt_append _ _ _ _ (by rw [hf, Nat.add_mul]; omega), ← ih]
    congr 2
    rw [hf, Nat.add_mul]; omega

theorem made_rows (zs : List Value) (n : Nat) (h : zs ≠ []) : (madeCells zs.toArray (n * zs.length)).toList = (List.replicate n zs).flatten := by
  have hp : 0 < zs.length := List.length_pos_iff.2 h
  induction n with
  | zero => simp [madeCells]
  | succ n ih =>
    rw [List.replicate_succ, List.flatten_cons, ← ih]
    apply List.ext_getElem?
    intro j
    by_cases hj : j < zs.length
    · have hj2 : j < (n + 1) * zs.length := by rw [Nat.add_mul]; omega
      rw [List.getElem?_append_left hj]
      simp [madeCells, hj2, Nat.mod_eq_of_lt hj, hj]
    · rw [List.getElem?_append_right (by omega)]
      by_cases hj2 : j < (n + 1) * zs.length
      · have hj3 : j - zs.length < n * zs.length := by rw [Nat.add_mul] at hj2; omega
        have hm : (j - zs.length) % zs.length = j % zs.length := by
          rw [Nat.mod_eq_sub_mod (a := j) (by omega)]
        simp [madeCells, hj2, hj3, hm]
      · have hj3 : ¬ j - zs.length < n * zs.length := by rw [Nat.add_mul] at hj2; omega
        simp [madeCells, hj2, hj3]

theorem flat_made {α : Type} (f : α → List Value) (z : α) (n : Nat) (h : f z ≠ []) : (madeCells (f z).toArray (n * (f z).length)).toList = (List.replicate n z).flatMap f := by
  rw [made_rows _ _ h, List.flatMap_def, List.map_replicate]

end Go.Proofs.YtggpbekclegfoaaDoor

namespace Go.Proofs.YtggpbekclegfoaaDoor
open Go.RowKit

structure JobD where
  long : Int
  due : Int
  weight : Int
  ready : Int
def J0 : JobD := ⟨0, 0, 0, 0⟩
def jobCells (j : JobD) : List Value := [I64 j.long, I64 j.due, I64 j.weight, I64 j.ready]
def jobsC (js : List JobD) : List Value := js.flatMap jobCells
theorem jobsC_len (js : List JobD) : (jobsC js).length = js.length * 4 := by
  induction js with
  | nil => rfl
  | cons j r ih => simp only [jobsC, List.flatMap_cons, List.length_append, List.length_cons, jobCells] at ih ⊢; simp at ih ⊢; omega
theorem jobsC_at : ∀ (js : List JobD) (i c : Nat), i < js.length → c < 4 → (jobsC js)[i * 4 + c]? = (jobCells (js.getD i J0))[c]?
  | [], i, c, h, _ => by simp at h
  | j :: r, 0, c, _, hc => by
    simp only [jobsC, List.flatMap_cons, Nat.zero_mul, Nat.zero_add, List.getD_cons_zero]
    rw [List.getElem?_append_left (by simp [jobCells]; omega)]
  | j :: r, i + 1, c, h, hc => by
    have ih := jobsC_at r i c (by simpa using h) hc
    simp only [jobsC, List.flatMap_cons, List.getD_cons_succ] at ih ⊢
    rw [List.getElem?_append_right (by simp [jobCells]; omega), ← ih]
    congr 1
    simp [jobCells]; omega

/-- The slice reads as these jobs. -/
def RdJ (w : World) (v : Value) (js : List JobD) : Prop :=
  (∃ a cap, v = .slice a 0 cap ∧ cap ≤ maxLen ∧ js = []) ∨ ∃ b off cap, v = .slice (some ⟨b, off, none⟩) js.length cap ∧ js.length ≤ cap ∧ cap ≤ maxLen ∧ ∀ i, i < js.length → ∀ c u, (jobCells (js.getD i J0))[c]? = some u → w.cell? ⟨b, off + i * 4 + c, none⟩ = some u
def OwnJ (lo hi : Nat) (w : World) (v : Value) (js : List JobD) : Prop := w.ownsRow lo 49 4 v js.length (jobsC js) ∧ ∀ g, v.ownBlock = some g → g < hi
def bulkJ (js : List JobD) : Nat := js.length
def cntJ (js : List JobD) : Nat := js.length * 4

theorem RdJ.shape {w : World} {v : Value} {js : List JobD} (h : RdJ w v js) : ∃ a c, v = .slice a js.length c := by
  rcases h with ⟨a, cap, rfl, _, rfl⟩ | ⟨b, off, cap, rfl, _⟩
  · exact ⟨a, cap, rfl⟩
  · exact ⟨_, cap, rfl⟩
theorem RdJ.len {w : World} {v : Value} {js : List JobD} (h : RdJ w v js) : js.length ≤ maxLen := by
  rcases h with ⟨a, cap, rfl, _, rfl⟩ | ⟨b, off, cap, rfl, h1, h2, _⟩
  · simp [maxLen]
  · omega
theorem RdJ.at {w : World} {a : Option Addr} {n c : Nat} {js : List JobD} (h : RdJ w (.slice a n c) js) {i : Nat} (hi : i < js.length) :
    ∃ b off, a = some ⟨b, off, none⟩ ∧ b < w.heap.size ∧ w.cell? ⟨b, off + i * 4, none⟩ = some (.int .i64 (js.getD i J0).long) ∧ w.cell? ⟨b, off + i * 4 + 1, none⟩ = some (.int .i64 (js.getD i J0).due) ∧ w.cell? ⟨b, off + i * 4 + 2, none⟩ = some (.int .i64 (js.getD i J0).weight) ∧ w.cell? ⟨b, off + i * 4 + 3, none⟩ = some (.int .i64 (js.getD i J0).ready) := by
  rcases h with ⟨_, _, _, _, rfl⟩ | ⟨b, off, cap, e, _, _, hc⟩
  · simp at hi
  · simp only [Value.slice.injEq] at e
    obtain ⟨rfl, rfl, rfl⟩ := e
    have h0 := hc i hi 0 _ rfl
    exact ⟨b, off, rfl, cell_lt h0, h0, hc i hi 1 _ rfl, hc i hi 2 _ rfl, hc i hi 3 _ rfl⟩
theorem RdJ.up {w w' : World} {v : Value} {js : List JobD} {B : Nat} (h : RdJ w v js) (hb : Below B w w') (hB : w.heap.size ≤ B) : RdJ w' v js := by
  rcases h with h | ⟨b, off, cap, e, h1, h2, hc⟩
  · exact .inl h
  · exact .inr ⟨b, off, cap, e, h1, h2, fun i hi c u hu => held_of hb (hc i hi c u hu) hB⟩

theorem ownsK_below {w w' : World} {base B size : Nat} {e : TypeId} {v : Value} {n : Nat} {vs : List Value} (h : w.ownsRow base e size v n vs) (hb : Below B w w') (hB : w.heap.size ≤ B) : w'.ownsRow base e size v n vs := by
  refine ⟨h.1, ?_⟩
  rcases h.2 with h2 | ⟨g, cap, cur, hv, h3, hg, r⟩
  · exact .inl h2
  · exact .inr ⟨g, cap, cur, hv, h3, by rw [hb.block g (by have := lt_of_block hg; omega)]; exact hg, r⟩
theorem ownsK_base {w : World} {base base' size : Nat} {e : TypeId} {v : Value} {n : Nat} {vs : List Value} (h : w.ownsRow base e size v n vs) (hb : base' ≤ base) : w.ownsRow base' e size v n vs := by
  refine ⟨h.1, ?_⟩
  rcases h.2 with h2 | ⟨g, cap, cur, hv, h3, hg, r⟩
  · exact .inl h2
  · exact .inr ⟨g, cap, cur, hv, by omega, hg, r⟩
theorem ownsK_kept {S : Nat → Prop} {w w' : World} {base size : Nat} {e : TypeId} {v : Value} {n : Nat} {vs : List Value} (h : w.ownsRow base e size v n vs) (hk : Kept S w w') (hs : ∀ g, v.ownBlock = some g → ¬ S g) : w'.ownsRow base e size v n vs := by
  refine ⟨h.1, ?_⟩
  rcases h.2 with h2 | ⟨g, cap, cur, hv, h3, hg, r⟩
  · exact .inl h2
  · exact .inr ⟨g, cap, cur, hv, h3, by rw [hk.block g (lt_of_block hg) (hs g (by rw [hv]; rfl))]; exact hg, r⟩

theorem OwnJ.rd {lo hi : Nat} {w : World} {v : Value} {js : List JobD} (h : OwnJ lo hi w v js) : RdJ w v js := by
  rcases h.1.2 with ⟨rfl, e⟩ | ⟨g, cap, cur, rfl, hb, hg, hn, hm, hs, ht⟩
  · left; exact ⟨none, 0, rfl, by simp [maxLen], List.length_eq_zero_iff.1 e⟩
  · right
    refine ⟨g, 0, cap, rfl, hn, hm, fun i hi c u hu => ?_⟩
    have hc : c < 4 := by
      have := (List.getElem?_eq_some_iff.1 hu).1
      simpa [jobCells] using this
    have h1 := h.1.cellAt (i * 4 + c) (by omega)
    rw [jobsC_at js i c hi hc, hu] at h1
    simpa [Nat.add_assoc] using h1
theorem OwnJ.up {lo hi : Nat} {w w' : World} {v : Value} {js : List JobD} {B : Nat} (h : OwnJ lo hi w v js) (hb : Below B w w') (hB : w.heap.size ≤ B) : OwnJ lo hi w' v js := ⟨ownsK_below h.1 hb hB, h.2⟩
theorem OwnJ.wide {lo hi lo' hi' : Nat} {w : World} {v : Value} {js : List JobD} (h : OwnJ lo hi w v js) (h1 : lo' ≤ lo) (h2 : hi ≤ hi') : OwnJ lo' hi' w v js := ⟨ownsK_base h.1 h1, fun g hg => Nat.lt_of_lt_of_le (h.2 g hg) h2⟩
theorem OwnJ.kept {lo hi : Nat} {w w' : World} {v : Value} {js : List JobD} {S : Nat → Prop} (h : OwnJ lo hi w v js) (hk : Kept S w w') (hs : ∀ b, lo ≤ b → b < hi → ¬ S b) : OwnJ lo hi w' v js :=
  ⟨ownsK_kept h.1 hk fun g hg => hs g (h.1.lt g hg).1 (h.2 g hg), h.2⟩
theorem OwnJ.mk {lo : Nat} {w : World} {v : Value} {js : List JobD} (h : w.ownsRow lo 49 4 v js.length (jobsC js)) : OwnJ lo w.heap.size w v js := ⟨h, fun g hg => (h.lt g hg).2⟩

end Go.Proofs.YtggpbekclegfoaaDoor

namespace Go.Proofs.YtggpbekclegfoaaDoor
open Go.RowKit

def ICL : CaseD := ⟨⟨#[]⟩, ⟨0, []⟩, []⟩
/-- One of a list: its data, the values of its slices, and where they lie. -/
structure RowCL where
  d : CaseD
  a1 : Value
  a2 : Value
  l : Nat
  h : Nat
def cellsCL (r : RowCL) : List Value := [.string r.d.name, .int .i64 r.d.form.letters, r.a1, r.a2]
def aggCL (r : RowCL) : Value := .agg #[.string r.d.name, .int .i64 r.d.form.letters, r.a1, r.a2]
theorem cellsCL_len (r : RowCL) : (cellsCL r).length = 4 := rfl
def sumCL : List CaseD → Nat
  | [] => 0
  | z :: r => bulkCs z + sumCL r
theorem sumCL_append : ∀ (a b : List CaseD), sumCL (a ++ b) = sumCL a + sumCL b
  | [], b => by simp [sumCL]
  | z :: r, b => by simp only [List.cons_append, sumCL, sumCL_append r b]; omega
def bulkCL (ds : List CaseD) : Nat := ds.length + sumCL ds
theorem sumCL_take_succ (ds : List CaseD) (k : Nat) (hk : k < ds.length) : sumCL (ds.take (k + 1)) = sumCL (ds.take k) + bulkCs (ds.getD k ICL) := by
  rw [List.take_succ_eq_append_getElem hk, sumCL_append]
  simp [hk, sumCL]
theorem bulkCL_le (ds : List CaseD) (k : Nat) : sumCL (ds.take k) + ds.length ≤ bulkCL ds := by
  unfold bulkCL
  have : sumCL (ds.take k) + sumCL (ds.drop k) = sumCL ds := by rw [← sumCL_append, List.take_append_drop]
  omega

/-- The slice reads as these. -/
def RdCL (w : World) (v : Value) (ds : List CaseD) : Prop := (∃ a cap, v = .slice a 0 cap ∧ cap ≤ maxLen ∧ ds = []) ∨
  ∃ (b off cap : Nat) (rows : List RowCL), v = .slice (some ⟨b, off, none⟩) ds.length cap ∧ ds.length ≤ cap ∧ cap ≤ maxLen ∧ ds = rows.map (·.d) ∧
    ∀ (i : Nat) (r : RowCL), rows[i]? = some r → (∀ c u, (cellsCL r)[c]? = some u → w.cell? ⟨b, off + i * 4 + c, none⟩ = some u) ∧ RdCs w (aggCL r) r.d
def OwnECL (lo hi : Nat) (w : World) (rows : List RowCL) : Prop :=
  (∀ (i : Nat) (r : RowCL), rows[i]? = some r → OwnCs r.l r.h w (aggCL r) r.d ∧ lo ≤ r.l ∧ r.h ≤ hi) ∧ ∀ (i j : Nat) (r s : RowCL), i < j → rows[i]? = some r → rows[j]? = some s → r.h ≤ s.l
theorem RdCL.shape {w : World} {v : Value} {ds : List CaseD} (h : RdCL w v ds) : ∃ a c, v = .slice a ds.length c := by
  rcases h with ⟨a, cap, rfl, _, rfl⟩ | ⟨b, off, cap, rows, rfl, _⟩
  · exact ⟨a, cap, rfl⟩
  · exact ⟨_, cap, rfl⟩
theorem RdCL.len {w : World} {v : Value} {ds : List CaseD} (h : RdCL w v ds) : ds.length ≤ maxLen := by
  rcases h with ⟨a, cap, rfl, _, rfl⟩ | ⟨b, off, cap, rows, rfl, h1, h2, _⟩
  · simp [maxLen]
  · omega
theorem RdCL.up {w w' : World} {v : Value} {ds : List CaseD} {B : Nat} (h : RdCL w v ds) (hb : Below B w w') (hB : w.heap.size ≤ B) : RdCL w' v ds := by
  rcases h with h | ⟨b, off, cap, rows, e, h1, h2, h3, hc⟩
  · exact .inl h
  · exact .inr ⟨b, off, cap, rows, e, h1, h2, h3, fun i r hr => ⟨fun c u hu => held_of hb ((hc i r hr).1 c u hu) hB, (hc i r hr).2.up hb hB⟩⟩
theorem RdCL.at {w : World} {a : Option Addr} {n c : Nat} {ds : List CaseD} (h : RdCL w (.slice a n c) ds) {i : Nat} (hi : i < ds.length) :
    ∃ b off a1 a2, a = some ⟨b, off, none⟩ ∧ b < w.heap.size ∧ w.cell? ⟨b, off + i * 4, none⟩ = some (.string (ds.getD i ICL).name) ∧ w.cell? ⟨b, off + i * 4 + 1, none⟩ = some (.int .i64 (ds.getD i ICL).form.letters) ∧ w.cell? ⟨b, off + i * 4 + 2, none⟩ = some (a1) ∧ w.cell? ⟨b, off + i * 4 + 3, none⟩ = some (a2) ∧ RdCs w (.agg #[.string (ds.getD i ICL).name, .int .i64 (ds.getD i ICL).form.letters, a1, a2]) (ds.getD i ICL) := by
  rcases h with ⟨_, _, _, _, rfl⟩ | ⟨b, off, cap, rows, e, _, _, hd, hc⟩
  · simp at hi
  · simp only [Value.slice.injEq] at e
    obtain ⟨rfl, rfl, rfl⟩ := e
    have hir : i < rows.length := by rw [hd] at hi; simpa using hi
    have hg : ds.getD i ICL = rows[i].d := by rw [hd]; simp [hir]
    obtain ⟨h1, h2⟩ := hc i _ (List.getElem?_eq_getElem hir)
    rw [hg]
    have h0 := h1 0 _ rfl
    exact ⟨b, off, rows[i].a1, rows[i].a2, rfl, cell_lt h0, h0, h1 1 _ rfl, h1 2 _ rfl, h1 3 _ rfl, h2⟩

theorem OwnECL.up {lo hi : Nat} {w w' : World} {rows : List RowCL} {B : Nat} (h : OwnECL lo hi w rows) (hb : Below B w w') (hB : w.heap.size ≤ B) : OwnECL lo hi w' rows :=
  ⟨fun i r hr => ⟨(h.1 i r hr).1.up hb hB, (h.1 i r hr).2⟩, h.2⟩
theorem OwnECL.wide {lo hi lo' hi' : Nat} {w : World} {rows : List RowCL} (h : OwnECL lo hi w rows) (a : lo' ≤ lo) (b : hi ≤ hi') : OwnECL lo' hi' w rows :=
  ⟨fun i r hr => ⟨(h.1 i r hr).1, Nat.le_trans a (h.1 i r hr).2.1, Nat.le_trans (h.1 i r hr).2.2 b⟩, h.2⟩
theorem OwnECL.kept {lo hi : Nat} {w w' : World} {rows : List RowCL} {S : Nat → Prop} (h : OwnECL lo hi w rows) (hk : Kept S w w') (hs : ∀ (i : Nat) (r : RowCL), rows[i]? = some r → ∀ b, r.l ≤ b → b < r.h → ¬ S b) : OwnECL lo hi w' rows :=
  ⟨fun i r hr => ⟨(h.1 i r hr).1.kept hk (hs i r hr), (h.1 i r hr).2⟩, h.2⟩
end Go.Proofs.YtggpbekclegfoaaDoor

namespace Go.Proofs.YtggpbekclegfoaaDoor
open Go.RowKit

/-- The byte is a small letter. -/
def smallB (c : UInt8) : Bool := decide (97 ≤ c.toNat) && decide (c.toNat ≤ 122)
def nameB (s : ByteArray) : Bool := inB 1 8 s.size && allB s.size fun i => smallB (s.data.toList.getD i 0)

def litB (n x : Int) : Bool := decide (x ≠ 0) && inB (-n) n x
def okAt (n : Int) (xs : List Int) (i : Nat) : Bool := litB n (xs.getD i 0) && (decide (i = 0) || decide ((xs.getD (i - 1) 0).natAbs < (xs.getD i 0).natAbs))
def clauseB (n : Int) (xs : List Int) : Bool := inB 1 10 n && allB xs.length (okAt n xs)
/-- What the reference looks for first: literals of different letters. -/
def litAt (n : Int) (xs : List Int) (i : Nat) : Bool := litB n (xs.getD i 0) && allB i fun j => decide ((xs.getD j 0).natAbs ≠ (xs.getD i 0).natAbs)
def litsB (n : Int) (xs : List Int) : Bool := allB xs.length (litAt n xs)
def downAt (xs : List Int) (i : Nat) : Bool := decide (i = 0) || decide ((xs.getD (i - 1) 0).natAbs ≤ (xs.getD i 0).natAbs)

theorem clause_eq (n : Int) (xs : List Int) : (litsB n xs && allB xs.length (downAt xs)) = allB xs.length (okAt n xs) := by
  rw [Bool.eq_iff_iff, Bool.and_eq_true]
  unfold litsB
  rw [allB_iff, allB_iff, allB_iff]
  constructor
  · rintro ⟨h1, h2⟩ i hi
    have a := h1 i hi
    have b := h2 i hi
    unfold litAt at a
    unfold downAt at b
    unfold okAt
    rw [Bool.and_eq_true, allB_iff] at a
    rw [Bool.and_eq_true]
    refine ⟨a.1, ?_⟩
    rcases Nat.eq_zero_or_pos i with rfl | h0
    · simp
    · have c := a.2 (i - 1) (by omega)
      have hz : ¬ i = 0 := by omega
      simp only [hz, decide_false, Bool.false_or, decide_eq_true_eq] at b c ⊢
      omega
  · intro h
    have mono : ∀ d i, i < xs.length → d ≤ i → d ≠ 0 → (xs.getD (i - d) 0).natAbs < (xs.getD i 0).natAbs := by
      intro d
      induction d with
      | zero => intro i _ _ h; exact absurd rfl h
      | succ d ih =>
        intro i hi hd _
        have a := h (i - d) (by omega)
        unfold okAt at a
        rw [Bool.and_eq_true] at a
        have hz : ¬ i - d = 0 := by omega
        have a2 := a.2
        simp only [hz, decide_false, Bool.false_or, decide_eq_true_eq] at a2
        rw [show i - d - 1 = i - (d + 1) by omega] at a2
        by_cases h0 : d = 0
        · subst h0; exact a2
        · exact Nat.lt_trans a2 (ih i hi (by omega) h0)
    refine ⟨fun i hi => ?_, fun i hi => ?_⟩
    · unfold litAt
      rw [Bool.and_eq_true, allB_iff]
      have a := h i hi
      unfold okAt at a
      rw [Bool.and_eq_true] at a
      refine ⟨a.1, fun j hj => ?_⟩
      have := mono (i - j) i hi (by omega) (by omega)
      rw [show i - (i - j) = j by omega] at this
      simp only [decide_eq_true_eq]
      omega
    · unfold downAt
      rcases Nat.eq_zero_or_pos i with rfl | h0
      · simp
      · have := mono 1 i hi (by omega) (by omega)
        rw [Bool.or_eq_true, decide_eq_true_eq, decide_eq_true_eq]
        right; omega

def formB (f : FormD) : Bool := (inB 1 10 f.letters && decide (f.clauses.length ≤ 48)) && allB f.clauses.length fun i => clauseB f.letters (f.clauses.getD i [])
def caseB (c : CaseD) : Bool := (nameB c.name && (formB c.form && decide (c.proof.length ≤ 128))) && allB c.proof.length fun i => clauseB c.form.letters (c.proof.getD i [])

theorem litB_bd {n x : Int} (hn : inB 1 10 n = true) (h : litB n x = true) : -10 ≤ x ∧ x ≤ 10 ∧ x ≠ 0 := by
  unfold litB inB at h
  unfold inB at hn
  simp only [Bool.and_eq_true, decide_eq_true_eq] at h hn
  omega

end Go.Proofs.YtggpbekclegfoaaDoor

namespace Go.Proofs.YtggpbekclegfoaaDoor
open Go.RowKit

theorem wp_region_cls {P : Program} {id : Nat} {Q : Exit → Act → World → Prop} {a : Act} {w : World} {l : List Oper} (C : World → Prop) (hm : P.follows .mixedOrders = true) (hB : Region.lexB .any l.toArray = true) (hC : C w.drew)
    (h : wpQuiet P l.toArray C (fun a' => ∀ w', C w' → Q .normal a' w') l a) : (Code.region id l.toArray true).wp P Q a w :=
  wp_region_quiet (C := C) hm hB hC (by simpa using h)

theorem q_step {P : Program} {ops : Array Oper} {C : World → Prop} {Q : Act → Prop} {o : Oper} {rest : List Oper} {a : Act} (hw : Region.wanted o (yielded ops a.tmps) = true)
    (h : ∃ v, (∀ X, C X → o.quietAt P a C X v) ∧ wpQuiet P ops C Q rest (a.put o.dst v)) : wpQuiet P ops C Q (o :: rest) a :=
  wpQuiet_step fun _ hK => by obtain ⟨v, h1, h2⟩ := h; rw [if_pos hw]; exact ⟨v, h1, hK _ h2⟩

end Go.Proofs.YtggpbekclegfoaaDoor

namespace Go.Proofs.YtggpbekclegfoaaDoor
open Go.RowKit

theorem getD_str (s : ByteArray) (k : Nat) (h : k < s.size) : s.data.toList.getD k 0 = s[k] := by
  have h' : k < s.data.toList.length := by simpa using h
  rw [List.getD_eq_getElem?_getD, List.getElem?_eq_getElem h']
  rfl

end Go.Proofs.YtggpbekclegfoaaDoor

namespace Go.Proofs.YtggpbekclegfoaaDoor
open Go.RowKit

end Go.Proofs.YtggpbekclegfoaaDoor

namespace Go.Proofs.YtggpbekclegfoaaDoor
open Go.RowKit

def by8 (n : Int) : Int := IntKind.u8.wrap n
theorem by8_eq (n : Int) : by8 n = n % 256 := by unfold by8; rw [IntKind.wrap_u8]
def bytesOf (s : ByteArray) : List Int := s.data.toList.map fun b => (b.toNat : Int)
theorem bytesOf_len (s : ByteArray) : (bytesOf s).length = s.size := by unfold bytesOf; rw [List.length_map, Array.length_toList]; rfl
theorem strCells_bytes (s : ByteArray) : Lib.strCells s = (bytesOf s).map B8 := by unfold Lib.strCells bytesOf; rw [List.map_map]; rfl
def clauseBytes (c : List Int) : List Int := by8 c.length :: c.map by8
def clausesBytes (L : List (List Int)) : List Int := L.flatMap clauseBytes
def headBytes (c : CaseD) : List Int := [67, 65, 83, 49] ++ [by8 c.name.size] ++ bytesOf c.name ++ [by8 c.form.letters, by8 c.form.clauses.length, by8 c.proof.length]
def bodyBytes (c : CaseD) : List Int := headBytes c ++ clausesBytes (c.form.clauses ++ c.proof)
def chkL (a : Int) (l : List Int) : Int := l.foldl (fun a b => (907 * a + b + 179) % 65003) a
def storeBytes (c : CaseD) : List Int := bodyBytes c ++ [by8 (chkL 0 (bodyBytes c)), by8 (chkL 0 (bodyBytes c) / 256)]
def storeS (c : CaseD) : ByteArray := strOfNums (storeBytes c)

theorem chkL_bd : ∀ (l : List Int) (a : Int), 0 ≤ a → a < 65003 → 0 ≤ chkL a l ∧ chkL a l < 65003
  | [], a, h0, h1 => ⟨h0, h1⟩
  | b :: r, a, h0, h1 => by
    show 0 ≤ chkL ((907 * a + b + 179) % 65003) r ∧ _
    exact chkL_bd r _ (by omega) (by omega)
theorem chkL_snoc (a : Int) (l : List Int) (b : Int) : chkL a (l ++ [b]) = (907 * chkL a l + b + 179) % 65003 := by simp [chkL]

/-- A clause that is one has at most ten literals. -/
theorem clause_len {n : Int} {xs : List Int} (h : clauseB n xs = true) : xs.length ≤ 10 := by
  unfold clauseB at h
  simp only [Bool.and_eq_true] at h
  obtain ⟨hn, hall⟩ := h
  have hall' := allB_iff.1 hall
  have key : ∀ i, i < xs.length → i + 1 ≤ (xs.getD i 0).natAbs := by
    intro i
    induction i with
    | zero =>
      intro hi
      have := hall' 0 hi
      unfold okAt litB at this
      simp only [Bool.and_eq_true, decide_eq_true_eq] at this
      omega
    | succ i ih =>
      intro hi
      have h1 := ih (by omega)
      have := hall' (i + 1) hi
      unfold okAt at this
      simp only [Bool.and_eq_true, Bool.or_eq_true, decide_eq_true_eq, Nat.add_sub_cancel] at this
      omega
  by_cases h10 : xs.length ≤ 10
  · exact h10
  · exfalso
    have h1 := key 10 (by omega)
    have := hall' 10 (by omega)
    unfold okAt litB at this
    simp only [Bool.and_eq_true] at this
    have h2 := inB_iff.1 this.1.2
    have h3 := inB_iff.1 hn
    omega
theorem clausesBytes_len : ∀ (L : List (List Int)), (∀ c ∈ L, c.length ≤ 10) → (clausesBytes L).length ≤ 11 * L.length
  | [], _ => by simp [clausesBytes]
  | c :: r, h => by
    have ih := clausesBytes_len r (fun x hx => h x (List.mem_cons_of_mem _ hx))
    have h1 := h c (List.mem_cons_self ..)
    show (clauseBytes c ++ clausesBytes r).length ≤ _
    rw [List.length_append]
    simp only [clauseBytes, List.length_cons, List.length_map]
    omega
theorem case_parts {c : CaseD} (h : caseB c = true) : c.name.size ≤ 8 ∧ c.form.clauses.length ≤ 48 ∧ c.proof.length ≤ 128 ∧ (∀ x ∈ c.form.clauses ++ c.proof, clauseB c.form.letters x = true) ∧ inB 1 10 c.form.letters = true := by
  unfold caseB formB nameB at h
  simp only [Bool.and_eq_true, decide_eq_true_eq] at h
  obtain ⟨⟨⟨h1, _⟩, ⟨⟨h2, h3⟩, h4⟩, h5⟩, h6⟩ := h
  have h1' := inB_iff.1 h1
  refine ⟨by omega, h3, h5, ?_, h2⟩
  intro x hx
  rcases List.mem_append.1 hx with hx | hx
  · obtain ⟨i, hi, rfl⟩ := List.mem_iff_getElem.1 hx
    have := allB_iff.1 h4 i hi
    simpa [hi] using this
  · obtain ⟨i, hi, rfl⟩ := List.mem_iff_getElem.1 hx
    have := allB_iff.1 h6 i hi
    simpa [hi] using this
theorem body_len {c : CaseD} (h : caseB c = true) : (bodyBytes c).length ≤ 2000 := by
  obtain ⟨h1, h2, h3, h4, _⟩ := case_parts h
  have h5 := clausesBytes_len (c.form.clauses ++ c.proof) (fun x hx => clause_len (h4 x hx))
  rw [List.length_append] at h5
  unfold bodyBytes headBytes
  simp only [List.length_append, List.length_cons, List.length_nil, bytesOf_len]
  omega

/-- All are bytes. -/
def AllB (xs : List Int) : Prop := ∀ x ∈ xs, 0 ≤ x ∧ x < 256
theorem AllB.append {a b : List Int} (h : AllB a) (k : AllB b) : AllB (a ++ b) := fun x hx => by
  rcases List.mem_append.1 hx with h1 | h1
  · exact h x h1
  · exact k x h1
theorem by8_rng (n : Int) : 0 ≤ by8 n ∧ by8 n < 256 := by rw [by8_eq]; omega
theorem bytesOf_rng (s : ByteArray) : AllB (bytesOf s) := fun x hx => by
  obtain ⟨b, _, rfl⟩ := List.mem_map.1 hx
  have := b.toNat_lt
  omega
theorem clauses_rng (L : List (List Int)) : AllB (clausesBytes L) := fun x hx => by
  obtain ⟨c, _, h⟩ := List.mem_flatMap.1 hx
  rcases List.mem_cons.1 h with rfl | h
  · exact by8_rng _
  · obtain ⟨y, _, rfl⟩ := List.mem_map.1 h
    exact by8_rng _
theorem lit_rng (a b c d : Int) (h : (0 ≤ a ∧ a < 256) ∧ (0 ≤ b ∧ b < 256) ∧ (0 ≤ c ∧ c < 256) ∧ (0 ≤ d ∧ d < 256)) : AllB [a, b, c, d] := fun x hx => by
  simp only [List.mem_cons, List.not_mem_nil, or_false] at hx
  rcases hx with rfl | rfl | rfl | rfl
  · exact h.1
  · exact h.2.1
  · exact h.2.2.1
  · exact h.2.2.2
theorem one_rng (a : Int) (h : 0 ≤ a ∧ a < 256) : AllB [a] := fun x hx => by
  simp only [List.mem_cons, List.not_mem_nil, or_false] at hx
  subst hx; exact h
theorem three_rng (a b c : Int) (h : (0 ≤ a ∧ a < 256) ∧ (0 ≤ b ∧ b < 256) ∧ (0 ≤ c ∧ c < 256)) : AllB [a, b, c] := fun x hx => by
  simp only [List.mem_cons, List.not_mem_nil, or_false] at hx
  rcases hx with rfl | rfl | rfl
  · exact h.1
  · exact h.2.1
  · exact h.2.2
theorem body_rng (c : CaseD) : AllB (bodyBytes c) :=
  AllB.append (AllB.append (AllB.append (AllB.append (lit_rng _ _ _ _ (by omega)) (one_rng _ (by8_rng _))) (bytesOf_rng _)) (three_rng _ _ _ ⟨by8_rng _, by8_rng _, by8_rng _⟩)) (clauses_rng _)
theorem bytes_back (xs : List Int) (h : AllB xs) : bytesOf (strOfNums xs) = xs := by
  unfold bytesOf
  rw [strOfNums_data, List.map_map]
  have : ∀ (l : List Int), AllB l → l.map ((fun b : UInt8 => (b.toNat : Int)) ∘ fun n : Int => UInt8.ofNat n.toNat) = l := by
    intro l
    induction l with
    | nil => intro _; rfl
    | cons x r ih =>
      intro hl
      have h1 := hl x (List.mem_cons_self ..)
      rw [List.map_cons, ih (fun y hy => hl y (List.mem_cons_of_mem _ hy))]
      congr 1
      simp only [Function.comp, UInt8.toNat_ofNat']
      omega
  exact this xs h

theorem clausesBytes_snoc (L : List (List Int)) (k : Nat) (h : k < L.length) : clausesBytes (L.take (k + 1)) = clausesBytes (L.take k) ++ clauseBytes (L.getD k []) := by
  rw [List.take_succ_eq_append_getElem h]
  unfold clausesBytes
  rw [List.flatMap_append]
  simp [h]
theorem clauseBytes_take (c : List Int) (j : Nat) (h : j < c.length) : (clauseBytes c).take (j + 2) = (clauseBytes c).take (j + 1) ++ [by8 (c.getD j 0)] := by
  unfold clauseBytes
  simp only [List.take_succ_cons, List.cons_append]
  rw [List.take_succ_eq_append_getElem (show j < (c.map by8).length by simpa using h)]
  simp [h]

theorem Tryd.infoU8 : (Tryd.prog.info? 5).map (fun i => (i.zero, i.size, i.bytes)) = some (some (.int .u8 0), 1, 1) := by kernel_rfl
theorem b8_one (xs : List Int) : ∀ u ∈ xs.map B8, u.oneCell' = true := by
  intro u hu
  obtain ⟨x, _, rfl⟩ := List.mem_map.1 hu
  rfl

/-- Append of bytes to what the call owns; it may be nil. -/
theorem app_bytes {w : World} {ops : Array Oper} {rest : List Oper} {o : Oper} {a : Act} {Q : Exit → Act → World → Prop} (hgd : o.guard = none) (s x : Operand)
    (ho : o.op = .call { callee := .builtin .append, args := #[s, x], argTypes := #[90, 90] })
    (base : Nat) (v : Value) (n : Nat) (xs : List Int) (hs : a.eval s = v) (hown : w.ownsRow base 5 1 v n (xs.map B8))
    (sv : Value) (news : List Int) (hx : a.eval x = sv) (hsv : Slc w sv (news.map B8)) (m : Nat) (ys : List Int) (hm : m = n + news.length) (hys : ys = xs ++ news) (hlen : m ≤ 1099511627776) (hbase : base ≤ w.heap.size)
    (h : ∀ a' cap' w', w'.ownsRow base 5 1 (.slice a' m cap') m (ys.map B8) → Below base w w' → w.grownBy w' v.ownBlock → wpList Tryd.prog ops Q rest (a.put o.dst (.slice a' m cap')) w') :
    wpList Tryd.prog ops Q (o :: rest) a w := by
  obtain ⟨i0, hi, hz0, hz1, hz2⟩ := info_parts Tryd.infoU8
  subst hm hys
  refine wpList_append_slc hgd s x 90 ho base 5 i0 (.int .u8 0) 1 Tryd.underlying90 hi hz0 hz1 hz2 rfl v n (xs.map B8) hs hown sv (news.map B8) hx hsv (b8_one news) (by simp [maxLen]; omega) (by simp; omega) hbase ?_
  intro v' w' h1 h2 h3
  have h1' : w'.ownsRow base 5 1 v' (n + news.length) ((xs ++ news).map B8) := by simpa using h1
  obtain ⟨a', cap', rfl⟩ := owns_shape h1'
  exact h a' cap' w' h1' (below_grown hown hbase h2) h2
/-- Append of a string's bytes. -/
theorem app_strB {w : World} {ops : Array Oper} {rest : List Oper} {o : Oper} {a : Act} {Q : Exit → Act → World → Prop} (hgd : o.guard = none) (s x : Operand)
    (ho : o.op = .call { callee := .builtin .append, args := #[s, x], argTypes := #[90, 9] })
    (base : Nat) (v : Value) (n : Nat) (xs : List Int) (hs : a.eval s = v) (hown : w.ownsRow base 5 1 v n (xs.map B8))
    (str : ByteArray) (hx : a.eval x = .string str) (m : Nat) (ys : List Int) (hm : m = n + str.size) (hys : ys = xs ++ bytesOf str) (hlen : m ≤ 1099511627776) (hbase : base ≤ w.heap.size)
    (h : ∀ a' cap' w', w'.ownsRow base 5 1 (.slice a' m cap') m (ys.map B8) → Below base w w' → w.grownBy w' v.ownBlock → wpList Tryd.prog ops Q rest (a.put o.dst (.slice a' m cap')) w') :
    wpList Tryd.prog ops Q (o :: rest) a w := by
  obtain ⟨i0, hi, hz0, hz1, hz2⟩ := info_parts Tryd.infoU8
  subst hm hys
  refine Lib.wpList_append_own_string w hgd s x 90 9 ho base 5 i0 Tryd.underlying90 Tryd.underlying9 hi hz0 hz1 hz2 v n (xs.map B8) hs hown str hx (by simp [maxLen]; omega) (by omega) hbase ?_
  intro v' w' h1 h2 h3
  have h1' : w'.ownsRow base 5 1 v' (n + str.size) ((xs ++ bytesOf str).map B8) := by rw [List.map_append, ← strCells_bytes]; exact h1
  obtain ⟨a', cap', rfl⟩ := owns_shape h1'
  exact h a' cap' w' h1' (below_grown hown hbase h2) h2
/-- A new row of bytes. -/
theorem ownsB_lit (w : World) (xs : List Int) (n b : Nat) (cs : Array Value) (hcs : cs = (xs.map B8).toArray) (hn : xs.length = n) (h4 : n ≤ 4) (hb : b = w.heap.size) :
    (w.alloc (.cells cs 5)).ownsRow w.heap.size 5 1 (.slice (some ⟨b, 0, none⟩) n n) n (xs.map B8) := by
  subst hcs hb hn
  have h := World.ownsRow_lit (base := w.heap.size) (e := 5) (size := 1) w (xs.map B8).toArray xs.length (Nat.le_refl _) (by simp [maxLen]; omega) (by simp)
  simpa using h
theorem slcB_lit (w : World) (xs : List Int) (n b : Nat) (cs : Array Value) (hcs : cs = (xs.map B8).toArray) (hn : xs.length = n) (h4 : n ≤ 4) (hb : b = w.heap.size) :
    Slc (w.alloc (.cells cs 5)) (.slice (some ⟨b, 0, none⟩) n n) (xs.map B8) := slc_of_owns (ownsB_lit w xs n b cs hcs hn h4 hb)
/-- The row of a constant string's bytes, with its mark. -/
theorem slcB_mark (w : World) (xs : List Int) (n b p q : Nat) (cs : Array Value) (hcs : cs = (xs.map B8).toArray) (hn : xs.length = n) (h4 : n ≤ 4) (hb : b = w.heap.size) :
    Slc (w.alloc (.cells cs 5 (p, q))) (.slice (some ⟨b, 0, none⟩) n n) (xs.map B8) := by
  subst hcs hb hn
  right
  refine ⟨⟨w.heap.size, 0, none⟩, xs.length, by simp, by simp, by unfold maxLen; omega, fun i u hi => ?_⟩
  have h1 : (w.alloc (.cells (xs.map B8).toArray 5 (p, q))).heap[w.heap.size]? = some (.cells (xs.map B8).toArray 5 (p, q)) := heap_alloc_new w _
  have h2 : ((⟨w.heap.size, 0, none⟩ : Addr).add i) = ⟨w.heap.size, i, none⟩ := by unfold Addr.add; split <;> simp_all
  rw [h2]
  have h3 : ((xs.map B8).toArray)[i]? = some u := by simpa using hi
  simp only [World.cell?, h1]
  simpa using h3
/-- Append to a full row that is not the call's own: always into a new one. -/
theorem app_bytes_grow {w : World} {ops : Array Oper} {rest : List Oper} {o : Oper} {a : Act} {Q : Exit → Act → World → Prop} (hgd : o.guard = none) (s x : Operand)
    (ho : o.op = .call { callee := .builtin .append, args := #[s, x], argTypes := #[90, 90] })
    (base : Nat) (b : Nat) (n : Nat) (xs : List Int) (hs : a.eval s = .slice (some ⟨b, 0, none⟩) n n) (hold : Slc w (.slice (some ⟨b, 0, none⟩) n n) (xs.map B8))
    (g k : Nat) (news : List Int) (hx : a.eval x = .slice (some ⟨g, 0, none⟩) k k) (hsv : Slc w (.slice (some ⟨g, 0, none⟩) k k) (news.map B8)) (hk : 0 < k) (m : Nat) (ys : List Int) (hm : m = n + k) (hys : ys = xs ++ news) (hlen : m ≤ 1099511627776) (hbase : base ≤ w.heap.size)
    (h : ∀ a' cap' w', w'.ownsRow base 5 1 (.slice a' m cap') m (ys.map B8) → Below base w w' → wpList Tryd.prog ops Q rest (a.put o.dst (.slice a' m cap')) w') :
    wpList Tryd.prog ops Q (o :: rest) a w := by
  obtain ⟨i0, hi, hz0, hz1, hz2⟩ := info_parts Tryd.infoU8
  subst hm hys
  have h1 : ∀ j u, (xs.map B8)[j]? = some u → w.cell? ((⟨b, 0, none⟩ : Addr).add j) = some u := by
    rcases hold with ⟨e, _⟩ | ⟨ad, c, e, _, _, hc⟩
    · cases e
    · simp only [Value.slice.injEq, Option.some.injEq] at e
      obtain ⟨rfl, _, _⟩ := e
      exact hc
  have h2 : ∀ j u, (news.map B8)[j]? = some u → w.cell? ((⟨g, 0, none⟩ : Addr).add j) = some u := by
    rcases hsv with ⟨e, _⟩ | ⟨ad, c, e, _, _, hc⟩
    · cases e
    · simp only [Value.slice.injEq, Option.some.injEq] at e
      obtain ⟨rfl, _, _⟩ := e
      exact hc
  have l1 : (xs.map B8).length = n := by
    rcases hold with ⟨e, _⟩ | ⟨ad, c, e, _, _, hc⟩
    · cases e
    · simp only [Value.slice.injEq] at e; exact e.2.1.symm
  have l2 : (news.map B8).length = k := by
    rcases hsv with ⟨e, _⟩ | ⟨ad, c, e, _, _, hc⟩
    · cases e
    · simp only [Value.slice.injEq] at e; exact e.2.1.symm
  refine wpList_append_grows w hgd s x 90 ho 5 i0 (.int .u8 0) 1 1 Tryd.underlying90 hi hz0 hz1 hz2 rfl (by decide) (some ⟨b, 0, none⟩) n n (xs.map B8) hs (fun e => by cases e) (by rw [l1, Nat.mul_one]) (fun b' e => by cases e; exact h1) ⟨g, 0, none⟩ k k (news.map B8) hx (by rw [l2, Nat.mul_one]) h2 (b8_one news) (by omega) (by simp [maxLen]; omega) (by omega) ?_
  intro v' w' r1 r2
  have r1' : w'.ownsRow base 5 1 v' (n + k) ((xs ++ news).map B8) := by rw [List.map_append]; exact owns_base r1 hbase
  obtain ⟨a', cap', rfl⟩ := owns_shape r1'
  exact h a' cap' w' r1' ((Below.refl _ _).grown r2 hbase (by intro k hk; cases hk))
/-- Bytes as a string. -/
theorem conv_bytes {w : World} {base n cap : Nat} {a : Option Addr} {xs : List Int} (h : w.ownsRow base 5 1 (.slice a n cap) n (xs.map B8)) (h0 : 0 < n) :
    (convert 90 9 (.slice a n cap)).run Tryd.prog w = .ok (.string (strOfNums xs)) w := by
  have hl : xs.length = n := by have := h.1; simpa using this
  obtain ⟨g, cap', e, _⟩ := owns_some h (by intro e; cases e; omega)
  simp only [Value.slice.injEq, true_and] at e
  obtain ⟨rfl, rfl⟩ := e
  refine run_convert_bytes_arg (P := Tryd.prog) w 90 5 Tryd.underlying90 Tryd.underlying5 g 0 n cap xs hl (fun i hi => ?_) 9 Tryd.underlying9
  obtain ⟨b, off, e, _, hc⟩ := (show RdB w (.slice (some ⟨g, 0, none⟩) xs.length cap) xs by rw [hl]; exact slc_of_owns h).at (i := i) (by omega)
  simp only [Option.some.injEq, Addr.mk.injEq, and_true] at e
  obtain ⟨rfl, rfl⟩ := e
  exact hc

end Go.Proofs.YtggpbekclegfoaaDoor

namespace Go.Proofs.YtggpbekclegfoaaDoor
open Go.RowKit

theorem bytesOf_get (s : ByteArray) (k : Nat) (h : k < s.size) : (bytesOf s)[k]? = some (s[k].toNat : Int) := by
  have hk : k < s.data.toList.length := by rw [Array.length_toList]; exact h
  have e : s.data.toList[k]? = some s[k] := by
    rw [List.getElem?_eq_getElem hk, Array.getElem_toList]; rfl
  unfold bytesOf
  rw [List.getElem?_map, e]
  rfl
theorem bytesOf_take (s : ByteArray) (k : Nat) (h : k < s.size) : (bytesOf s).take (k + 1) = (bytesOf s).take k ++ [(s[k].toNat : Int)] := by
  rw [List.take_add_one, bytesOf_get s k h]
  rfl

end Go.Proofs.YtggpbekclegfoaaDoor

namespace Go.Proofs.YtggpbekclegfoaaDoor
open Go.RowKit

def digI (n : Nat) : List Int := (Lib.decDigits n).map fun b => (b.toNat : Int)
def decS (n : Nat) : ByteArray := ⟨(Lib.decDigits n).toArray⟩
theorem digI_step (m : Nat) : digI m = (if m / 10 = 0 then [] else digI (m / 10)) ++ [48 + ((m % 10 : Nat) : Int)] := by
  unfold digI
  rw [Lib.decDigits]
  by_cases h : m < 10
  · rw [dif_pos h, if_pos (by omega)]
    have : m % 10 = m := Nat.mod_eq_of_lt h
    simp [this]
    omega
  · rw [dif_neg h, if_neg (by omega), List.map_append]
    have : m % 10 < 10 := Nat.mod_lt _ (by omega)
    simp
    omega
theorem digI_ne (m : Nat) : digI m ≠ [] := by rw [digI_step]; simp
theorem digI_len : ∀ (k n : Nat), n < 10 ^ (k + 1) → (digI n).length ≤ k + 1
  | 0, n, h => by
    rw [digI_step, if_pos (by omega)]; simp
  | k + 1, n, h => by
    rw [digI_step]
    split
    · simp
    · have := digI_len k (n / 10) (by rw [Nat.pow_succ] at h; omega)
      simp; omega
theorem digI_len20 {n : Nat} (h : n < 1000000000000000000) : (digI n).length ≤ 18 := digI_len 17 n h
theorem digI_rng (n : Nat) : ∀ x ∈ digI n, 0 ≤ x ∧ x < 256 := by
  intro x hx
  obtain ⟨b, _, rfl⟩ := List.mem_map.1 hx
  have := b.toNat_lt
  omega
theorem bytesOf_decS (n : Nat) : bytesOf (decS n) = digI n := rfl
theorem decS_of (n : Nat) : strOfNums (digI n) = decS n := by
  unfold strOfNums digI decS
  congr 2
  rw [List.map_map]
  conv => rhs; rw [← List.map_id (Lib.decDigits n)]
  refine List.map_congr_left fun b _ => ?_
  simp
theorem decS_size {n : Nat} (h : n < 1000000000000000000) : (decS n).size ≤ 18 := by rw [← bytesOf_len, bytesOf_decS]; exact digI_len20 h
theorem decS_pos (n : Nat) : 1 ≤ (decS n).size := by
  rw [← bytesOf_len, bytesOf_decS]
  cases h : digI n with
  | nil => exact absurd h (digI_ne n)
  | cons a l => simp

theorem below_grow {B : Nat} {w a : World} (h : Below B w a) (os : Array Obj) (hB : B ≤ a.heap.size) : Below B w (Sort.grow a os) :=
  ⟨h.os, h.tape, h.output, Nat.le_trans h.size (by simp [Sort.grow]), fun k hk => (by
    show (a.heap ++ os)[k]? = _
    rw [Array.getElem?_append_left (by omega)]
    exact h.block k hk)⟩

def HasPow (w : World) : Prop := Lib.TabIs Tryd.prog w "internal/strconv.uint64pow10" .u64 Lib.pow10Tab

theorem Decimal_any (n : Nat) (hn : n < 1000000000000000000) (w : World) (htab : HasPow w) :
    Calls Tryd.prog 36 #[.int .i64 n] w fun e w' => e = .returned (.string (decS n)) ∧ Below w.heap.size w w' := by
  have hcon := Tryd.strconv_FormatInt_10 n (by omega) (by omega) w htab
  have hi : (⟨(Lib.itoa n).toArray⟩ : ByteArray) = decS n := by
    unfold Lib.itoa decS
    rw [if_neg (by omega), Int.toNat_natCast]
  rw [hi] at hcon
  clear hi htab
  go_enter Tryd.func36, Tryd.ntmps36
  go_wp2_with (go_at_call 61; refine hcon.mono ?_; rintro e w' ⟨rfl, k, os, rfl⟩)
  go_ret
  exact ⟨rfl, below_grow (below_drewN (Below.refl _ _) _) _ (Nat.le_refl _)⟩

set_option maxHeartbeats 2000000 in
set_option maxRecDepth 4000 in
theorem l01Dec_any (n : Nat) (hn : n < 1000000000000000000) (w : World) :
    Calls Tryd.prog 58 #[.int .i64 n] w fun e w' => e = .returned (.string (decS n)) ∧ Below w.heap.size w w' := by
  have HL := Lib.hid (digI_len20 hn)
  have HS := Lib.hid (decS_of n)
  go_enter Tryd.func58, Tryd.ntmps58
  go_upto_region 3 with fail
  refine wp_at fun W1 hW1 => ?_
  have HO0 := Lib.hid (show W1.ownsRow w.heap.size 5 1 (.slice (some ⟨w.heap.size, 0, none⟩) 0 0) 0 (([] : List Int).map B8) by subst hW1; exact ownsB_lit w [] 0 w.heap.size #[] rfl rfl (by omega) rfl)
  have HB0 := Lib.hid (show Below w.heap.size w W1 by subst hW1; exact (Below.refl _ _).alloc (Nat.le_refl _) _)
  clear hW1
  go_loopw [3, 4] (fun ov rv wr => ∃ (m k : Nat) (L : List Int) (a : Option Addr) (cap : Nat), ov = .slice a k cap ∧ rv = .int .i64 m ∧ k ≤ 18 ∧ m ≤ n ∧ Hid (L.length = k) ∧ Hid (wr.ownsRow w.heap.size 5 1 (.slice a k cap) k (L.map B8)) ∧ Hid ((L = [] ∧ m = n) ∨ (L ≠ [] ∧ digI n = (if m = 0 then [] else digI m) ++ L)) ∧ Hid (Below w.heap.size w wr)) (fun ov rv _ => (intOf rv).toNat * 2 + (match ov with | .slice _ 0 _ => 1 | _ => 0))
  case atStart => exact ⟨n, 0, [], _, _, rfl, rfl, by omega, Nat.le_refl _, Lib.hid rfl, HO0, Lib.hid (.inl ⟨rfl, rfl⟩), HB0⟩
  case round =>
    clear HO0 HB0
    obtain ⟨m, k, L, a, cap, rfl, rfl, hk, hm, HK, HO, HD, HB⟩ := hrel
    by_cases hgo : k = 0 ∨ m ≠ 0
    · have HST := Lib.hid (show digI n = (if m / 10 = 0 then [] else digI (m / 10)) ++ ([48 + ((m % 10 : Nat) : Int)] ++ L) by
        rcases HD.out with ⟨h1, h2⟩ | ⟨h1, h2⟩
        · subst h1 h2
          exact digI_step m
        · have hm0 : m ≠ 0 := by
            rcases hgo with h | h
            · exact absurd (List.length_eq_zero_iff.1 (HK.out.trans h)) h1
            · exact h
          rw [h2, if_neg hm0, digI_step m, List.append_assoc])
      have HK1 := Lib.hid (show k + 1 ≤ 18 by
        have h1 := HL.out
        rw [HST.out] at h1
        have h2 := HK.out
        simp only [List.length_append, List.length_cons, List.length_nil] at h1
        omega)
      have hwq : ((m : Int)).tdiv 10 = ((m / 10 : Nat) : Int) := by rw [Int.tdiv_eq_ediv_of_nonneg (by omega)]; omega
      have hwr : ((m : Int)).tmod 10 = ((m % 10 : Nat) : Int) := by rw [Int.tmod_eq_emod_of_nonneg (by omega)]; omega
      have hr10 : m % 10 < 10 := Nat.mod_lt _ (by omega)
      have hq10 : m / 10 ≤ m := Nat.div_le_self _ _
      have HMQ := Lib.hid (show m ≠ 0 → m / 10 < m from fun h => Nat.div_lt_self (by omega) (by omega))
      obtain ⟨r, hr⟩ : ∃ r, r = m % 10 := ⟨_, rfl⟩
      obtain ⟨q, hq⟩ : ∃ q, q = m / 10 := ⟨_, rfl⟩
      rw [← hr] at hwr hr10 HST
      rw [← hq] at hwq hq10 HST HMQ
      clear hr hq
      have hrn : ¬ ((r : Int) < 0) := by omega
      have hwb : IntKind.u8.wrap (48 + (r : Int)) = 48 + (r : Int) := by simp [IntKind.wrap, IntKind.bits, IntKind.signed]; omega
      have hsz := HB.out.size
      rcases (show k = 0 ∨ (k ≠ 0 ∧ m ≠ 0) by omega) with hk0 | ⟨hk0, hm0⟩
      · subst hk0
        go_wp2_with (at_builtin; refine app_bytes rfl _ _ rfl w.heap.size _ 1 [48 + (r : Int)] rfl (owns_base (ownsB_lit wr [48 + (r : Int)] 1 _ _ rfl rfl (by omega) rfl) hsz) _ L rfl (slc_of_owns (owns_below HO.out ((Below.refl _ _).alloc (Nat.le_refl _) _) (Nat.le_refl _))) (0 + 1) ([48 + (r : Int)] ++ L) (by have := HK.out; omega) rfl (by omega) (by simp; omega) ?_; intro a' cap' w' r1 r2 _)
        go_roundw
        case rel => exact ⟨q, 0 + 1, [48 + (r : Int)] ++ L, a', cap', rfl, by go_num, HK1.out, by omega, Lib.hid (by have := HK.out; rw [List.length_append, this]; simp; try omega), Lib.hid r1, Lib.hid (.inr ⟨by simp, HST.out⟩), Lib.hid ((HB.out.alloc hsz _).trans r2)⟩
        case measure => simp [intOf]; omega
      · have hkI : ((k : Int) == 0) = false := by simp; omega
        have hmI : ((m : Int) != 0) = true := by simp; omega
        go_wp2_with (at_builtin; refine app_bytes rfl _ _ rfl w.heap.size _ 1 [48 + (r : Int)] rfl (owns_base (ownsB_lit wr [48 + (r : Int)] 1 _ _ rfl rfl (by omega) rfl) hsz) _ L rfl (slc_of_owns (owns_below HO.out ((Below.refl _ _).alloc (Nat.le_refl _) _) (Nat.le_refl _))) (k + 1) ([48 + (r : Int)] ++ L) (by have := HK.out; omega) rfl (by omega) (by simp; omega) ?_; intro a' cap' w' r1 r2 _)
        go_roundw
        case rel => exact ⟨q, k + 1, [48 + (r : Int)] ++ L, a', cap', by go_num, by go_num, HK1.out, by omega, Lib.hid (by have := HK.out; rw [List.length_append, this]; simp; try omega), Lib.hid r1, Lib.hid (.inr ⟨by simp, HST.out⟩), Lib.hid ((HB.out.alloc hsz _).trans r2)⟩
        case measure => have := HMQ.out hm0; simp [intOf]; omega
    · obtain ⟨hk0, rfl⟩ : k ≠ 0 ∧ m = 0 := by omega
      have hkI : ((k : Int) == 0) = false := by simp; omega
      have HE := Lib.hid (show L = digI n by
        rcases HD.out with ⟨h1, h2⟩ | ⟨h1, h2⟩
        · exact absurd (by rw [← HK.out, h1]; rfl) hk0
        · rw [h2, if_pos rfl, List.nil_append])
      have hn0 : ¬ ((n : Int) < 0) := by omega
      have hcv := conv_bytes HO.out (by omega)
      rw [HE.out, HS.out] at hcv
      go_wp2_with fail
      go_ret
      exact ⟨rfl, HB.out⟩

end Go.Proofs.YtggpbekclegfoaaDoor
