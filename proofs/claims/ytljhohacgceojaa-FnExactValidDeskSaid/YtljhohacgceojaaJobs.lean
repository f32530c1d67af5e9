/-
  Jobs: rows of four numbers each.
-/
import Derived.Test.YtljhohacgceojaaMarkI
namespace Go.Proofs.Ytljhohacgceojaa
open Go.RowKit

structure JobD where
  long : Int
  due : Int
  weight : Int
  ready : Int
def J0 : JobD := ⟨0, 0, 0, 0⟩
def jobCells (j : JobD) : List Value := [I64 j.long, I64 j.due, I64 j.weight, I64 j.ready]
def jobsC (js : List JobD) : List Value := js.flatMap jobCells
theorem jobsC_len (js : List JobD) : (jobsC js).length = js.length * 4 := by
  induction js with
  | nil => rfl
  | cons j r ih => simp only [jobsC, List.flatMap_cons, List.length_append, List.length_cons, jobCells] at ih ⊢; simp at ih ⊢; omega
theorem jobsC_at : ∀ (js : List JobD) (i c : Nat), i < js.length → c < 4 → (jobsC js)[i * 4 + c]? = (jobCells (js.getD i J0))[c]?
  | [], i, c, h, _ => by simp at h
  | j :: r, 0, c, _, hc => by
    simp only [jobsC, List.flatMap_cons, Nat.zero_mul, Nat.zero_add, List.getD_cons_zero]
    rw [List.getElem?_append_left (by simp [jobCells]; omega)]
  | j :: r, i + 1, c, h, hc => by
    have ih := jobsC_at r i c (by simpa using h) hc
    simp only [jobsC, List.flatMap_cons, List.getD_cons_succ] at ih ⊢
    rw [List.getElem?_append_right (by simp [jobCells]; omega), ← ih]
    congr 1
    simp [jobCells]; omega

/-- The slice reads as these jobs. -/
def RdJ (w : World) (v : Value) (js : List JobD) : Prop :=
  (∃ a cap, v = .slice a 0 cap ∧ cap ≤ maxLen ∧ js = []) ∨ ∃ b off cap, v = .slice (some ⟨b, off, none⟩) js.length cap ∧ js.length ≤ cap ∧ cap ≤ maxLen ∧ ∀ i, i < js.length → ∀ c u, (jobCells (js.getD i J0))[c]? = some u → w.cell? ⟨b, off + i * 4 + c, none⟩ = some u
def OwnJ (lo hi : Nat) (w : World) (v : Value) (js : List JobD) : Prop := w.ownsRow lo 107 4 v js.length (jobsC js) ∧ ∀ g, v.ownBlock = some g → g < hi
def bulkJ (js : List JobD) : Nat := js.length
def cntJ (js : List JobD) : Nat := js.length * 4

theorem RdJ.shape {w : World} {v : Value} {js : List JobD} (h : RdJ w v js) : ∃ a c, v = .slice a js.length c := by
  rcases h with ⟨a, cap, rfl, _, rfl⟩ | ⟨b, off, cap, rfl, _⟩
  · exact ⟨a, cap, rfl⟩
  · exact ⟨_, cap, rfl⟩
theorem RdJ.len {w : World} {v : Value} {js : List JobD} (h : RdJ w v js) : js.length ≤ maxLen := by
  rcases h with ⟨a, cap, rfl, _, rfl⟩ | ⟨b, off, cap, rfl, h1, h2, _⟩
  · simp [maxLen]
  · omega
theorem RdJ.at {w : World} {a : Option Addr} {n c : Nat} {js : List JobD} (h : RdJ w (.slice a n c) js) {i : Nat} (hi : i < js.length) :
    ∃ b off, a = some ⟨b, off, none⟩ ∧ b < w.heap.size ∧ w.cell? ⟨b, off + i * 4, none⟩ = some (.int .i64 (js.getD i J0).long) ∧ w.cell? ⟨b, off + i * 4 + 1, none⟩ = some (.int .i64 (js.getD i J0).due) ∧ w.cell? ⟨b, off + i * 4 + 2, none⟩ = some (.int .i64 (js.getD i J0).weight) ∧ w.cell? ⟨b, off + i * 4 + 3, none⟩ = some (.int .i64 (js.getD i J0).ready) := by
  rcases h with ⟨_, _, _, _, rfl⟩ | ⟨b, off, cap, e, _, _, hc⟩
  · simp at hi
  · simp only [Value.slice.injEq] at e
    obtain ⟨rfl, rfl, rfl⟩ := e
    have h0 := hc i hi 0 _ rfl
    exact ⟨b, off, rfl, cell_lt h0, h0, hc i hi 1 _ rfl, hc i hi 2 _ rfl, hc i hi 3 _ rfl⟩
theorem RdJ.up {w w' : World} {v : Value} {js : List JobD} {B : Nat} (h : RdJ w v js) (hb : Below B w w') (hB : w.heap.size ≤ B) : RdJ w' v js := by
  rcases h with h | ⟨b, off, cap, e, h1, h2, hc⟩
  · exact .inl h
  · exact .inr ⟨b, off, cap, e, h1, h2, fun i hi c u hu => held_of hb (hc i hi c u hu) hB⟩

theorem ownsK_below {w w' : World} {base B size : Nat} {e : TypeId} {v : Value} {n : Nat} {vs : List Value} (h : w.ownsRow base e size v n vs) (hb : Below B w w') (hB : w.heap.size ≤ B) : w'.ownsRow base e size v n vs := by
  refine ⟨h.1, ?_⟩
  rcases h.2 with h2 | ⟨g, cap, cur, hv, h3, hg, r⟩
  · exact .inl h2
  · exact .inr ⟨g, cap, cur, hv, h3, by rw [hb.block g (by have := lt_of_block hg; omega)]; exact hg, r⟩
theorem ownsK_base {w : World} {base base' size : Nat} {e : TypeId} {v : Value} {n : Nat} {vs : List Value} (h : w.ownsRow base e size v n vs) (hb : base' ≤ base) : w.ownsRow base' e size v n vs := by
  refine ⟨h.1, ?_⟩
  rcases h.2 with h2 | ⟨g, cap, cur, hv, h3, hg, r⟩
  · exact .inl h2
  · exact .inr ⟨g, cap, cur, hv, by omega, hg, r⟩
theorem ownsK_kept {S : Nat → Prop} {w w' : World} {base size : Nat} {e : TypeId} {v : Value} {n : Nat} {vs : List Value} (h : w.ownsRow base e size v n vs) (hk : Kept S w w') (hs : ∀ g, v.ownBlock = some g → ¬ S g) : w'.ownsRow base e size v n vs := by
  refine ⟨h.1, ?_⟩
  rcases h.2 with h2 | ⟨g, cap, cur, hv, h3, hg, r⟩
  · exact .inl h2
  · exact .inr ⟨g, cap, cur, hv, h3, by rw [hk.block g (lt_of_block hg) (hs g (by rw [hv]; rfl))]; exact hg, r⟩

theorem OwnJ.rd {lo hi : Nat} {w : World} {v : Value} {js : List JobD} (h : OwnJ lo hi w v js) : RdJ w v js := by
  rcases h.1.2 with ⟨rfl, e⟩ | ⟨g, cap, cur, rfl, hb, hg, hn, hm, hs, ht⟩
  · left; exact ⟨none, 0, rfl, by simp [maxLen], List.length_eq_zero_iff.1 e⟩
  · right
    refine ⟨g, 0, cap, rfl, hn, hm, fun i hi c u hu => ?_⟩
    have hc : c < 4 := by
      have := (List.getElem?_eq_some_iff.1 hu).1
      simpa [jobCells] using this
    have h1 := h.1.cellAt (i * 4 + c) (by omega)
    rw [jobsC_at js i c hi hc, hu] at h1
    simpa [Nat.add_assoc] using h1
theorem OwnJ.up {lo hi : Nat} {w w' : World} {v : Value} {js : List JobD} {B : Nat} (h : OwnJ lo hi w v js) (hb : Below B w w') (hB : w.heap.size ≤ B) : OwnJ lo hi w' v js := ⟨ownsK_below h.1 hb hB, h.2⟩
theorem OwnJ.wide {lo hi lo' hi' : Nat} {w : World} {v : Value} {js : List JobD} (h : OwnJ lo hi w v js) (h1 : lo' ≤ lo) (h2 : hi ≤ hi') : OwnJ lo' hi' w v js := ⟨ownsK_base h.1 h1, fun g hg => Nat.lt_of_lt_of_le (h.2 g hg) h2⟩
theorem OwnJ.kept {lo hi : Nat} {w w' : World} {v : Value} {js : List JobD} {S : Nat → Prop} (h : OwnJ lo hi w v js) (hk : Kept S w w') (hs : ∀ b, lo ≤ b → b < hi → ¬ S b) : OwnJ lo hi w' v js :=
  ⟨ownsK_kept h.1 hk fun g hg => hs g (h.1.lt g hg).1 (h.2 g hg), h.2⟩
theorem OwnJ.mk {lo : Nat} {w : World} {v : Value} {js : List JobD} (h : w.ownsRow lo 107 4 v js.length (jobsC js)) : OwnJ lo w.heap.size w v js := ⟨h, fun g hg => (h.lt g hg).2⟩

end Go.Proofs.Ytljhohacgceojaa
