/-
  Choices: all of them, counted, the first one; by the reference and by the program.
-/
import Derived.Test.YtkmbkjbammpdhaaChoices
import Derived.Test.YtkmbkjbammpdhaaPredI
namespace Go.Proofs.Ytkmbkjbammpdhaa
open Go.RowKit

/-- All choices. -/
def allC (D : List (List Int)) : List (List Int) := choi D D.length []

theorem Try.infoBools : (Try.prog.info? 132).map (fun i => (i.zero, i.size, i.bytes)) = some (some (.slice none 0 0), 1, 24) := by kernel_rfl
theorem Try.infoBool : (Try.prog.info? 4).map (fun i => (i.zero, i.size, i.bytes)) = some (some (.bool false), 1, 1) := by kernel_rfl

/-- The rows of marks as they are built. -/
def rowsV (D : List (List Int)) (gs : Nat → Nat) (k : Nat) : List Value := (List.range k).map fun i => .slice (some ⟨gs i, 0, none⟩) (D.getD i []).length (D.getD i []).length
def Built (D : List (List Int)) (lo : Nat) (w : World) (v : Value) (k : Nat) : Prop :=
  ∃ gs : Nat → Nat, w.ownsRow lo 132 1 v k (rowsV D gs k) ∧ ∀ i, i < k → lo ≤ gs i ∧ (∀ j, j < k → j ≠ i → gs j ≠ gs i) ∧ w.rowIs (gs i) 4 (D.getD i []).length (fun _ => .bool false)
theorem Built.marks {D : List (List Int)} {lo : Nat} {w : World} {v : Value} (h : Built D lo w v D.length) (h1 : 1 ≤ D.length) : Marks lo w.heap.size w v D (fun _ _ => false) := by
  obtain ⟨gs, ho, hr⟩ := h
  have hn : v ≠ .slice none 0 0 := by
    rintro rfl
    rcases ho.2 with ⟨_, e⟩ | ⟨g, cap, cur, e, _⟩
    · omega
    · simp at e
  obtain ⟨g, cap, rfl, hg1, hg2⟩ := owns_some ho hn
  refine ⟨g, cap, gs, fun i => (D.getD i []).length, rfl, hg1, hg2, hg2, fun i hi => ?_⟩
  obtain ⟨a1, a2, a3⟩ := hr i hi
  refine ⟨?_, a1, a3.lt, ?_, a2, a3⟩
  · have := ho.cellAt i (by omega)
    rw [this]
    simp [rowsV, hi]
  · rintro rfl
    rcases ho.2 with ⟨e, _⟩ | ⟨g', cap', cur, e, _, hh, _⟩
    · simp at e
    · simp only [Value.slice.injEq, Option.some.injEq, Addr.mk.injEq, and_true] at e
      obtain ⟨rfl, _⟩ := e
      obtain ⟨c, hb, _, _⟩ := a3
      rw [hh] at hb
      simp at hb

theorem slc_lit (w : World) (b : Nat) (hb : b = w.heap.size) (t : TypeId) (u : Value) : Slc (w.alloc (.cells #[u] t)) (.slice (some ⟨b, 0, none⟩) 1 1) [u] := by
  subst hb
  exact slc_of_owns (World.ownsRow_lit (base := w.heap.size) (e := t) (size := 1) w #[u] 1 (Nat.le_refl _) (by simp [maxLen]) rfl)
theorem row_not_owned {w : World} {g n base m : Nat} {t e : TypeId} {f : Nat → Value} {v : Value} {vs : List Value} (h : w.rowIs g t n f) (ho : w.ownsRow base e 1 v m vs) (hte : t ≠ e) : v.ownBlock ≠ some g := by
  rcases ho.2 with ⟨rfl, _⟩ | ⟨g', cap, cur, rfl, _, hh, _⟩
  · simp [Value.ownBlock]
  · intro e2
    simp only [Value.ownBlock, Option.some.injEq] at e2
    subst e2
    obtain ⟨c, hb, _⟩ := h
    rw [hh] at hb
    simp only [Option.some.injEq, Obj.cells.injEq] at hb
    exact hte hb.2.1.symm
theorem rowsV_succ (D : List (List Int)) (gs : Nat → Nat) (k g n : Nat) (hn : n = (D.getD k []).length) : rowsV D (fun i => if i = k then g else gs i) (k + 1) = rowsV D gs k ++ [.slice (some ⟨g, 0, none⟩) n n] := by
  subst hn
  unfold rowsV
  rw [List.range_succ, List.map_append]
  congr 1
  · apply List.map_congr_left
    intro i hi
    have := List.mem_range.1 hi
    simp [show i ≠ k by omega]
  · simp
theorem Built.next {D : List (List Int)} {lo k n : Nat} {w w1 w3 : World} {v v3 : Value} {gs : Nat → Nat} (hn : n = (D.getD k []).length) (h : w.ownsRow lo 132 1 v k (rowsV D gs k))
    (hr : ∀ i, i < k → lo ≤ gs i ∧ (∀ j, j < k → j ≠ i → gs j ≠ gs i) ∧ w.rowIs (gs i) 4 (D.getD i []).length (fun _ => .bool false)) (hlo : lo ≤ w.heap.size)
    (h1 : ∀ i, i < w.heap.size → w1.heap[i]? = w.heap[i]?) (hsz : w.heap.size < w1.heap.size) (hk : w1.rowIs w.heap.size 4 n (fun _ => .bool false)) (hg : w1.grownBy w3 v.ownBlock)
    (h3 : w3.ownsRow lo 132 1 v3 (k + 1) (rowsV D gs k ++ [.slice (some ⟨w.heap.size, 0, none⟩) n n])) : Built D lo w3 v3 (k + 1) := by
  refine ⟨fun i => if i = k then w.heap.size else gs i, by rw [rowsV_succ D gs k _ n hn]; exact h3, fun i hi => ?_⟩
  have key : ∀ j, j < k → gs j < w.heap.size := fun j hj => (hr j hj).2.2.lt
  by_cases e : i = k
  · subst e
    simp only [if_true]
    refine ⟨hlo, fun j hj hne => ?_, ?_⟩
    · rw [if_neg hne]; have := key j (by omega); omega
    · rw [← hn]
      refine hk.of_block (hg.block _ hsz ?_)
      intro e2
      have := (owns_lt h e2.symm).2
      omega
  · simp only [if_neg e]
    obtain ⟨a1, a2, a3⟩ := hr i (by omega)
    refine ⟨a1, fun j hj hne => ?_, ?_⟩
    · by_cases ej : j = k
      · subst ej; rw [if_pos rfl]; have := key i (by omega); omega
      · rw [if_neg ej]; exact a2 j (by omega) hne
    · refine a3.of_block ((hg.block _ (by have := a3.lt; omega) ?_).trans (h1 _ a3.lt))
      exact fun e2 => row_not_owned a3 h (by decide) e2.symm

end Go.Proofs.Ytkmbkjbammpdhaa
