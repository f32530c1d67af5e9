/-
  Rows of marks, one for each domain.
-/
import Derived.Test.YtkmbkjbammpdhaaStep
import Derived.Test.YtkmbkjbammpdhaaHas
import Derived.Test.YtkmbkjbammpdhaaChoiceM
import Derived.Test.YtkmbkjbammpdhaaFirstInv
import Derived.Test.YtkmbkjbammpdhaaDomO
import Derived.Deep.OwnRows
namespace Go.Proofs.Ytkmbkjbammpdhaa
open Go.RowKit

/-- The rows of marks: in blocks from lo on, below hi. -/
def Marks (lo hi : Nat) (w : World) (v : Value) (D : List (List Int)) (F : Nat → Nat → Bool) : Prop :=
  ∃ (ob cap : Nat) (gs cs : Nat → Nat), v = .slice (some ⟨ob, 0, none⟩) D.length cap ∧ lo ≤ ob ∧ ob < hi ∧ ob < w.heap.size ∧
    ∀ i, i < D.length → w.cell? ⟨ob, i, none⟩ = some (.slice (some ⟨gs i, 0, none⟩) (D.getD i []).length (cs i)) ∧ lo ≤ gs i ∧ gs i < hi ∧ gs i ≠ ob ∧ (∀ j, j < D.length → j ≠ i → gs j ≠ gs i) ∧
      w.rowIs (gs i) 4 (D.getD i []).length (fun k => .bool (F i k))

theorem Marks.kept {lo hi : Nat} {w w' : World} {v : Value} {D : List (List Int)} {F : Nat → Nat → Bool} {S : Nat → Prop} (h : Marks lo hi w v D F) (hk : Kept S w w') (hs : ∀ b, lo ≤ b → b < hi → ¬ S b) : Marks lo hi w' v D F := by
  obtain ⟨ob, cap, gs, cs, hv, h1, h2, h3, h4⟩ := h
  refine ⟨ob, cap, gs, cs, hv, h1, h2, Nat.lt_of_lt_of_le h3 hk.size, fun i hi => ?_⟩
  obtain ⟨a1, a2, a3, a4, a5, a6⟩ := h4 i hi
  exact ⟨(hk.cell h3 (hs _ h1 h2)).trans a1, a2, a3, a4, a5, a6.of_block (hk.block _ a6.lt (hs _ a2 a3))⟩
theorem Marks.up {lo hi : Nat} {w w' : World} {v : Value} {D : List (List Int)} {F : Nat → Nat → Bool} {B : Nat} (h : Marks lo hi w v D F) (hb : Below B w w') (hB : w.heap.size ≤ B) : Marks lo hi w' v D F :=
  h.kept (Kept.of_below (S := fun _ => False) hb hB) (fun _ _ _ x => x)
theorem Marks.congr {lo hi : Nat} {w : World} {v : Value} {D : List (List Int)} {F G : Nat → Nat → Bool} (h : Marks lo hi w v D F) (e : ∀ i k, i < D.length → k < (D.getD i []).length → F i k = G i k) : Marks lo hi w v D G := by
  obtain ⟨ob, cap, gs, cs, hv, h1, h2, h3, h4⟩ := h
  refine ⟨ob, cap, gs, cs, hv, h1, h2, h3, fun i hi => ?_⟩
  obtain ⟨a1, a2, a3, a4, a5, a6⟩ := h4 i hi
  exact ⟨a1, a2, a3, a4, a5, a6.congr fun k hk => by rw [e i k hi hk]⟩
theorem Marks.shape {lo hi : Nat} {w : World} {v : Value} {D : List (List Int)} {F : Nat → Nat → Bool} (h : Marks lo hi w v D F) : ∃ ob cap, v = .slice (some ⟨ob, 0, none⟩) D.length cap := by
  obtain ⟨ob, cap, gs, cs, hv, _⟩ := h
  exact ⟨ob, cap, hv⟩
/-- One of the marks: it is read, and it is set. -/
theorem Marks.at {lo hi : Nat} {w : World} {ob cap : Nat} {D : List (List Int)} {F : Nat → Nat → Bool} (h : Marks lo hi w (.slice (some ⟨ob, 0, none⟩) D.length cap) D F) {i k : Nat} (hi' : i < D.length) (hk : k < (D.getD i []).length) :
    ∃ g c, w.cell? ⟨ob, i, none⟩ = some (.slice (some ⟨g, 0, none⟩) (D.getD i []).length c) ∧ w.cell? ⟨g, k, none⟩ = some (.bool (F i k)) ∧ w.frozen? ⟨g, k, none⟩ = false ∧ lo ≤ g ∧ g < hi ∧ g < w.heap.size ∧
      Marks lo hi (w.setCell ⟨g, k, none⟩ (.bool true)) (.slice (some ⟨ob, 0, none⟩) D.length cap) D (fun i' k' => if i' = i ∧ k' = k then true else F i' k') := by
  obtain ⟨ob', cap', gs, cs, hv, h1, h2, h3, h4⟩ := h
  simp only [Value.slice.injEq, Option.some.injEq, Addr.mk.injEq, and_true, true_and] at hv
  obtain ⟨rfl, rfl⟩ := hv
  obtain ⟨a1, a2, a3, a4, a5, a6⟩ := h4 i hi'
  refine ⟨gs i, cs i, a1, a6.cell hk, a6.frozen k, a2, a3, a6.lt, ob, cap, gs, cs, rfl, h1, h2, by simpa using h3, fun j hj => ?_⟩
  obtain ⟨b1, b2, b3, b4, b5, b6⟩ := h4 j hj
  refine ⟨?_, b2, b3, b4, b5, ?_⟩
  · rw [World.cell?_setCell_far _ _ _ _ (by simp only; exact a4)]; exact b1
  · by_cases hji : j = i
    · subst hji
      refine (a6.set k (.bool true)).congr fun k' hk' => ?_
      by_cases hkk : k' = k
      · simp [hkk]
      · simp [hkk]
    · refine (b6.setOther (by simp only; exact a5 j hj hji) _).congr fun k' hk' => ?_
      simp [hji]

/-- What is marked behind the choices l. -/
def markL (D : List (List Int)) (F : Nat → Nat → Bool) (l : List (List Int)) : Nat → Nat → Bool := fun i k => F i k || l.any (fun ch => (D.getD i []).getD k 0 == ch.getD i 0)
theorem markL_nil (D : List (List Int)) (F : Nat → Nat → Bool) : markL D F [] = F := by funext i k; simp [markL]
theorem markL_append (D : List (List Int)) (F : Nat → Nat → Bool) (a b : List (List Int)) : markL D (markL D F a) b = markL D F (a ++ b) := by
  funext i k; simp [markL, Bool.or_assoc]
/-- In the midst of one choice: the rows before i, and k of row i. -/
def markP (D : List (List Int)) (F : Nat → Nat → Bool) (now : List Int) (i k : Nat) : Nat → Nat → Bool := fun i' k' => F i' k' || (decide (i' < i ∨ (i' = i ∧ k' < k)) && (D.getD i' []).getD k' 0 == now.getD i' 0)
theorem markP_zero (D : List (List Int)) (F : Nat → Nat → Bool) (now : List Int) : markP D F now 0 0 = F := by funext i k; simp [markP]
theorem markP_row (D : List (List Int)) (F : Nat → Nat → Bool) (now : List Int) (i i' k' : Nat) (hk : k' < (D.getD i' []).length) : markP D F now i (D.getD i []).length i' k' = markP D F now (i + 1) 0 i' k' := by
  unfold markP
  congr 2
  rw [decide_eq_decide]
  constructor
  · rintro (h | ⟨rfl, h⟩)
    · exact .inl (by omega)
    · exact .inl (by omega)
  · rintro (h | ⟨rfl, h⟩)
    · by_cases e : i' = i
      · subst e; exact .inr ⟨rfl, hk⟩
      · exact .inl (by omega)
    · omega
theorem markP_set (D : List (List Int)) (F : Nat → Nat → Bool) (now : List Int) (i k : Nat) (h : ((D.getD i []).getD k 0 == now.getD i 0) = true) (i' k' : Nat) : (if i' = i ∧ k' = k then true else markP D F now i k i' k') = markP D F now i (k + 1) i' k' := by
  unfold markP
  by_cases e : i' = i ∧ k' = k
  · obtain ⟨rfl, rfl⟩ := e
    simp only [and_self, if_true, h, Bool.and_true]
    simp
  · rw [if_neg e]
    congr 2
    rw [decide_eq_decide]
    omega
theorem markP_skip (D : List (List Int)) (F : Nat → Nat → Bool) (now : List Int) (i k : Nat) (h : ((D.getD i []).getD k 0 == now.getD i 0) = false) : markP D F now i k = markP D F now i (k + 1) := by
  funext i' k'
  unfold markP
  by_cases e : i' = i ∧ k' = k
  · obtain ⟨rfl, rfl⟩ := e
    simp only [h, Bool.and_false]
  · congr 2
    rw [decide_eq_decide]
    omega
theorem markP_all (D : List (List Int)) (F : Nat → Nat → Bool) (now : List Int) (i k : Nat) (hi : i < D.length) : markP D F now D.length 0 i k = markL D F [now] i k := by
  unfold markP markL
  simp [hi]

end Go.Proofs.Ytkmbkjbammpdhaa
