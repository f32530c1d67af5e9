/-
  The variable in which the reference keeps what it finds first.
-/
import Derived.Test.YtkmbkjbammpdhaaBase
namespace Go.Proofs.Ytkmbkjbammpdhaa
open Go.RowKit

/-- The variable first: empty as long as nothing is found, then an own copy of what was found first. -/
def FirstInv (B0 : Nat) (w : World) (fv : Value) (acc : List (List Int)) : Prop :=
  (acc = [] ∧ ∃ a cap, fv = .slice a 0 cap) ∨
  ∃ s r g cap, acc = s :: r ∧ s ≠ [] ∧ fv = .slice (some ⟨g, 0, none⟩) s.length cap ∧ w.ownsRow B0 2 1 fv s.length (s.map I64)

theorem FirstInv.kept {B0 : Nat} {w w' : World} {fv : Value} {acc : List (List Int)} {b : Nat} (h : FirstInv B0 w fv acc) (hk : Kept (· = b) w w') (hb : Box w b 36 fv) : FirstInv B0 w' fv acc := by
  rcases h with h | ⟨s, r, g, cap, h1, h2, h3, h4⟩
  · exact .inl h
  · refine .inr ⟨s, r, g, cap, h1, h2, h3, owns_kept h4 hk ?_⟩
    intro k hk2 e
    subst e
    exact hb.not_owned h4 (by decide) hk2

theorem FirstInv.slice {B0 : Nat} {w : World} {fv : Value} {acc : List (List Int)} (h : FirstInv B0 w fv acc) : ∃ a n cap, fv = .slice a n cap := by
  rcases h with ⟨_, a, cap, h⟩ | ⟨s, r, g, cap, _, _, h, _⟩
  · exact ⟨_, _, _, h⟩
  · exact ⟨_, _, _, h⟩

/-- Integers that are read lie beside a variable that holds a slice. -/
theorem ints_beside {w w' : World} {a : Option Addr} {n cap : Nat} {xs : List Int} {b : Nat} {fv : Value} {t : TypeId} (h : Slc w (.slice a n cap) (xs.map I64)) (hb : Box w b t fv) (hf : ∃ a n cap, fv = .slice a n cap) (hk : Kept (· = b) w w') :
    Slc w' (.slice a n cap) (xs.map I64) := by
  refine h.kept hk fun ad u hu hc e => ?_
  have := hb.cell_eq e hc
  obtain ⟨a, n, cap, rfl⟩ := hf
  simp at hu
  obtain ⟨x, _, rfl⟩ := hu
  cases this

theorem FirstInv.keptS {B0 : Nat} {S : Nat → Prop} {w w' : World} {fv : Value} {acc : List (List Int)} {b : Nat} (h : FirstInv B0 w fv acc) (hk : Kept S w w') (hS : ∀ g, B0 ≤ g → S g → g = b) (hb : Box w b 36 fv) : FirstInv B0 w' fv acc := by
  rcases h with h | ⟨s, r, g, cap, h1, h2, h3, h4⟩
  · exact .inl h
  · refine .inr ⟨s, r, g, cap, h1, h2, h3, owns_kept h4 hk ?_⟩
    intro k hk2 e
    have hk3 := hS k (owns_lt h4 hk2).1 e
    subst hk3
    exact hb.not_owned h4 (by decide) hk2

/-- The variable of the closure. -/
def FQ (B0 fb : Nat) (done : List (List Int)) (w : World) : Prop :=
  (done = [] ∧ Box w fb 36 (.slice none 0 0)) ∨
  ∃ s r g cap, done = s :: r ∧ Box w fb 36 (.slice (some ⟨g, 0, none⟩) s.length cap) ∧ w.ownsRow B0 2 1 (.slice (some ⟨g, 0, none⟩) s.length cap) s.length (s.map I64)

theorem FQ.up {B0 fb : Nat} {done : List (List Int)} {w w' : World} (h : FQ B0 fb done w) (hb : Below w.heap.size w w') : FQ B0 fb done w' := by
  rcases h with ⟨h1, h2⟩ | ⟨s, r, g, cap, h1, h2, h3⟩
  · exact .inl ⟨h1, h2.below hb h2.lt⟩
  · exact .inr ⟨s, r, g, cap, h1, h2.below hb h2.lt, owns_below h3 hb (Nat.le_refl _)⟩


end Go.Proofs.Ytkmbkjbammpdhaa
