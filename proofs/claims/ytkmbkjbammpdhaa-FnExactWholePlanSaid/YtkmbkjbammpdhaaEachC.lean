/-
  Choices: the program that tells each one to a function.
-/
import Derived.Test.YtkmbkjbammpdhaaHas
import Derived.Test.YtkmbkjbammpdhaaChoiceM
import Derived.Test.YtkmbkjbammpdhaaDomO
namespace Go.Proofs.Ytkmbkjbammpdhaa
open Go.RowKit

theorem validD_iff {D : List (List Int)} : validD D = true ↔ ValD D := by simp [validD]

/-- Where all blocks that may turn lie above, the domains read as before. -/
theorem keptUp {S : Nat → Prop} {w0 w w' : World} (h : Below w0.heap.size w0 w) (hk : Kept S w w') (hs : ∀ b, S b → w0.heap.size ≤ b) : Below w0.heap.size w0 w' :=
  h.trans (hk.toBelow h.size (fun k h1 h2 => by have := hs k h2; omega))

end Go.Proofs.Ytkmbkjbammpdhaa
