/-
  Domains: which lists of lists are such.
-/
import Derived.Test.YtkmbkjbammpdhaaPredL
namespace Go.Proofs.Ytkmbkjbammpdhaa
open Go.RowKit

def ValDom (d : List Int) : Prop := 1 ≤ d.length ∧ d.length ≤ 8 ∧ ∀ k, k < d.length → inB 0 31 (d.getD k 0) = true ∧ (0 < k → d.getD (k - 1) 0 < d.getD k 0)
def ValD (zss : List (List Int)) : Prop := 1 ≤ zss.length ∧ zss.length ≤ 6 ∧ ∀ i, i < zss.length → ValDom (zss.getD i [])
open Classical in
noncomputable def validD (zss : List (List Int)) : Bool := decide (ValD zss)
theorem validD_true {zss : List (List Int)} (h : ValD zss) : validD zss = true := by simp [validD, h]
theorem validD_false {zss : List (List Int)} (h : ¬ ValD zss) : validD zss = false := by simp [validD, h]

end Go.Proofs.Ytkmbkjbammpdhaa
