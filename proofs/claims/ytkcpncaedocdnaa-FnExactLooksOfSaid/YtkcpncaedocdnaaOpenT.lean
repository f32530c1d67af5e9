/-
  An argument of the row that is a tree.
-/
import Derived.Test.YtkcpncaedocdnaaOpenI
import Derived.Test.YtkcpncaedocdnaaTreeO
namespace Go.Proofs.Ytkcpncaedocdnaa
open Go.ChangeShapes Go.WideShapes Go.ChangeAt Go.RowKit
set_option linter.unusedVariables false

section
variable {H : Type} {enc : TypeId × Value → H} {w : World} {base : Nat} {spare : Nat → Bool} {held : Bool}

theorem cells_tree : Try.prog.cellsOf 24 = 2 := by kernel_rfl
theorem cells_ints : Try.prog.cellsOf 22 = 1 := by kernel_rfl

set_option maxRecDepth 100000 in
theorem trod_T {fuel : Nat} {cs : List Value} {x : DataW H × List MemPlace} (h : DataW.trod enc Try.prog w base spare held fuel 24 cs = some x) : ∃ va vb p q, cs = [va, vb] ∧ RdI w va p ∧ RdI w vb q ∧ WfI p ∧ WfI q := by
  obtain ⟨y0, y1, n, _, hl, h0, h1⟩ := trod_struct2 Try.underlying24 h
  rw [cells_tree] at hl
  match cs, hl with
  | [a, b], _ =>
    rw [cells_ints] at h0 h1
    obtain ⟨va, p, e0, r0, f0⟩ := trod_I (w := w) h0
    obtain ⟨vb, q, e1, r1, f1⟩ := trod_I (w := w) h1
    simp at e0 e1
    subst e0 e1
    exact ⟨_, _, p, q, rfl, r0, r1, f0, f1⟩

def WfT (t : List Int × List Int) : Prop := WfI t.1 ∧ WfI t.2

set_option maxRecDepth 100000 in
theorem arg_T {r : Reach} {b0 : Nat} {v : Value} {d : DataW H} {p : List MemPlace} (hv : Value.okWide Try.prog w r b0 24 v) (h : DataW.Trod enc Try.prog w base spare held 24 v d p) : ∃ t, RdT w v t ∧ WfT t := by
  obtain ⟨cs, rfl, hsz⟩ := okWide_struct Try.underlying24 hv
  obtain ⟨fuel, hf⟩ := h
  obtain ⟨va, vb, p, q, e, r0, r1, f0, f1⟩ := trod_T hf
  simp only [Value.cells] at e
  have e' : cs = #[va, vb] := by cases cs; simp_all
  subst e'
  exact ⟨(p, q), ⟨va, vb, rfl, r0, r1⟩, f0, f1⟩
end
end Go.Proofs.Ytkcpncaedocdnaa
