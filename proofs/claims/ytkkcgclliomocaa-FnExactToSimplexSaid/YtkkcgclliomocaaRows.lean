/-
  No cell of these rows narrows 'for every input' (looked for: loops, veiled, ifaces, maps, wideKeys, modest, calm, conditions, laid).
  DERIVED. THE GIVEN ROWS OF THIS SEAT. 6 by the template 'for every input the law returns true; each argument reads behind the call as it read before'; 0 by the template 'total and deterministic' (their statements: YtkkcgclliomocaaTotals.lean).
  GIVEN WITH THE SEED: the statements are not yours to turn. If you find one false, say at which input.
  Laid BY PROGRAM, IN A SANDBOX (cutbox-rows.mjs): the forced cells as the released guide's own fill.sh prints them over the translation 16be6f548185c546… (all of the seat's roots in one cut). By AI agents, Wed Nov 11 2026. No macro, syntax, notation, axiom, sorry.
-/
import Derived.Test.YtkkcgclliomocaaChecked
import GoSem.Claim
import GoSem.ClaimJoined
import GoSem.ClaimMapViews
import Derived.JoinedTies
import Derived.KernelRfl
namespace Go.Proofs.Ytkkcgclliomocaa
/- THE CELL 'sum', in the pinned program and in every row, IS THE sha256 OF THE DUMP (.gsa) THAT YtkkcgclliomocaaProg.lean LOADS. Nothing in Lean hashes anything: it is a label: what it is worth is what the hold of that sum in a sandbox is worth. -/
noncomputable def Try.pinned : Pinned := { name := "ytkkcgclliomocaa", sum := "16be6f548185c5468a8b19443d4455fa67a9545405b50ba89abe669679645e3f", checked := Try.checked }
namespace Rows
def none {H : Type} : Left H := { results := [], args := [] }

/-- 'laws.FnCases': WHATEVER THE INPUT: true; the input reads as it did. -/
def fnCasesSpec : ChangeSpec := { name := "fnCases", fn := fun _ => fun
  | [d1, d2] => { results := [.lit (.bool true)], args := [d1, d2] }
  | _ => none }
def fnCasesRow : OpenClaim := { program := "ytkkcgclliomocaa", sum := "16be6f548185c5468a8b19443d4455fa67a9545405b50ba89abe669679645e3f", func := "loop.example/g01346/laws.FnCases", spec := "fnCases", unfollowed := true, recurses := true, apart := false }
def FnCasesSaid : Prop := fnCasesRow.holds Try.pinned (OpenSpec.ofChange fnCasesSpec)

/-- ITS FALSE NEIGHBOUR: 'it returns false'. Refute it at one input. -/
def fnCasesWrong : ChangeSpec := { name := "fnCases", fn := fun _ => fun
  | [d1, d2] => { results := [.lit (.bool false)], args := [d1, d2] }
  | _ => none }
def FnCasesWrongFalsely : Prop := fnCasesRow.holds Try.pinned (OpenSpec.ofChange fnCasesWrong)

/-- 'laws.FnExactLoadCase': WHATEVER THE INPUT: true; the input reads as it did. -/
def fnExactLoadCaseSpec : ChangeSpec := { name := "fnExactLoadCase", fn := fun _ => fun
  | [d] => { results := [.lit (.bool true)], args := [d] }
  | _ => none }
def fnExactLoadCaseRow : OpenClaim := { program := "ytkkcgclliomocaa", sum := "16be6f548185c5468a8b19443d4455fa67a9545405b50ba89abe669679645e3f", func := "loop.example/g01346/laws.FnExactLoadCase", spec := "fnExactLoadCase", apart := false }
def FnExactLoadCaseSaid : Prop := fnExactLoadCaseRow.holds Try.pinned (OpenSpec.ofChange fnExactLoadCaseSpec)

/-- ITS FALSE NEIGHBOUR: 'it returns false'. Refute it at one input. -/
def fnExactLoadCaseWrong : ChangeSpec := { name := "fnExactLoadCase", fn := fun _ => fun
  | [d] => { results := [.lit (.bool false)], args := [d] }
  | _ => none }
def FnExactLoadCaseWrongFalsely : Prop := fnExactLoadCaseRow.holds Try.pinned (OpenSpec.ofChange fnExactLoadCaseWrong)

/-- 'laws.FnExactRecoverCases': WHATEVER THE INPUT: true; the input reads as it did. -/
def fnExactRecoverCasesSpec : ChangeSpec := { name := "fnExactRecoverCases", fn := fun _ => fun
  | [d] => { results := [.lit (.bool true)], args := [d] }
  | _ => none }
def fnExactRecoverCasesRow : OpenClaim := { program := "ytkkcgclliomocaa", sum := "16be6f548185c5468a8b19443d4455fa67a9545405b50ba89abe669679645e3f", func := "loop.example/g01346/laws.FnExactRecoverCases", spec := "fnExactRecoverCases", apart := false }
def FnExactRecoverCasesSaid : Prop := fnExactRecoverCasesRow.holds Try.pinned (OpenSpec.ofChange fnExactRecoverCasesSpec)

/-- ITS FALSE NEIGHBOUR: 'it returns false'. Refute it at one input. -/
def fnExactRecoverCasesWrong : ChangeSpec := { name := "fnExactRecoverCases", fn := fun _ => fun
  | [d] => { results := [.lit (.bool false)], args := [d] }
  | _ => none }
def FnExactRecoverCasesWrongFalsely : Prop := fnExactRecoverCasesRow.holds Try.pinned (OpenSpec.ofChange fnExactRecoverCasesWrong)

/-- 'laws.FnExactScaleRows': WHATEVER THE INPUT: true; the input reads as it did. -/
def fnExactScaleRowsSpec : ChangeSpec := { name := "fnExactScaleRows", fn := fun _ => fun
  | [d] => { results := [.lit (.bool true)], args := [d] }
  | _ => none }
def fnExactScaleRowsRow : OpenClaim := { program := "ytkkcgclliomocaa", sum := "16be6f548185c5468a8b19443d4455fa67a9545405b50ba89abe669679645e3f", func := "loop.example/g01346/laws.FnExactScaleRows", spec := "fnExactScaleRows", inPlace := ["math.Float64bits", "math.Float64frombits"], apart := false }
def FnExactScaleRowsSaid : Prop := fnExactScaleRowsRow.holds Try.pinned (OpenSpec.ofChange fnExactScaleRowsSpec)

/-- ITS FALSE NEIGHBOUR: 'it returns false'. Refute it at one input. -/
def fnExactScaleRowsWrong : ChangeSpec := { name := "fnExactScaleRows", fn := fun _ => fun
  | [d] => { results := [.lit (.bool false)], args := [d] }
  | _ => none }
def FnExactScaleRowsWrongFalsely : Prop := fnExactScaleRowsRow.holds Try.pinned (OpenSpec.ofChange fnExactScaleRowsWrong)

/-- 'laws.FnExactToSimplex': WHATEVER THE INPUT: true; the input reads as it did. -/
def fnExactToSimplexSpec : ChangeSpec := { name := "fnExactToSimplex", fn := fun _ => fun
  | [d] => { results := [.lit (.bool true)], args := [d] }
  | _ => none }
def fnExactToSimplexRow : OpenClaim := { program := "ytkkcgclliomocaa", sum := "16be6f548185c5468a8b19443d4455fa67a9545405b50ba89abe669679645e3f", func := "loop.example/g01346/laws.FnExactToSimplex", spec := "fnExactToSimplex", unfollowed := true, recurses := true, apart := false }
def FnExactToSimplexSaid : Prop := fnExactToSimplexRow.holds Try.pinned (OpenSpec.ofChange fnExactToSimplexSpec)

/-- ITS FALSE NEIGHBOUR: 'it returns false'. Refute it at one input. -/
def fnExactToSimplexWrong : ChangeSpec := { name := "fnExactToSimplex", fn := fun _ => fun
  | [d] => { results := [.lit (.bool false)], args := [d] }
  | _ => none }
def FnExactToSimplexWrongFalsely : Prop := fnExactToSimplexRow.holds Try.pinned (OpenSpec.ofChange fnExactToSimplexWrong)

/-- 'laws.FnExactOnTimeOrder': WHATEVER THE INPUT: true; the input reads as it did. -/
def fnExactOnTimeOrderSpec : ChangeSpec := { name := "fnExactOnTimeOrder", fn := fun _ => fun
  | [d] => { results := [.lit (.bool true)], args := [d] }
  | _ => none }
def fnExactOnTimeOrderRow : OpenClaim := { program := "ytkkcgclliomocaa", sum := "16be6f548185c5468a8b19443d4455fa67a9545405b50ba89abe669679645e3f", func := "loop.example/g01346/laws.FnExactOnTimeOrder", spec := "fnExactOnTimeOrder", unfollowed := true, recurses := true, apart := false }
def FnExactOnTimeOrderSaid : Prop := fnExactOnTimeOrderRow.holds Try.pinned (OpenSpec.ofChange fnExactOnTimeOrderSpec)

/-- ITS FALSE NEIGHBOUR: 'it returns false'. Refute it at one input. -/
def fnExactOnTimeOrderWrong : ChangeSpec := { name := "fnExactOnTimeOrder", fn := fun _ => fun
  | [d] => { results := [.lit (.bool false)], args := [d] }
  | _ => none }
def FnExactOnTimeOrderWrongFalsely : Prop := fnExactOnTimeOrderRow.holds Try.pinned (OpenSpec.ofChange fnExactOnTimeOrderWrong)

/- THE SECOND FORM. 'bulk': how many values and letters a reading holds, each counted each time it is reached (what is shared counts as often as it is met; a slice's spare places count too). A statement '..UptoSaid' is the law's where the arguments, and the package variables that the reading takes, are together of bulk at most 1048576: NARROWER than '..Said'. Prove '..Said' where nothing that the law and all that it calls make is longer than what came in: it says more and counts as full. Else prove '..UptoSaid'. A law counts once. -/
mutual
def uptoBulk {H : Type} : DataW H → Nat
  | .lit (.string bytes) => bytes.length + 1
  | .lit _ => 1
  | .nil => 1
  | .ptr d => uptoBulk d + 1
  | .slice elems spare => uptoBulkAll elems + uptoBulkAll spare + 1
  | .agg parts => uptoBulkAll parts + 1
  | .iface _ d => uptoBulk d + 1
  | .map entries => uptoBulkEntries entries + 1
  | .held _ => 1
def uptoBulkAll {H : Type} : List (DataW H) → Nat
  | [] => 0
  | d :: r => uptoBulk d + uptoBulkAll r
def uptoBulkEntries {H : Type} : List (Lit × DataW H) → Nat
  | [] => 0
  | x :: r => uptoBulkEntry x + uptoBulkEntries r
def uptoBulkEntry {H : Type} : Lit × DataW H → Nat
  | (.string bytes, d) => bytes.length + uptoBulk d + 1
  | (_, d) => uptoBulk d + 1
 end
def uptoSmall : (H : Type) → List (DataW H) → Bool := fun _ ds => decide (uptoBulkAll ds ≤ 1048576)
def OpenSpec.upto (s : _root_.Go.ChangeSpec) : _root_.Go.OpenSpec := { _root_.Go.OpenSpec.ofChange s with cond := some uptoSmall }

/-- 'laws.FnCases', WHERE WHAT IT READS IS OF BULK AT MOST 1048576: true; the input reads as it did. -/
def fnCasesUptoRow : OpenClaim := { program := "ytkkcgclliomocaa", sum := "16be6f548185c5468a8b19443d4455fa67a9545405b50ba89abe669679645e3f", func := "loop.example/g01346/laws.FnCases", spec := "fnCases", unfollowed := true, recurses := true, apart := false, narrowed := true }
def FnCasesUptoSaid : Prop := fnCasesUptoRow.holds Try.pinned (OpenSpec.upto fnCasesSpec)

/-- 'laws.FnExactLoadCase', WHERE WHAT IT READS IS OF BULK AT MOST 1048576: true; the input reads as it did. -/
def fnExactLoadCaseUptoRow : OpenClaim := { program := "ytkkcgclliomocaa", sum := "16be6f548185c5468a8b19443d4455fa67a9545405b50ba89abe669679645e3f", func := "loop.example/g01346/laws.FnExactLoadCase", spec := "fnExactLoadCase", apart := false, narrowed := true }
def FnExactLoadCaseUptoSaid : Prop := fnExactLoadCaseUptoRow.holds Try.pinned (OpenSpec.upto fnExactLoadCaseSpec)

/-- 'laws.FnExactRecoverCases', WHERE WHAT IT READS IS OF BULK AT MOST 1048576: true; the input reads as it did. -/
def fnExactRecoverCasesUptoRow : OpenClaim := { program := "ytkkcgclliomocaa", sum := "16be6f548185c5468a8b19443d4455fa67a9545405b50ba89abe669679645e3f", func := "loop.example/g01346/laws.FnExactRecoverCases", spec := "fnExactRecoverCases", apart := false, narrowed := true }
def FnExactRecoverCasesUptoSaid : Prop := fnExactRecoverCasesUptoRow.holds Try.pinned (OpenSpec.upto fnExactRecoverCasesSpec)

/-- 'laws.FnExactScaleRows', WHERE WHAT IT READS IS OF BULK AT MOST 1048576: true; the input reads as it did. -/
def fnExactScaleRowsUptoRow : OpenClaim := { program := "ytkkcgclliomocaa", sum := "16be6f548185c5468a8b19443d4455fa67a9545405b50ba89abe669679645e3f", func := "loop.example/g01346/laws.FnExactScaleRows", spec := "fnExactScaleRows", inPlace := ["math.Float64bits", "math.Float64frombits"], apart := false, narrowed := true }
def FnExactScaleRowsUptoSaid : Prop := fnExactScaleRowsUptoRow.holds Try.pinned (OpenSpec.upto fnExactScaleRowsSpec)

/-- 'laws.FnExactToSimplex', WHERE WHAT IT READS IS OF BULK AT MOST 1048576: true; the input reads as it did. -/
def fnExactToSimplexUptoRow : OpenClaim := { program := "ytkkcgclliomocaa", sum := "16be6f548185c5468a8b19443d4455fa67a9545405b50ba89abe669679645e3f", func := "loop.example/g01346/laws.FnExactToSimplex", spec := "fnExactToSimplex", unfollowed := true, recurses := true, apart := false, narrowed := true }
def FnExactToSimplexUptoSaid : Prop := fnExactToSimplexUptoRow.holds Try.pinned (OpenSpec.upto fnExactToSimplexSpec)

/-- 'laws.FnExactOnTimeOrder', WHERE WHAT IT READS IS OF BULK AT MOST 1048576: true; the input reads as it did. -/
def fnExactOnTimeOrderUptoRow : OpenClaim := { program := "ytkkcgclliomocaa", sum := "16be6f548185c5468a8b19443d4455fa67a9545405b50ba89abe669679645e3f", func := "loop.example/g01346/laws.FnExactOnTimeOrder", spec := "fnExactOnTimeOrder", unfollowed := true, recurses := true, apart := false, narrowed := true }
def FnExactOnTimeOrderUptoSaid : Prop := fnExactOnTimeOrderUptoRow.holds Try.pinned (OpenSpec.upto fnExactOnTimeOrderSpec)

end Rows
end Go.Proofs.Ytkkcgclliomocaa
