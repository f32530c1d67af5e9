/-
  No cell of these rows narrows 'for every input' (looked for: loops, veiled, ifaces, maps, wideKeys, modest, calm, conditions, laid).
  DERIVED. THE GIVEN ROWS OF THIS SEAT. 9 by the template 'for every input the law returns true; each argument reads behind the call as it read before'; 0 by the template 'total and deterministic' (their statements: YtljhohacgceojaaTotals.lean).
  GIVEN WITH THE SEED: the statements are not yours to turn. If you find one false, say at which input.
  Laid BY PROGRAM, IN A SANDBOX (cutbox-rows.mjs): the forced cells as the released guide's own fill.sh prints them over the translation c5882e19db6dc4fb… (all of the seat's roots in one cut). By AI agents, Wed Nov 11 2026. No macro, syntax, notation, axiom, sorry.
-/
import Derived.Test.YtljhohacgceojaaChecked
import GoSem.Claim
import GoSem.ClaimJoined
import GoSem.ClaimMapViews
import Derived.JoinedTies
import Derived.KernelRfl
namespace Go.Proofs.Ytljhohacgceojaa
/- THE CELL 'sum', in the pinned program and in every row, IS THE sha256 OF THE DUMP (.gsa) THAT YtljhohacgceojaaProg.lean LOADS. Nothing in Lean hashes anything: it is a label: what it is worth is what the hold of that sum in a sandbox is worth. -/
noncomputable def Try.pinned : Pinned := { name := "ytljhohacgceojaa", sum := "c5882e19db6dc4fb770135e85684eb9407d4b3bd895218653df4a13cfaef300c", checked := Try.checked }
namespace Rows
def none {H : Type} : Left H := { results := [], args := [] }

/-- 'laws.FnExactSameCases': WHATEVER THE INPUT: true; the input reads as it did. -/
def fnExactSameCasesSpec : ChangeSpec := { name := "fnExactSameCases", fn := fun _ => fun
  | [d1, d2] => { results := [.lit (.bool true)], args := [d1, d2] }
  | _ => none }
def fnExactSameCasesRow : OpenClaim := { program := "ytljhohacgceojaa", sum := "c5882e19db6dc4fb770135e85684eb9407d4b3bd895218653df4a13cfaef300c", func := "loop.example/g01346/laws.FnExactSameCases", spec := "fnExactSameCases", unfollowed := true, recurses := true, apart := false }
def FnExactSameCasesSaid : Prop := fnExactSameCasesRow.holds Try.pinned (OpenSpec.ofChange fnExactSameCasesSpec)

/-- ITS FALSE NEIGHBOUR: 'it returns false'. Refute it at one input. -/
def fnExactSameCasesWrong : ChangeSpec := { name := "fnExactSameCases", fn := fun _ => fun
  | [d1, d2] => { results := [.lit (.bool false)], args := [d1, d2] }
  | _ => none }
def FnExactSameCasesWrongFalsely : Prop := fnExactSameCasesRow.holds Try.pinned (OpenSpec.ofChange fnExactSameCasesWrong)

/-- 'laws.FnExactValidCase': WHATEVER THE INPUT: true; the input reads as it did. -/
def fnExactValidCaseSpec : ChangeSpec := { name := "fnExactValidCase", fn := fun _ => fun
  | [d] => { results := [.lit (.bool true)], args := [d] }
  | _ => none }
def fnExactValidCaseRow : OpenClaim := { program := "ytljhohacgceojaa", sum := "c5882e19db6dc4fb770135e85684eb9407d4b3bd895218653df4a13cfaef300c", func := "loop.example/g01346/laws.FnExactValidCase", spec := "fnExactValidCase", apart := false }
def FnExactValidCaseSaid : Prop := fnExactValidCaseRow.holds Try.pinned (OpenSpec.ofChange fnExactValidCaseSpec)

/-- ITS FALSE NEIGHBOUR: 'it returns false'. Refute it at one input. -/
def fnExactValidCaseWrong : ChangeSpec := { name := "fnExactValidCase", fn := fun _ => fun
  | [d] => { results := [.lit (.bool false)], args := [d] }
  | _ => none }
def FnExactValidCaseWrongFalsely : Prop := fnExactValidCaseRow.holds Try.pinned (OpenSpec.ofChange fnExactValidCaseWrong)

/-- 'laws.FnCases': WHATEVER THE INPUT: true; the input reads as it did. -/
def fnCasesSpec : ChangeSpec := { name := "fnCases", fn := fun _ => fun
  | [d1, d2] => { results := [.lit (.bool true)], args := [d1, d2] }
  | _ => none }
def fnCasesRow : OpenClaim := { program := "ytljhohacgceojaa", sum := "c5882e19db6dc4fb770135e85684eb9407d4b3bd895218653df4a13cfaef300c", func := "loop.example/g01346/laws.FnCases", spec := "fnCases", unfollowed := true, recurses := true, apart := false }
def FnCasesSaid : Prop := fnCasesRow.holds Try.pinned (OpenSpec.ofChange fnCasesSpec)

/-- ITS FALSE NEIGHBOUR: 'it returns false'. Refute it at one input. -/
def fnCasesWrong : ChangeSpec := { name := "fnCases", fn := fun _ => fun
  | [d1, d2] => { results := [.lit (.bool false)], args := [d1, d2] }
  | _ => none }
def FnCasesWrongFalsely : Prop := fnCasesRow.holds Try.pinned (OpenSpec.ofChange fnCasesWrong)

/-- 'laws.FnExactStoreCase': WHATEVER THE INPUT: true; the input reads as it did. -/
def fnExactStoreCaseSpec : ChangeSpec := { name := "fnExactStoreCase", fn := fun _ => fun
  | [d] => { results := [.lit (.bool true)], args := [d] }
  | _ => none }
def fnExactStoreCaseRow : OpenClaim := { program := "ytljhohacgceojaa", sum := "c5882e19db6dc4fb770135e85684eb9407d4b3bd895218653df4a13cfaef300c", func := "loop.example/g01346/laws.FnExactStoreCase", spec := "fnExactStoreCase", apart := false }
def FnExactStoreCaseSaid : Prop := fnExactStoreCaseRow.holds Try.pinned (OpenSpec.ofChange fnExactStoreCaseSpec)

/-- ITS FALSE NEIGHBOUR: 'it returns false'. Refute it at one input. -/
def fnExactStoreCaseWrong : ChangeSpec := { name := "fnExactStoreCase", fn := fun _ => fun
  | [d] => { results := [.lit (.bool false)], args := [d] }
  | _ => none }
def FnExactStoreCaseWrongFalsely : Prop := fnExactStoreCaseRow.holds Try.pinned (OpenSpec.ofChange fnExactStoreCaseWrong)

/-- 'laws.FnExactStoreCases': WHATEVER THE INPUT: true; the input reads as it did. -/
def fnExactStoreCasesSpec : ChangeSpec := { name := "fnExactStoreCases", fn := fun _ => fun
  | [d] => { results := [.lit (.bool true)], args := [d] }
  | _ => none }
def fnExactStoreCasesRow : OpenClaim := { program := "ytljhohacgceojaa", sum := "c5882e19db6dc4fb770135e85684eb9407d4b3bd895218653df4a13cfaef300c", func := "loop.example/g01346/laws.FnExactStoreCases", spec := "fnExactStoreCases", apart := false }
def FnExactStoreCasesSaid : Prop := fnExactStoreCasesRow.holds Try.pinned (OpenSpec.ofChange fnExactStoreCasesSpec)

/-- ITS FALSE NEIGHBOUR: 'it returns false'. Refute it at one input. -/
def fnExactStoreCasesWrong : ChangeSpec := { name := "fnExactStoreCases", fn := fun _ => fun
  | [d] => { results := [.lit (.bool false)], args := [d] }
  | _ => none }
def FnExactStoreCasesWrongFalsely : Prop := fnExactStoreCasesRow.holds Try.pinned (OpenSpec.ofChange fnExactStoreCasesWrong)

/-- 'laws.FnExactLoadCase': WHATEVER THE INPUT: true; the input reads as it did. -/
def fnExactLoadCaseSpec : ChangeSpec := { name := "fnExactLoadCase", fn := fun _ => fun
  | [d] => { results := [.lit (.bool true)], args := [d] }
  | _ => none }
def fnExactLoadCaseRow : OpenClaim := { program := "ytljhohacgceojaa", sum := "c5882e19db6dc4fb770135e85684eb9407d4b3bd895218653df4a13cfaef300c", func := "loop.example/g01346/laws.FnExactLoadCase", spec := "fnExactLoadCase", apart := false }
def FnExactLoadCaseSaid : Prop := fnExactLoadCaseRow.holds Try.pinned (OpenSpec.ofChange fnExactLoadCaseSpec)

/-- ITS FALSE NEIGHBOUR: 'it returns false'. Refute it at one input. -/
def fnExactLoadCaseWrong : ChangeSpec := { name := "fnExactLoadCase", fn := fun _ => fun
  | [d] => { results := [.lit (.bool false)], args := [d] }
  | _ => none }
def FnExactLoadCaseWrongFalsely : Prop := fnExactLoadCaseRow.holds Try.pinned (OpenSpec.ofChange fnExactLoadCaseWrong)

/-- 'laws.FnExactRecoverCases': WHATEVER THE INPUT: true; the input reads as it did. -/
def fnExactRecoverCasesSpec : ChangeSpec := { name := "fnExactRecoverCases", fn := fun _ => fun
  | [d] => { results := [.lit (.bool true)], args := [d] }
  | _ => none }
def fnExactRecoverCasesRow : OpenClaim := { program := "ytljhohacgceojaa", sum := "c5882e19db6dc4fb770135e85684eb9407d4b3bd895218653df4a13cfaef300c", func := "loop.example/g01346/laws.FnExactRecoverCases", spec := "fnExactRecoverCases", apart := false }
def FnExactRecoverCasesSaid : Prop := fnExactRecoverCasesRow.holds Try.pinned (OpenSpec.ofChange fnExactRecoverCasesSpec)

/-- ITS FALSE NEIGHBOUR: 'it returns false'. Refute it at one input. -/
def fnExactRecoverCasesWrong : ChangeSpec := { name := "fnExactRecoverCases", fn := fun _ => fun
  | [d] => { results := [.lit (.bool false)], args := [d] }
  | _ => none }
def FnExactRecoverCasesWrongFalsely : Prop := fnExactRecoverCasesRow.holds Try.pinned (OpenSpec.ofChange fnExactRecoverCasesWrong)

/-- 'laws.FnExactSameDesk': WHATEVER THE INPUT: true; the input reads as it did. -/
def fnExactSameDeskSpec : ChangeSpec := { name := "fnExactSameDesk", fn := fun _ => fun
  | [d1, d2] => { results := [.lit (.bool true)], args := [d1, d2] }
  | _ => none }
def fnExactSameDeskRow : OpenClaim := { program := "ytljhohacgceojaa", sum := "c5882e19db6dc4fb770135e85684eb9407d4b3bd895218653df4a13cfaef300c", func := "loop.example/g01346/laws.FnExactSameDesk", spec := "fnExactSameDesk", inPlace := ["math.Float32bits"], apart := false }
def FnExactSameDeskSaid : Prop := fnExactSameDeskRow.holds Try.pinned (OpenSpec.ofChange fnExactSameDeskSpec)

/-- ITS FALSE NEIGHBOUR: 'it returns false'. Refute it at one input. -/
def fnExactSameDeskWrong : ChangeSpec := { name := "fnExactSameDesk", fn := fun _ => fun
  | [d1, d2] => { results := [.lit (.bool false)], args := [d1, d2] }
  | _ => none }
def FnExactSameDeskWrongFalsely : Prop := fnExactSameDeskRow.holds Try.pinned (OpenSpec.ofChange fnExactSameDeskWrong)

/-- 'laws.FnExactValidDesk': WHATEVER THE INPUT: true; the input reads as it did. -/
def fnExactValidDeskSpec : ChangeSpec := { name := "fnExactValidDesk", fn := fun _ => fun
  | [d] => { results := [.lit (.bool true)], args := [d] }
  | _ => none }
def fnExactValidDeskRow : OpenClaim := { program := "ytljhohacgceojaa", sum := "c5882e19db6dc4fb770135e85684eb9407d4b3bd895218653df4a13cfaef300c", func := "loop.example/g01346/laws.FnExactValidDesk", spec := "fnExactValidDesk", apart := false }
def FnExactValidDeskSaid : Prop := fnExactValidDeskRow.holds Try.pinned (OpenSpec.ofChange fnExactValidDeskSpec)

/-- ITS FALSE NEIGHBOUR: 'it returns false'. Refute it at one input. -/
def fnExactValidDeskWrong : ChangeSpec := { name := "fnExactValidDesk", fn := fun _ => fun
  | [d] => { results := [.lit (.bool false)], args := [d] }
  | _ => none }
def FnExactValidDeskWrongFalsely : Prop := fnExactValidDeskRow.holds Try.pinned (OpenSpec.ofChange fnExactValidDeskWrong)

/- THE SECOND FORM. 'bulk': how many values and letters a reading holds, each counted each time it is reached (what is shared counts as often as it is met; a slice's spare places count too). A statement '..UptoSaid' is the law's where the arguments, and the package variables that the reading takes, are together of bulk at most 1048576: NARROWER than '..Said'. Prove '..Said' where nothing that the law and all that it calls make is longer than what came in: it says more and counts as full. Else prove '..UptoSaid'. A law counts once. -/
mutual
def uptoBulk {H : Type} : DataW H → Nat
  | .lit (.string bytes) => bytes.length + 1
  | .lit _ => 1
  | .nil => 1
  | .ptr d => uptoBulk d + 1
  | .slice elems spare => uptoBulkAll elems + uptoBulkAll spare + 1
  | .agg parts => uptoBulkAll parts + 1
  | .iface _ d => uptoBulk d + 1
  | .map entries => uptoBulkEntries entries + 1
  | .held _ => 1
def uptoBulkAll {H : Type} : List (DataW H) → Nat
  | [] => 0
  | d :: r => uptoBulk d + uptoBulkAll r
def uptoBulkEntries {H : Type} : List (Lit × DataW H) → Nat
  | [] => 0
  | x :: r => uptoBulkEntry x + uptoBulkEntries r
def uptoBulkEntry {H : Type} : Lit × DataW H → Nat
  | (.string bytes, d) => bytes.length + uptoBulk d + 1
  | (_, d) => uptoBulk d + 1
 end
def uptoSmall : (H : Type) → List (DataW H) → Bool := fun _ ds => decide (uptoBulkAll ds ≤ 1048576)
def OpenSpec.upto (s : _root_.Go.ChangeSpec) : _root_.Go.OpenSpec := { _root_.Go.OpenSpec.ofChange s with cond := some uptoSmall }

/-- 'laws.FnExactSameCases', WHERE WHAT IT READS IS OF BULK AT MOST 1048576: true; the input reads as it did. -/
def fnExactSameCasesUptoRow : OpenClaim := { program := "ytljhohacgceojaa", sum := "c5882e19db6dc4fb770135e85684eb9407d4b3bd895218653df4a13cfaef300c", func := "loop.example/g01346/laws.FnExactSameCases", spec := "fnExactSameCases", unfollowed := true, recurses := true, apart := false, narrowed := true }
def FnExactSameCasesUptoSaid : Prop := fnExactSameCasesUptoRow.holds Try.pinned (OpenSpec.upto fnExactSameCasesSpec)

/-- 'laws.FnExactValidCase', WHERE WHAT IT READS IS OF BULK AT MOST 1048576: true; the input reads as it did. -/
def fnExactValidCaseUptoRow : OpenClaim := { program := "ytljhohacgceojaa", sum := "c5882e19db6dc4fb770135e85684eb9407d4b3bd895218653df4a13cfaef300c", func := "loop.example/g01346/laws.FnExactValidCase", spec := "fnExactValidCase", apart := false, narrowed := true }
def FnExactValidCaseUptoSaid : Prop := fnExactValidCaseUptoRow.holds Try.pinned (OpenSpec.upto fnExactValidCaseSpec)

/-- 'laws.FnCases', WHERE WHAT IT READS IS OF BULK AT MOST 1048576: true; the input reads as it did. -/
def fnCasesUptoRow : OpenClaim := { program := "ytljhohacgceojaa", sum := "c5882e19db6dc4fb770135e85684eb9407d4b3bd895218653df4a13cfaef300c", func := "loop.example/g01346/laws.FnCases", spec := "fnCases", unfollowed := true, recurses := true, apart := false, narrowed := true }
def FnCasesUptoSaid : Prop := fnCasesUptoRow.holds Try.pinned (OpenSpec.upto fnCasesSpec)

/-- 'laws.FnExactStoreCase', WHERE WHAT IT READS IS OF BULK AT MOST 1048576: true; the input reads as it did. -/
def fnExactStoreCaseUptoRow : OpenClaim := { program := "ytljhohacgceojaa", sum := "c5882e19db6dc4fb770135e85684eb9407d4b3bd895218653df4a13cfaef300c", func := "loop.example/g01346/laws.FnExactStoreCase", spec := "fnExactStoreCase", apart := false, narrowed := true }
def FnExactStoreCaseUptoSaid : Prop := fnExactStoreCaseUptoRow.holds Try.pinned (OpenSpec.upto fnExactStoreCaseSpec)

/-- 'laws.FnExactStoreCases', WHERE WHAT IT READS IS OF BULK AT MOST 1048576: true; the input reads as it did. -/
def fnExactStoreCasesUptoRow : OpenClaim := { program := "ytljhohacgceojaa", sum := "c5882e19db6dc4fb770135e85684eb9407d4b3bd895218653df4a13cfaef300c", func := "loop.example/g01346/laws.FnExactStoreCases", spec := "fnExactStoreCases", apart := false, narrowed := true }
def FnExactStoreCasesUptoSaid : Prop := fnExactStoreCasesUptoRow.holds Try.pinned (OpenSpec.upto fnExactStoreCasesSpec)

/-- 'laws.FnExactLoadCase', WHERE WHAT IT READS IS OF BULK AT MOST 1048576: true; the input reads as it did. -/
def fnExactLoadCaseUptoRow : OpenClaim := { program := "ytljhohacgceojaa", sum := "c5882e19db6dc4fb770135e85684eb9407d4b3bd895218653df4a13cfaef300c", func := "loop.example/g01346/laws.FnExactLoadCase", spec := "fnExactLoadCase", apart := false, narrowed := true }
def FnExactLoadCaseUptoSaid : Prop := fnExactLoadCaseUptoRow.holds Try.pinned (OpenSpec.upto fnExactLoadCaseSpec)

/-- 'laws.FnExactRecoverCases', WHERE WHAT IT READS IS OF BULK AT MOST 1048576: true; the input reads as it did. -/
def fnExactRecoverCasesUptoRow : OpenClaim := { program := "ytljhohacgceojaa", sum := "c5882e19db6dc4fb770135e85684eb9407d4b3bd895218653df4a13cfaef300c", func := "loop.example/g01346/laws.FnExactRecoverCases", spec := "fnExactRecoverCases", apart := false, narrowed := true }
def FnExactRecoverCasesUptoSaid : Prop := fnExactRecoverCasesUptoRow.holds Try.pinned (OpenSpec.upto fnExactRecoverCasesSpec)

/-- 'laws.FnExactSameDesk', WHERE WHAT IT READS IS OF BULK AT MOST 1048576: true; the input reads as it did. -/
def fnExactSameDeskUptoRow : OpenClaim := { program := "ytljhohacgceojaa", sum := "c5882e19db6dc4fb770135e85684eb9407d4b3bd895218653df4a13cfaef300c", func := "loop.example/g01346/laws.FnExactSameDesk", spec := "fnExactSameDesk", inPlace := ["math.Float32bits"], apart := false, narrowed := true }
def FnExactSameDeskUptoSaid : Prop := fnExactSameDeskUptoRow.holds Try.pinned (OpenSpec.upto fnExactSameDeskSpec)

/-- 'laws.FnExactValidDesk', WHERE WHAT IT READS IS OF BULK AT MOST 1048576: true; the input reads as it did. -/
def fnExactValidDeskUptoRow : OpenClaim := { program := "ytljhohacgceojaa", sum := "c5882e19db6dc4fb770135e85684eb9407d4b3bd895218653df4a13cfaef300c", func := "loop.example/g01346/laws.FnExactValidDesk", spec := "fnExactValidDesk", apart := false, narrowed := true }
def FnExactValidDeskUptoSaid : Prop := fnExactValidDeskUptoRow.holds Try.pinned (OpenSpec.upto fnExactValidDeskSpec)

end Rows
end Go.Proofs.Ytljhohacgceojaa
