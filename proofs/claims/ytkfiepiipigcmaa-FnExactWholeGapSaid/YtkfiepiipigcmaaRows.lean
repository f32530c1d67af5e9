/-
  No cell of these rows narrows 'for every input' (looked for: loops, veiled, ifaces, maps, wideKeys, modest, calm, conditions, laid).
  DERIVED. THE GIVEN ROWS OF THIS SEAT. 6 by the template 'for every input the law returns true; each argument reads behind the call as it read before'; 0 by the template 'total and deterministic' (their statements: YtkfiepiipigcmaaTotals.lean).
  GIVEN WITH THE SEED: the statements are not yours to turn. If you find one false, say at which input.
  Laid BY PROGRAM, IN A SANDBOX (cutbox-rows.mjs): the forced cells as the released guide's own fill.sh prints them over the translation 9e6db1ed56f70058… (all of the seat's roots in one cut). By AI agents, Wed Nov 11 2026. No macro, syntax, notation, axiom, sorry.
-/
import Derived.Test.YtkfiepiipigcmaaChecked
import GoSem.Claim
import GoSem.ClaimJoined
import GoSem.ClaimMapViews
import Derived.JoinedTies
import Derived.KernelRfl
namespace Go.Proofs.Ytkfiepiipigcmaa
/- THE CELL 'sum', in the pinned program and in every row, IS THE sha256 OF THE DUMP (.gsa) THAT YtkfiepiipigcmaaProg.lean LOADS. Nothing in Lean hashes anything: it is a label: what it is worth is what the hold of that sum in a sandbox is worth. -/
noncomputable def Try.pinned : Pinned := { name := "ytkfiepiipigcmaa", sum := "9e6db1ed56f70058c286f310e643ff2d75843d1f1698a9ab0f9ae24bcb9a6890", checked := Try.checked }
namespace Rows
def none {H : Type} : Left H := { results := [], args := [] }

/-- 'laws.FnExactMostSpans': WHATEVER THE INPUT: true; the input reads as it did. -/
def fnExactMostSpansSpec : ChangeSpec := { name := "fnExactMostSpans", fn := fun _ => fun
  | [d] => { results := [.lit (.bool true)], args := [d] }
  | _ => none }
def fnExactMostSpansRow : OpenClaim := { program := "ytkfiepiipigcmaa", sum := "9e6db1ed56f70058c286f310e643ff2d75843d1f1698a9ab0f9ae24bcb9a6890", func := "loop.example/g01346/laws.FnExactMostSpans", spec := "fnExactMostSpans", unfollowed := true, recurses := true, apart := false }
def FnExactMostSpansSaid : Prop := fnExactMostSpansRow.holds Try.pinned (OpenSpec.ofChange fnExactMostSpansSpec)

/-- ITS FALSE NEIGHBOUR: 'it returns false'. Refute it at one input. -/
def fnExactMostSpansWrong : ChangeSpec := { name := "fnExactMostSpans", fn := fun _ => fun
  | [d] => { results := [.lit (.bool false)], args := [d] }
  | _ => none }
def FnExactMostSpansWrongFalsely : Prop := fnExactMostSpansRow.holds Try.pinned (OpenSpec.ofChange fnExactMostSpansWrong)

/-- 'laws.FnExactBestSpans': WHATEVER THE INPUT: true; the input reads as it did. -/
def fnExactBestSpansSpec : ChangeSpec := { name := "fnExactBestSpans", fn := fun _ => fun
  | [d] => { results := [.lit (.bool true)], args := [d] }
  | _ => none }
def fnExactBestSpansRow : OpenClaim := { program := "ytkfiepiipigcmaa", sum := "9e6db1ed56f70058c286f310e643ff2d75843d1f1698a9ab0f9ae24bcb9a6890", func := "loop.example/g01346/laws.FnExactBestSpans", spec := "fnExactBestSpans", unfollowed := true, recurses := true, apart := false }
def FnExactBestSpansSaid : Prop := fnExactBestSpansRow.holds Try.pinned (OpenSpec.ofChange fnExactBestSpansSpec)

/-- ITS FALSE NEIGHBOUR: 'it returns false'. Refute it at one input. -/
def fnExactBestSpansWrong : ChangeSpec := { name := "fnExactBestSpans", fn := fun _ => fun
  | [d] => { results := [.lit (.bool false)], args := [d] }
  | _ => none }
def FnExactBestSpansWrongFalsely : Prop := fnExactBestSpansRow.holds Try.pinned (OpenSpec.ofChange fnExactBestSpansWrong)

/-- 'laws.FnSpans': WHATEVER THE INPUT: true; the input reads as it did. -/
def fnSpansSpec : ChangeSpec := { name := "fnSpans", fn := fun _ => fun
  | [d1, d2] => { results := [.lit (.bool true)], args := [d1, d2] }
  | _ => none }
def fnSpansRow : OpenClaim := { program := "ytkfiepiipigcmaa", sum := "9e6db1ed56f70058c286f310e643ff2d75843d1f1698a9ab0f9ae24bcb9a6890", func := "loop.example/g01346/laws.FnSpans", spec := "fnSpans", unfollowed := true, recurses := true, apart := false }
def FnSpansSaid : Prop := fnSpansRow.holds Try.pinned (OpenSpec.ofChange fnSpansSpec)

/-- ITS FALSE NEIGHBOUR: 'it returns false'. Refute it at one input. -/
def fnSpansWrong : ChangeSpec := { name := "fnSpans", fn := fun _ => fun
  | [d1, d2] => { results := [.lit (.bool false)], args := [d1, d2] }
  | _ => none }
def FnSpansWrongFalsely : Prop := fnSpansRow.holds Try.pinned (OpenSpec.ofChange fnSpansWrong)

/-- 'laws.FnJobs': WHATEVER THE INPUT: true; the input reads as it did. -/
def fnJobsSpec : ChangeSpec := { name := "fnJobs", fn := fun _ => fun
  | [d1, d2] => { results := [.lit (.bool true)], args := [d1, d2] }
  | _ => none }
def fnJobsRow : OpenClaim := { program := "ytkfiepiipigcmaa", sum := "9e6db1ed56f70058c286f310e643ff2d75843d1f1698a9ab0f9ae24bcb9a6890", func := "loop.example/g01346/laws.FnJobs", spec := "fnJobs", unfollowed := true, recurses := true, apart := false }
def FnJobsSaid : Prop := fnJobsRow.holds Try.pinned (OpenSpec.ofChange fnJobsSpec)

/-- ITS FALSE NEIGHBOUR: 'it returns false'. Refute it at one input. -/
def fnJobsWrong : ChangeSpec := { name := "fnJobs", fn := fun _ => fun
  | [d1, d2] => { results := [.lit (.bool false)], args := [d1, d2] }
  | _ => none }
def FnJobsWrongFalsely : Prop := fnJobsRow.holds Try.pinned (OpenSpec.ofChange fnJobsWrong)

/-- 'laws.FnMachines': WHATEVER THE INPUT: true; the input reads as it did. -/
def fnMachinesSpec : ChangeSpec := { name := "fnMachines", fn := fun _ => fun
  | [d1, d2] => { results := [.lit (.bool true)], args := [d1, d2] }
  | _ => none }
def fnMachinesRow : OpenClaim := { program := "ytkfiepiipigcmaa", sum := "9e6db1ed56f70058c286f310e643ff2d75843d1f1698a9ab0f9ae24bcb9a6890", func := "loop.example/g01346/laws.FnMachines", spec := "fnMachines", unfollowed := true, recurses := true, apart := false }
def FnMachinesSaid : Prop := fnMachinesRow.holds Try.pinned (OpenSpec.ofChange fnMachinesSpec)

/-- ITS FALSE NEIGHBOUR: 'it returns false'. Refute it at one input. -/
def fnMachinesWrong : ChangeSpec := { name := "fnMachines", fn := fun _ => fun
  | [d1, d2] => { results := [.lit (.bool false)], args := [d1, d2] }
  | _ => none }
def FnMachinesWrongFalsely : Prop := fnMachinesRow.holds Try.pinned (OpenSpec.ofChange fnMachinesWrong)

/-- 'laws.FnExactWholeGap': WHATEVER THE INPUT: true; the input reads as it did. -/
def fnExactWholeGapSpec : ChangeSpec := { name := "fnExactWholeGap", fn := fun _ => fun
  | [d1, d2, d3, d4] => { results := [.lit (.bool true)], args := [d1, d2, d3, d4] }
  | _ => none }
def fnExactWholeGapRow : OpenClaim := { program := "ytkfiepiipigcmaa", sum := "9e6db1ed56f70058c286f310e643ff2d75843d1f1698a9ab0f9ae24bcb9a6890", func := "loop.example/g01346/laws.FnExactWholeGap", spec := "fnExactWholeGap", unfollowed := true, recurses := true, apart := false }
def FnExactWholeGapSaid : Prop := fnExactWholeGapRow.holds Try.pinned (OpenSpec.ofChange fnExactWholeGapSpec)

/-- ITS FALSE NEIGHBOUR: 'it returns false'. Refute it at one input. -/
def fnExactWholeGapWrong : ChangeSpec := { name := "fnExactWholeGap", fn := fun _ => fun
  | [d1, d2, d3, d4] => { results := [.lit (.bool false)], args := [d1, d2, d3, d4] }
  | _ => none }
def FnExactWholeGapWrongFalsely : Prop := fnExactWholeGapRow.holds Try.pinned (OpenSpec.ofChange fnExactWholeGapWrong)

/- THE SECOND FORM. 'bulk': how many values and letters a reading holds, each counted each time it is reached (what is shared counts as often as it is met; a slice's spare places count too). A statement '..UptoSaid' is the law's where the arguments, and the package variables that the reading takes, are together of bulk at most 1048576: NARROWER than '..Said'. Prove '..Said' where nothing that the law and all that it calls make is longer than what came in: it says more and counts as full. Else prove '..UptoSaid'. A law counts once. -/
mutual
def uptoBulk {H : Type} : DataW H → Nat
  | .lit (.string bytes) => bytes.length + 1
  | .lit _ => 1
  | .nil => 1
  | .ptr d => uptoBulk d + 1
  | .slice elems spare => uptoBulkAll elems + uptoBulkAll spare + 1
  | .agg parts => uptoBulkAll parts + 1
  | .iface _ d => uptoBulk d + 1
  | .map entries => uptoBulkEntries entries + 1
  | .held _ => 1
def uptoBulkAll {H : Type} : List (DataW H) → Nat
  | [] => 0
  | d :: r => uptoBulk d + uptoBulkAll r
def uptoBulkEntries {H : Type} : List (Lit × DataW H) → Nat
  | [] => 0
  | x :: r => uptoBulkEntry x + uptoBulkEntries r
def uptoBulkEntry {H : Type} : Lit × DataW H → Nat
  | (.string bytes, d) => bytes.length + uptoBulk d + 1
  | (_, d) => uptoBulk d + 1
 end
def uptoSmall : (H : Type) → List (DataW H) → Bool := fun _ ds => decide (uptoBulkAll ds ≤ 1048576)
def OpenSpec.upto (s : _root_.Go.ChangeSpec) : _root_.Go.OpenSpec := { _root_.Go.OpenSpec.ofChange s with cond := some uptoSmall }

/-- 'laws.FnExactMostSpans', WHERE WHAT IT READS IS OF BULK AT MOST 1048576: true; the input reads as it did. -/
def fnExactMostSpansUptoRow : OpenClaim := { program := "ytkfiepiipigcmaa", sum := "9e6db1ed56f70058c286f310e643ff2d75843d1f1698a9ab0f9ae24bcb9a6890", func := "loop.example/g01346/laws.FnExactMostSpans", spec := "fnExactMostSpans", unfollowed := true, recurses := true, apart := false, narrowed := true }
def FnExactMostSpansUptoSaid : Prop := fnExactMostSpansUptoRow.holds Try.pinned (OpenSpec.upto fnExactMostSpansSpec)

/-- 'laws.FnExactBestSpans', WHERE WHAT IT READS IS OF BULK AT MOST 1048576: true; the input reads as it did. -/
def fnExactBestSpansUptoRow : OpenClaim := { program := "ytkfiepiipigcmaa", sum := "9e6db1ed56f70058c286f310e643ff2d75843d1f1698a9ab0f9ae24bcb9a6890", func := "loop.example/g01346/laws.FnExactBestSpans", spec := "fnExactBestSpans", unfollowed := true, recurses := true, apart := false, narrowed := true }
def FnExactBestSpansUptoSaid : Prop := fnExactBestSpansUptoRow.holds Try.pinned (OpenSpec.upto fnExactBestSpansSpec)

/-- 'laws.FnSpans', WHERE WHAT IT READS IS OF BULK AT MOST 1048576: true; the input reads as it did. -/
def fnSpansUptoRow : OpenClaim := { program := "ytkfiepiipigcmaa", sum := "9e6db1ed56f70058c286f310e643ff2d75843d1f1698a9ab0f9ae24bcb9a6890", func := "loop.example/g01346/laws.FnSpans", spec := "fnSpans", unfollowed := true, recurses := true, apart := false, narrowed := true }
def FnSpansUptoSaid : Prop := fnSpansUptoRow.holds Try.pinned (OpenSpec.upto fnSpansSpec)

/-- 'laws.FnJobs', WHERE WHAT IT READS IS OF BULK AT MOST 1048576: true; the input reads as it did. -/
def fnJobsUptoRow : OpenClaim := { program := "ytkfiepiipigcmaa", sum := "9e6db1ed56f70058c286f310e643ff2d75843d1f1698a9ab0f9ae24bcb9a6890", func := "loop.example/g01346/laws.FnJobs", spec := "fnJobs", unfollowed := true, recurses := true, apart := false, narrowed := true }
def FnJobsUptoSaid : Prop := fnJobsUptoRow.holds Try.pinned (OpenSpec.upto fnJobsSpec)

/-- 'laws.FnMachines', WHERE WHAT IT READS IS OF BULK AT MOST 1048576: true; the input reads as it did. -/
def fnMachinesUptoRow : OpenClaim := { program := "ytkfiepiipigcmaa", sum := "9e6db1ed56f70058c286f310e643ff2d75843d1f1698a9ab0f9ae24bcb9a6890", func := "loop.example/g01346/laws.FnMachines", spec := "fnMachines", unfollowed := true, recurses := true, apart := false, narrowed := true }
def FnMachinesUptoSaid : Prop := fnMachinesUptoRow.holds Try.pinned (OpenSpec.upto fnMachinesSpec)

/-- 'laws.FnExactWholeGap', WHERE WHAT IT READS IS OF BULK AT MOST 1048576: true; the input reads as it did. -/
def fnExactWholeGapUptoRow : OpenClaim := { program := "ytkfiepiipigcmaa", sum := "9e6db1ed56f70058c286f310e643ff2d75843d1f1698a9ab0f9ae24bcb9a6890", func := "loop.example/g01346/laws.FnExactWholeGap", spec := "fnExactWholeGap", unfollowed := true, recurses := true, apart := false, narrowed := true }
def FnExactWholeGapUptoSaid : Prop := fnExactWholeGapUptoRow.holds Try.pinned (OpenSpec.upto fnExactWholeGapSpec)

end Rows
end Go.Proofs.Ytkfiepiipigcmaa
