/-
  No cell of these rows narrows 'for every input' (looked for: loops, veiled, ifaces, maps, wideKeys, modest, calm, conditions, laid).
  DERIVED. THE GIVEN ROWS OF THIS SEAT. 11 by the template 'for every input the law returns true; each argument reads behind the call as it read before'; 0 by the template 'total and deterministic' (their statements: YtnhamdkpeefioaaTotals.lean).
  GIVEN WITH THE SEED: the statements are not yours to turn. If you find one false, say at which input.
  Laid BY PROGRAM, IN A SANDBOX (cutbox-rows.mjs): the forced cells as the released guide's own fill.sh prints them over the translation 1359b13d89ecd667… (all of the seat's roots in one cut). By AI agents, Wed Nov 11 2026. No macro, syntax, notation, axiom, sorry.
-/
import Derived.Test.YtnhamdkpeefioaaChecked
import GoSem.Claim
import GoSem.ClaimJoined
import GoSem.ClaimMapViews
import Derived.JoinedTies
import Derived.KernelRfl
namespace Go.Proofs.Ytnhamdkpeefioaa
/- THE CELL 'sum', in the pinned program and in every row, IS THE sha256 OF THE DUMP (.gsa) THAT YtnhamdkpeefioaaProg.lean LOADS. Nothing in Lean hashes anything: it is a label: what it is worth is what the hold of that sum in a sandbox is worth. -/
noncomputable def Try.pinned : Pinned := { name := "ytnhamdkpeefioaa", sum := "1359b13d89ecd667108b48b59bfdaf718f59c839522f5d3d2392490c63c5b9d4", checked := Try.checked }
namespace Rows
def none {H : Type} : Left H := { results := [], args := [] }

/-- 'laws.FnExactNarrowDiffers': WHATEVER THE INPUT: true; the input reads as it did. -/
def fnExactNarrowDiffersSpec : ChangeSpec := { name := "fnExactNarrowDiffers", fn := fun _ => fun
  | [d] => { results := [.lit (.bool true)], args := [d] }
  | _ => none }
def fnExactNarrowDiffersRow : OpenClaim := { program := "ytnhamdkpeefioaa", sum := "1359b13d89ecd667108b48b59bfdaf718f59c839522f5d3d2392490c63c5b9d4", func := "loop.example/g01346/laws.FnExactNarrowDiffers", spec := "fnExactNarrowDiffers", unfollowed := true, recurses := true, apart := false }
def FnExactNarrowDiffersSaid : Prop := fnExactNarrowDiffersRow.holds Try.pinned (OpenSpec.ofChange fnExactNarrowDiffersSpec)

/-- ITS FALSE NEIGHBOUR: 'it returns false'. Refute it at one input. -/
def fnExactNarrowDiffersWrong : ChangeSpec := { name := "fnExactNarrowDiffers", fn := fun _ => fun
  | [d] => { results := [.lit (.bool false)], args := [d] }
  | _ => none }
def FnExactNarrowDiffersWrongFalsely : Prop := fnExactNarrowDiffersRow.holds Try.pinned (OpenSpec.ofChange fnExactNarrowDiffersWrong)

/-- 'laws.FnDiffers': WHATEVER THE INPUT: true; the input reads as it did. -/
def fnDiffersSpec : ChangeSpec := { name := "fnDiffers", fn := fun _ => fun
  | [d1, d2] => { results := [.lit (.bool true)], args := [d1, d2] }
  | _ => none }
def fnDiffersRow : OpenClaim := { program := "ytnhamdkpeefioaa", sum := "1359b13d89ecd667108b48b59bfdaf718f59c839522f5d3d2392490c63c5b9d4", func := "loop.example/g01346/laws.FnDiffers", spec := "fnDiffers", unfollowed := true, recurses := true, apart := false }
def FnDiffersSaid : Prop := fnDiffersRow.holds Try.pinned (OpenSpec.ofChange fnDiffersSpec)

/-- ITS FALSE NEIGHBOUR: 'it returns false'. Refute it at one input. -/
def fnDiffersWrong : ChangeSpec := { name := "fnDiffers", fn := fun _ => fun
  | [d1, d2] => { results := [.lit (.bool false)], args := [d1, d2] }
  | _ => none }
def FnDiffersWrongFalsely : Prop := fnDiffersRow.holds Try.pinned (OpenSpec.ofChange fnDiffersWrong)

/-- 'laws.FnExactScaleRows': WHATEVER THE INPUT: true; the input reads as it did. -/
def fnExactScaleRowsSpec : ChangeSpec := { name := "fnExactScaleRows", fn := fun _ => fun
  | [d] => { results := [.lit (.bool true)], args := [d] }
  | _ => none }
def fnExactScaleRowsRow : OpenClaim := { program := "ytnhamdkpeefioaa", sum := "1359b13d89ecd667108b48b59bfdaf718f59c839522f5d3d2392490c63c5b9d4", func := "loop.example/g01346/laws.FnExactScaleRows", spec := "fnExactScaleRows", inPlace := ["math.Float64bits", "math.Float64frombits"], apart := false }
def FnExactScaleRowsSaid : Prop := fnExactScaleRowsRow.holds Try.pinned (OpenSpec.ofChange fnExactScaleRowsSpec)

/-- ITS FALSE NEIGHBOUR: 'it returns false'. Refute it at one input. -/
def fnExactScaleRowsWrong : ChangeSpec := { name := "fnExactScaleRows", fn := fun _ => fun
  | [d] => { results := [.lit (.bool false)], args := [d] }
  | _ => none }
def FnExactScaleRowsWrongFalsely : Prop := fnExactScaleRowsRow.holds Try.pinned (OpenSpec.ofChange fnExactScaleRowsWrong)

/-- 'laws.FnExactWholeCount': WHATEVER THE INPUT: true; the input reads as it did. -/
def fnExactWholeCountSpec : ChangeSpec := { name := "fnExactWholeCount", fn := fun _ => fun
  | [d1, d2] => { results := [.lit (.bool true)], args := [d1, d2] }
  | _ => none }
def fnExactWholeCountRow : OpenClaim := { program := "ytnhamdkpeefioaa", sum := "1359b13d89ecd667108b48b59bfdaf718f59c839522f5d3d2392490c63c5b9d4", func := "loop.example/g01346/laws.FnExactWholeCount", spec := "fnExactWholeCount", unfollowed := true, recurses := true, apart := false }
def FnExactWholeCountSaid : Prop := fnExactWholeCountRow.holds Try.pinned (OpenSpec.ofChange fnExactWholeCountSpec)

/-- ITS FALSE NEIGHBOUR: 'it returns false'. Refute it at one input. -/
def fnExactWholeCountWrong : ChangeSpec := { name := "fnExactWholeCount", fn := fun _ => fun
  | [d1, d2] => { results := [.lit (.bool false)], args := [d1, d2] }
  | _ => none }
def FnExactWholeCountWrongFalsely : Prop := fnExactWholeCountRow.holds Try.pinned (OpenSpec.ofChange fnExactWholeCountWrong)

/-- 'laws.FnExactWholePlan': WHATEVER THE INPUT: true; the input reads as it did. -/
def fnExactWholePlanSpec : ChangeSpec := { name := "fnExactWholePlan", fn := fun _ => fun
  | [d1, d2] => { results := [.lit (.bool true)], args := [d1, d2] }
  | _ => none }
def fnExactWholePlanRow : OpenClaim := { program := "ytnhamdkpeefioaa", sum := "1359b13d89ecd667108b48b59bfdaf718f59c839522f5d3d2392490c63c5b9d4", func := "loop.example/g01346/laws.FnExactWholePlan", spec := "fnExactWholePlan", unfollowed := true, recurses := true, apart := false }
def FnExactWholePlanSaid : Prop := fnExactWholePlanRow.holds Try.pinned (OpenSpec.ofChange fnExactWholePlanSpec)

/-- ITS FALSE NEIGHBOUR: 'it returns false'. Refute it at one input. -/
def fnExactWholePlanWrong : ChangeSpec := { name := "fnExactWholePlan", fn := fun _ => fun
  | [d1, d2] => { results := [.lit (.bool false)], args := [d1, d2] }
  | _ => none }
def FnExactWholePlanWrongFalsely : Prop := fnExactWholePlanRow.holds Try.pinned (OpenSpec.ofChange fnExactWholePlanWrong)

/-- 'laws.FnExactClimbPlan': WHATEVER THE INPUT: true; the input reads as it did. -/
def fnExactClimbPlanSpec : ChangeSpec := { name := "fnExactClimbPlan", fn := fun _ => fun
  | [d1, d2, d3] => { results := [.lit (.bool true)], args := [d1, d2, d3] }
  | _ => none }
def fnExactClimbPlanRow : OpenClaim := { program := "ytnhamdkpeefioaa", sum := "1359b13d89ecd667108b48b59bfdaf718f59c839522f5d3d2392490c63c5b9d4", func := "loop.example/g01346/laws.FnExactClimbPlan", spec := "fnExactClimbPlan", apart := false }
def FnExactClimbPlanSaid : Prop := fnExactClimbPlanRow.holds Try.pinned (OpenSpec.ofChange fnExactClimbPlanSpec)

/-- ITS FALSE NEIGHBOUR: 'it returns false'. Refute it at one input. -/
def fnExactClimbPlanWrong : ChangeSpec := { name := "fnExactClimbPlan", fn := fun _ => fun
  | [d1, d2, d3] => { results := [.lit (.bool false)], args := [d1, d2, d3] }
  | _ => none }
def FnExactClimbPlanWrongFalsely : Prop := fnExactClimbPlanRow.holds Try.pinned (OpenSpec.ofChange fnExactClimbPlanWrong)

/-- 'laws.FnExactSameDesk': WHATEVER THE INPUT: true; the input reads as it did. -/
def fnExactSameDeskSpec : ChangeSpec := { name := "fnExactSameDesk", fn := fun _ => fun
  | [d1, d2] => { results := [.lit (.bool true)], args := [d1, d2] }
  | _ => none }
def fnExactSameDeskRow : OpenClaim := { program := "ytnhamdkpeefioaa", sum := "1359b13d89ecd667108b48b59bfdaf718f59c839522f5d3d2392490c63c5b9d4", func := "loop.example/g01346/laws.FnExactSameDesk", spec := "fnExactSameDesk", inPlace := ["math.Float32bits"], apart := false }
def FnExactSameDeskSaid : Prop := fnExactSameDeskRow.holds Try.pinned (OpenSpec.ofChange fnExactSameDeskSpec)

/-- ITS FALSE NEIGHBOUR: 'it returns false'. Refute it at one input. -/
def fnExactSameDeskWrong : ChangeSpec := { name := "fnExactSameDesk", fn := fun _ => fun
  | [d1, d2] => { results := [.lit (.bool false)], args := [d1, d2] }
  | _ => none }
def FnExactSameDeskWrongFalsely : Prop := fnExactSameDeskRow.holds Try.pinned (OpenSpec.ofChange fnExactSameDeskWrong)

/-- 'laws.FnExactValidDesk': WHATEVER THE INPUT: true; the input reads as it did. -/
def fnExactValidDeskSpec : ChangeSpec := { name := "fnExactValidDesk", fn := fun _ => fun
  | [d] => { results := [.lit (.bool true)], args := [d] }
  | _ => none }
def fnExactValidDeskRow : OpenClaim := { program := "ytnhamdkpeefioaa", sum := "1359b13d89ecd667108b48b59bfdaf718f59c839522f5d3d2392490c63c5b9d4", func := "loop.example/g01346/laws.FnExactValidDesk", spec := "fnExactValidDesk", apart := false }
def FnExactValidDeskSaid : Prop := fnExactValidDeskRow.holds Try.pinned (OpenSpec.ofChange fnExactValidDeskSpec)

/-- ITS FALSE NEIGHBOUR: 'it returns false'. Refute it at one input. -/
def fnExactValidDeskWrong : ChangeSpec := { name := "fnExactValidDesk", fn := fun _ => fun
  | [d] => { results := [.lit (.bool false)], args := [d] }
  | _ => none }
def FnExactValidDeskWrongFalsely : Prop := fnExactValidDeskRow.holds Try.pinned (OpenSpec.ofChange fnExactValidDeskWrong)

/-- 'laws.FnExactValidCase': WHATEVER THE INPUT: true; the input reads as it did. -/
def fnExactValidCaseSpec : ChangeSpec := { name := "fnExactValidCase", fn := fun _ => fun
  | [d] => { results := [.lit (.bool true)], args := [d] }
  | _ => none }
def fnExactValidCaseRow : OpenClaim := { program := "ytnhamdkpeefioaa", sum := "1359b13d89ecd667108b48b59bfdaf718f59c839522f5d3d2392490c63c5b9d4", func := "loop.example/g01346/laws.FnExactValidCase", spec := "fnExactValidCase", apart := false }
def FnExactValidCaseSaid : Prop := fnExactValidCaseRow.holds Try.pinned (OpenSpec.ofChange fnExactValidCaseSpec)

/-- ITS FALSE NEIGHBOUR: 'it returns false'. Refute it at one input. -/
def fnExactValidCaseWrong : ChangeSpec := { name := "fnExactValidCase", fn := fun _ => fun
  | [d] => { results := [.lit (.bool false)], args := [d] }
  | _ => none }
def FnExactValidCaseWrongFalsely : Prop := fnExactValidCaseRow.holds Try.pinned (OpenSpec.ofChange fnExactValidCaseWrong)

/-- 'laws.FnExactOnTimeOrder': WHATEVER THE INPUT: true; the input reads as it did. -/
def fnExactOnTimeOrderSpec : ChangeSpec := { name := "fnExactOnTimeOrder", fn := fun _ => fun
  | [d] => { results := [.lit (.bool true)], args := [d] }
  | _ => none }
def fnExactOnTimeOrderRow : OpenClaim := { program := "ytnhamdkpeefioaa", sum := "1359b13d89ecd667108b48b59bfdaf718f59c839522f5d3d2392490c63c5b9d4", func := "loop.example/g01346/laws.FnExactOnTimeOrder", spec := "fnExactOnTimeOrder", unfollowed := true, recurses := true, apart := false }
def FnExactOnTimeOrderSaid : Prop := fnExactOnTimeOrderRow.holds Try.pinned (OpenSpec.ofChange fnExactOnTimeOrderSpec)

/-- ITS FALSE NEIGHBOUR: 'it returns false'. Refute it at one input. -/
def fnExactOnTimeOrderWrong : ChangeSpec := { name := "fnExactOnTimeOrder", fn := fun _ => fun
  | [d] => { results := [.lit (.bool false)], args := [d] }
  | _ => none }
def FnExactOnTimeOrderWrongFalsely : Prop := fnExactOnTimeOrderRow.holds Try.pinned (OpenSpec.ofChange fnExactOnTimeOrderWrong)

/-- 'laws.FnExactToSimplex': WHATEVER THE INPUT: true; the input reads as it did. -/
def fnExactToSimplexSpec : ChangeSpec := { name := "fnExactToSimplex", fn := fun _ => fun
  | [d] => { results := [.lit (.bool true)], args := [d] }
  | _ => none }
def fnExactToSimplexRow : OpenClaim := { program := "ytnhamdkpeefioaa", sum := "1359b13d89ecd667108b48b59bfdaf718f59c839522f5d3d2392490c63c5b9d4", func := "loop.example/g01346/laws.FnExactToSimplex", spec := "fnExactToSimplex", unfollowed := true, recurses := true, apart := false }
def FnExactToSimplexSaid : Prop := fnExactToSimplexRow.holds Try.pinned (OpenSpec.ofChange fnExactToSimplexSpec)

/-- ITS FALSE NEIGHBOUR: 'it returns false'. Refute it at one input. -/
def fnExactToSimplexWrong : ChangeSpec := { name := "fnExactToSimplex", fn := fun _ => fun
  | [d] => { results := [.lit (.bool false)], args := [d] }
  | _ => none }
def FnExactToSimplexWrongFalsely : Prop := fnExactToSimplexRow.holds Try.pinned (OpenSpec.ofChange fnExactToSimplexWrong)

/- THE SECOND FORM. 'bulk': how many values and letters a reading holds, each counted each time it is reached (what is shared counts as often as it is met; a slice's spare places count too). A statement '..UptoSaid' is the law's where the arguments, and the package variables that the reading takes, are together of bulk at most 1048576: NARROWER than '..Said'. Prove '..Said' where nothing that the law and all that it calls make is longer than what came in: it says more and counts as full. Else prove '..UptoSaid'. A law counts once. -/
mutual
def uptoBulk {H : Type} : DataW H → Nat
  | .lit (.string bytes) => bytes.length + 1
  | .lit _ => 1
  | .nil => 1
  | .ptr d => uptoBulk d + 1
  | .slice elems spare => uptoBulkAll elems + uptoBulkAll spare + 1
  | .agg parts => uptoBulkAll parts + 1
  | .iface _ d => uptoBulk d + 1
  | .map entries => uptoBulkEntries entries + 1
  | .held _ => 1
def uptoBulkAll {H : Type} : List (DataW H) → Nat
  | [] => 0
  | d :: r => uptoBulk d + uptoBulkAll r
def uptoBulkEntries {H : Type} : List (Lit × DataW H) → Nat
  | [] => 0
  | x :: r => uptoBulkEntry x + uptoBulkEntries r
def uptoBulkEntry {H : Type} : Lit × DataW H → Nat
  | (.string bytes, d) => bytes.length + uptoBulk d + 1
  | (_, d) => uptoBulk d + 1
 end
def uptoSmall : (H : Type) → List (DataW H) → Bool := fun _ ds => decide (uptoBulkAll ds ≤ 1048576)
def OpenSpec.upto (s : _root_.Go.ChangeSpec) : _root_.Go.OpenSpec := { _root_.Go.OpenSpec.ofChange s with cond := some uptoSmall }

/-- 'laws.FnExactNarrowDiffers', WHERE WHAT IT READS IS OF BULK AT MOST 1048576: true; the input reads as it did. -/
def fnExactNarrowDiffersUptoRow : OpenClaim := { program := "ytnhamdkpeefioaa", sum := "1359b13d89ecd667108b48b59bfdaf718f59c839522f5d3d2392490c63c5b9d4", func := "loop.example/g01346/laws.FnExactNarrowDiffers", spec := "fnExactNarrowDiffers", unfollowed := true, recurses := true, apart := false, narrowed := true }
def FnExactNarrowDiffersUptoSaid : Prop := fnExactNarrowDiffersUptoRow.holds Try.pinned (OpenSpec.upto fnExactNarrowDiffersSpec)

/-- 'laws.FnDiffers', WHERE WHAT IT READS IS OF BULK AT MOST 1048576: true; the input reads as it did. -/
def fnDiffersUptoRow : OpenClaim := { program := "ytnhamdkpeefioaa", sum := "1359b13d89ecd667108b48b59bfdaf718f59c839522f5d3d2392490c63c5b9d4", func := "loop.example/g01346/laws.FnDiffers", spec := "fnDiffers", unfollowed := true, recurses := true, apart := false, narrowed := true }
def FnDiffersUptoSaid : Prop := fnDiffersUptoRow.holds Try.pinned (OpenSpec.upto fnDiffersSpec)

/-- 'laws.FnExactScaleRows', WHERE WHAT IT READS IS OF BULK AT MOST 1048576: true; the input reads as it did. -/
def fnExactScaleRowsUptoRow : OpenClaim := { program := "ytnhamdkpeefioaa", sum := "1359b13d89ecd667108b48b59bfdaf718f59c839522f5d3d2392490c63c5b9d4", func := "loop.example/g01346/laws.FnExactScaleRows", spec := "fnExactScaleRows", inPlace := ["math.Float64bits", "math.Float64frombits"], apart := false, narrowed := true }
def FnExactScaleRowsUptoSaid : Prop := fnExactScaleRowsUptoRow.holds Try.pinned (OpenSpec.upto fnExactScaleRowsSpec)

/-- 'laws.FnExactWholeCount', WHERE WHAT IT READS IS OF BULK AT MOST 1048576: true; the input reads as it did. -/
def fnExactWholeCountUptoRow : OpenClaim := { program := "ytnhamdkpeefioaa", sum := "1359b13d89ecd667108b48b59bfdaf718f59c839522f5d3d2392490c63c5b9d4", func := "loop.example/g01346/laws.FnExactWholeCount", spec := "fnExactWholeCount", unfollowed := true, recurses := true, apart := false, narrowed := true }
def FnExactWholeCountUptoSaid : Prop := fnExactWholeCountUptoRow.holds Try.pinned (OpenSpec.upto fnExactWholeCountSpec)

/-- 'laws.FnExactWholePlan', WHERE WHAT IT READS IS OF BULK AT MOST 1048576: true; the input reads as it did. -/
def fnExactWholePlanUptoRow : OpenClaim := { program := "ytnhamdkpeefioaa", sum := "1359b13d89ecd667108b48b59bfdaf718f59c839522f5d3d2392490c63c5b9d4", func := "loop.example/g01346/laws.FnExactWholePlan", spec := "fnExactWholePlan", unfollowed := true, recurses := true, apart := false, narrowed := true }
def FnExactWholePlanUptoSaid : Prop := fnExactWholePlanUptoRow.holds Try.pinned (OpenSpec.upto fnExactWholePlanSpec)

/-- 'laws.FnExactClimbPlan', WHERE WHAT IT READS IS OF BULK AT MOST 1048576: true; the input reads as it did. -/
def fnExactClimbPlanUptoRow : OpenClaim := { program := "ytnhamdkpeefioaa", sum := "1359b13d89ecd667108b48b59bfdaf718f59c839522f5d3d2392490c63c5b9d4", func := "loop.example/g01346/laws.FnExactClimbPlan", spec := "fnExactClimbPlan", apart := false, narrowed := true }
def FnExactClimbPlanUptoSaid : Prop := fnExactClimbPlanUptoRow.holds Try.pinned (OpenSpec.upto fnExactClimbPlanSpec)

/-- 'laws.FnExactSameDesk', WHERE WHAT IT READS IS OF BULK AT MOST 1048576: true; the input reads as it did. -/
def fnExactSameDeskUptoRow : OpenClaim := { program := "ytnhamdkpeefioaa", sum := "1359b13d89ecd667108b48b59bfdaf718f59c839522f5d3d2392490c63c5b9d4", func := "loop.example/g01346/laws.FnExactSameDesk", spec := "fnExactSameDesk", inPlace := ["math.Float32bits"], apart := false, narrowed := true }
def FnExactSameDeskUptoSaid : Prop := fnExactSameDeskUptoRow.holds Try.pinned (OpenSpec.upto fnExactSameDeskSpec)

/-- 'laws.FnExactValidDesk', WHERE WHAT IT READS IS OF BULK AT MOST 1048576: true; the input reads as it did. -/
def fnExactValidDeskUptoRow : OpenClaim := { program := "ytnhamdkpeefioaa", sum := "1359b13d89ecd667108b48b59bfdaf718f59c839522f5d3d2392490c63c5b9d4", func := "loop.example/g01346/laws.FnExactValidDesk", spec := "fnExactValidDesk", apart := false, narrowed := true }
def FnExactValidDeskUptoSaid : Prop := fnExactValidDeskUptoRow.holds Try.pinned (OpenSpec.upto fnExactValidDeskSpec)

/-- 'laws.FnExactValidCase', WHERE WHAT IT READS IS OF BULK AT MOST 1048576: true; the input reads as it did. -/
def fnExactValidCaseUptoRow : OpenClaim := { program := "ytnhamdkpeefioaa", sum := "1359b13d89ecd667108b48b59bfdaf718f59c839522f5d3d2392490c63c5b9d4", func := "loop.example/g01346/laws.FnExactValidCase", spec := "fnExactValidCase", apart := false, narrowed := true }
def FnExactValidCaseUptoSaid : Prop := fnExactValidCaseUptoRow.holds Try.pinned (OpenSpec.upto fnExactValidCaseSpec)

/-- 'laws.FnExactOnTimeOrder', WHERE WHAT IT READS IS OF BULK AT MOST 1048576: true; the input reads as it did. -/
def fnExactOnTimeOrderUptoRow : OpenClaim := { program := "ytnhamdkpeefioaa", sum := "1359b13d89ecd667108b48b59bfdaf718f59c839522f5d3d2392490c63c5b9d4", func := "loop.example/g01346/laws.FnExactOnTimeOrder", spec := "fnExactOnTimeOrder", unfollowed := true, recurses := true, apart := false, narrowed := true }
def FnExactOnTimeOrderUptoSaid : Prop := fnExactOnTimeOrderUptoRow.holds Try.pinned (OpenSpec.upto fnExactOnTimeOrderSpec)

/-- 'laws.FnExactToSimplex', WHERE WHAT IT READS IS OF BULK AT MOST 1048576: true; the input reads as it did. -/
def fnExactToSimplexUptoRow : OpenClaim := { program := "ytnhamdkpeefioaa", sum := "1359b13d89ecd667108b48b59bfdaf718f59c839522f5d3d2392490c63c5b9d4", func := "loop.example/g01346/laws.FnExactToSimplex", spec := "fnExactToSimplex", unfollowed := true, recurses := true, apart := false, narrowed := true }
def FnExactToSimplexUptoSaid : Prop := fnExactToSimplexUptoRow.holds Try.pinned (OpenSpec.upto fnExactToSimplexSpec)

end Rows
end Go.Proofs.Ytnhamdkpeefioaa
