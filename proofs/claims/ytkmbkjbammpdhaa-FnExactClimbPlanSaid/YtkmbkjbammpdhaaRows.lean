/-
  No cell of these rows narrows 'for every input' (looked for: loops, veiled, ifaces, maps, wideKeys, modest, calm, conditions, laid).
  DERIVED. THE GIVEN ROWS OF THIS SEAT. 12 by the template 'for every input the law returns true; each argument reads behind the call as it read before'; 0 by the template 'total and deterministic' (their statements: YtkmbkjbammpdhaaTotals.lean).
  GIVEN WITH THE SEED: the statements are not yours to turn. If you find one false, say at which input.
  Laid BY PROGRAM, IN A SANDBOX (cutbox-rows.mjs): the forced cells as the released guide's own fill.sh prints them over the translation fba7475246e70b55… (all of the seat's roots in one cut). By AI agents, Wed Nov 11 2026. No macro, syntax, notation, axiom, sorry.
-/
import Derived.Test.YtkmbkjbammpdhaaChecked
import GoSem.Claim
import GoSem.ClaimJoined
import GoSem.ClaimMapViews
import Derived.JoinedTies
import Derived.KernelRfl
namespace Go.Proofs.Ytkmbkjbammpdhaa
/- THE CELL 'sum', in the pinned program and in every row, IS THE sha256 OF THE DUMP (.gsa) THAT YtkmbkjbammpdhaaProg.lean LOADS. Nothing in Lean hashes anything: it is a label: what it is worth is what the hold of that sum in a sandbox is worth. -/
noncomputable def Try.pinned : Pinned := { name := "ytkmbkjbammpdhaa", sum := "fba7475246e70b55a91d5721a95dfa1833e64f510099e40fba03daff869abbfb", checked := Try.checked }
namespace Rows
def none {H : Type} : Left H := { results := [], args := [] }

/-- 'laws.FnExactScaleRows': WHATEVER THE INPUT: true; the input reads as it did. -/
def fnExactScaleRowsSpec : ChangeSpec := { name := "fnExactScaleRows", fn := fun _ => fun
  | [d] => { results := [.lit (.bool true)], args := [d] }
  | _ => none }
def fnExactScaleRowsRow : OpenClaim := { program := "ytkmbkjbammpdhaa", sum := "fba7475246e70b55a91d5721a95dfa1833e64f510099e40fba03daff869abbfb", func := "loop.example/g01346/laws.FnExactScaleRows", spec := "fnExactScaleRows", inPlace := ["math.Float64bits", "math.Float64frombits"], apart := false }
def FnExactScaleRowsSaid : Prop := fnExactScaleRowsRow.holds Try.pinned (OpenSpec.ofChange fnExactScaleRowsSpec)

/-- ITS FALSE NEIGHBOUR: 'it returns false'. Refute it at one input. -/
def fnExactScaleRowsWrong : ChangeSpec := { name := "fnExactScaleRows", fn := fun _ => fun
  | [d] => { results := [.lit (.bool false)], args := [d] }
  | _ => none }
def FnExactScaleRowsWrongFalsely : Prop := fnExactScaleRowsRow.holds Try.pinned (OpenSpec.ofChange fnExactScaleRowsWrong)

/-- 'laws.FnExactWholeCount': WHATEVER THE INPUT: true; the input reads as it did. -/
def fnExactWholeCountSpec : ChangeSpec := { name := "fnExactWholeCount", fn := fun _ => fun
  | [d1, d2] => { results := [.lit (.bool true)], args := [d1, d2] }
  | _ => none }
def fnExactWholeCountRow : OpenClaim := { program := "ytkmbkjbammpdhaa", sum := "fba7475246e70b55a91d5721a95dfa1833e64f510099e40fba03daff869abbfb", func := "loop.example/g01346/laws.FnExactWholeCount", spec := "fnExactWholeCount", unfollowed := true, recurses := true, apart := false }
def FnExactWholeCountSaid : Prop := fnExactWholeCountRow.holds Try.pinned (OpenSpec.ofChange fnExactWholeCountSpec)

/-- ITS FALSE NEIGHBOUR: 'it returns false'. Refute it at one input. -/
def fnExactWholeCountWrong : ChangeSpec := { name := "fnExactWholeCount", fn := fun _ => fun
  | [d1, d2] => { results := [.lit (.bool false)], args := [d1, d2] }
  | _ => none }
def FnExactWholeCountWrongFalsely : Prop := fnExactWholeCountRow.holds Try.pinned (OpenSpec.ofChange fnExactWholeCountWrong)

/-- 'laws.FnExactWholePlan': WHATEVER THE INPUT: true; the input reads as it did. -/
def fnExactWholePlanSpec : ChangeSpec := { name := "fnExactWholePlan", fn := fun _ => fun
  | [d1, d2] => { results := [.lit (.bool true)], args := [d1, d2] }
  | _ => none }
def fnExactWholePlanRow : OpenClaim := { program := "ytkmbkjbammpdhaa", sum := "fba7475246e70b55a91d5721a95dfa1833e64f510099e40fba03daff869abbfb", func := "loop.example/g01346/laws.FnExactWholePlan", spec := "fnExactWholePlan", unfollowed := true, recurses := true, apart := false }
def FnExactWholePlanSaid : Prop := fnExactWholePlanRow.holds Try.pinned (OpenSpec.ofChange fnExactWholePlanSpec)

/-- ITS FALSE NEIGHBOUR: 'it returns false'. Refute it at one input. -/
def fnExactWholePlanWrong : ChangeSpec := { name := "fnExactWholePlan", fn := fun _ => fun
  | [d1, d2] => { results := [.lit (.bool false)], args := [d1, d2] }
  | _ => none }
def FnExactWholePlanWrongFalsely : Prop := fnExactWholePlanRow.holds Try.pinned (OpenSpec.ofChange fnExactWholePlanWrong)

/-- 'laws.FnExactClimbPlan': WHATEVER THE INPUT: true; the input reads as it did. -/
def fnExactClimbPlanSpec : ChangeSpec := { name := "fnExactClimbPlan", fn := fun _ => fun
  | [d1, d2, d3] => { results := [.lit (.bool true)], args := [d1, d2, d3] }
  | _ => none }
def fnExactClimbPlanRow : OpenClaim := { program := "ytkmbkjbammpdhaa", sum := "fba7475246e70b55a91d5721a95dfa1833e64f510099e40fba03daff869abbfb", func := "loop.example/g01346/laws.FnExactClimbPlan", spec := "fnExactClimbPlan", apart := false }
def FnExactClimbPlanSaid : Prop := fnExactClimbPlanRow.holds Try.pinned (OpenSpec.ofChange fnExactClimbPlanSpec)

/-- ITS FALSE NEIGHBOUR: 'it returns false'. Refute it at one input. -/
def fnExactClimbPlanWrong : ChangeSpec := { name := "fnExactClimbPlan", fn := fun _ => fun
  | [d1, d2, d3] => { results := [.lit (.bool false)], args := [d1, d2, d3] }
  | _ => none }
def FnExactClimbPlanWrongFalsely : Prop := fnExactClimbPlanRow.holds Try.pinned (OpenSpec.ofChange fnExactClimbPlanWrong)

/-- 'laws.FnExactToSimplex': WHATEVER THE INPUT: true; the input reads as it did. -/
def fnExactToSimplexSpec : ChangeSpec := { name := "fnExactToSimplex", fn := fun _ => fun
  | [d] => { results := [.lit (.bool true)], args := [d] }
  | _ => none }
def fnExactToSimplexRow : OpenClaim := { program := "ytkmbkjbammpdhaa", sum := "fba7475246e70b55a91d5721a95dfa1833e64f510099e40fba03daff869abbfb", func := "loop.example/g01346/laws.FnExactToSimplex", spec := "fnExactToSimplex", unfollowed := true, recurses := true, apart := false }
def FnExactToSimplexSaid : Prop := fnExactToSimplexRow.holds Try.pinned (OpenSpec.ofChange fnExactToSimplexSpec)

/-- ITS FALSE NEIGHBOUR: 'it returns false'. Refute it at one input. -/
def fnExactToSimplexWrong : ChangeSpec := { name := "fnExactToSimplex", fn := fun _ => fun
  | [d] => { results := [.lit (.bool false)], args := [d] }
  | _ => none }
def FnExactToSimplexWrongFalsely : Prop := fnExactToSimplexRow.holds Try.pinned (OpenSpec.ofChange fnExactToSimplexWrong)

/-- 'laws.FnExactOnTimeOrder': WHATEVER THE INPUT: true; the input reads as it did. -/
def fnExactOnTimeOrderSpec : ChangeSpec := { name := "fnExactOnTimeOrder", fn := fun _ => fun
  | [d] => { results := [.lit (.bool true)], args := [d] }
  | _ => none }
def fnExactOnTimeOrderRow : OpenClaim := { program := "ytkmbkjbammpdhaa", sum := "fba7475246e70b55a91d5721a95dfa1833e64f510099e40fba03daff869abbfb", func := "loop.example/g01346/laws.FnExactOnTimeOrder", spec := "fnExactOnTimeOrder", unfollowed := true, recurses := true, apart := false }
def FnExactOnTimeOrderSaid : Prop := fnExactOnTimeOrderRow.holds Try.pinned (OpenSpec.ofChange fnExactOnTimeOrderSpec)

/-- ITS FALSE NEIGHBOUR: 'it returns false'. Refute it at one input. -/
def fnExactOnTimeOrderWrong : ChangeSpec := { name := "fnExactOnTimeOrder", fn := fun _ => fun
  | [d] => { results := [.lit (.bool false)], args := [d] }
  | _ => none }
def FnExactOnTimeOrderWrongFalsely : Prop := fnExactOnTimeOrderRow.holds Try.pinned (OpenSpec.ofChange fnExactOnTimeOrderWrong)

/-- 'laws.FnExactMostSpans': WHATEVER THE INPUT: true; the input reads as it did. -/
def fnExactMostSpansSpec : ChangeSpec := { name := "fnExactMostSpans", fn := fun _ => fun
  | [d] => { results := [.lit (.bool true)], args := [d] }
  | _ => none }
def fnExactMostSpansRow : OpenClaim := { program := "ytkmbkjbammpdhaa", sum := "fba7475246e70b55a91d5721a95dfa1833e64f510099e40fba03daff869abbfb", func := "loop.example/g01346/laws.FnExactMostSpans", spec := "fnExactMostSpans", unfollowed := true, recurses := true, apart := false }
def FnExactMostSpansSaid : Prop := fnExactMostSpansRow.holds Try.pinned (OpenSpec.ofChange fnExactMostSpansSpec)

/-- ITS FALSE NEIGHBOUR: 'it returns false'. Refute it at one input. -/
def fnExactMostSpansWrong : ChangeSpec := { name := "fnExactMostSpans", fn := fun _ => fun
  | [d] => { results := [.lit (.bool false)], args := [d] }
  | _ => none }
def FnExactMostSpansWrongFalsely : Prop := fnExactMostSpansRow.holds Try.pinned (OpenSpec.ofChange fnExactMostSpansWrong)

/-- 'laws.FnExactBestSpans': WHATEVER THE INPUT: true; the input reads as it did. -/
def fnExactBestSpansSpec : ChangeSpec := { name := "fnExactBestSpans", fn := fun _ => fun
  | [d] => { results := [.lit (.bool true)], args := [d] }
  | _ => none }
def fnExactBestSpansRow : OpenClaim := { program := "ytkmbkjbammpdhaa", sum := "fba7475246e70b55a91d5721a95dfa1833e64f510099e40fba03daff869abbfb", func := "loop.example/g01346/laws.FnExactBestSpans", spec := "fnExactBestSpans", unfollowed := true, recurses := true, apart := false }
def FnExactBestSpansSaid : Prop := fnExactBestSpansRow.holds Try.pinned (OpenSpec.ofChange fnExactBestSpansSpec)

/-- ITS FALSE NEIGHBOUR: 'it returns false'. Refute it at one input. -/
def fnExactBestSpansWrong : ChangeSpec := { name := "fnExactBestSpans", fn := fun _ => fun
  | [d] => { results := [.lit (.bool false)], args := [d] }
  | _ => none }
def FnExactBestSpansWrongFalsely : Prop := fnExactBestSpansRow.holds Try.pinned (OpenSpec.ofChange fnExactBestSpansWrong)

/-- 'laws.FnExactWholesShared': WHATEVER THE INPUT: true; the input reads as it did. -/
def fnExactWholesSharedSpec : ChangeSpec := { name := "fnExactWholesShared", fn := fun _ => fun
  | [d1, d2, d3] => { results := [.lit (.bool true)], args := [d1, d2, d3] }
  | _ => none }
def fnExactWholesSharedRow : OpenClaim := { program := "ytkmbkjbammpdhaa", sum := "fba7475246e70b55a91d5721a95dfa1833e64f510099e40fba03daff869abbfb", func := "loop.example/g01346/laws.FnExactWholesShared", spec := "fnExactWholesShared", unfollowed := true, recurses := true, apart := false }
def FnExactWholesSharedSaid : Prop := fnExactWholesSharedRow.holds Try.pinned (OpenSpec.ofChange fnExactWholesSharedSpec)

/-- ITS FALSE NEIGHBOUR: 'it returns false'. Refute it at one input. -/
def fnExactWholesSharedWrong : ChangeSpec := { name := "fnExactWholesShared", fn := fun _ => fun
  | [d1, d2, d3] => { results := [.lit (.bool false)], args := [d1, d2, d3] }
  | _ => none }
def FnExactWholesSharedWrongFalsely : Prop := fnExactWholesSharedRow.holds Try.pinned (OpenSpec.ofChange fnExactWholesSharedWrong)

/-- 'laws.FnJobs': WHATEVER THE INPUT: true; the input reads as it did. -/
def fnJobsSpec : ChangeSpec := { name := "fnJobs", fn := fun _ => fun
  | [d1, d2] => { results := [.lit (.bool true)], args := [d1, d2] }
  | _ => none }
def fnJobsRow : OpenClaim := { program := "ytkmbkjbammpdhaa", sum := "fba7475246e70b55a91d5721a95dfa1833e64f510099e40fba03daff869abbfb", func := "loop.example/g01346/laws.FnJobs", spec := "fnJobs", unfollowed := true, recurses := true, apart := false }
def FnJobsSaid : Prop := fnJobsRow.holds Try.pinned (OpenSpec.ofChange fnJobsSpec)

/-- ITS FALSE NEIGHBOUR: 'it returns false'. Refute it at one input. -/
def fnJobsWrong : ChangeSpec := { name := "fnJobs", fn := fun _ => fun
  | [d1, d2] => { results := [.lit (.bool false)], args := [d1, d2] }
  | _ => none }
def FnJobsWrongFalsely : Prop := fnJobsRow.holds Try.pinned (OpenSpec.ofChange fnJobsWrong)

/-- 'laws.FnMachines': WHATEVER THE INPUT: true; the input reads as it did. -/
def fnMachinesSpec : ChangeSpec := { name := "fnMachines", fn := fun _ => fun
  | [d1, d2] => { results := [.lit (.bool true)], args := [d1, d2] }
  | _ => none }
def fnMachinesRow : OpenClaim := { program := "ytkmbkjbammpdhaa", sum := "fba7475246e70b55a91d5721a95dfa1833e64f510099e40fba03daff869abbfb", func := "loop.example/g01346/laws.FnMachines", spec := "fnMachines", unfollowed := true, recurses := true, apart := false }
def FnMachinesSaid : Prop := fnMachinesRow.holds Try.pinned (OpenSpec.ofChange fnMachinesSpec)

/-- ITS FALSE NEIGHBOUR: 'it returns false'. Refute it at one input. -/
def fnMachinesWrong : ChangeSpec := { name := "fnMachines", fn := fun _ => fun
  | [d1, d2] => { results := [.lit (.bool false)], args := [d1, d2] }
  | _ => none }
def FnMachinesWrongFalsely : Prop := fnMachinesRow.holds Try.pinned (OpenSpec.ofChange fnMachinesWrong)

/-- 'laws.FnSpans': WHATEVER THE INPUT: true; the input reads as it did. -/
def fnSpansSpec : ChangeSpec := { name := "fnSpans", fn := fun _ => fun
  | [d1, d2] => { results := [.lit (.bool true)], args := [d1, d2] }
  | _ => none }
def fnSpansRow : OpenClaim := { program := "ytkmbkjbammpdhaa", sum := "fba7475246e70b55a91d5721a95dfa1833e64f510099e40fba03daff869abbfb", func := "loop.example/g01346/laws.FnSpans", spec := "fnSpans", unfollowed := true, recurses := true, apart := false }
def FnSpansSaid : Prop := fnSpansRow.holds Try.pinned (OpenSpec.ofChange fnSpansSpec)

/-- ITS FALSE NEIGHBOUR: 'it returns false'. Refute it at one input. -/
def fnSpansWrong : ChangeSpec := { name := "fnSpans", fn := fun _ => fun
  | [d1, d2] => { results := [.lit (.bool false)], args := [d1, d2] }
  | _ => none }
def FnSpansWrongFalsely : Prop := fnSpansRow.holds Try.pinned (OpenSpec.ofChange fnSpansWrong)

/- THE SECOND FORM. 'bulk': how many values and letters a reading holds, each counted each time it is reached (what is shared counts as often as it is met; a slice's spare places count too). A statement '..UptoSaid' is the law's where the arguments, and the package variables that the reading takes, are together of bulk at most 1048576: NARROWER than '..Said'. Prove '..Said' where nothing that the law and all that it calls make is longer than what came in: it says more and counts as full. Else prove '..UptoSaid'. A law counts once. -/
mutual
def uptoBulk {H : Type} : DataW H → Nat
  | .lit (.string bytes) => bytes.length + 1
  | .lit _ => 1
  | .nil => 1
  | .ptr d => uptoBulk d + 1
  | .slice elems spare => uptoBulkAll elems + uptoBulkAll spare + 1
  | .agg parts => uptoBulkAll parts + 1
  | .iface _ d => uptoBulk d + 1
  | .map entries => uptoBulkEntries entries + 1
  | .held _ => 1
def uptoBulkAll {H : Type} : List (DataW H) → Nat
  | [] => 0
  | d :: r => uptoBulk d + uptoBulkAll r
def uptoBulkEntries {H : Type} : List (Lit × DataW H) → Nat
  | [] => 0
  | x :: r => uptoBulkEntry x + uptoBulkEntries r
def uptoBulkEntry {H : Type} : Lit × DataW H → Nat
  | (.string bytes, d) => bytes.length + uptoBulk d + 1
  | (_, d) => uptoBulk d + 1
 end
def uptoSmall : (H : Type) → List (DataW H) → Bool := fun _ ds => decide (uptoBulkAll ds ≤ 1048576)
def OpenSpec.upto (s : _root_.Go.ChangeSpec) : _root_.Go.OpenSpec := { _root_.Go.OpenSpec.ofChange s with cond := some uptoSmall }

/-- 'laws.FnExactScaleRows', WHERE WHAT IT READS IS OF BULK AT MOST 1048576: true; the input reads as it did. -/
def fnExactScaleRowsUptoRow : OpenClaim := { program := "ytkmbkjbammpdhaa", sum := "fba7475246e70b55a91d5721a95dfa1833e64f510099e40fba03daff869abbfb", func := "loop.example/g01346/laws.FnExactScaleRows", spec := "fnExactScaleRows", inPlace := ["math.Float64bits", "math.Float64frombits"], apart := false, narrowed := true }
def FnExactScaleRowsUptoSaid : Prop := fnExactScaleRowsUptoRow.holds Try.pinned (OpenSpec.upto fnExactScaleRowsSpec)

/-- 'laws.FnExactWholeCount', WHERE WHAT IT READS IS OF BULK AT MOST 1048576: true; the input reads as it did. -/
def fnExactWholeCountUptoRow : OpenClaim := { program := "ytkmbkjbammpdhaa", sum := "fba7475246e70b55a91d5721a95dfa1833e64f510099e40fba03daff869abbfb", func := "loop.example/g01346/laws.FnExactWholeCount", spec := "fnExactWholeCount", unfollowed := true, recurses := true, apart := false, narrowed := true }
def FnExactWholeCountUptoSaid : Prop := fnExactWholeCountUptoRow.holds Try.pinned (OpenSpec.upto fnExactWholeCountSpec)

/-- 'laws.FnExactWholePlan', WHERE WHAT IT READS IS OF BULK AT MOST 1048576: true; the input reads as it did. -/
def fnExactWholePlanUptoRow : OpenClaim := { program := "ytkmbkjbammpdhaa", sum := "fba7475246e70b55a91d5721a95dfa1833e64f510099e40fba03daff869abbfb", func := "loop.example/g01346/laws.FnExactWholePlan", spec := "fnExactWholePlan", unfollowed := true, recurses := true, apart := false, narrowed := true }
def FnExactWholePlanUptoSaid : Prop := fnExactWholePlanUptoRow.holds Try.pinned (OpenSpec.upto fnExactWholePlanSpec)

/-- 'laws.FnExactClimbPlan', WHERE WHAT IT READS IS OF BULK AT MOST 1048576: true; the input reads as it did. -/
def fnExactClimbPlanUptoRow : OpenClaim := { program := "ytkmbkjbammpdhaa", sum := "fba7475246e70b55a91d5721a95dfa1833e64f510099e40fba03daff869abbfb", func := "loop.example/g01346/laws.FnExactClimbPlan", spec := "fnExactClimbPlan", apart := false, narrowed := true }
def FnExactClimbPlanUptoSaid : Prop := fnExactClimbPlanUptoRow.holds Try.pinned (OpenSpec.upto fnExactClimbPlanSpec)

/-- 'laws.FnExactToSimplex', WHERE WHAT IT READS IS OF BULK AT MOST 1048576: true; the input reads as it did. -/
def fnExactToSimplexUptoRow : OpenClaim := { program := "ytkmbkjbammpdhaa", sum := "fba7475246e70b55a91d5721a95dfa1833e64f510099e40fba03daff869abbfb", func := "loop.example/g01346/laws.FnExactToSimplex", spec := "fnExactToSimplex", unfollowed := true, recurses := true, apart := false, narrowed := true }
def FnExactToSimplexUptoSaid : Prop := fnExactToSimplexUptoRow.holds Try.pinned (OpenSpec.upto fnExactToSimplexSpec)

/-- 'laws.FnExactOnTimeOrder', WHERE WHAT IT READS IS OF BULK AT MOST 1048576: true; the input reads as it did. -/
def fnExactOnTimeOrderUptoRow : OpenClaim := { program := "ytkmbkjbammpdhaa", sum := "fba7475246e70b55a91d5721a95dfa1833e64f510099e40fba03daff869abbfb", func := "loop.example/g01346/laws.FnExactOnTimeOrder", spec := "fnExactOnTimeOrder", unfollowed := true, recurses := true, apart := false, narrowed := true }
def FnExactOnTimeOrderUptoSaid : Prop := fnExactOnTimeOrderUptoRow.holds Try.pinned (OpenSpec.upto fnExactOnTimeOrderSpec)

/-- 'laws.FnExactMostSpans', WHERE WHAT IT READS IS OF BULK AT MOST 1048576: true; the input reads as it did. -/
def fnExactMostSpansUptoRow : OpenClaim := { program := "ytkmbkjbammpdhaa", sum := "fba7475246e70b55a91d5721a95dfa1833e64f510099e40fba03daff869abbfb", func := "loop.example/g01346/laws.FnExactMostSpans", spec := "fnExactMostSpans", unfollowed := true, recurses := true, apart := false, narrowed := true }
def FnExactMostSpansUptoSaid : Prop := fnExactMostSpansUptoRow.holds Try.pinned (OpenSpec.upto fnExactMostSpansSpec)

/-- 'laws.FnExactBestSpans', WHERE WHAT IT READS IS OF BULK AT MOST 1048576: true; the input reads as it did. -/
def fnExactBestSpansUptoRow : OpenClaim := { program := "ytkmbkjbammpdhaa", sum := "fba7475246e70b55a91d5721a95dfa1833e64f510099e40fba03daff869abbfb", func := "loop.example/g01346/laws.FnExactBestSpans", spec := "fnExactBestSpans", unfollowed := true, recurses := true, apart := false, narrowed := true }
def FnExactBestSpansUptoSaid : Prop := fnExactBestSpansUptoRow.holds Try.pinned (OpenSpec.upto fnExactBestSpansSpec)

/-- 'laws.FnExactWholesShared', WHERE WHAT IT READS IS OF BULK AT MOST 1048576: true; the input reads as it did. -/
def fnExactWholesSharedUptoRow : OpenClaim := { program := "ytkmbkjbammpdhaa", sum := "fba7475246e70b55a91d5721a95dfa1833e64f510099e40fba03daff869abbfb", func := "loop.example/g01346/laws.FnExactWholesShared", spec := "fnExactWholesShared", unfollowed := true, recurses := true, apart := false, narrowed := true }
def FnExactWholesSharedUptoSaid : Prop := fnExactWholesSharedUptoRow.holds Try.pinned (OpenSpec.upto fnExactWholesSharedSpec)

/-- 'laws.FnJobs', WHERE WHAT IT READS IS OF BULK AT MOST 1048576: true; the input reads as it did. -/
def fnJobsUptoRow : OpenClaim := { program := "ytkmbkjbammpdhaa", sum := "fba7475246e70b55a91d5721a95dfa1833e64f510099e40fba03daff869abbfb", func := "loop.example/g01346/laws.FnJobs", spec := "fnJobs", unfollowed := true, recurses := true, apart := false, narrowed := true }
def FnJobsUptoSaid : Prop := fnJobsUptoRow.holds Try.pinned (OpenSpec.upto fnJobsSpec)

/-- 'laws.FnMachines', WHERE WHAT IT READS IS OF BULK AT MOST 1048576: true; the input reads as it did. -/
def fnMachinesUptoRow : OpenClaim := { program := "ytkmbkjbammpdhaa", sum := "fba7475246e70b55a91d5721a95dfa1833e64f510099e40fba03daff869abbfb", func := "loop.example/g01346/laws.FnMachines", spec := "fnMachines", unfollowed := true, recurses := true, apart := false, narrowed := true }
def FnMachinesUptoSaid : Prop := fnMachinesUptoRow.holds Try.pinned (OpenSpec.upto fnMachinesSpec)

/-- 'laws.FnSpans', WHERE WHAT IT READS IS OF BULK AT MOST 1048576: true; the input reads as it did. -/
def fnSpansUptoRow : OpenClaim := { program := "ytkmbkjbammpdhaa", sum := "fba7475246e70b55a91d5721a95dfa1833e64f510099e40fba03daff869abbfb", func := "loop.example/g01346/laws.FnSpans", spec := "fnSpans", unfollowed := true, recurses := true, apart := false, narrowed := true }
def FnSpansUptoSaid : Prop := fnSpansUptoRow.holds Try.pinned (OpenSpec.upto fnSpansSpec)

end Rows
end Go.Proofs.Ytkmbkjbammpdhaa
