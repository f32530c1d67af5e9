/-
  No cell of these rows narrows 'for every input' (looked for: loops, veiled, ifaces, maps, wideKeys, modest, calm, conditions, laid).
  DERIVED. THE GIVEN ROWS OF THIS SEAT. 12 by the template 'for every input the law returns true; each argument reads behind the call as it read before'; 0 by the template 'total and deterministic' (their statements: YtkcpncaedocdnaaTotals.lean).
  GIVEN WITH THE SEED: the statements are not yours to turn. If you find one false, say at which input.
  Laid BY PROGRAM, IN A SANDBOX (cutbox-rows.mjs): the forced cells as the released guide's own fill.sh prints them over the translation 0d0f3a90bdd17d50… (all of the seat's roots in one cut). By AI agents, Wed Nov 11 2026. No macro, syntax, notation, axiom, sorry.
-/
import Derived.Test.YtkcpncaedocdnaaChecked
import GoSem.Claim
import GoSem.ClaimJoined
import GoSem.ClaimMapViews
import Derived.JoinedTies
import Derived.KernelRfl
namespace Go.Proofs.Ytkcpncaedocdnaa
/- THE CELL 'sum', in the pinned program and in every row, IS THE sha256 OF THE DUMP (.gsa) THAT YtkcpncaedocdnaaProg.lean LOADS. Nothing in Lean hashes anything: it is a label: what it is worth is what the hold of that sum in a sandbox is worth. -/
noncomputable def Try.pinned : Pinned := { name := "ytkcpncaedocdnaa", sum := "0d0f3a90bdd17d50162162b30096c720c120b4c320d43a7fcd4f71a2bccda3ee", checked := Try.checked }
namespace Rows
def none {H : Type} : Left H := { results := [], args := [] }

/-- 'laws.FnExactLeavesOf': WHATEVER THE INPUT: true; the input reads as it did. -/
def fnExactLeavesOfSpec : ChangeSpec := { name := "fnExactLeavesOf", fn := fun _ => fun
  | [d] => { results := [.lit (.bool true)], args := [d] }
  | _ => none }
def fnExactLeavesOfRow : OpenClaim := { program := "ytkcpncaedocdnaa", sum := "0d0f3a90bdd17d50162162b30096c720c120b4c320d43a7fcd4f71a2bccda3ee", func := "loop.example/g01346/laws.FnExactLeavesOf", spec := "fnExactLeavesOf", apart := false }
def FnExactLeavesOfSaid : Prop := fnExactLeavesOfRow.holds Try.pinned (OpenSpec.ofChange fnExactLeavesOfSpec)

/-- ITS FALSE NEIGHBOUR: 'it returns false'. Refute it at one input. -/
def fnExactLeavesOfWrong : ChangeSpec := { name := "fnExactLeavesOf", fn := fun _ => fun
  | [d] => { results := [.lit (.bool false)], args := [d] }
  | _ => none }
def FnExactLeavesOfWrongFalsely : Prop := fnExactLeavesOfRow.holds Try.pinned (OpenSpec.ofChange fnExactLeavesOfWrong)

/-- 'laws.FnExactLooksOf': WHATEVER THE INPUT: true; the input reads as it did. -/
def fnExactLooksOfSpec : ChangeSpec := { name := "fnExactLooksOf", fn := fun _ => fun
  | [d] => { results := [.lit (.bool true)], args := [d] }
  | _ => none }
def fnExactLooksOfRow : OpenClaim := { program := "ytkcpncaedocdnaa", sum := "0d0f3a90bdd17d50162162b30096c720c120b4c320d43a7fcd4f71a2bccda3ee", func := "loop.example/g01346/laws.FnExactLooksOf", spec := "fnExactLooksOf", recurses := true, apart := false }
def FnExactLooksOfSaid : Prop := fnExactLooksOfRow.holds Try.pinned (OpenSpec.ofChange fnExactLooksOfSpec)

/-- ITS FALSE NEIGHBOUR: 'it returns false'. Refute it at one input. -/
def fnExactLooksOfWrong : ChangeSpec := { name := "fnExactLooksOf", fn := fun _ => fun
  | [d] => { results := [.lit (.bool false)], args := [d] }
  | _ => none }
def FnExactLooksOfWrongFalsely : Prop := fnExactLooksOfRow.holds Try.pinned (OpenSpec.ofChange fnExactLooksOfWrong)

/-- 'laws.FnExactCountDiffers': WHATEVER THE INPUT: true; the input reads as it did. -/
def fnExactCountDiffersSpec : ChangeSpec := { name := "fnExactCountDiffers", fn := fun _ => fun
  | [d] => { results := [.lit (.bool true)], args := [d] }
  | _ => none }
def fnExactCountDiffersRow : OpenClaim := { program := "ytkcpncaedocdnaa", sum := "0d0f3a90bdd17d50162162b30096c720c120b4c320d43a7fcd4f71a2bccda3ee", func := "loop.example/g01346/laws.FnExactCountDiffers", spec := "fnExactCountDiffers", unfollowed := true, recurses := true, apart := false }
def FnExactCountDiffersSaid : Prop := fnExactCountDiffersRow.holds Try.pinned (OpenSpec.ofChange fnExactCountDiffersSpec)

/-- ITS FALSE NEIGHBOUR: 'it returns false'. Refute it at one input. -/
def fnExactCountDiffersWrong : ChangeSpec := { name := "fnExactCountDiffers", fn := fun _ => fun
  | [d] => { results := [.lit (.bool false)], args := [d] }
  | _ => none }
def FnExactCountDiffersWrongFalsely : Prop := fnExactCountDiffersRow.holds Try.pinned (OpenSpec.ofChange fnExactCountDiffersWrong)

/-- 'laws.FnExactRoundedPlan': WHATEVER THE INPUT: true; the input reads as it did. -/
def fnExactRoundedPlanSpec : ChangeSpec := { name := "fnExactRoundedPlan", fn := fun _ => fun
  | [d1, d2] => { results := [.lit (.bool true)], args := [d1, d2] }
  | _ => none }
def fnExactRoundedPlanRow : OpenClaim := { program := "ytkcpncaedocdnaa", sum := "0d0f3a90bdd17d50162162b30096c720c120b4c320d43a7fcd4f71a2bccda3ee", func := "loop.example/g01346/laws.FnExactRoundedPlan", spec := "fnExactRoundedPlan", apart := false }
def FnExactRoundedPlanSaid : Prop := fnExactRoundedPlanRow.holds Try.pinned (OpenSpec.ofChange fnExactRoundedPlanSpec)

/-- ITS FALSE NEIGHBOUR: 'it returns false'. Refute it at one input. -/
def fnExactRoundedPlanWrong : ChangeSpec := { name := "fnExactRoundedPlan", fn := fun _ => fun
  | [d1, d2] => { results := [.lit (.bool false)], args := [d1, d2] }
  | _ => none }
def FnExactRoundedPlanWrongFalsely : Prop := fnExactRoundedPlanRow.holds Try.pinned (OpenSpec.ofChange fnExactRoundedPlanWrong)

/-- 'laws.FnExactBestOfTree': WHATEVER THE INPUT: true; the input reads as it did. -/
def fnExactBestOfTreeSpec : ChangeSpec := { name := "fnExactBestOfTree", fn := fun _ => fun
  | [d] => { results := [.lit (.bool true)], args := [d] }
  | _ => none }
def fnExactBestOfTreeRow : OpenClaim := { program := "ytkcpncaedocdnaa", sum := "0d0f3a90bdd17d50162162b30096c720c120b4c320d43a7fcd4f71a2bccda3ee", func := "loop.example/g01346/laws.FnExactBestOfTree", spec := "fnExactBestOfTree", recurses := true, apart := false }
def FnExactBestOfTreeSaid : Prop := fnExactBestOfTreeRow.holds Try.pinned (OpenSpec.ofChange fnExactBestOfTreeSpec)

/-- ITS FALSE NEIGHBOUR: 'it returns false'. Refute it at one input. -/
def fnExactBestOfTreeWrong : ChangeSpec := { name := "fnExactBestOfTree", fn := fun _ => fun
  | [d] => { results := [.lit (.bool false)], args := [d] }
  | _ => none }
def FnExactBestOfTreeWrongFalsely : Prop := fnExactBestOfTreeRow.holds Try.pinned (OpenSpec.ofChange fnExactBestOfTreeWrong)

/-- 'laws.FnExactAddRow': WHATEVER THE INPUT: true; the input reads as it did. -/
def fnExactAddRowSpec : ChangeSpec := { name := "fnExactAddRow", fn := fun _ => fun
  | [d1, d2, d3] => { results := [.lit (.bool true)], args := [d1, d2, d3] }
  | _ => none }
def fnExactAddRowRow : OpenClaim := { program := "ytkcpncaedocdnaa", sum := "0d0f3a90bdd17d50162162b30096c720c120b4c320d43a7fcd4f71a2bccda3ee", func := "loop.example/g01346/laws.FnExactAddRow", spec := "fnExactAddRow", apart := false }
def FnExactAddRowSaid : Prop := fnExactAddRowRow.holds Try.pinned (OpenSpec.ofChange fnExactAddRowSpec)

/-- ITS FALSE NEIGHBOUR: 'it returns false'. Refute it at one input. -/
def fnExactAddRowWrong : ChangeSpec := { name := "fnExactAddRow", fn := fun _ => fun
  | [d1, d2, d3] => { results := [.lit (.bool false)], args := [d1, d2, d3] }
  | _ => none }
def FnExactAddRowWrongFalsely : Prop := fnExactAddRowRow.holds Try.pinned (OpenSpec.ofChange fnExactAddRowWrong)

/-- 'laws.FnBoards': WHATEVER THE INPUT: true; the input reads as it did. -/
def fnBoardsSpec : ChangeSpec := { name := "fnBoards", fn := fun _ => fun
  | [d1, d2] => { results := [.lit (.bool true)], args := [d1, d2] }
  | _ => none }
def fnBoardsRow : OpenClaim := { program := "ytkcpncaedocdnaa", sum := "0d0f3a90bdd17d50162162b30096c720c120b4c320d43a7fcd4f71a2bccda3ee", func := "loop.example/g01346/laws.FnBoards", spec := "fnBoards", unfollowed := true, recurses := true, apart := false }
def FnBoardsSaid : Prop := fnBoardsRow.holds Try.pinned (OpenSpec.ofChange fnBoardsSpec)

/-- ITS FALSE NEIGHBOUR: 'it returns false'. Refute it at one input. -/
def fnBoardsWrong : ChangeSpec := { name := "fnBoards", fn := fun _ => fun
  | [d1, d2] => { results := [.lit (.bool false)], args := [d1, d2] }
  | _ => none }
def FnBoardsWrongFalsely : Prop := fnBoardsRow.holds Try.pinned (OpenSpec.ofChange fnBoardsWrong)

/-- 'laws.FnExactFirstDiffer': WHATEVER THE INPUT: true; the input reads as it did. -/
def fnExactFirstDifferSpec : ChangeSpec := { name := "fnExactFirstDiffer", fn := fun _ => fun
  | [d] => { results := [.lit (.bool true)], args := [d] }
  | _ => none }
def fnExactFirstDifferRow : OpenClaim := { program := "ytkcpncaedocdnaa", sum := "0d0f3a90bdd17d50162162b30096c720c120b4c320d43a7fcd4f71a2bccda3ee", func := "loop.example/g01346/laws.FnExactFirstDiffer", spec := "fnExactFirstDiffer", unfollowed := true, recurses := true, apart := false }
def FnExactFirstDifferSaid : Prop := fnExactFirstDifferRow.holds Try.pinned (OpenSpec.ofChange fnExactFirstDifferSpec)

/-- ITS FALSE NEIGHBOUR: 'it returns false'. Refute it at one input. -/
def fnExactFirstDifferWrong : ChangeSpec := { name := "fnExactFirstDiffer", fn := fun _ => fun
  | [d] => { results := [.lit (.bool false)], args := [d] }
  | _ => none }
def FnExactFirstDifferWrongFalsely : Prop := fnExactFirstDifferRow.holds Try.pinned (OpenSpec.ofChange fnExactFirstDifferWrong)

/-- 'laws.FnExactSameCases': WHATEVER THE INPUT: true; the input reads as it did. -/
def fnExactSameCasesSpec : ChangeSpec := { name := "fnExactSameCases", fn := fun _ => fun
  | [d1, d2] => { results := [.lit (.bool true)], args := [d1, d2] }
  | _ => none }
def fnExactSameCasesRow : OpenClaim := { program := "ytkcpncaedocdnaa", sum := "0d0f3a90bdd17d50162162b30096c720c120b4c320d43a7fcd4f71a2bccda3ee", func := "loop.example/g01346/laws.FnExactSameCases", spec := "fnExactSameCases", unfollowed := true, recurses := true, apart := false }
def FnExactSameCasesSaid : Prop := fnExactSameCasesRow.holds Try.pinned (OpenSpec.ofChange fnExactSameCasesSpec)

/-- ITS FALSE NEIGHBOUR: 'it returns false'. Refute it at one input. -/
def fnExactSameCasesWrong : ChangeSpec := { name := "fnExactSameCases", fn := fun _ => fun
  | [d1, d2] => { results := [.lit (.bool false)], args := [d1, d2] }
  | _ => none }
def FnExactSameCasesWrongFalsely : Prop := fnExactSameCasesRow.holds Try.pinned (OpenSpec.ofChange fnExactSameCasesWrong)

/-- 'laws.FnExactNewDesk': WHATEVER THE INPUT: true; the input reads as it did. -/
def fnExactNewDeskSpec : ChangeSpec := { name := "fnExactNewDesk", fn := fun _ => fun
  | [] => { results := [.lit (.bool true)], args := [] }
  | _ => none }
def fnExactNewDeskRow : OpenClaim := { program := "ytkcpncaedocdnaa", sum := "0d0f3a90bdd17d50162162b30096c720c120b4c320d43a7fcd4f71a2bccda3ee", func := "loop.example/g01346/laws.FnExactNewDesk", spec := "fnExactNewDesk", apart := false }
def FnExactNewDeskSaid : Prop := fnExactNewDeskRow.holds Try.pinned (OpenSpec.ofChange fnExactNewDeskSpec)

/-- ITS FALSE NEIGHBOUR: 'it returns false'. Refute it at one input. -/
def fnExactNewDeskWrong : ChangeSpec := { name := "fnExactNewDesk", fn := fun _ => fun
  | [] => { results := [.lit (.bool false)], args := [] }
  | _ => none }
def FnExactNewDeskWrongFalsely : Prop := fnExactNewDeskRow.holds Try.pinned (OpenSpec.ofChange fnExactNewDeskWrong)

/-- 'laws.FnGameTrees': WHATEVER THE INPUT: true; the input reads as it did. -/
def fnGameTreesSpec : ChangeSpec := { name := "fnGameTrees", fn := fun _ => fun
  | [d1, d2] => { results := [.lit (.bool true)], args := [d1, d2] }
  | _ => none }
def fnGameTreesRow : OpenClaim := { program := "ytkcpncaedocdnaa", sum := "0d0f3a90bdd17d50162162b30096c720c120b4c320d43a7fcd4f71a2bccda3ee", func := "loop.example/g01346/laws.FnGameTrees", spec := "fnGameTrees", recurses := true, apart := false }
def FnGameTreesSaid : Prop := fnGameTreesRow.holds Try.pinned (OpenSpec.ofChange fnGameTreesSpec)

/-- ITS FALSE NEIGHBOUR: 'it returns false'. Refute it at one input. -/
def fnGameTreesWrong : ChangeSpec := { name := "fnGameTrees", fn := fun _ => fun
  | [d1, d2] => { results := [.lit (.bool false)], args := [d1, d2] }
  | _ => none }
def FnGameTreesWrongFalsely : Prop := fnGameTreesRow.holds Try.pinned (OpenSpec.ofChange fnGameTreesWrong)

/-- 'laws.FnExactTightSets': WHATEVER THE INPUT: true; the input reads as it did. -/
def fnExactTightSetsSpec : ChangeSpec := { name := "fnExactTightSets", fn := fun _ => fun
  | [d] => { results := [.lit (.bool true)], args := [d] }
  | _ => none }
def fnExactTightSetsRow : OpenClaim := { program := "ytkcpncaedocdnaa", sum := "0d0f3a90bdd17d50162162b30096c720c120b4c320d43a7fcd4f71a2bccda3ee", func := "loop.example/g01346/laws.FnExactTightSets", spec := "fnExactTightSets", apart := false }
def FnExactTightSetsSaid : Prop := fnExactTightSetsRow.holds Try.pinned (OpenSpec.ofChange fnExactTightSetsSpec)

/-- ITS FALSE NEIGHBOUR: 'it returns false'. Refute it at one input. -/
def fnExactTightSetsWrong : ChangeSpec := { name := "fnExactTightSets", fn := fun _ => fun
  | [d] => { results := [.lit (.bool false)], args := [d] }
  | _ => none }
def FnExactTightSetsWrongFalsely : Prop := fnExactTightSetsRow.holds Try.pinned (OpenSpec.ofChange fnExactTightSetsWrong)

/- THE SECOND FORM. 'bulk': how many values and letters a reading holds, each counted each time it is reached (what is shared counts as often as it is met; a slice's spare places count too). A statement '..UptoSaid' is the law's where the arguments, and the package variables that the reading takes, are together of bulk at most 1048576: NARROWER than '..Said'. Prove '..Said' where nothing that the law and all that it calls make is longer than what came in: it says more and counts as full. Else prove '..UptoSaid'. A law counts once. -/
mutual
def uptoBulk {H : Type} : DataW H → Nat
  | .lit (.string bytes) => bytes.length + 1
  | .lit _ => 1
  | .nil => 1
  | .ptr d => uptoBulk d + 1
  | .slice elems spare => uptoBulkAll elems + uptoBulkAll spare + 1
  | .agg parts => uptoBulkAll parts + 1
  | .iface _ d => uptoBulk d + 1
  | .map entries => uptoBulkEntries entries + 1
  | .held _ => 1
def uptoBulkAll {H : Type} : List (DataW H) → Nat
  | [] => 0
  | d :: r => uptoBulk d + uptoBulkAll r
def uptoBulkEntries {H : Type} : List (Lit × DataW H) → Nat
  | [] => 0
  | x :: r => uptoBulkEntry x + uptoBulkEntries r
def uptoBulkEntry {H : Type} : Lit × DataW H → Nat
  | (.string bytes, d) => bytes.length + uptoBulk d + 1
  | (_, d) => uptoBulk d + 1
 end
def uptoSmall : (H : Type) → List (DataW H) → Bool := fun _ ds => decide (uptoBulkAll ds ≤ 1048576)
def OpenSpec.upto (s : _root_.Go.ChangeSpec) : _root_.Go.OpenSpec := { _root_.Go.OpenSpec.ofChange s with cond := some uptoSmall }

/-- 'laws.FnExactLeavesOf', WHERE WHAT IT READS IS OF BULK AT MOST 1048576: true; the input reads as it did. -/
def fnExactLeavesOfUptoRow : OpenClaim := { program := "ytkcpncaedocdnaa", sum := "0d0f3a90bdd17d50162162b30096c720c120b4c320d43a7fcd4f71a2bccda3ee", func := "loop.example/g01346/laws.FnExactLeavesOf", spec := "fnExactLeavesOf", apart := false, narrowed := true }
def FnExactLeavesOfUptoSaid : Prop := fnExactLeavesOfUptoRow.holds Try.pinned (OpenSpec.upto fnExactLeavesOfSpec)

/-- 'laws.FnExactLooksOf', WHERE WHAT IT READS IS OF BULK AT MOST 1048576: true; the input reads as it did. -/
def fnExactLooksOfUptoRow : OpenClaim := { program := "ytkcpncaedocdnaa", sum := "0d0f3a90bdd17d50162162b30096c720c120b4c320d43a7fcd4f71a2bccda3ee", func := "loop.example/g01346/laws.FnExactLooksOf", spec := "fnExactLooksOf", recurses := true, apart := false, narrowed := true }
def FnExactLooksOfUptoSaid : Prop := fnExactLooksOfUptoRow.holds Try.pinned (OpenSpec.upto fnExactLooksOfSpec)

/-- 'laws.FnExactCountDiffers', WHERE WHAT IT READS IS OF BULK AT MOST 1048576: true; the input reads as it did. -/
def fnExactCountDiffersUptoRow : OpenClaim := { program := "ytkcpncaedocdnaa", sum := "0d0f3a90bdd17d50162162b30096c720c120b4c320d43a7fcd4f71a2bccda3ee", func := "loop.example/g01346/laws.FnExactCountDiffers", spec := "fnExactCountDiffers", unfollowed := true, recurses := true, apart := false, narrowed := true }
def FnExactCountDiffersUptoSaid : Prop := fnExactCountDiffersUptoRow.holds Try.pinned (OpenSpec.upto fnExactCountDiffersSpec)

/-- 'laws.FnExactRoundedPlan', WHERE WHAT IT READS IS OF BULK AT MOST 1048576: true; the input reads as it did. -/
def fnExactRoundedPlanUptoRow : OpenClaim := { program := "ytkcpncaedocdnaa", sum := "0d0f3a90bdd17d50162162b30096c720c120b4c320d43a7fcd4f71a2bccda3ee", func := "loop.example/g01346/laws.FnExactRoundedPlan", spec := "fnExactRoundedPlan", apart := false, narrowed := true }
def FnExactRoundedPlanUptoSaid : Prop := fnExactRoundedPlanUptoRow.holds Try.pinned (OpenSpec.upto fnExactRoundedPlanSpec)

/-- 'laws.FnExactBestOfTree', WHERE WHAT IT READS IS OF BULK AT MOST 1048576: true; the input reads as it did. -/
def fnExactBestOfTreeUptoRow : OpenClaim := { program := "ytkcpncaedocdnaa", sum := "0d0f3a90bdd17d50162162b30096c720c120b4c320d43a7fcd4f71a2bccda3ee", func := "loop.example/g01346/laws.FnExactBestOfTree", spec := "fnExactBestOfTree", recurses := true, apart := false, narrowed := true }
def FnExactBestOfTreeUptoSaid : Prop := fnExactBestOfTreeUptoRow.holds Try.pinned (OpenSpec.upto fnExactBestOfTreeSpec)

/-- 'laws.FnExactAddRow', WHERE WHAT IT READS IS OF BULK AT MOST 1048576: true; the input reads as it did. -/
def fnExactAddRowUptoRow : OpenClaim := { program := "ytkcpncaedocdnaa", sum := "0d0f3a90bdd17d50162162b30096c720c120b4c320d43a7fcd4f71a2bccda3ee", func := "loop.example/g01346/laws.FnExactAddRow", spec := "fnExactAddRow", apart := false, narrowed := true }
def FnExactAddRowUptoSaid : Prop := fnExactAddRowUptoRow.holds Try.pinned (OpenSpec.upto fnExactAddRowSpec)

/-- 'laws.FnBoards', WHERE WHAT IT READS IS OF BULK AT MOST 1048576: true; the input reads as it did. -/
def fnBoardsUptoRow : OpenClaim := { program := "ytkcpncaedocdnaa", sum := "0d0f3a90bdd17d50162162b30096c720c120b4c320d43a7fcd4f71a2bccda3ee", func := "loop.example/g01346/laws.FnBoards", spec := "fnBoards", unfollowed := true, recurses := true, apart := false, narrowed := true }
def FnBoardsUptoSaid : Prop := fnBoardsUptoRow.holds Try.pinned (OpenSpec.upto fnBoardsSpec)

/-- 'laws.FnExactFirstDiffer', WHERE WHAT IT READS IS OF BULK AT MOST 1048576: true; the input reads as it did. -/
def fnExactFirstDifferUptoRow : OpenClaim := { program := "ytkcpncaedocdnaa", sum := "0d0f3a90bdd17d50162162b30096c720c120b4c320d43a7fcd4f71a2bccda3ee", func := "loop.example/g01346/laws.FnExactFirstDiffer", spec := "fnExactFirstDiffer", unfollowed := true, recurses := true, apart := false, narrowed := true }
def FnExactFirstDifferUptoSaid : Prop := fnExactFirstDifferUptoRow.holds Try.pinned (OpenSpec.upto fnExactFirstDifferSpec)

/-- 'laws.FnExactSameCases', WHERE WHAT IT READS IS OF BULK AT MOST 1048576: true; the input reads as it did. -/
def fnExactSameCasesUptoRow : OpenClaim := { program := "ytkcpncaedocdnaa", sum := "0d0f3a90bdd17d50162162b30096c720c120b4c320d43a7fcd4f71a2bccda3ee", func := "loop.example/g01346/laws.FnExactSameCases", spec := "fnExactSameCases", unfollowed := true, recurses := true, apart := false, narrowed := true }
def FnExactSameCasesUptoSaid : Prop := fnExactSameCasesUptoRow.holds Try.pinned (OpenSpec.upto fnExactSameCasesSpec)

/-- 'laws.FnExactNewDesk', WHERE WHAT IT READS IS OF BULK AT MOST 1048576: true; the input reads as it did. -/
def fnExactNewDeskUptoRow : OpenClaim := { program := "ytkcpncaedocdnaa", sum := "0d0f3a90bdd17d50162162b30096c720c120b4c320d43a7fcd4f71a2bccda3ee", func := "loop.example/g01346/laws.FnExactNewDesk", spec := "fnExactNewDesk", apart := false, narrowed := true }
def FnExactNewDeskUptoSaid : Prop := fnExactNewDeskUptoRow.holds Try.pinned (OpenSpec.upto fnExactNewDeskSpec)

/-- 'laws.FnGameTrees', WHERE WHAT IT READS IS OF BULK AT MOST 1048576: true; the input reads as it did. -/
def fnGameTreesUptoRow : OpenClaim := { program := "ytkcpncaedocdnaa", sum := "0d0f3a90bdd17d50162162b30096c720c120b4c320d43a7fcd4f71a2bccda3ee", func := "loop.example/g01346/laws.FnGameTrees", spec := "fnGameTrees", recurses := true, apart := false, narrowed := true }
def FnGameTreesUptoSaid : Prop := fnGameTreesUptoRow.holds Try.pinned (OpenSpec.upto fnGameTreesSpec)

/-- 'laws.FnExactTightSets', WHERE WHAT IT READS IS OF BULK AT MOST 1048576: true; the input reads as it did. -/
def fnExactTightSetsUptoRow : OpenClaim := { program := "ytkcpncaedocdnaa", sum := "0d0f3a90bdd17d50162162b30096c720c120b4c320d43a7fcd4f71a2bccda3ee", func := "loop.example/g01346/laws.FnExactTightSets", spec := "fnExactTightSets", apart := false, narrowed := true }
def FnExactTightSetsUptoSaid : Prop := fnExactTightSetsUptoRow.holds Try.pinned (OpenSpec.upto fnExactTightSetsSpec)

end Rows
end Go.Proofs.Ytkcpncaedocdnaa
