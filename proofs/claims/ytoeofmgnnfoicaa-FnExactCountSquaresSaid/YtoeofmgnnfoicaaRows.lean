/-
  No cell of these rows narrows 'for every input' (looked for: loops, veiled, ifaces, maps, wideKeys, modest, calm, conditions, laid).
  DERIVED. THE GIVEN ROWS OF THIS SEAT. 6 by the template 'for every input the law returns true; each argument reads behind the call as it read before'; 0 by the template 'total and deterministic' (their statements: YtoeofmgnnfoicaaTotals.lean).
  GIVEN WITH THE SEED: the statements are not yours to turn. If you find one false, say at which input.
  Laid BY PROGRAM, IN A SANDBOX (cutbox-rows.mjs): the forced cells as the released guide's own fill.sh prints them over the translation 45c9b5d3e53e36ed… (all of the seat's roots in one cut). By AI agents, Wed Nov 11 2026. No macro, syntax, notation, axiom, sorry.
-/
import Derived.Test.YtoeofmgnnfoicaaChecked
import GoSem.Claim
import GoSem.ClaimJoined
import GoSem.ClaimMapViews
import Derived.JoinedTies
import Derived.KernelRfl
namespace Go.Proofs.Ytoeofmgnnfoicaa
/- THE CELL 'sum', in the pinned program and in every row, IS THE sha256 OF THE DUMP (.gsa) THAT YtoeofmgnnfoicaaProg.lean LOADS. Nothing in Lean hashes anything: it is a label: what it is worth is what the hold of that sum in a sandbox is worth. -/
noncomputable def Try.pinned : Pinned := { name := "ytoeofmgnnfoicaa", sum := "45c9b5d3e53e36eddaa95dc6761e572f2bb11b44340c7fabe11937504778488a", checked := Try.checked }
namespace Rows
def none {H : Type} : Left H := { results := [], args := [] }

/-- 'laws.FnExactCountQueens': WHATEVER THE INPUT: true; the input reads as it did. -/
def fnExactCountQueensSpec : ChangeSpec := { name := "fnExactCountQueens", fn := fun _ => fun
  | [d] => { results := [.lit (.bool true)], args := [d] }
  | _ => none }
def fnExactCountQueensRow : OpenClaim := { program := "ytoeofmgnnfoicaa", sum := "45c9b5d3e53e36eddaa95dc6761e572f2bb11b44340c7fabe11937504778488a", func := "loop.example/g01346/laws.FnExactCountQueens", spec := "fnExactCountQueens", unfollowed := true, recurses := true, apart := false }
def FnExactCountQueensSaid : Prop := fnExactCountQueensRow.holds Try.pinned (OpenSpec.ofChange fnExactCountQueensSpec)

/-- ITS FALSE NEIGHBOUR: 'it returns false'. Refute it at one input. -/
def fnExactCountQueensWrong : ChangeSpec := { name := "fnExactCountQueens", fn := fun _ => fun
  | [d] => { results := [.lit (.bool false)], args := [d] }
  | _ => none }
def FnExactCountQueensWrongFalsely : Prop := fnExactCountQueensRow.holds Try.pinned (OpenSpec.ofChange fnExactCountQueensWrong)

/-- 'laws.FnExactSameTree': WHATEVER THE INPUT: true; the input reads as it did. -/
def fnExactSameTreeSpec : ChangeSpec := { name := "fnExactSameTree", fn := fun _ => fun
  | [d1, d2] => { results := [.lit (.bool true)], args := [d1, d2] }
  | _ => none }
def fnExactSameTreeRow : OpenClaim := { program := "ytoeofmgnnfoicaa", sum := "45c9b5d3e53e36eddaa95dc6761e572f2bb11b44340c7fabe11937504778488a", func := "loop.example/g01346/laws.FnExactSameTree", spec := "fnExactSameTree", apart := false }
def FnExactSameTreeSaid : Prop := fnExactSameTreeRow.holds Try.pinned (OpenSpec.ofChange fnExactSameTreeSpec)

/-- ITS FALSE NEIGHBOUR: 'it returns false'. Refute it at one input. -/
def fnExactSameTreeWrong : ChangeSpec := { name := "fnExactSameTree", fn := fun _ => fun
  | [d1, d2] => { results := [.lit (.bool false)], args := [d1, d2] }
  | _ => none }
def FnExactSameTreeWrongFalsely : Prop := fnExactSameTreeRow.holds Try.pinned (OpenSpec.ofChange fnExactSameTreeWrong)

/-- 'laws.FnExactValidTree': WHATEVER THE INPUT: true; the input reads as it did. -/
def fnExactValidTreeSpec : ChangeSpec := { name := "fnExactValidTree", fn := fun _ => fun
  | [d] => { results := [.lit (.bool true)], args := [d] }
  | _ => none }
def fnExactValidTreeRow : OpenClaim := { program := "ytoeofmgnnfoicaa", sum := "45c9b5d3e53e36eddaa95dc6761e572f2bb11b44340c7fabe11937504778488a", func := "loop.example/g01346/laws.FnExactValidTree", spec := "fnExactValidTree", apart := false }
def FnExactValidTreeSaid : Prop := fnExactValidTreeRow.holds Try.pinned (OpenSpec.ofChange fnExactValidTreeSpec)

/-- ITS FALSE NEIGHBOUR: 'it returns false'. Refute it at one input. -/
def fnExactValidTreeWrong : ChangeSpec := { name := "fnExactValidTree", fn := fun _ => fun
  | [d] => { results := [.lit (.bool false)], args := [d] }
  | _ => none }
def FnExactValidTreeWrongFalsely : Prop := fnExactValidTreeRow.holds Try.pinned (OpenSpec.ofChange fnExactValidTreeWrong)

/-- 'laws.FnExactFirstQueens': WHATEVER THE INPUT: true; the input reads as it did. -/
def fnExactFirstQueensSpec : ChangeSpec := { name := "fnExactFirstQueens", fn := fun _ => fun
  | [d] => { results := [.lit (.bool true)], args := [d] }
  | _ => none }
def fnExactFirstQueensRow : OpenClaim := { program := "ytoeofmgnnfoicaa", sum := "45c9b5d3e53e36eddaa95dc6761e572f2bb11b44340c7fabe11937504778488a", func := "loop.example/g01346/laws.FnExactFirstQueens", spec := "fnExactFirstQueens", unfollowed := true, recurses := true, apart := false }
def FnExactFirstQueensSaid : Prop := fnExactFirstQueensRow.holds Try.pinned (OpenSpec.ofChange fnExactFirstQueensSpec)

/-- ITS FALSE NEIGHBOUR: 'it returns false'. Refute it at one input. -/
def fnExactFirstQueensWrong : ChangeSpec := { name := "fnExactFirstQueens", fn := fun _ => fun
  | [d] => { results := [.lit (.bool false)], args := [d] }
  | _ => none }
def FnExactFirstQueensWrongFalsely : Prop := fnExactFirstQueensRow.holds Try.pinned (OpenSpec.ofChange fnExactFirstQueensWrong)

/-- 'laws.FnExactAreDomains': WHATEVER THE INPUT: true; the input reads as it did. -/
def fnExactAreDomainsSpec : ChangeSpec := { name := "fnExactAreDomains", fn := fun _ => fun
  | [d] => { results := [.lit (.bool true)], args := [d] }
  | _ => none }
def fnExactAreDomainsRow : OpenClaim := { program := "ytoeofmgnnfoicaa", sum := "45c9b5d3e53e36eddaa95dc6761e572f2bb11b44340c7fabe11937504778488a", func := "loop.example/g01346/laws.FnExactAreDomains", spec := "fnExactAreDomains", apart := false }
def FnExactAreDomainsSaid : Prop := fnExactAreDomainsRow.holds Try.pinned (OpenSpec.ofChange fnExactAreDomainsSpec)

/-- ITS FALSE NEIGHBOUR: 'it returns false'. Refute it at one input. -/
def fnExactAreDomainsWrong : ChangeSpec := { name := "fnExactAreDomains", fn := fun _ => fun
  | [d] => { results := [.lit (.bool false)], args := [d] }
  | _ => none }
def FnExactAreDomainsWrongFalsely : Prop := fnExactAreDomainsRow.holds Try.pinned (OpenSpec.ofChange fnExactAreDomainsWrong)

/-- 'laws.FnExactCountSquares': WHATEVER THE INPUT: true; the input reads as it did. -/
def fnExactCountSquaresSpec : ChangeSpec := { name := "fnExactCountSquares", fn := fun _ => fun
  | [d1, d2] => { results := [.lit (.bool true)], args := [d1, d2] }
  | _ => none }
def fnExactCountSquaresRow : OpenClaim := { program := "ytoeofmgnnfoicaa", sum := "45c9b5d3e53e36eddaa95dc6761e572f2bb11b44340c7fabe11937504778488a", func := "loop.example/g01346/laws.FnExactCountSquares", spec := "fnExactCountSquares", unfollowed := true, recurses := true, apart := false }
def FnExactCountSquaresSaid : Prop := fnExactCountSquaresRow.holds Try.pinned (OpenSpec.ofChange fnExactCountSquaresSpec)

/-- ITS FALSE NEIGHBOUR: 'it returns false'. Refute it at one input. -/
def fnExactCountSquaresWrong : ChangeSpec := { name := "fnExactCountSquares", fn := fun _ => fun
  | [d1, d2] => { results := [.lit (.bool false)], args := [d1, d2] }
  | _ => none }
def FnExactCountSquaresWrongFalsely : Prop := fnExactCountSquaresRow.holds Try.pinned (OpenSpec.ofChange fnExactCountSquaresWrong)

/- THE SECOND FORM. 'bulk': how many values and letters a reading holds, each counted each time it is reached (what is shared counts as often as it is met; a slice's spare places count too). A statement '..UptoSaid' is the law's where the arguments, and the package variables that the reading takes, are together of bulk at most 1048576: NARROWER than '..Said'. Prove '..Said' where nothing that the law and all that it calls make is longer than what came in: it says more and counts as full. Else prove '..UptoSaid'. A law counts once. -/
mutual
def uptoBulk {H : Type} : DataW H → Nat
  | .lit (.string bytes) => bytes.length + 1
  | .lit _ => 1
  | .nil => 1
  | .ptr d => uptoBulk d + 1
  | .slice elems spare => uptoBulkAll elems + uptoBulkAll spare + 1
  | .agg parts => uptoBulkAll parts + 1
  | .iface _ d => uptoBulk d + 1
  | .map entries => uptoBulkEntries entries + 1
  | .held _ => 1
def uptoBulkAll {H : Type} : List (DataW H) → Nat
  | [] => 0
  | d :: r => uptoBulk d + uptoBulkAll r
def uptoBulkEntries {H : Type} : List (Lit × DataW H) → Nat
  | [] => 0
  | x :: r => uptoBulkEntry x + uptoBulkEntries r
def uptoBulkEntry {H : Type} : Lit × DataW H → Nat
  | (.string bytes, d) => bytes.length + uptoBulk d + 1
  | (_, d) => uptoBulk d + 1
 end
def uptoSmall : (H : Type) → List (DataW H) → Bool := fun _ ds => decide (uptoBulkAll ds ≤ 1048576)
def OpenSpec.upto (s : _root_.Go.ChangeSpec) : _root_.Go.OpenSpec := { _root_.Go.OpenSpec.ofChange s with cond := some uptoSmall }

/-- 'laws.FnExactCountQueens', WHERE WHAT IT READS IS OF BULK AT MOST 1048576: true; the input reads as it did. -/
def fnExactCountQueensUptoRow : OpenClaim := { program := "ytoeofmgnnfoicaa", sum := "45c9b5d3e53e36eddaa95dc6761e572f2bb11b44340c7fabe11937504778488a", func := "loop.example/g01346/laws.FnExactCountQueens", spec := "fnExactCountQueens", unfollowed := true, recurses := true, apart := false, narrowed := true }
def FnExactCountQueensUptoSaid : Prop := fnExactCountQueensUptoRow.holds Try.pinned (OpenSpec.upto fnExactCountQueensSpec)

/-- 'laws.FnExactSameTree', WHERE WHAT IT READS IS OF BULK AT MOST 1048576: true; the input reads as it did. -/
def fnExactSameTreeUptoRow : OpenClaim := { program := "ytoeofmgnnfoicaa", sum := "45c9b5d3e53e36eddaa95dc6761e572f2bb11b44340c7fabe11937504778488a", func := "loop.example/g01346/laws.FnExactSameTree", spec := "fnExactSameTree", apart := false, narrowed := true }
def FnExactSameTreeUptoSaid : Prop := fnExactSameTreeUptoRow.holds Try.pinned (OpenSpec.upto fnExactSameTreeSpec)

/-- 'laws.FnExactValidTree', WHERE WHAT IT READS IS OF BULK AT MOST 1048576: true; the input reads as it did. -/
def fnExactValidTreeUptoRow : OpenClaim := { program := "ytoeofmgnnfoicaa", sum := "45c9b5d3e53e36eddaa95dc6761e572f2bb11b44340c7fabe11937504778488a", func := "loop.example/g01346/laws.FnExactValidTree", spec := "fnExactValidTree", apart := false, narrowed := true }
def FnExactValidTreeUptoSaid : Prop := fnExactValidTreeUptoRow.holds Try.pinned (OpenSpec.upto fnExactValidTreeSpec)

/-- 'laws.FnExactFirstQueens', WHERE WHAT IT READS IS OF BULK AT MOST 1048576: true; the input reads as it did. -/
def fnExactFirstQueensUptoRow : OpenClaim := { program := "ytoeofmgnnfoicaa", sum := "45c9b5d3e53e36eddaa95dc6761e572f2bb11b44340c7fabe11937504778488a", func := "loop.example/g01346/laws.FnExactFirstQueens", spec := "fnExactFirstQueens", unfollowed := true, recurses := true, apart := false, narrowed := true }
def FnExactFirstQueensUptoSaid : Prop := fnExactFirstQueensUptoRow.holds Try.pinned (OpenSpec.upto fnExactFirstQueensSpec)

/-- 'laws.FnExactAreDomains', WHERE WHAT IT READS IS OF BULK AT MOST 1048576: true; the input reads as it did. -/
def fnExactAreDomainsUptoRow : OpenClaim := { program := "ytoeofmgnnfoicaa", sum := "45c9b5d3e53e36eddaa95dc6761e572f2bb11b44340c7fabe11937504778488a", func := "loop.example/g01346/laws.FnExactAreDomains", spec := "fnExactAreDomains", apart := false, narrowed := true }
def FnExactAreDomainsUptoSaid : Prop := fnExactAreDomainsUptoRow.holds Try.pinned (OpenSpec.upto fnExactAreDomainsSpec)

/-- 'laws.FnExactCountSquares', WHERE WHAT IT READS IS OF BULK AT MOST 1048576: true; the input reads as it did. -/
def fnExactCountSquaresUptoRow : OpenClaim := { program := "ytoeofmgnnfoicaa", sum := "45c9b5d3e53e36eddaa95dc6761e572f2bb11b44340c7fabe11937504778488a", func := "loop.example/g01346/laws.FnExactCountSquares", spec := "fnExactCountSquares", unfollowed := true, recurses := true, apart := false, narrowed := true }
def FnExactCountSquaresUptoSaid : Prop := fnExactCountSquaresUptoRow.holds Try.pinned (OpenSpec.upto fnExactCountSquaresSpec)

end Rows
end Go.Proofs.Ytoeofmgnnfoicaa
