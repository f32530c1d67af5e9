/-
  No cell of these rows narrows 'for every input' (looked for: loops, veiled, ifaces, maps, wideKeys, modest, calm, conditions, laid).
  DERIVED. THE GIVEN ROWS OF THIS SEAT. 3 by the template 'for every input the law returns true; each argument reads behind the call as it read before'; 0 by the template 'total and deterministic' (their statements: YtfdaifmfecfchaaTotals.lean).
  GIVEN WITH THE SEED: the statements are not yours to turn. If you find one false, say at which input.
  Laid BY PROGRAM, IN A SANDBOX (cutbox-rows.mjs): the forced cells as the released guide's own fill.sh prints them over the translation 2fb606dd0dd4c0de… (all of the seat's roots in one cut). By AI agents, Wed Nov 11 2026. No macro, syntax, notation, axiom, sorry.
-/
import Derived.Test.YtfdaifmfecfchaaChecked
import GoSem.Claim
import GoSem.ClaimJoined
import GoSem.ClaimMapViews
import Derived.JoinedTies
import Derived.KernelRfl
namespace Go.Proofs.Ytfdaifmfecfchaa
/- THE CELL 'sum', in the pinned program and in every row, IS THE sha256 OF THE DUMP (.gsa) THAT YtfdaifmfecfchaaProg.lean LOADS. Nothing in Lean hashes anything: it is a label: what it is worth is what the hold of that sum in a sandbox is worth. -/
noncomputable def Try.pinned : Pinned := { name := "ytfdaifmfecfchaa", sum := "2fb606dd0dd4c0dea387d63996ff5d0c547b522d21c8440ef178bff60e88e7f5", checked := Try.checked }
namespace Rows
def none {H : Type} : Left H := { results := [], args := [] }

/-- 'laws.FnJobs': WHATEVER THE INPUT: true; the input reads as it did. -/
def fnJobsSpec : ChangeSpec := { name := "fnJobs", fn := fun _ => fun
  | [d1, d2] => { results := [.lit (.bool true)], args := [d1, d2] }
  | _ => none }
def fnJobsRow : OpenClaim := { program := "ytfdaifmfecfchaa", sum := "2fb606dd0dd4c0dea387d63996ff5d0c547b522d21c8440ef178bff60e88e7f5", func := "loop.example/g01346/laws.FnJobs", spec := "fnJobs", unfollowed := true, recurses := true, apart := false }
def FnJobsSaid : Prop := fnJobsRow.holds Try.pinned (OpenSpec.ofChange fnJobsSpec)

/-- ITS FALSE NEIGHBOUR: 'it returns false'. Refute it at one input. -/
def fnJobsWrong : ChangeSpec := { name := "fnJobs", fn := fun _ => fun
  | [d1, d2] => { results := [.lit (.bool false)], args := [d1, d2] }
  | _ => none }
def FnJobsWrongFalsely : Prop := fnJobsRow.holds Try.pinned (OpenSpec.ofChange fnJobsWrong)

/-- 'laws.FnMachines': WHATEVER THE INPUT: true; the input reads as it did. -/
def fnMachinesSpec : ChangeSpec := { name := "fnMachines", fn := fun _ => fun
  | [d1, d2] => { results := [.lit (.bool true)], args := [d1, d2] }
  | _ => none }
def fnMachinesRow : OpenClaim := { program := "ytfdaifmfecfchaa", sum := "2fb606dd0dd4c0dea387d63996ff5d0c547b522d21c8440ef178bff60e88e7f5", func := "loop.example/g01346/laws.FnMachines", spec := "fnMachines", unfollowed := true, recurses := true, apart := false }
def FnMachinesSaid : Prop := fnMachinesRow.holds Try.pinned (OpenSpec.ofChange fnMachinesSpec)

/-- ITS FALSE NEIGHBOUR: 'it returns false'. Refute it at one input. -/
def fnMachinesWrong : ChangeSpec := { name := "fnMachines", fn := fun _ => fun
  | [d1, d2] => { results := [.lit (.bool false)], args := [d1, d2] }
  | _ => none }
def FnMachinesWrongFalsely : Prop := fnMachinesRow.holds Try.pinned (OpenSpec.ofChange fnMachinesWrong)

/-- 'laws.FnRules': WHATEVER THE INPUT: true; the input reads as it did. -/
def fnRulesSpec : ChangeSpec := { name := "fnRules", fn := fun _ => fun
  | [d1, d2] => { results := [.lit (.bool true)], args := [d1, d2] }
  | _ => none }
def fnRulesRow : OpenClaim := { program := "ytfdaifmfecfchaa", sum := "2fb606dd0dd4c0dea387d63996ff5d0c547b522d21c8440ef178bff60e88e7f5", func := "loop.example/g01346/laws.FnRules", spec := "fnRules", inPlace := ["slices.overlaps[int64]"], unfollowed := true, recurses := true, apart := false }
def FnRulesSaid : Prop := fnRulesRow.holds Try.pinned (OpenSpec.ofChange fnRulesSpec)

/-- ITS FALSE NEIGHBOUR: 'it returns false'. Refute it at one input. -/
def fnRulesWrong : ChangeSpec := { name := "fnRules", fn := fun _ => fun
  | [d1, d2] => { results := [.lit (.bool false)], args := [d1, d2] }
  | _ => none }
def FnRulesWrongFalsely : Prop := fnRulesRow.holds Try.pinned (OpenSpec.ofChange fnRulesWrong)

/- THE SECOND FORM. 'bulk': how many values and letters a reading holds, each counted each time it is reached (what is shared counts as often as it is met; a slice's spare places count too). A statement '..UptoSaid' is the law's where the arguments, and the package variables that the reading takes, are together of bulk at most 1048576: NARROWER than '..Said'. Prove '..Said' where nothing that the law and all that it calls make is longer than what came in: it says more and counts as full. Else prove '..UptoSaid'. A law counts once. -/
mutual
def uptoBulk {H : Type} : DataW H → Nat
  | .lit (.string bytes) => bytes.length + 1
  | .lit _ => 1
  | .nil => 1
  | .ptr d => uptoBulk d + 1
  | .slice elems spare => uptoBulkAll elems + uptoBulkAll spare + 1
  | .agg parts => uptoBulkAll parts + 1
  | .iface _ d => uptoBulk d + 1
  | .map entries => uptoBulkEntries entries + 1
  | .held _ => 1
def uptoBulkAll {H : Type} : List (DataW H) → Nat
  | [] => 0
  | d :: r => uptoBulk d + uptoBulkAll r
def uptoBulkEntries {H : Type} : List (Lit × DataW H) → Nat
  | [] => 0
  | x :: r => uptoBulkEntry x + uptoBulkEntries r
def uptoBulkEntry {H : Type} : Lit × DataW H → Nat
  | (.string bytes, d) => bytes.length + uptoBulk d + 1
  | (_, d) => uptoBulk d + 1
 end
def uptoSmall : (H : Type) → List (DataW H) → Bool := fun _ ds => decide (uptoBulkAll ds ≤ 1048576)
def OpenSpec.upto (s : _root_.Go.ChangeSpec) : _root_.Go.OpenSpec := { _root_.Go.OpenSpec.ofChange s with cond := some uptoSmall }

/-- 'laws.FnJobs', WHERE WHAT IT READS IS OF BULK AT MOST 1048576: true; the input reads as it did. -/
def fnJobsUptoRow : OpenClaim := { program := "ytfdaifmfecfchaa", sum := "2fb606dd0dd4c0dea387d63996ff5d0c547b522d21c8440ef178bff60e88e7f5", func := "loop.example/g01346/laws.FnJobs", spec := "fnJobs", unfollowed := true, recurses := true, apart := false, narrowed := true }
def FnJobsUptoSaid : Prop := fnJobsUptoRow.holds Try.pinned (OpenSpec.upto fnJobsSpec)

/-- 'laws.FnMachines', WHERE WHAT IT READS IS OF BULK AT MOST 1048576: true; the input reads as it did. -/
def fnMachinesUptoRow : OpenClaim := { program := "ytfdaifmfecfchaa", sum := "2fb606dd0dd4c0dea387d63996ff5d0c547b522d21c8440ef178bff60e88e7f5", func := "loop.example/g01346/laws.FnMachines", spec := "fnMachines", unfollowed := true, recurses := true, apart := false, narrowed := true }
def FnMachinesUptoSaid : Prop := fnMachinesUptoRow.holds Try.pinned (OpenSpec.upto fnMachinesSpec)

/-- 'laws.FnRules', WHERE WHAT IT READS IS OF BULK AT MOST 1048576: true; the input reads as it did. -/
def fnRulesUptoRow : OpenClaim := { program := "ytfdaifmfecfchaa", sum := "2fb606dd0dd4c0dea387d63996ff5d0c547b522d21c8440ef178bff60e88e7f5", func := "loop.example/g01346/laws.FnRules", spec := "fnRules", inPlace := ["slices.overlaps[int64]"], unfollowed := true, recurses := true, apart := false, narrowed := true }
def FnRulesUptoSaid : Prop := fnRulesUptoRow.holds Try.pinned (OpenSpec.upto fnRulesSpec)

end Rows
end Go.Proofs.Ytfdaifmfecfchaa
