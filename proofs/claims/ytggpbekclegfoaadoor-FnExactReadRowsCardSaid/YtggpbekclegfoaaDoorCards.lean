/-
  DERIVED. GIVEN WITH THE SEED: THE CARDS: each row of YtggpbekclegfoaaDoorRows.lean that lists a variable, with what it lists TIED to the program's text (the seventh form; the later family's looks); each row that meets fmt, with fmt's text TOLD by the authors' own Lean function (tested against real Go, not proved from fmt's source: count such statements apart). THE CARD IS WHAT COUNTS. Prove the row's statement (the work); the ties are given (YtggpbekclegfoaaDoorTie.lean); close each card by the builder's one call (the guide's Derived/Test/ToyasCard.lean, 'card_holds'). Laid BY PROGRAM, IN A SANDBOX (cutbox-door.mjs). By AI agents, Wed Nov 11 2026. No macro, syntax, notation, axiom, sorry.
-/
import Derived.Test.YtggpbekclegfoaaDoorRows
import GoSem.ClaimSeven
namespace Go.Proofs.YtggpbekclegfoaaDoor
namespace Rows

/-- THE TIED CARD OF 'laws.FnExactJobsText'. -/
def fnExactJobsTextCard : Claim7 := { stood := { row := fnExactJobsTextRow, standIns := [], harness := (true, "09d2859f435a2efe38b8f4dfdc1f4216b92e9174961268ed04f1baf13b75e7ad"), looks := true }, kinds := [], alts := [], laidByText := true, laidKinds := [.data, .data, .data], laidTests := true, laidLooks := .later }
def FnExactJobsTextCardSaid : Prop := Claim7.holds Tryd.pinned (.plain (OpenSpec.ofChange fnExactJobsTextSpec)) fnExactJobsTextCard

/-- THE TIED CARD OF 'laws.FnExactRowsText'. -/
def fnExactRowsTextCard : Claim7 := { stood := { row := fnExactRowsTextRow, standIns := [], harness := (true, "09d2859f435a2efe38b8f4dfdc1f4216b92e9174961268ed04f1baf13b75e7ad"), looks := true }, kinds := [], alts := [], laidByText := true, laidKinds := [.data, .data, .data], laidTests := true, laidLooks := .later }
def FnExactRowsTextCardSaid : Prop := Claim7.holds Tryd.pinned (.plain (OpenSpec.ofChange fnExactRowsTextSpec)) fnExactRowsTextCard

/-- THE TIED CARD OF 'laws.FnExactReadJobs'. -/
def fnExactReadJobsCard : Claim7 := { stood := { row := fnExactReadJobsRow, standIns := [], harness := (true, "09d2859f435a2efe38b8f4dfdc1f4216b92e9174961268ed04f1baf13b75e7ad"), looks := true }, kinds := [], alts := [], laidByText := true, laidKinds := [.data, .data, .data, .data, .sentinel, .sentinel, .pinned], laidTests := true, laidLooks := .later }
def FnExactReadJobsCardSaid : Prop := Claim7.holds Tryd.pinned (.plain (OpenSpec.ofChange fnExactReadJobsSpec)) fnExactReadJobsCard

/-- THE TIED CARD OF 'laws.FnExactReadRows'. -/
def fnExactReadRowsCard : Claim7 := { stood := { row := fnExactReadRowsRow, standIns := [], harness := (true, "09d2859f435a2efe38b8f4dfdc1f4216b92e9174961268ed04f1baf13b75e7ad"), looks := true }, kinds := [], alts := [], laidByText := true, laidKinds := [.data, .data, .data, .data, .sentinel, .sentinel, .pinned], laidTests := true, laidLooks := .later }
def FnExactReadRowsCardSaid : Prop := Claim7.holds Tryd.pinned (.plain (OpenSpec.ofChange fnExactReadRowsSpec)) fnExactReadRowsCard

/-- THE SECOND FORM's CARD OF 'laws.FnExactJobsText'. -/
def fnExactJobsTextUptoCard : Claim7 := { stood := { row := fnExactJobsTextUptoRow, standIns := [], harness := (true, "09d2859f435a2efe38b8f4dfdc1f4216b92e9174961268ed04f1baf13b75e7ad"), looks := true }, kinds := [], alts := [], laidByText := true, laidKinds := [.data, .data, .data], laidTests := true, laidLooks := .later }
def FnExactJobsTextUptoCardSaid : Prop := Claim7.holds Tryd.pinned (.plain (OpenSpec.upto fnExactJobsTextSpec)) fnExactJobsTextUptoCard

/-- THE SECOND FORM's CARD OF 'laws.FnExactRowsText'. -/
def fnExactRowsTextUptoCard : Claim7 := { stood := { row := fnExactRowsTextUptoRow, standIns := [], harness := (true, "09d2859f435a2efe38b8f4dfdc1f4216b92e9174961268ed04f1baf13b75e7ad"), looks := true }, kinds := [], alts := [], laidByText := true, laidKinds := [.data, .data, .data], laidTests := true, laidLooks := .later }
def FnExactRowsTextUptoCardSaid : Prop := Claim7.holds Tryd.pinned (.plain (OpenSpec.upto fnExactRowsTextSpec)) fnExactRowsTextUptoCard

/-- THE SECOND FORM's CARD OF 'laws.FnExactReadJobs'. -/
def fnExactReadJobsUptoCard : Claim7 := { stood := { row := fnExactReadJobsUptoRow, standIns := [], harness := (true, "09d2859f435a2efe38b8f4dfdc1f4216b92e9174961268ed04f1baf13b75e7ad"), looks := true }, kinds := [], alts := [], laidByText := true, laidKinds := [.data, .data, .data, .data, .sentinel, .sentinel, .pinned], laidTests := true, laidLooks := .later }
def FnExactReadJobsUptoCardSaid : Prop := Claim7.holds Tryd.pinned (.plain (OpenSpec.upto fnExactReadJobsSpec)) fnExactReadJobsUptoCard

/-- THE SECOND FORM's CARD OF 'laws.FnExactReadRows'. -/
def fnExactReadRowsUptoCard : Claim7 := { stood := { row := fnExactReadRowsUptoRow, standIns := [], harness := (true, "09d2859f435a2efe38b8f4dfdc1f4216b92e9174961268ed04f1baf13b75e7ad"), looks := true }, kinds := [], alts := [], laidByText := true, laidKinds := [.data, .data, .data, .data, .sentinel, .sentinel, .pinned], laidTests := true, laidLooks := .later }
def FnExactReadRowsUptoCardSaid : Prop := Claim7.holds Tryd.pinned (.plain (OpenSpec.upto fnExactReadRowsSpec)) fnExactReadRowsUptoCard
end Rows
end Go.Proofs.YtggpbekclegfoaaDoor
