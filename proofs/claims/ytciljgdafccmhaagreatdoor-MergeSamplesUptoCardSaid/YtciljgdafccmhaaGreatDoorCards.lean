/-
  DERIVED. GIVEN WITH THE SEED: THE CARDS: each row of YtciljgdafccmhaaGreatDoorRows.lean that lists a variable, with what it lists TIED to the program's text (the seventh form; the later family's looks); each row that meets fmt, with fmt's text TOLD by the authors' own Lean function (tested against real Go, not proved from fmt's source: count such statements apart). THE CARD IS WHAT COUNTS. Prove the row's statement (the work); the ties are given (YtciljgdafccmhaaGreatDoorTie.lean); close each card by the builder's one call (the guide's Derived/Test/ToyasCard.lean, 'card_holds'). Laid BY PROGRAM, IN A SANDBOX (cutbox-door.mjs). By AI agents, Wed Nov 11 2026. No macro, syntax, notation, axiom, sorry.
-/
import Derived.Test.YtciljgdafccmhaaGreatDoorRows
import GoSem.ClaimSeven
namespace Go.Proofs.YtciljgdafccmhaaGreatDoor
namespace Rows

/-- THE TIED CARD OF 'learnerlaw35.MergeParts'. -/
def mergePartsCard : Claim7 := { stood := { row := mergePartsRow, standIns := [], harness := (true, "f1cda28d38ebd9a2168b3af6984d59093e6d4897590d308cc33643fb6af528f4"), looks := false }, kinds := [], alts := [], laidByText := true, laidKinds := [.data, .data, .data], laidTests := true, laidLooks := .later }
def MergePartsCardSaid : Prop := Claim7.holds Tryz.pinned (.plain (OpenSpec.ofChange mergePartsSpec)) mergePartsCard

/-- THE TIED CARD OF 'learnerlaw35.MergeLearns'. -/
def mergeLearnsCard : Claim7 := { stood := { row := mergeLearnsRow, standIns := [], harness := (true, "f1cda28d38ebd9a2168b3af6984d59093e6d4897590d308cc33643fb6af528f4"), looks := false }, kinds := [], alts := [], laidByText := true, laidKinds := [.data, .data, .data], laidTests := true, laidLooks := .later }
def MergeLearnsCardSaid : Prop := Claim7.holds Tryz.pinned (.plain (OpenSpec.ofChange mergeLearnsSpec)) mergeLearnsCard

/-- THE TIED CARD OF 'learnerlaw35.MergeSamples'. -/
def mergeSamplesCard : Claim7 := { stood := { row := mergeSamplesRow, standIns := [], harness := (true, "f1cda28d38ebd9a2168b3af6984d59093e6d4897590d308cc33643fb6af528f4"), looks := false }, kinds := [], alts := [], laidByText := true, laidKinds := [.data, .data, .data], laidTests := true, laidLooks := .later }
def MergeSamplesCardSaid : Prop := Claim7.holds Tryz.pinned (.plain (OpenSpec.ofChange mergeSamplesSpec)) mergeSamplesCard

/-- THE TIED CARD OF 'learnerlaw35.MergeExplains'. -/
def mergeExplainsCard : Claim7 := { stood := { row := mergeExplainsRow, standIns := [], harness := (true, "f1cda28d38ebd9a2168b3af6984d59093e6d4897590d308cc33643fb6af528f4"), looks := false }, kinds := [], alts := [], laidByText := true, laidKinds := [.data, .data, .data], laidTests := true, laidLooks := .later }
def MergeExplainsCardSaid : Prop := Claim7.holds Tryz.pinned (.plain (OpenSpec.ofChange mergeExplainsSpec)) mergeExplainsCard

/-- THE TIED CARD OF 'learnerlaw35.MergeIdentifies'. -/
def mergeIdentifiesCard : Claim7 := { stood := { row := mergeIdentifiesRow, standIns := [], harness := (true, "f1cda28d38ebd9a2168b3af6984d59093e6d4897590d308cc33643fb6af528f4"), looks := false }, kinds := [], alts := [], laidByText := true, laidKinds := [.data, .data, .data], laidTests := true, laidLooks := .later }
def MergeIdentifiesCardSaid : Prop := Claim7.holds Tryz.pinned (.plain (OpenSpec.ofChange mergeIdentifiesSpec)) mergeIdentifiesCard

/-- THE TIED CARD OF 'learnerlaw24.LstarRuns'. -/
def lstarRunsCard : Claim7 := { stood := { row := lstarRunsRow, standIns := [], harness := (true, "f1cda28d38ebd9a2168b3af6984d59093e6d4897590d308cc33643fb6af528f4"), looks := false }, kinds := [], alts := [], laidByText := true, laidKinds := [.data, .data, .data], laidTests := true, laidLooks := .later }
def LstarRunsCardSaid : Prop := Claim7.holds Tryz.pinned (.plain (OpenSpec.ofChange lstarRunsSpec)) lstarRunsCard

/-- THE TIED CARD OF 'learnerlaw24.LstarLearns'. -/
def lstarLearnsCard : Claim7 := { stood := { row := lstarLearnsRow, standIns := [], harness := (true, "f1cda28d38ebd9a2168b3af6984d59093e6d4897590d308cc33643fb6af528f4"), looks := false }, kinds := [], alts := [], laidByText := true, laidKinds := [.data, .data, .data], laidTests := true, laidLooks := .later }
def LstarLearnsCardSaid : Prop := Claim7.holds Tryz.pinned (.plain (OpenSpec.ofChange lstarLearnsSpec)) lstarLearnsCard

/-- THE SECOND FORM's CARD OF 'learnerlaw35.MergeParts'. -/
def mergePartsUptoCard : Claim7 := { stood := { row := mergePartsUptoRow, standIns := [], harness := (true, "f1cda28d38ebd9a2168b3af6984d59093e6d4897590d308cc33643fb6af528f4"), looks := false }, kinds := [], alts := [], laidByText := true, laidKinds := [.data, .data, .data], laidTests := true, laidLooks := .later }
def MergePartsUptoCardSaid : Prop := Claim7.holds Tryz.pinned (.plain (OpenSpec.upto mergePartsSpec)) mergePartsUptoCard

/-- THE SECOND FORM's CARD OF 'learnerlaw35.MergeLearns'. -/
def mergeLearnsUptoCard : Claim7 := { stood := { row := mergeLearnsUptoRow, standIns := [], harness := (true, "f1cda28d38ebd9a2168b3af6984d59093e6d4897590d308cc33643fb6af528f4"), looks := false }, kinds := [], alts := [], laidByText := true, laidKinds := [.data, .data, .data], laidTests := true, laidLooks := .later }
def MergeLearnsUptoCardSaid : Prop := Claim7.holds Tryz.pinned (.plain (OpenSpec.upto mergeLearnsSpec)) mergeLearnsUptoCard

/-- THE SECOND FORM's CARD OF 'learnerlaw35.MergeSamples'. -/
def mergeSamplesUptoCard : Claim7 := { stood := { row := mergeSamplesUptoRow, standIns := [], harness := (true, "f1cda28d38ebd9a2168b3af6984d59093e6d4897590d308cc33643fb6af528f4"), looks := false }, kinds := [], alts := [], laidByText := true, laidKinds := [.data, .data, .data], laidTests := true, laidLooks := .later }
def MergeSamplesUptoCardSaid : Prop := Claim7.holds Tryz.pinned (.plain (OpenSpec.upto mergeSamplesSpec)) mergeSamplesUptoCard

/-- THE SECOND FORM's CARD OF 'learnerlaw35.MergeExplains'. -/
def mergeExplainsUptoCard : Claim7 := { stood := { row := mergeExplainsUptoRow, standIns := [], harness := (true, "f1cda28d38ebd9a2168b3af6984d59093e6d4897590d308cc33643fb6af528f4"), looks := false }, kinds := [], alts := [], laidByText := true, laidKinds := [.data, .data, .data], laidTests := true, laidLooks := .later }
def MergeExplainsUptoCardSaid : Prop := Claim7.holds Tryz.pinned (.plain (OpenSpec.upto mergeExplainsSpec)) mergeExplainsUptoCard

/-- THE SECOND FORM's CARD OF 'learnerlaw35.MergeIdentifies'. -/
def mergeIdentifiesUptoCard : Claim7 := { stood := { row := mergeIdentifiesUptoRow, standIns := [], harness := (true, "f1cda28d38ebd9a2168b3af6984d59093e6d4897590d308cc33643fb6af528f4"), looks := false }, kinds := [], alts := [], laidByText := true, laidKinds := [.data, .data, .data], laidTests := true, laidLooks := .later }
def MergeIdentifiesUptoCardSaid : Prop := Claim7.holds Tryz.pinned (.plain (OpenSpec.upto mergeIdentifiesSpec)) mergeIdentifiesUptoCard

/-- THE SECOND FORM's CARD OF 'learnerlaw24.LstarRuns'. -/
def lstarRunsUptoCard : Claim7 := { stood := { row := lstarRunsUptoRow, standIns := [], harness := (true, "f1cda28d38ebd9a2168b3af6984d59093e6d4897590d308cc33643fb6af528f4"), looks := false }, kinds := [], alts := [], laidByText := true, laidKinds := [.data, .data, .data], laidTests := true, laidLooks := .later }
def LstarRunsUptoCardSaid : Prop := Claim7.holds Tryz.pinned (.plain (OpenSpec.upto lstarRunsSpec)) lstarRunsUptoCard

/-- THE SECOND FORM's CARD OF 'learnerlaw24.LstarLearns'. -/
def lstarLearnsUptoCard : Claim7 := { stood := { row := lstarLearnsUptoRow, standIns := [], harness := (true, "f1cda28d38ebd9a2168b3af6984d59093e6d4897590d308cc33643fb6af528f4"), looks := false }, kinds := [], alts := [], laidByText := true, laidKinds := [.data, .data, .data], laidTests := true, laidLooks := .later }
def LstarLearnsUptoCardSaid : Prop := Claim7.holds Tryz.pinned (.plain (OpenSpec.upto lstarLearnsSpec)) lstarLearnsUptoCard
end Rows
end Go.Proofs.YtciljgdafccmhaaGreatDoor
