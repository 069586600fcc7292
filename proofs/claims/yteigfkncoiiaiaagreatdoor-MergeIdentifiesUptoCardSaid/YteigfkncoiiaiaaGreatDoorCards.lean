/-
  DERIVED. GIVEN WITH THE SEED: THE CARDS: each row of YteigfkncoiiaiaaGreatDoorRows.lean that lists a variable, with what it lists TIED to the program's text (the seventh form; the later family's looks); each row that meets fmt, with fmt's text TOLD by the authors' own Lean function (tested against real Go, not proved from fmt's source: count such statements apart). THE CARD IS WHAT COUNTS. Prove the row's statement (the work); the ties are given (YteigfkncoiiaiaaGreatDoorTie.lean); close each card by the builder's one call (the guide's Derived/Test/ToyasCard.lean, 'card_holds'). Laid BY PROGRAM, IN A SANDBOX (cutbox-door.mjs). By AI agents, Wed Nov 11 2026. No macro, syntax, notation, axiom, sorry.
-/
import Derived.Test.YteigfkncoiiaiaaGreatDoorRows
import GoSem.ClaimSeven
namespace Go.Proofs.YteigfkncoiiaiaaGreatDoor
namespace Rows

/-- THE TIED CARD OF 'learnerlaw35.MergeParts'. -/
def mergePartsCard : Claim7 := { stood := { row := mergePartsRow, standIns := [], harness := (true, "1ee6817819ced8ae8fc8c108493fc0eda33b63113ab5e66f88e165c1359262c4"), looks := false }, kinds := [], alts := [], laidByText := true, laidKinds := [.data, .data, .data], laidTests := true, laidLooks := .later }
def MergePartsCardSaid : Prop := Claim7.holds Tryz.pinned (.plain (OpenSpec.ofChange mergePartsSpec)) mergePartsCard

/-- THE TIED CARD OF 'learnerlaw35.MergeLearns'. -/
def mergeLearnsCard : Claim7 := { stood := { row := mergeLearnsRow, standIns := [], harness := (true, "1ee6817819ced8ae8fc8c108493fc0eda33b63113ab5e66f88e165c1359262c4"), looks := false }, kinds := [], alts := [], laidByText := true, laidKinds := [.data, .data, .data], laidTests := true, laidLooks := .later }
def MergeLearnsCardSaid : Prop := Claim7.holds Tryz.pinned (.plain (OpenSpec.ofChange mergeLearnsSpec)) mergeLearnsCard

/-- THE TIED CARD OF 'learnerlaw35.MergeExplains'. -/
def mergeExplainsCard : Claim7 := { stood := { row := mergeExplainsRow, standIns := [], harness := (true, "1ee6817819ced8ae8fc8c108493fc0eda33b63113ab5e66f88e165c1359262c4"), looks := false }, kinds := [], alts := [], laidByText := true, laidKinds := [.data, .data, .data], laidTests := true, laidLooks := .later }
def MergeExplainsCardSaid : Prop := Claim7.holds Tryz.pinned (.plain (OpenSpec.ofChange mergeExplainsSpec)) mergeExplainsCard

/-- THE TIED CARD OF 'learnerlaw35.MergeIdentifies'. -/
def mergeIdentifiesCard : Claim7 := { stood := { row := mergeIdentifiesRow, standIns := [], harness := (true, "1ee6817819ced8ae8fc8c108493fc0eda33b63113ab5e66f88e165c1359262c4"), looks := false }, kinds := [], alts := [], laidByText := true, laidKinds := [.data, .data, .data], laidTests := true, laidLooks := .later }
def MergeIdentifiesCardSaid : Prop := Claim7.holds Tryz.pinned (.plain (OpenSpec.ofChange mergeIdentifiesSpec)) mergeIdentifiesCard

/-- THE SECOND FORM's CARD OF 'learnerlaw35.MergeParts'. -/
def mergePartsUptoCard : Claim7 := { stood := { row := mergePartsUptoRow, standIns := [], harness := (true, "1ee6817819ced8ae8fc8c108493fc0eda33b63113ab5e66f88e165c1359262c4"), looks := false }, kinds := [], alts := [], laidByText := true, laidKinds := [.data, .data, .data], laidTests := true, laidLooks := .later }
def MergePartsUptoCardSaid : Prop := Claim7.holds Tryz.pinned (.plain (OpenSpec.upto mergePartsSpec)) mergePartsUptoCard

/-- THE SECOND FORM's CARD OF 'learnerlaw35.MergeLearns'. -/
def mergeLearnsUptoCard : Claim7 := { stood := { row := mergeLearnsUptoRow, standIns := [], harness := (true, "1ee6817819ced8ae8fc8c108493fc0eda33b63113ab5e66f88e165c1359262c4"), looks := false }, kinds := [], alts := [], laidByText := true, laidKinds := [.data, .data, .data], laidTests := true, laidLooks := .later }
def MergeLearnsUptoCardSaid : Prop := Claim7.holds Tryz.pinned (.plain (OpenSpec.upto mergeLearnsSpec)) mergeLearnsUptoCard

/-- THE SECOND FORM's CARD OF 'learnerlaw35.MergeExplains'. -/
def mergeExplainsUptoCard : Claim7 := { stood := { row := mergeExplainsUptoRow, standIns := [], harness := (true, "1ee6817819ced8ae8fc8c108493fc0eda33b63113ab5e66f88e165c1359262c4"), looks := false }, kinds := [], alts := [], laidByText := true, laidKinds := [.data, .data, .data], laidTests := true, laidLooks := .later }
def MergeExplainsUptoCardSaid : Prop := Claim7.holds Tryz.pinned (.plain (OpenSpec.upto mergeExplainsSpec)) mergeExplainsUptoCard

/-- THE SECOND FORM's CARD OF 'learnerlaw35.MergeIdentifies'. -/
def mergeIdentifiesUptoCard : Claim7 := { stood := { row := mergeIdentifiesUptoRow, standIns := [], harness := (true, "1ee6817819ced8ae8fc8c108493fc0eda33b63113ab5e66f88e165c1359262c4"), looks := false }, kinds := [], alts := [], laidByText := true, laidKinds := [.data, .data, .data], laidTests := true, laidLooks := .later }
def MergeIdentifiesUptoCardSaid : Prop := Claim7.holds Tryz.pinned (.plain (OpenSpec.upto mergeIdentifiesSpec)) mergeIdentifiesUptoCard
end Rows
end Go.Proofs.YteigfkncoiiaiaaGreatDoor
