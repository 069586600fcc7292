/-
  DERIVED. GIVEN WITH THE SEED: THE CARDS: each row of YtpmebphhbgpapaaGreatDoorRows.lean that lists a variable, with what it lists TIED to the program's text (the seventh form; the later family's looks); each row that meets fmt, with fmt's text TOLD by the authors' own Lean function (tested against real Go, not proved from fmt's source: count such statements apart). THE CARD IS WHAT COUNTS. Prove the row's statement (the work); the ties are given (YtpmebphhbgpapaaGreatDoorTie.lean); close each card by the builder's one call (the guide's Derived/Test/ToyasCard.lean, 'card_holds'). Laid BY PROGRAM, IN A SANDBOX (cutbox-door.mjs). By AI agents, Wed Nov 11 2026. No macro, syntax, notation, axiom, sorry.
-/
import Derived.Test.YtpmebphhbgpapaaGreatDoorRows
import GoSem.ClaimSeven
namespace Go.Proofs.YtpmebphhbgpapaaGreatDoor
namespace Rows

/-- THE TIED CARD OF 'learnerlaw23.TableValid'. -/
def tableValidCard : Claim7 := { stood := { row := tableValidRow, standIns := [], harness := (true, "5c81cc38ea00030bd753d670ef08706920e7e4da2556f3dd34d7bb19a164ff48"), looks := false }, kinds := [], alts := [], laidByText := true, laidKinds := [.data, .data, .data], laidTests := true, laidLooks := .later }
def TableValidCardSaid : Prop := Claim7.holds Tryz.pinned (.plain (OpenSpec.ofChange tableValidSpec)) tableValidCard

/-- THE TIED CARD OF 'learnerlaw23.TableNeeds'. -/
def tableNeedsCard : Claim7 := { stood := { row := tableNeedsRow, standIns := [], harness := (true, "5c81cc38ea00030bd753d670ef08706920e7e4da2556f3dd34d7bb19a164ff48"), looks := false }, kinds := [], alts := [], laidByText := true, laidKinds := [.data, .data, .data], laidTests := true, laidLooks := .later }
def TableNeedsCardSaid : Prop := Claim7.holds Tryz.pinned (.plain (OpenSpec.ofChange tableNeedsSpec)) tableNeedsCard

/-- THE TIED CARD OF 'learnerlaw23.TableRepairs'. -/
def tableRepairsCard : Claim7 := { stood := { row := tableRepairsRow, standIns := [], harness := (true, "5c81cc38ea00030bd753d670ef08706920e7e4da2556f3dd34d7bb19a164ff48"), looks := false }, kinds := [], alts := [], laidByText := true, laidKinds := [.data, .data, .data], laidTests := true, laidLooks := .later }
def TableRepairsCardSaid : Prop := Claim7.holds Tryz.pinned (.plain (OpenSpec.ofChange tableRepairsSpec)) tableRepairsCard

/-- THE TIED CARD OF 'learnerlaw23.TableGrows'. -/
def tableGrowsCard : Claim7 := { stood := { row := tableGrowsRow, standIns := [], harness := (true, "5c81cc38ea00030bd753d670ef08706920e7e4da2556f3dd34d7bb19a164ff48"), looks := false }, kinds := [], alts := [], laidByText := true, laidKinds := [.data, .data, .data], laidTests := true, laidLooks := .later }
def TableGrowsCardSaid : Prop := Claim7.holds Tryz.pinned (.plain (OpenSpec.ofChange tableGrowsSpec)) tableGrowsCard

/-- THE TIED CARD OF 'learnerlaw23.TableHypothesis'. -/
def tableHypothesisCard : Claim7 := { stood := { row := tableHypothesisRow, standIns := [], harness := (true, "5c81cc38ea00030bd753d670ef08706920e7e4da2556f3dd34d7bb19a164ff48"), looks := false }, kinds := [], alts := [], laidByText := true, laidKinds := [.data, .data, .data], laidTests := true, laidLooks := .later }
def TableHypothesisCardSaid : Prop := Claim7.holds Tryz.pinned (.plain (OpenSpec.ofChange tableHypothesisSpec)) tableHypothesisCard

/-- THE TIED CARD OF 'learnerlaw23.TableReaches'. -/
def tableReachesCard : Claim7 := { stood := { row := tableReachesRow, standIns := [], harness := (true, "5c81cc38ea00030bd753d670ef08706920e7e4da2556f3dd34d7bb19a164ff48"), looks := false }, kinds := [], alts := [], laidByText := true, laidKinds := [.data, .data, .data], laidTests := true, laidLooks := .later }
def TableReachesCardSaid : Prop := Claim7.holds Tryz.pinned (.plain (OpenSpec.ofChange tableReachesSpec)) tableReachesCard

/-- THE TIED CARD OF 'learnerlaw23.TableExplains'. -/
def tableExplainsCard : Claim7 := { stood := { row := tableExplainsRow, standIns := [], harness := (true, "5c81cc38ea00030bd753d670ef08706920e7e4da2556f3dd34d7bb19a164ff48"), looks := false }, kinds := [], alts := [], laidByText := true, laidKinds := [.data, .data, .data], laidTests := true, laidLooks := .later }
def TableExplainsCardSaid : Prop := Claim7.holds Tryz.pinned (.plain (OpenSpec.ofChange tableExplainsSpec)) tableExplainsCard

/-- THE TIED CARD OF 'learnerlaw23.TableProgress'. -/
def tableProgressCard : Claim7 := { stood := { row := tableProgressRow, standIns := [], harness := (true, "5c81cc38ea00030bd753d670ef08706920e7e4da2556f3dd34d7bb19a164ff48"), looks := false }, kinds := [], alts := [], laidByText := true, laidKinds := [.data, .data, .data], laidTests := true, laidLooks := .later }
def TableProgressCardSaid : Prop := Claim7.holds Tryz.pinned (.plain (OpenSpec.ofChange tableProgressSpec)) tableProgressCard

/-- THE TIED CARD OF 'learnerlaw24.LstarSteps'. -/
def lstarStepsCard : Claim7 := { stood := { row := lstarStepsRow, standIns := [], harness := (true, "5c81cc38ea00030bd753d670ef08706920e7e4da2556f3dd34d7bb19a164ff48"), looks := false }, kinds := [], alts := [], laidByText := true, laidKinds := [.data, .data, .data], laidTests := true, laidLooks := .later }
def LstarStepsCardSaid : Prop := Claim7.holds Tryz.pinned (.plain (OpenSpec.ofChange lstarStepsSpec)) lstarStepsCard

/-- THE TIED CARD OF 'learnerlaw24.LstarRefines'. -/
def lstarRefinesCard : Claim7 := { stood := { row := lstarRefinesRow, standIns := [], harness := (true, "5c81cc38ea00030bd753d670ef08706920e7e4da2556f3dd34d7bb19a164ff48"), looks := false }, kinds := [], alts := [], laidByText := true, laidKinds := [.data, .data, .data], laidTests := true, laidLooks := .later }
def LstarRefinesCardSaid : Prop := Claim7.holds Tryz.pinned (.plain (OpenSpec.ofChange lstarRefinesSpec)) lstarRefinesCard

/-- THE TIED CARD OF 'learnerlaw24.LstarGrows'. -/
def lstarGrowsCard : Claim7 := { stood := { row := lstarGrowsRow, standIns := [], harness := (true, "5c81cc38ea00030bd753d670ef08706920e7e4da2556f3dd34d7bb19a164ff48"), looks := false }, kinds := [], alts := [], laidByText := true, laidKinds := [.data, .data, .data], laidTests := true, laidLooks := .later }
def LstarGrowsCardSaid : Prop := Claim7.holds Tryz.pinned (.plain (OpenSpec.ofChange lstarGrowsSpec)) lstarGrowsCard

/-- THE SECOND FORM's CARD OF 'learnerlaw23.TableValid'. -/
def tableValidUptoCard : Claim7 := { stood := { row := tableValidUptoRow, standIns := [], harness := (true, "5c81cc38ea00030bd753d670ef08706920e7e4da2556f3dd34d7bb19a164ff48"), looks := false }, kinds := [], alts := [], laidByText := true, laidKinds := [.data, .data, .data], laidTests := true, laidLooks := .later }
def TableValidUptoCardSaid : Prop := Claim7.holds Tryz.pinned (.plain (OpenSpec.upto tableValidSpec)) tableValidUptoCard

/-- THE SECOND FORM's CARD OF 'learnerlaw23.TableNeeds'. -/
def tableNeedsUptoCard : Claim7 := { stood := { row := tableNeedsUptoRow, standIns := [], harness := (true, "5c81cc38ea00030bd753d670ef08706920e7e4da2556f3dd34d7bb19a164ff48"), looks := false }, kinds := [], alts := [], laidByText := true, laidKinds := [.data, .data, .data], laidTests := true, laidLooks := .later }
def TableNeedsUptoCardSaid : Prop := Claim7.holds Tryz.pinned (.plain (OpenSpec.upto tableNeedsSpec)) tableNeedsUptoCard

/-- THE SECOND FORM's CARD OF 'learnerlaw23.TableRepairs'. -/
def tableRepairsUptoCard : Claim7 := { stood := { row := tableRepairsUptoRow, standIns := [], harness := (true, "5c81cc38ea00030bd753d670ef08706920e7e4da2556f3dd34d7bb19a164ff48"), looks := false }, kinds := [], alts := [], laidByText := true, laidKinds := [.data, .data, .data], laidTests := true, laidLooks := .later }
def TableRepairsUptoCardSaid : Prop := Claim7.holds Tryz.pinned (.plain (OpenSpec.upto tableRepairsSpec)) tableRepairsUptoCard

/-- THE SECOND FORM's CARD OF 'learnerlaw23.TableGrows'. -/
def tableGrowsUptoCard : Claim7 := { stood := { row := tableGrowsUptoRow, standIns := [], harness := (true, "5c81cc38ea00030bd753d670ef08706920e7e4da2556f3dd34d7bb19a164ff48"), looks := false }, kinds := [], alts := [], laidByText := true, laidKinds := [.data, .data, .data], laidTests := true, laidLooks := .later }
def TableGrowsUptoCardSaid : Prop := Claim7.holds Tryz.pinned (.plain (OpenSpec.upto tableGrowsSpec)) tableGrowsUptoCard

/-- THE SECOND FORM's CARD OF 'learnerlaw23.TableHypothesis'. -/
def tableHypothesisUptoCard : Claim7 := { stood := { row := tableHypothesisUptoRow, standIns := [], harness := (true, "5c81cc38ea00030bd753d670ef08706920e7e4da2556f3dd34d7bb19a164ff48"), looks := false }, kinds := [], alts := [], laidByText := true, laidKinds := [.data, .data, .data], laidTests := true, laidLooks := .later }
def TableHypothesisUptoCardSaid : Prop := Claim7.holds Tryz.pinned (.plain (OpenSpec.upto tableHypothesisSpec)) tableHypothesisUptoCard

/-- THE SECOND FORM's CARD OF 'learnerlaw23.TableReaches'. -/
def tableReachesUptoCard : Claim7 := { stood := { row := tableReachesUptoRow, standIns := [], harness := (true, "5c81cc38ea00030bd753d670ef08706920e7e4da2556f3dd34d7bb19a164ff48"), looks := false }, kinds := [], alts := [], laidByText := true, laidKinds := [.data, .data, .data], laidTests := true, laidLooks := .later }
def TableReachesUptoCardSaid : Prop := Claim7.holds Tryz.pinned (.plain (OpenSpec.upto tableReachesSpec)) tableReachesUptoCard

/-- THE SECOND FORM's CARD OF 'learnerlaw23.TableExplains'. -/
def tableExplainsUptoCard : Claim7 := { stood := { row := tableExplainsUptoRow, standIns := [], harness := (true, "5c81cc38ea00030bd753d670ef08706920e7e4da2556f3dd34d7bb19a164ff48"), looks := false }, kinds := [], alts := [], laidByText := true, laidKinds := [.data, .data, .data], laidTests := true, laidLooks := .later }
def TableExplainsUptoCardSaid : Prop := Claim7.holds Tryz.pinned (.plain (OpenSpec.upto tableExplainsSpec)) tableExplainsUptoCard

/-- THE SECOND FORM's CARD OF 'learnerlaw23.TableProgress'. -/
def tableProgressUptoCard : Claim7 := { stood := { row := tableProgressUptoRow, standIns := [], harness := (true, "5c81cc38ea00030bd753d670ef08706920e7e4da2556f3dd34d7bb19a164ff48"), looks := false }, kinds := [], alts := [], laidByText := true, laidKinds := [.data, .data, .data], laidTests := true, laidLooks := .later }
def TableProgressUptoCardSaid : Prop := Claim7.holds Tryz.pinned (.plain (OpenSpec.upto tableProgressSpec)) tableProgressUptoCard

/-- THE SECOND FORM's CARD OF 'learnerlaw24.LstarSteps'. -/
def lstarStepsUptoCard : Claim7 := { stood := { row := lstarStepsUptoRow, standIns := [], harness := (true, "5c81cc38ea00030bd753d670ef08706920e7e4da2556f3dd34d7bb19a164ff48"), looks := false }, kinds := [], alts := [], laidByText := true, laidKinds := [.data, .data, .data], laidTests := true, laidLooks := .later }
def LstarStepsUptoCardSaid : Prop := Claim7.holds Tryz.pinned (.plain (OpenSpec.upto lstarStepsSpec)) lstarStepsUptoCard

/-- THE SECOND FORM's CARD OF 'learnerlaw24.LstarRefines'. -/
def lstarRefinesUptoCard : Claim7 := { stood := { row := lstarRefinesUptoRow, standIns := [], harness := (true, "5c81cc38ea00030bd753d670ef08706920e7e4da2556f3dd34d7bb19a164ff48"), looks := false }, kinds := [], alts := [], laidByText := true, laidKinds := [.data, .data, .data], laidTests := true, laidLooks := .later }
def LstarRefinesUptoCardSaid : Prop := Claim7.holds Tryz.pinned (.plain (OpenSpec.upto lstarRefinesSpec)) lstarRefinesUptoCard

/-- THE SECOND FORM's CARD OF 'learnerlaw24.LstarGrows'. -/
def lstarGrowsUptoCard : Claim7 := { stood := { row := lstarGrowsUptoRow, standIns := [], harness := (true, "5c81cc38ea00030bd753d670ef08706920e7e4da2556f3dd34d7bb19a164ff48"), looks := false }, kinds := [], alts := [], laidByText := true, laidKinds := [.data, .data, .data], laidTests := true, laidLooks := .later }
def LstarGrowsUptoCardSaid : Prop := Claim7.holds Tryz.pinned (.plain (OpenSpec.upto lstarGrowsSpec)) lstarGrowsUptoCard
end Rows
end Go.Proofs.YtpmebphhbgpapaaGreatDoor
