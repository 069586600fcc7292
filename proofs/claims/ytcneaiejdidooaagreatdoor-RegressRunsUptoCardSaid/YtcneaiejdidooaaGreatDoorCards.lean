/-
  DERIVED. GIVEN WITH THE SEED: THE CARDS: each row of YtcneaiejdidooaaGreatDoorRows.lean that lists a variable, with what it lists TIED to the program's text (the seventh form; the later family's looks); each row that meets fmt, with fmt's text TOLD by the authors' own Lean function (tested against real Go, not proved from fmt's source: count such statements apart). THE CARD IS WHAT COUNTS. Prove the row's statement (the work); the ties are given (YtcneaiejdidooaaGreatDoorTie.lean); close each card by the builder's one call (the guide's Derived/Test/ToyasCard.lean, 'card_holds'). Laid BY PROGRAM, IN A SANDBOX (cutbox-door.mjs). By AI agents, Wed Nov 11 2026. No macro, syntax, notation, axiom, sorry.
-/
import Derived.Test.YtcneaiejdidooaaGreatDoorRows
import GoSem.ClaimSeven
namespace Go.Proofs.YtcneaiejdidooaaGreatDoor
namespace Rows

/-- THE TIED CARD OF 'learnerlaw50.RegressRuns'. -/
def regressRunsCard : Claim7 := { stood := { row := regressRunsRow, standIns := [], harness := (true, "065a094281b9471748a295e113bbf97288eda1a3ef2d49efc2311feaaeeea73d"), looks := false }, kinds := [], alts := [], laidByText := true, laidKinds := [.data, .data, .data], laidTests := true, laidLooks := .later }
def RegressRunsCardSaid : Prop := Claim7.holds Tryz.pinned (.plain (OpenSpec.ofChange regressRunsSpec)) regressRunsCard

/-- THE TIED CARD OF 'learnerlaw50.RegressReports'. -/
def regressReportsCard : Claim7 := { stood := { row := regressReportsRow, standIns := [], harness := (true, "065a094281b9471748a295e113bbf97288eda1a3ef2d49efc2311feaaeeea73d"), looks := false }, kinds := [], alts := [], laidByText := true, laidKinds := [.data, .data, .data], laidTests := true, laidLooks := .later }
def RegressReportsCardSaid : Prop := Claim7.holds Tryz.pinned (.plain (OpenSpec.ofChange regressReportsSpec)) regressReportsCard

/-- THE TIED CARD OF 'learnerlaw50.RegressDetects'. -/
def regressDetectsCard : Claim7 := { stood := { row := regressDetectsRow, standIns := [], harness := (true, "065a094281b9471748a295e113bbf97288eda1a3ef2d49efc2311feaaeeea73d"), looks := false }, kinds := [], alts := [], laidByText := true, laidKinds := [.data, .data, .data], laidTests := true, laidLooks := .later }
def RegressDetectsCardSaid : Prop := Claim7.holds Tryz.pinned (.plain (OpenSpec.ofChange regressDetectsSpec)) regressDetectsCard

/-- THE SECOND FORM's CARD OF 'learnerlaw50.RegressRuns'. -/
def regressRunsUptoCard : Claim7 := { stood := { row := regressRunsUptoRow, standIns := [], harness := (true, "065a094281b9471748a295e113bbf97288eda1a3ef2d49efc2311feaaeeea73d"), looks := false }, kinds := [], alts := [], laidByText := true, laidKinds := [.data, .data, .data], laidTests := true, laidLooks := .later }
def RegressRunsUptoCardSaid : Prop := Claim7.holds Tryz.pinned (.plain (OpenSpec.upto regressRunsSpec)) regressRunsUptoCard

/-- THE SECOND FORM's CARD OF 'learnerlaw50.RegressReports'. -/
def regressReportsUptoCard : Claim7 := { stood := { row := regressReportsUptoRow, standIns := [], harness := (true, "065a094281b9471748a295e113bbf97288eda1a3ef2d49efc2311feaaeeea73d"), looks := false }, kinds := [], alts := [], laidByText := true, laidKinds := [.data, .data, .data], laidTests := true, laidLooks := .later }
def RegressReportsUptoCardSaid : Prop := Claim7.holds Tryz.pinned (.plain (OpenSpec.upto regressReportsSpec)) regressReportsUptoCard

/-- THE SECOND FORM's CARD OF 'learnerlaw50.RegressDetects'. -/
def regressDetectsUptoCard : Claim7 := { stood := { row := regressDetectsUptoRow, standIns := [], harness := (true, "065a094281b9471748a295e113bbf97288eda1a3ef2d49efc2311feaaeeea73d"), looks := false }, kinds := [], alts := [], laidByText := true, laidKinds := [.data, .data, .data], laidTests := true, laidLooks := .later }
def RegressDetectsUptoCardSaid : Prop := Claim7.holds Tryz.pinned (.plain (OpenSpec.upto regressDetectsSpec)) regressDetectsUptoCard
end Rows
end Go.Proofs.YtcneaiejdidooaaGreatDoor
