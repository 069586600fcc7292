/-
  DERIVED. GIVEN WITH THE SEED: THE CARDS: each row of YtfgajaakmmogkaaGreatDoorRows.lean that lists a variable, with what it lists TIED to the program's text (the seventh form; the later family's looks); each row that meets fmt, with fmt's text TOLD by the authors' own Lean function (tested against real Go, not proved from fmt's source: count such statements apart). THE CARD IS WHAT COUNTS. Prove the row's statement (the work); the ties are given (YtfgajaakmmogkaaGreatDoorTie.lean); close each card by the builder's one call (the guide's Derived/Test/ToyasCard.lean, 'card_holds'). Laid BY PROGRAM, IN A SANDBOX (cutbox-door.mjs). By AI agents, Wed Nov 11 2026. No macro, syntax, notation, axiom, sorry.
-/
import Derived.Test.YtfgajaakmmogkaaGreatDoorRows
import GoSem.ClaimSeven
namespace Go.Proofs.YtfgajaakmmogkaaGreatDoor
namespace Rows

/-- THE TIED CARD OF 'learnerlaw24.LstarRuns'. -/
def lstarRunsCard : Claim7 := { stood := { row := lstarRunsRow, standIns := [], harness := (true, "c1abb2938c78ac06739ea63aee2438a9f9d1e5f505162d4dfb876a048eed6573"), looks := false }, kinds := [], alts := [], laidByText := true, laidKinds := [.data, .data, .data], laidTests := true, laidLooks := .later }
def LstarRunsCardSaid : Prop := Claim7.holds Tryz.pinned (.plain (OpenSpec.ofChange lstarRunsSpec)) lstarRunsCard

/-- THE SECOND FORM's CARD OF 'learnerlaw24.LstarRuns'. -/
def lstarRunsUptoCard : Claim7 := { stood := { row := lstarRunsUptoRow, standIns := [], harness := (true, "c1abb2938c78ac06739ea63aee2438a9f9d1e5f505162d4dfb876a048eed6573"), looks := false }, kinds := [], alts := [], laidByText := true, laidKinds := [.data, .data, .data], laidTests := true, laidLooks := .later }
def LstarRunsUptoCardSaid : Prop := Claim7.holds Tryz.pinned (.plain (OpenSpec.upto lstarRunsSpec)) lstarRunsUptoCard
end Rows
end Go.Proofs.YtfgajaakmmogkaaGreatDoor
