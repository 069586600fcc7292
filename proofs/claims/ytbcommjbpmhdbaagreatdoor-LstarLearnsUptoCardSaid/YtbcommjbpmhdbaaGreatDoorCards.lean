/-
  DERIVED. GIVEN WITH THE SEED: THE CARDS: each row of YtbcommjbpmhdbaaGreatDoorRows.lean that lists a variable, with what it lists TIED to the program's text (the seventh form; the later family's looks); each row that meets fmt, with fmt's text TOLD by the authors' own Lean function (tested against real Go, not proved from fmt's source: count such statements apart). THE CARD IS WHAT COUNTS. Prove the row's statement (the work); the ties are given (YtbcommjbpmhdbaaGreatDoorTie.lean); close each card by the builder's one call (the guide's Derived/Test/ToyasCard.lean, 'card_holds'). Laid BY PROGRAM, IN A SANDBOX (cutbox-door.mjs). By AI agents, Wed Nov 11 2026. No macro, syntax, notation, axiom, sorry.
-/
import Derived.Test.YtbcommjbpmhdbaaGreatDoorRows
import GoSem.ClaimSeven
namespace Go.Proofs.YtbcommjbpmhdbaaGreatDoor
namespace Rows

/-- THE TIED CARD OF 'learnerlaw24.LstarLearns'. -/
def lstarLearnsCard : Claim7 := { stood := { row := lstarLearnsRow, standIns := [], harness := (true, "8abbbc32dade7b0e78efe85173314c9fc2b7ff013ccf21e26d7efef90f6f9802"), looks := false }, kinds := [], alts := [], laidByText := true, laidKinds := [.data, .data, .data], laidTests := true, laidLooks := .later }
def LstarLearnsCardSaid : Prop := Claim7.holds Tryz.pinned (.plain (OpenSpec.ofChange lstarLearnsSpec)) lstarLearnsCard

/-- THE SECOND FORM's CARD OF 'learnerlaw24.LstarLearns'. -/
def lstarLearnsUptoCard : Claim7 := { stood := { row := lstarLearnsUptoRow, standIns := [], harness := (true, "8abbbc32dade7b0e78efe85173314c9fc2b7ff013ccf21e26d7efef90f6f9802"), looks := false }, kinds := [], alts := [], laidByText := true, laidKinds := [.data, .data, .data], laidTests := true, laidLooks := .later }
def LstarLearnsUptoCardSaid : Prop := Claim7.holds Tryz.pinned (.plain (OpenSpec.upto lstarLearnsSpec)) lstarLearnsUptoCard
end Rows
end Go.Proofs.YtbcommjbpmhdbaaGreatDoor
