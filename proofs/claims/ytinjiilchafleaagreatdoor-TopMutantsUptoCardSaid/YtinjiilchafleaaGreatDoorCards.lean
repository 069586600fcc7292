/-
  DERIVED. GIVEN WITH THE SEED: THE CARDS: each row of YtinjiilchafleaaGreatDoorRows.lean that lists a variable, with what it lists TIED to the program's text (the seventh form; the later family's looks); each row that meets fmt, with fmt's text TOLD by the authors' own Lean function (tested against real Go, not proved from fmt's source: count such statements apart). THE CARD IS WHAT COUNTS. Prove the row's statement (the work); the ties are given (YtinjiilchafleaaGreatDoorTie.lean); close each card by the builder's one call (the guide's Derived/Test/ToyasCard.lean, 'card_holds'). Laid BY PROGRAM, IN A SANDBOX (cutbox-door.mjs). By AI agents, Wed Nov 11 2026. No macro, syntax, notation, axiom, sorry.
-/
import Derived.Test.YtinjiilchafleaaGreatDoorRows
import GoSem.ClaimSeven
namespace Go.Proofs.YtinjiilchafleaaGreatDoor
namespace Rows

/-- THE TIED CARD OF 'learnertop.TopMutants'. -/
def topMutantsCard : Claim7 := { stood := { row := topMutantsRow, standIns := [], harness := (true, "5c8d1599936ec0cbec1c0754239c017383a05c2d8ec9bd26d4076bc122f3c3bd"), looks := false }, kinds := [], alts := [], laidByText := true, laidKinds := [.data, .data, .data], laidTests := true, laidLooks := .later }
def TopMutantsCardSaid : Prop := Claim7.holds Tryz.pinned (.plain (OpenSpec.ofChange topMutantsSpec)) topMutantsCard

/-- THE SECOND FORM's CARD OF 'learnertop.TopMutants'. -/
def topMutantsUptoCard : Claim7 := { stood := { row := topMutantsUptoRow, standIns := [], harness := (true, "5c8d1599936ec0cbec1c0754239c017383a05c2d8ec9bd26d4076bc122f3c3bd"), looks := false }, kinds := [], alts := [], laidByText := true, laidKinds := [.data, .data, .data], laidTests := true, laidLooks := .later }
def TopMutantsUptoCardSaid : Prop := Claim7.holds Tryz.pinned (.plain (OpenSpec.upto topMutantsSpec)) topMutantsUptoCard
end Rows
end Go.Proofs.YtinjiilchafleaaGreatDoor
