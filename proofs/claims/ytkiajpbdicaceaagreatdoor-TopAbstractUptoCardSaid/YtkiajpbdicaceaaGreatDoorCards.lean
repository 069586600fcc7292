/-
  DERIVED. GIVEN WITH THE SEED: THE CARDS: each row of YtkiajpbdicaceaaGreatDoorRows.lean that lists a variable, with what it lists TIED to the program's text (the seventh form; the later family's looks); each row that meets fmt, with fmt's text TOLD by the authors' own Lean function (tested against real Go, not proved from fmt's source: count such statements apart). THE CARD IS WHAT COUNTS. Prove the row's statement (the work); the ties are given (YtkiajpbdicaceaaGreatDoorTie.lean); close each card by the builder's one call (the guide's Derived/Test/ToyasCard.lean, 'card_holds'). Laid BY PROGRAM, IN A SANDBOX (cutbox-door.mjs). By AI agents, Wed Nov 11 2026. No macro, syntax, notation, axiom, sorry.
-/
import Derived.Test.YtkiajpbdicaceaaGreatDoorRows
import GoSem.ClaimSeven
namespace Go.Proofs.YtkiajpbdicaceaaGreatDoor
namespace Rows

/-- THE TIED CARD OF 'learnertop.TopAbstract'. -/
def topAbstractCard : Claim7 := { stood := { row := topAbstractRow, standIns := [], harness := (true, "344b23c2c5fad72d758c0915e913c32680a829a15c14ef644991c62c86834e1a"), looks := false }, kinds := [], alts := [], laidByText := true, laidKinds := [.data, .data, .data], laidTests := true, laidLooks := .later }
def TopAbstractCardSaid : Prop := Claim7.holds Tryz.pinned (.plain (OpenSpec.ofChange topAbstractSpec)) topAbstractCard

/-- THE SECOND FORM's CARD OF 'learnertop.TopAbstract'. -/
def topAbstractUptoCard : Claim7 := { stood := { row := topAbstractUptoRow, standIns := [], harness := (true, "344b23c2c5fad72d758c0915e913c32680a829a15c14ef644991c62c86834e1a"), looks := false }, kinds := [], alts := [], laidByText := true, laidKinds := [.data, .data, .data], laidTests := true, laidLooks := .later }
def TopAbstractUptoCardSaid : Prop := Claim7.holds Tryz.pinned (.plain (OpenSpec.upto topAbstractSpec)) topAbstractUptoCard
end Rows
end Go.Proofs.YtkiajpbdicaceaaGreatDoor
