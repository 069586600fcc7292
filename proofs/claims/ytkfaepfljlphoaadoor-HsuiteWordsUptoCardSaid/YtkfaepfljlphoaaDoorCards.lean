/-
  DERIVED. GIVEN WITH THE SEED: THE CARDS: each row of YtkfaepfljlphoaaDoorRows.lean that lists a variable, with what it lists TIED to the program's text (the seventh form; the later family's looks); each row that meets fmt, with fmt's text TOLD by the authors' own Lean function (tested against real Go, not proved from fmt's source: count such statements apart). THE CARD IS WHAT COUNTS. Prove the row's statement (the work); the ties are given (YtkfaepfljlphoaaDoorTie.lean); close each card by the builder's one call (the guide's Derived/Test/ToyasCard.lean, 'card_holds'). Laid BY PROGRAM, IN A SANDBOX (cutbox-door.mjs). By AI agents, Wed Nov 11 2026. No macro, syntax, notation, axiom, sorry.
-/
import Derived.Test.YtkfaepfljlphoaaDoorRows
import GoSem.ClaimSeven
namespace Go.Proofs.YtkfaepfljlphoaaDoor
namespace Rows

/-- THE TIED CARD OF 'learnerlaw30.HsuiteWords'. -/
def hsuiteWordsCard : Claim7 := { stood := { row := hsuiteWordsRow, standIns := [], harness := (true, "8c0b31543d3d57b91544d010f22fd423e88e76d31d9062251c213b1a56666d0f"), looks := false }, kinds := [], alts := [], laidByText := true, laidKinds := [.data, .data, .data], laidTests := true, laidLooks := .later }
def HsuiteWordsCardSaid : Prop := Claim7.holds Tryd.pinned (.plain (OpenSpec.ofChange hsuiteWordsSpec)) hsuiteWordsCard

/-- THE SECOND FORM's CARD OF 'learnerlaw30.HsuiteWords'. -/
def hsuiteWordsUptoCard : Claim7 := { stood := { row := hsuiteWordsUptoRow, standIns := [], harness := (true, "8c0b31543d3d57b91544d010f22fd423e88e76d31d9062251c213b1a56666d0f"), looks := false }, kinds := [], alts := [], laidByText := true, laidKinds := [.data, .data, .data], laidTests := true, laidLooks := .later }
def HsuiteWordsUptoCardSaid : Prop := Claim7.holds Tryd.pinned (.plain (OpenSpec.upto hsuiteWordsSpec)) hsuiteWordsUptoCard
end Rows
end Go.Proofs.YtkfaepfljlphoaaDoor
