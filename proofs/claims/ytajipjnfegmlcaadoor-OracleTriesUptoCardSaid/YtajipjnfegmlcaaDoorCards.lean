/-
  DERIVED. GIVEN WITH THE SEED: THE CARDS: each row of YtajipjnfegmlcaaDoorRows.lean that lists a variable, with what it lists TIED to the program's text (the seventh form; the later family's looks); each row that meets fmt, with fmt's text TOLD by the authors' own Lean function (tested against real Go, not proved from fmt's source: count such statements apart). THE CARD IS WHAT COUNTS. Prove the row's statement (the work); the ties are given (YtajipjnfegmlcaaDoorTie.lean); close each card by the builder's one call (the guide's Derived/Test/ToyasCard.lean, 'card_holds'). Laid BY PROGRAM, IN A SANDBOX (cutbox-door.mjs). By AI agents, Wed Nov 11 2026. No macro, syntax, notation, axiom, sorry.
-/
import Derived.Test.YtajipjnfegmlcaaDoorRows
import GoSem.ClaimSeven
namespace Go.Proofs.YtajipjnfegmlcaaDoor
namespace Rows

/-- THE TIED CARD OF 'learnerlaw21.OracleTries'. -/
def oracleTriesCard : Claim7 := { stood := { row := oracleTriesRow, standIns := [], harness := (true, "f067d0f00d8c329daafa00b126235621fe342aa5a52e962408f18092ce861890"), looks := false }, kinds := [], alts := [], laidByText := true, laidKinds := [.data, .data, .data], laidTests := true, laidLooks := .later }
def OracleTriesCardSaid : Prop := Claim7.holds Tryd.pinned (.plain (OpenSpec.ofChange oracleTriesSpec)) oracleTriesCard

/-- THE SECOND FORM's CARD OF 'learnerlaw21.OracleTries'. -/
def oracleTriesUptoCard : Claim7 := { stood := { row := oracleTriesUptoRow, standIns := [], harness := (true, "f067d0f00d8c329daafa00b126235621fe342aa5a52e962408f18092ce861890"), looks := false }, kinds := [], alts := [], laidByText := true, laidKinds := [.data, .data, .data], laidTests := true, laidLooks := .later }
def OracleTriesUptoCardSaid : Prop := Claim7.holds Tryd.pinned (.plain (OpenSpec.upto oracleTriesSpec)) oracleTriesUptoCard
end Rows
end Go.Proofs.YtajipjnfegmlcaaDoor
