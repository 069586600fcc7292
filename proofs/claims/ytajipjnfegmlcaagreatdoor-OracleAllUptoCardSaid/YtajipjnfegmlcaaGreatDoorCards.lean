/-
  DERIVED. GIVEN WITH THE SEED: THE CARDS: each row of YtajipjnfegmlcaaGreatDoorRows.lean that lists a variable, with what it lists TIED to the program's text (the seventh form; the later family's looks); each row that meets fmt, with fmt's text TOLD by the authors' own Lean function (tested against real Go, not proved from fmt's source: count such statements apart). THE CARD IS WHAT COUNTS. Prove the row's statement (the work); the ties are given (YtajipjnfegmlcaaGreatDoorTie.lean); close each card by the builder's one call (the guide's Derived/Test/ToyasCard.lean, 'card_holds'). Laid BY PROGRAM, IN A SANDBOX (cutbox-door.mjs). By AI agents, Wed Nov 11 2026. No macro, syntax, notation, axiom, sorry.
-/
import Derived.Test.YtajipjnfegmlcaaGreatDoorRows
import GoSem.ClaimSeven
namespace Go.Proofs.YtajipjnfegmlcaaGreatDoor
namespace Rows

/-- THE TIED CARD OF 'learnerlaw21.OracleAsks'. -/
def oracleAsksCard : Claim7 := { stood := { row := oracleAsksRow, standIns := [], harness := (true, "8b44e6b149ead69533c7935ade55f639a03e83d8f830fe50041dc8c68bbe33f3"), looks := false }, kinds := [], alts := [], laidByText := true, laidKinds := [.data, .data, .data], laidTests := true, laidLooks := .later }
def OracleAsksCardSaid : Prop := Claim7.holds Tryz.pinned (.plain (OpenSpec.ofChange oracleAsksSpec)) oracleAsksCard

/-- THE TIED CARD OF 'learnerlaw21.OracleAll'. -/
def oracleAllCard : Claim7 := { stood := { row := oracleAllRow, standIns := [], harness := (true, "8b44e6b149ead69533c7935ade55f639a03e83d8f830fe50041dc8c68bbe33f3"), looks := false }, kinds := [], alts := [], laidByText := true, laidKinds := [.data, .data, .data], laidTests := true, laidLooks := .later }
def OracleAllCardSaid : Prop := Claim7.holds Tryz.pinned (.plain (OpenSpec.ofChange oracleAllSpec)) oracleAllCard

/-- THE SECOND FORM's CARD OF 'learnerlaw21.OracleAsks'. -/
def oracleAsksUptoCard : Claim7 := { stood := { row := oracleAsksUptoRow, standIns := [], harness := (true, "8b44e6b149ead69533c7935ade55f639a03e83d8f830fe50041dc8c68bbe33f3"), looks := false }, kinds := [], alts := [], laidByText := true, laidKinds := [.data, .data, .data], laidTests := true, laidLooks := .later }
def OracleAsksUptoCardSaid : Prop := Claim7.holds Tryz.pinned (.plain (OpenSpec.upto oracleAsksSpec)) oracleAsksUptoCard

/-- THE SECOND FORM's CARD OF 'learnerlaw21.OracleAll'. -/
def oracleAllUptoCard : Claim7 := { stood := { row := oracleAllUptoRow, standIns := [], harness := (true, "8b44e6b149ead69533c7935ade55f639a03e83d8f830fe50041dc8c68bbe33f3"), looks := false }, kinds := [], alts := [], laidByText := true, laidKinds := [.data, .data, .data], laidTests := true, laidLooks := .later }
def OracleAllUptoCardSaid : Prop := Claim7.holds Tryz.pinned (.plain (OpenSpec.upto oracleAllSpec)) oracleAllUptoCard
end Rows
end Go.Proofs.YtajipjnfegmlcaaGreatDoor
