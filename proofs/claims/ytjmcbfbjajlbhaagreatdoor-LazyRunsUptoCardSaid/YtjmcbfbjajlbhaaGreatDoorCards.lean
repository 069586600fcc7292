/-
  DERIVED. GIVEN WITH THE SEED: THE CARDS: each row of YtjmcbfbjajlbhaaGreatDoorRows.lean that lists a variable, with what it lists TIED to the program's text (the seventh form; the later family's looks); each row that meets fmt, with fmt's text TOLD by the authors' own Lean function (tested against real Go, not proved from fmt's source: count such statements apart). THE CARD IS WHAT COUNTS. Prove the row's statement (the work); the ties are given (YtjmcbfbjajlbhaaGreatDoorTie.lean); close each card by the builder's one call (the guide's Derived/Test/ToyasCard.lean, 'card_holds'). Laid BY PROGRAM, IN A SANDBOX (cutbox-door.mjs). By AI agents, Wed Nov 11 2026. No macro, syntax, notation, axiom, sorry.
-/
import Derived.Test.YtjmcbfbjajlbhaaGreatDoorRows
import GoSem.ClaimSeven
namespace Go.Proofs.YtjmcbfbjajlbhaaGreatDoor
namespace Rows

/-- THE TIED CARD OF 'learnerlaw28.LazyRuns'. -/
def lazyRunsCard : Claim7 := { stood := { row := lazyRunsRow, standIns := [], harness := (true, "9d342a464b8041413e00a2eb3f47d6f6eadb017ee0b8aed9c3eef508bd99cbeb"), looks := false }, kinds := [], alts := [], laidByText := true, laidKinds := [.data, .data, .data], laidTests := true, laidLooks := .later }
def LazyRunsCardSaid : Prop := Claim7.holds Tryz.pinned (.plain (OpenSpec.ofChange lazyRunsSpec)) lazyRunsCard

/-- THE SECOND FORM's CARD OF 'learnerlaw28.LazyRuns'. -/
def lazyRunsUptoCard : Claim7 := { stood := { row := lazyRunsUptoRow, standIns := [], harness := (true, "9d342a464b8041413e00a2eb3f47d6f6eadb017ee0b8aed9c3eef508bd99cbeb"), looks := false }, kinds := [], alts := [], laidByText := true, laidKinds := [.data, .data, .data], laidTests := true, laidLooks := .later }
def LazyRunsUptoCardSaid : Prop := Claim7.holds Tryz.pinned (.plain (OpenSpec.upto lazyRunsSpec)) lazyRunsUptoCard
end Rows
end Go.Proofs.YtjmcbfbjajlbhaaGreatDoor
