/-
  DERIVED. GIVEN WITH THE SEED: THE CARDS: each row of YtdjagdnpnhmldaaGreatDoorRows.lean that lists a variable, with what it lists TIED to the program's text (the seventh form; the later family's looks); each row that meets fmt, with fmt's text TOLD by the authors' own Lean function (tested against real Go, not proved from fmt's source: count such statements apart). THE CARD IS WHAT COUNTS. Prove the row's statement (the work); the ties are given (YtdjagdnpnhmldaaGreatDoorTie.lean); close each card by the builder's one call (the guide's Derived/Test/ToyasCard.lean, 'card_holds'). Laid BY PROGRAM, IN A SANDBOX (cutbox-door.mjs). By AI agents, Wed Nov 11 2026. No macro, syntax, notation, axiom, sorry.
-/
import Derived.Test.YtdjagdnpnhmldaaGreatDoorRows
import GoSem.ClaimSeven
namespace Go.Proofs.YtdjagdnpnhmldaaGreatDoor
namespace Rows

/-- THE TIED CARD OF 'learnerlaw28.LazyRuns'. -/
def lazyRunsCard : Claim7 := { stood := { row := lazyRunsRow, standIns := [], harness := (true, "b0b11be1d39b0f549e6fbe8d4c729b243d50a50d3d15db58e9519e2c09691b60"), looks := false }, kinds := [], alts := [], laidByText := true, laidKinds := [.data, .data, .data], laidTests := true, laidLooks := .later }
def LazyRunsCardSaid : Prop := Claim7.holds Tryz.pinned (.plain (OpenSpec.ofChange lazyRunsSpec)) lazyRunsCard

/-- THE TIED CARD OF 'learnerlaw28.LazyLearns'. -/
def lazyLearnsCard : Claim7 := { stood := { row := lazyLearnsRow, standIns := [], harness := (true, "b0b11be1d39b0f549e6fbe8d4c729b243d50a50d3d15db58e9519e2c09691b60"), looks := false }, kinds := [], alts := [], laidByText := true, laidKinds := [.data, .data, .data], laidTests := true, laidLooks := .later }
def LazyLearnsCardSaid : Prop := Claim7.holds Tryz.pinned (.plain (OpenSpec.ofChange lazyLearnsSpec)) lazyLearnsCard

/-- THE SECOND FORM's CARD OF 'learnerlaw28.LazyRuns'. -/
def lazyRunsUptoCard : Claim7 := { stood := { row := lazyRunsUptoRow, standIns := [], harness := (true, "b0b11be1d39b0f549e6fbe8d4c729b243d50a50d3d15db58e9519e2c09691b60"), looks := false }, kinds := [], alts := [], laidByText := true, laidKinds := [.data, .data, .data], laidTests := true, laidLooks := .later }
def LazyRunsUptoCardSaid : Prop := Claim7.holds Tryz.pinned (.plain (OpenSpec.upto lazyRunsSpec)) lazyRunsUptoCard

/-- THE SECOND FORM's CARD OF 'learnerlaw28.LazyLearns'. -/
def lazyLearnsUptoCard : Claim7 := { stood := { row := lazyLearnsUptoRow, standIns := [], harness := (true, "b0b11be1d39b0f549e6fbe8d4c729b243d50a50d3d15db58e9519e2c09691b60"), looks := false }, kinds := [], alts := [], laidByText := true, laidKinds := [.data, .data, .data], laidTests := true, laidLooks := .later }
def LazyLearnsUptoCardSaid : Prop := Claim7.holds Tryz.pinned (.plain (OpenSpec.upto lazyLearnsSpec)) lazyLearnsUptoCard
end Rows
end Go.Proofs.YtdjagdnpnhmldaaGreatDoor
