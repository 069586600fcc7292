/-
  DERIVED. GIVEN WITH THE SEED: THE CARDS: each row of YtedabpfahmealaaGreatDoorRows.lean that lists a variable, with what it lists TIED to the program's text (the seventh form; the later family's looks); each row that meets fmt, with fmt's text TOLD by the authors' own Lean function (tested against real Go, not proved from fmt's source: count such statements apart). THE CARD IS WHAT COUNTS. Prove the row's statement (the work); the ties are given (YtedabpfahmealaaGreatDoorTie.lean); close each card by the builder's one call (the guide's Derived/Test/ToyasCard.lean, 'card_holds'). Laid BY PROGRAM, IN A SANDBOX (cutbox-door.mjs). By AI agents, Wed Nov 11 2026. No macro, syntax, notation, axiom, sorry.
-/
import Derived.Test.YtedabpfahmealaaGreatDoorRows
import GoSem.ClaimSeven
namespace Go.Proofs.YtedabpfahmealaaGreatDoor
namespace Rows

/-- THE TIED CARD OF 'learnerlaw28.LazySteps'. -/
def lazyStepsCard : Claim7 := { stood := { row := lazyStepsRow, standIns := [], harness := (true, "24227e11b618581b7c487b6072383597f45e4b562cbbee7ba43e2d66a6688e27"), looks := false }, kinds := [], alts := [], laidByText := true, laidKinds := [.data, .data, .data], laidTests := true, laidLooks := .later }
def LazyStepsCardSaid : Prop := Claim7.holds Tryz.pinned (.plain (OpenSpec.ofChange lazyStepsSpec)) lazyStepsCard

/-- THE TIED CARD OF 'learnerlaw28.LazyHypothesis'. -/
def lazyHypothesisCard : Claim7 := { stood := { row := lazyHypothesisRow, standIns := [], harness := (true, "24227e11b618581b7c487b6072383597f45e4b562cbbee7ba43e2d66a6688e27"), looks := false }, kinds := [], alts := [], laidByText := true, laidKinds := [.data, .data, .data], laidTests := true, laidLooks := .later }
def LazyHypothesisCardSaid : Prop := Claim7.holds Tryz.pinned (.plain (OpenSpec.ofChange lazyHypothesisSpec)) lazyHypothesisCard

/-- THE TIED CARD OF 'learnerlaw28.LazyRefines'. -/
def lazyRefinesCard : Claim7 := { stood := { row := lazyRefinesRow, standIns := [], harness := (true, "24227e11b618581b7c487b6072383597f45e4b562cbbee7ba43e2d66a6688e27"), looks := false }, kinds := [], alts := [], laidByText := true, laidKinds := [.data, .data, .data], laidTests := true, laidLooks := .later }
def LazyRefinesCardSaid : Prop := Claim7.holds Tryz.pinned (.plain (OpenSpec.ofChange lazyRefinesSpec)) lazyRefinesCard

/-- THE TIED CARD OF 'learnerlaw28.LazyGrows'. -/
def lazyGrowsCard : Claim7 := { stood := { row := lazyGrowsRow, standIns := [], harness := (true, "24227e11b618581b7c487b6072383597f45e4b562cbbee7ba43e2d66a6688e27"), looks := false }, kinds := [], alts := [], laidByText := true, laidKinds := [.data, .data, .data], laidTests := true, laidLooks := .later }
def LazyGrowsCardSaid : Prop := Claim7.holds Tryz.pinned (.plain (OpenSpec.ofChange lazyGrowsSpec)) lazyGrowsCard

/-- THE TIED CARD OF 'learnerlaw28.LazySplits'. -/
def lazySplitsCard : Claim7 := { stood := { row := lazySplitsRow, standIns := [], harness := (true, "24227e11b618581b7c487b6072383597f45e4b562cbbee7ba43e2d66a6688e27"), looks := false }, kinds := [], alts := [], laidByText := true, laidKinds := [.data, .data, .data], laidTests := true, laidLooks := .later }
def LazySplitsCardSaid : Prop := Claim7.holds Tryz.pinned (.plain (OpenSpec.ofChange lazySplitsSpec)) lazySplitsCard

/-- THE TIED CARD OF 'learnerlaw28.LazyRuns'. -/
def lazyRunsCard : Claim7 := { stood := { row := lazyRunsRow, standIns := [], harness := (true, "24227e11b618581b7c487b6072383597f45e4b562cbbee7ba43e2d66a6688e27"), looks := false }, kinds := [], alts := [], laidByText := true, laidKinds := [.data, .data, .data], laidTests := true, laidLooks := .later }
def LazyRunsCardSaid : Prop := Claim7.holds Tryz.pinned (.plain (OpenSpec.ofChange lazyRunsSpec)) lazyRunsCard

/-- THE TIED CARD OF 'learnerlaw28.LazyLearns'. -/
def lazyLearnsCard : Claim7 := { stood := { row := lazyLearnsRow, standIns := [], harness := (true, "24227e11b618581b7c487b6072383597f45e4b562cbbee7ba43e2d66a6688e27"), looks := false }, kinds := [], alts := [], laidByText := true, laidKinds := [.data, .data, .data], laidTests := true, laidLooks := .later }
def LazyLearnsCardSaid : Prop := Claim7.holds Tryz.pinned (.plain (OpenSpec.ofChange lazyLearnsSpec)) lazyLearnsCard

/-- THE SECOND FORM's CARD OF 'learnerlaw28.LazySteps'. -/
def lazyStepsUptoCard : Claim7 := { stood := { row := lazyStepsUptoRow, standIns := [], harness := (true, "24227e11b618581b7c487b6072383597f45e4b562cbbee7ba43e2d66a6688e27"), looks := false }, kinds := [], alts := [], laidByText := true, laidKinds := [.data, .data, .data], laidTests := true, laidLooks := .later }
def LazyStepsUptoCardSaid : Prop := Claim7.holds Tryz.pinned (.plain (OpenSpec.upto lazyStepsSpec)) lazyStepsUptoCard

/-- THE SECOND FORM's CARD OF 'learnerlaw28.LazyHypothesis'. -/
def lazyHypothesisUptoCard : Claim7 := { stood := { row := lazyHypothesisUptoRow, standIns := [], harness := (true, "24227e11b618581b7c487b6072383597f45e4b562cbbee7ba43e2d66a6688e27"), looks := false }, kinds := [], alts := [], laidByText := true, laidKinds := [.data, .data, .data], laidTests := true, laidLooks := .later }
def LazyHypothesisUptoCardSaid : Prop := Claim7.holds Tryz.pinned (.plain (OpenSpec.upto lazyHypothesisSpec)) lazyHypothesisUptoCard

/-- THE SECOND FORM's CARD OF 'learnerlaw28.LazyRefines'. -/
def lazyRefinesUptoCard : Claim7 := { stood := { row := lazyRefinesUptoRow, standIns := [], harness := (true, "24227e11b618581b7c487b6072383597f45e4b562cbbee7ba43e2d66a6688e27"), looks := false }, kinds := [], alts := [], laidByText := true, laidKinds := [.data, .data, .data], laidTests := true, laidLooks := .later }
def LazyRefinesUptoCardSaid : Prop := Claim7.holds Tryz.pinned (.plain (OpenSpec.upto lazyRefinesSpec)) lazyRefinesUptoCard

/-- THE SECOND FORM's CARD OF 'learnerlaw28.LazyGrows'. -/
def lazyGrowsUptoCard : Claim7 := { stood := { row := lazyGrowsUptoRow, standIns := [], harness := (true, "24227e11b618581b7c487b6072383597f45e4b562cbbee7ba43e2d66a6688e27"), looks := false }, kinds := [], alts := [], laidByText := true, laidKinds := [.data, .data, .data], laidTests := true, laidLooks := .later }
def LazyGrowsUptoCardSaid : Prop := Claim7.holds Tryz.pinned (.plain (OpenSpec.upto lazyGrowsSpec)) lazyGrowsUptoCard

/-- THE SECOND FORM's CARD OF 'learnerlaw28.LazySplits'. -/
def lazySplitsUptoCard : Claim7 := { stood := { row := lazySplitsUptoRow, standIns := [], harness := (true, "24227e11b618581b7c487b6072383597f45e4b562cbbee7ba43e2d66a6688e27"), looks := false }, kinds := [], alts := [], laidByText := true, laidKinds := [.data, .data, .data], laidTests := true, laidLooks := .later }
def LazySplitsUptoCardSaid : Prop := Claim7.holds Tryz.pinned (.plain (OpenSpec.upto lazySplitsSpec)) lazySplitsUptoCard

/-- THE SECOND FORM's CARD OF 'learnerlaw28.LazyRuns'. -/
def lazyRunsUptoCard : Claim7 := { stood := { row := lazyRunsUptoRow, standIns := [], harness := (true, "24227e11b618581b7c487b6072383597f45e4b562cbbee7ba43e2d66a6688e27"), looks := false }, kinds := [], alts := [], laidByText := true, laidKinds := [.data, .data, .data], laidTests := true, laidLooks := .later }
def LazyRunsUptoCardSaid : Prop := Claim7.holds Tryz.pinned (.plain (OpenSpec.upto lazyRunsSpec)) lazyRunsUptoCard

/-- THE SECOND FORM's CARD OF 'learnerlaw28.LazyLearns'. -/
def lazyLearnsUptoCard : Claim7 := { stood := { row := lazyLearnsUptoRow, standIns := [], harness := (true, "24227e11b618581b7c487b6072383597f45e4b562cbbee7ba43e2d66a6688e27"), looks := false }, kinds := [], alts := [], laidByText := true, laidKinds := [.data, .data, .data], laidTests := true, laidLooks := .later }
def LazyLearnsUptoCardSaid : Prop := Claim7.holds Tryz.pinned (.plain (OpenSpec.upto lazyLearnsSpec)) lazyLearnsUptoCard
end Rows
end Go.Proofs.YtedabpfahmealaaGreatDoor
