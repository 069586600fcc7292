/-
  DERIVED. GIVEN WITH THE SEED: THE CARDS: each row of YtmlghnfbjkcelaaDoorRows.lean that lists a variable, with what it lists TIED to the program's text (the seventh form; the later family's looks); each row that meets fmt, with fmt's text TOLD by the authors' own Lean function (tested against real Go, not proved from fmt's source: count such statements apart). THE CARD IS WHAT COUNTS. Prove the row's statement (the work); the ties are given (YtmlghnfbjkcelaaDoorTie.lean); close each card by the builder's one call (the guide's Derived/Test/ToyasCard.lean, 'card_holds'). Laid BY PROGRAM, IN A SANDBOX (cutbox-door.mjs). By AI agents, Wed Nov 11 2026. No macro, syntax, notation, axiom, sorry.
-/
import Derived.Test.YtmlghnfbjkcelaaDoorRows
import GoSem.ClaimSeven
namespace Go.Proofs.YtmlghnfbjkcelaaDoor
namespace Rows

/-- THE TIED CARD OF 'learnerlaw02.WordsetUnions'. -/
def wordsetUnionsCard : Claim7 := { stood := { row := wordsetUnionsRow, standIns := [], harness := (true, "7f52548238902b2c21284a8ff1117d96d767ceba4526dfea4defd224adc86372"), looks := false }, kinds := [], alts := [], laidByText := true, laidKinds := [.data, .data, .data], laidTests := true, laidLooks := .later }
def WordsetUnionsCardSaid : Prop := Claim7.holds Tryd.pinned (.plain (OpenSpec.ofChange wordsetUnionsSpec)) wordsetUnionsCard

/-- THE TIED CARD OF 'learnerlaw02.WordsetProducts'. -/
def wordsetProductsCard : Claim7 := { stood := { row := wordsetProductsRow, standIns := [], harness := (true, "7f52548238902b2c21284a8ff1117d96d767ceba4526dfea4defd224adc86372"), looks := false }, kinds := [], alts := [], laidByText := true, laidKinds := [.data, .data, .data], laidTests := true, laidLooks := .later }
def WordsetProductsCardSaid : Prop := Claim7.holds Tryd.pinned (.plain (OpenSpec.ofChange wordsetProductsSpec)) wordsetProductsCard

/-- THE TIED CARD OF 'learnerlaw02.WordsetUptos'. -/
def wordsetUptosCard : Claim7 := { stood := { row := wordsetUptosRow, standIns := [], harness := (true, "7f52548238902b2c21284a8ff1117d96d767ceba4526dfea4defd224adc86372"), looks := false }, kinds := [], alts := [], laidByText := true, laidKinds := [.data, .data, .data], laidTests := true, laidLooks := .later }
def WordsetUptosCardSaid : Prop := Claim7.holds Tryd.pinned (.plain (OpenSpec.ofChange wordsetUptosSpec)) wordsetUptosCard

/-- THE TIED CARD OF 'learnerlaw02.WordsetParts'. -/
def wordsetPartsCard : Claim7 := { stood := { row := wordsetPartsRow, standIns := [], harness := (true, "7f52548238902b2c21284a8ff1117d96d767ceba4526dfea4defd224adc86372"), looks := false }, kinds := [], alts := [], laidByText := true, laidKinds := [.data, .data, .data], laidTests := true, laidLooks := .later }
def WordsetPartsCardSaid : Prop := Claim7.holds Tryd.pinned (.plain (OpenSpec.ofChange wordsetPartsSpec)) wordsetPartsCard

/-- THE TIED CARD OF 'learnerlaw02.WordsetLists'. -/
def wordsetListsCard : Claim7 := { stood := { row := wordsetListsRow, standIns := [], harness := (true, "7f52548238902b2c21284a8ff1117d96d767ceba4526dfea4defd224adc86372"), looks := false }, kinds := [], alts := [], laidByText := true, laidKinds := [.data, .data, .data], laidTests := true, laidLooks := .later }
def WordsetListsCardSaid : Prop := Claim7.holds Tryd.pinned (.plain (OpenSpec.ofChange wordsetListsSpec)) wordsetListsCard

/-- THE TIED CARD OF 'learnerlaw02.WordsetSets'. -/
def wordsetSetsCard : Claim7 := { stood := { row := wordsetSetsRow, standIns := [], harness := (true, "7f52548238902b2c21284a8ff1117d96d767ceba4526dfea4defd224adc86372"), looks := false }, kinds := [], alts := [], laidByText := true, laidKinds := [.data, .data, .data], laidTests := true, laidLooks := .later }
def WordsetSetsCardSaid : Prop := Claim7.holds Tryd.pinned (.plain (OpenSpec.ofChange wordsetSetsSpec)) wordsetSetsCard

/-- THE SECOND FORM's CARD OF 'learnerlaw02.WordsetUnions'. -/
def wordsetUnionsUptoCard : Claim7 := { stood := { row := wordsetUnionsUptoRow, standIns := [], harness := (true, "7f52548238902b2c21284a8ff1117d96d767ceba4526dfea4defd224adc86372"), looks := false }, kinds := [], alts := [], laidByText := true, laidKinds := [.data, .data, .data], laidTests := true, laidLooks := .later }
def WordsetUnionsUptoCardSaid : Prop := Claim7.holds Tryd.pinned (.plain (OpenSpec.upto wordsetUnionsSpec)) wordsetUnionsUptoCard

/-- THE SECOND FORM's CARD OF 'learnerlaw02.WordsetProducts'. -/
def wordsetProductsUptoCard : Claim7 := { stood := { row := wordsetProductsUptoRow, standIns := [], harness := (true, "7f52548238902b2c21284a8ff1117d96d767ceba4526dfea4defd224adc86372"), looks := false }, kinds := [], alts := [], laidByText := true, laidKinds := [.data, .data, .data], laidTests := true, laidLooks := .later }
def WordsetProductsUptoCardSaid : Prop := Claim7.holds Tryd.pinned (.plain (OpenSpec.upto wordsetProductsSpec)) wordsetProductsUptoCard

/-- THE SECOND FORM's CARD OF 'learnerlaw02.WordsetUptos'. -/
def wordsetUptosUptoCard : Claim7 := { stood := { row := wordsetUptosUptoRow, standIns := [], harness := (true, "7f52548238902b2c21284a8ff1117d96d767ceba4526dfea4defd224adc86372"), looks := false }, kinds := [], alts := [], laidByText := true, laidKinds := [.data, .data, .data], laidTests := true, laidLooks := .later }
def WordsetUptosUptoCardSaid : Prop := Claim7.holds Tryd.pinned (.plain (OpenSpec.upto wordsetUptosSpec)) wordsetUptosUptoCard

/-- THE SECOND FORM's CARD OF 'learnerlaw02.WordsetParts'. -/
def wordsetPartsUptoCard : Claim7 := { stood := { row := wordsetPartsUptoRow, standIns := [], harness := (true, "7f52548238902b2c21284a8ff1117d96d767ceba4526dfea4defd224adc86372"), looks := false }, kinds := [], alts := [], laidByText := true, laidKinds := [.data, .data, .data], laidTests := true, laidLooks := .later }
def WordsetPartsUptoCardSaid : Prop := Claim7.holds Tryd.pinned (.plain (OpenSpec.upto wordsetPartsSpec)) wordsetPartsUptoCard

/-- THE SECOND FORM's CARD OF 'learnerlaw02.WordsetLists'. -/
def wordsetListsUptoCard : Claim7 := { stood := { row := wordsetListsUptoRow, standIns := [], harness := (true, "7f52548238902b2c21284a8ff1117d96d767ceba4526dfea4defd224adc86372"), looks := false }, kinds := [], alts := [], laidByText := true, laidKinds := [.data, .data, .data], laidTests := true, laidLooks := .later }
def WordsetListsUptoCardSaid : Prop := Claim7.holds Tryd.pinned (.plain (OpenSpec.upto wordsetListsSpec)) wordsetListsUptoCard

/-- THE SECOND FORM's CARD OF 'learnerlaw02.WordsetSets'. -/
def wordsetSetsUptoCard : Claim7 := { stood := { row := wordsetSetsUptoRow, standIns := [], harness := (true, "7f52548238902b2c21284a8ff1117d96d767ceba4526dfea4defd224adc86372"), looks := false }, kinds := [], alts := [], laidByText := true, laidKinds := [.data, .data, .data], laidTests := true, laidLooks := .later }
def WordsetSetsUptoCardSaid : Prop := Claim7.holds Tryd.pinned (.plain (OpenSpec.upto wordsetSetsSpec)) wordsetSetsUptoCard
end Rows
end Go.Proofs.YtmlghnfbjkcelaaDoor
