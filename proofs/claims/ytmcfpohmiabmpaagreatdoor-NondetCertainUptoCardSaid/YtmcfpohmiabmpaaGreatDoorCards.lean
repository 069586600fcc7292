/-
  DERIVED. GIVEN WITH THE SEED: THE CARDS: each row of YtmcfpohmiabmpaaGreatDoorRows.lean that lists a variable, with what it lists TIED to the program's text (the seventh form; the later family's looks); each row that meets fmt, with fmt's text TOLD by the authors' own Lean function (tested against real Go, not proved from fmt's source: count such statements apart). THE CARD IS WHAT COUNTS. Prove the row's statement (the work); the ties are given (YtmcfpohmiabmpaaGreatDoorTie.lean); close each card by the builder's one call (the guide's Derived/Test/ToyasCard.lean, 'card_holds'). Laid BY PROGRAM, IN A SANDBOX (cutbox-door.mjs). By AI agents, Wed Nov 11 2026. No macro, syntax, notation, axiom, sorry.
-/
import Derived.Test.YtmcfpohmiabmpaaGreatDoorRows
import GoSem.ClaimSeven
namespace Go.Proofs.YtmcfpohmiabmpaaGreatDoor
namespace Rows

/-- THE TIED CARD OF 'learnerlaw18.NondetVotes'. -/
def nondetVotesCard : Claim7 := { stood := { row := nondetVotesRow, standIns := [], harness := (true, "10ad242536e7fcd237fcb8eaa50d7193fc7e3f803ad13647d56135174ef288b6"), looks := false }, kinds := [], alts := [], laidByText := true, laidKinds := [.data, .data, .data], laidTests := true, laidLooks := .later }
def NondetVotesCardSaid : Prop := Claim7.holds Tryz.pinned (.plain (OpenSpec.ofChange nondetVotesSpec)) nondetVotesCard

/-- THE TIED CARD OF 'learnerlaw18.NondetClashes'. -/
def nondetClashesCard : Claim7 := { stood := { row := nondetClashesRow, standIns := [], harness := (true, "10ad242536e7fcd237fcb8eaa50d7193fc7e3f803ad13647d56135174ef288b6"), looks := false }, kinds := [], alts := [], laidByText := true, laidKinds := [.data, .data, .data], laidTests := true, laidLooks := .later }
def NondetClashesCardSaid : Prop := Claim7.holds Tryz.pinned (.plain (OpenSpec.ofChange nondetClashesSpec)) nondetClashesCard

/-- THE TIED CARD OF 'learnerlaw18.NondetSettles'. -/
def nondetSettlesCard : Claim7 := { stood := { row := nondetSettlesRow, standIns := [], harness := (true, "10ad242536e7fcd237fcb8eaa50d7193fc7e3f803ad13647d56135174ef288b6"), looks := false }, kinds := [], alts := [], laidByText := true, laidKinds := [.data, .data, .data], laidTests := true, laidLooks := .later }
def NondetSettlesCardSaid : Prop := Claim7.holds Tryz.pinned (.plain (OpenSpec.ofChange nondetSettlesSpec)) nondetSettlesCard

/-- THE TIED CARD OF 'learnerlaw18.NondetMajority'. -/
def nondetMajorityCard : Claim7 := { stood := { row := nondetMajorityRow, standIns := [], harness := (true, "10ad242536e7fcd237fcb8eaa50d7193fc7e3f803ad13647d56135174ef288b6"), looks := false }, kinds := [], alts := [], laidByText := true, laidKinds := [.data, .data, .data], laidTests := true, laidLooks := .later }
def NondetMajorityCardSaid : Prop := Claim7.holds Tryz.pinned (.plain (OpenSpec.ofChange nondetMajoritySpec)) nondetMajorityCard

/-- THE TIED CARD OF 'learnerlaw18.NondetContradictions'. -/
def nondetContradictionsCard : Claim7 := { stood := { row := nondetContradictionsRow, standIns := [], harness := (true, "10ad242536e7fcd237fcb8eaa50d7193fc7e3f803ad13647d56135174ef288b6"), looks := false }, kinds := [], alts := [], laidByText := true, laidKinds := [.data, .data, .data], laidTests := true, laidLooks := .later }
def NondetContradictionsCardSaid : Prop := Claim7.holds Tryz.pinned (.plain (OpenSpec.ofChange nondetContradictionsSpec)) nondetContradictionsCard

/-- THE TIED CARD OF 'learnerlaw18.NondetCertain'. -/
def nondetCertainCard : Claim7 := { stood := { row := nondetCertainRow, standIns := [], harness := (true, "10ad242536e7fcd237fcb8eaa50d7193fc7e3f803ad13647d56135174ef288b6"), looks := false }, kinds := [], alts := [], laidByText := true, laidKinds := [.data, .data, .data], laidTests := true, laidLooks := .later }
def NondetCertainCardSaid : Prop := Claim7.holds Tryz.pinned (.plain (OpenSpec.ofChange nondetCertainSpec)) nondetCertainCard

/-- THE SECOND FORM's CARD OF 'learnerlaw18.NondetVotes'. -/
def nondetVotesUptoCard : Claim7 := { stood := { row := nondetVotesUptoRow, standIns := [], harness := (true, "10ad242536e7fcd237fcb8eaa50d7193fc7e3f803ad13647d56135174ef288b6"), looks := false }, kinds := [], alts := [], laidByText := true, laidKinds := [.data, .data, .data], laidTests := true, laidLooks := .later }
def NondetVotesUptoCardSaid : Prop := Claim7.holds Tryz.pinned (.plain (OpenSpec.upto nondetVotesSpec)) nondetVotesUptoCard

/-- THE SECOND FORM's CARD OF 'learnerlaw18.NondetClashes'. -/
def nondetClashesUptoCard : Claim7 := { stood := { row := nondetClashesUptoRow, standIns := [], harness := (true, "10ad242536e7fcd237fcb8eaa50d7193fc7e3f803ad13647d56135174ef288b6"), looks := false }, kinds := [], alts := [], laidByText := true, laidKinds := [.data, .data, .data], laidTests := true, laidLooks := .later }
def NondetClashesUptoCardSaid : Prop := Claim7.holds Tryz.pinned (.plain (OpenSpec.upto nondetClashesSpec)) nondetClashesUptoCard

/-- THE SECOND FORM's CARD OF 'learnerlaw18.NondetSettles'. -/
def nondetSettlesUptoCard : Claim7 := { stood := { row := nondetSettlesUptoRow, standIns := [], harness := (true, "10ad242536e7fcd237fcb8eaa50d7193fc7e3f803ad13647d56135174ef288b6"), looks := false }, kinds := [], alts := [], laidByText := true, laidKinds := [.data, .data, .data], laidTests := true, laidLooks := .later }
def NondetSettlesUptoCardSaid : Prop := Claim7.holds Tryz.pinned (.plain (OpenSpec.upto nondetSettlesSpec)) nondetSettlesUptoCard

/-- THE SECOND FORM's CARD OF 'learnerlaw18.NondetMajority'. -/
def nondetMajorityUptoCard : Claim7 := { stood := { row := nondetMajorityUptoRow, standIns := [], harness := (true, "10ad242536e7fcd237fcb8eaa50d7193fc7e3f803ad13647d56135174ef288b6"), looks := false }, kinds := [], alts := [], laidByText := true, laidKinds := [.data, .data, .data], laidTests := true, laidLooks := .later }
def NondetMajorityUptoCardSaid : Prop := Claim7.holds Tryz.pinned (.plain (OpenSpec.upto nondetMajoritySpec)) nondetMajorityUptoCard

/-- THE SECOND FORM's CARD OF 'learnerlaw18.NondetContradictions'. -/
def nondetContradictionsUptoCard : Claim7 := { stood := { row := nondetContradictionsUptoRow, standIns := [], harness := (true, "10ad242536e7fcd237fcb8eaa50d7193fc7e3f803ad13647d56135174ef288b6"), looks := false }, kinds := [], alts := [], laidByText := true, laidKinds := [.data, .data, .data], laidTests := true, laidLooks := .later }
def NondetContradictionsUptoCardSaid : Prop := Claim7.holds Tryz.pinned (.plain (OpenSpec.upto nondetContradictionsSpec)) nondetContradictionsUptoCard

/-- THE SECOND FORM's CARD OF 'learnerlaw18.NondetCertain'. -/
def nondetCertainUptoCard : Claim7 := { stood := { row := nondetCertainUptoRow, standIns := [], harness := (true, "10ad242536e7fcd237fcb8eaa50d7193fc7e3f803ad13647d56135174ef288b6"), looks := false }, kinds := [], alts := [], laidByText := true, laidKinds := [.data, .data, .data], laidTests := true, laidLooks := .later }
def NondetCertainUptoCardSaid : Prop := Claim7.holds Tryz.pinned (.plain (OpenSpec.upto nondetCertainSpec)) nondetCertainUptoCard
end Rows
end Go.Proofs.YtmcfpohmiabmpaaGreatDoor
