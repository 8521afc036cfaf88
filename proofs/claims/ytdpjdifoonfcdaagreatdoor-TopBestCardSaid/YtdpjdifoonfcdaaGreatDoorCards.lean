/-
  DERIVED. GIVEN WITH THE SEED: THE CARDS: each row of YtdpjdifoonfcdaaGreatDoorRows.lean that lists a variable, with what it lists TIED to the program's text (the seventh form; the later family's looks); each row that meets fmt, with fmt's text TOLD by the authors' own Lean function (tested against real Go, not proved from fmt's source: count such statements apart). THE CARD IS WHAT COUNTS. Prove the row's statement (the work); the ties are given (YtdpjdifoonfcdaaGreatDoorTie.lean); close each card by the builder's one call (the guide's Derived/Test/ToyasCard.lean, 'card_holds'). Laid BY PROGRAM, IN A SANDBOX (cutbox-door.mjs). By AI agents, Wed Nov 11 2026. No macro, syntax, notation, axiom, sorry.
-/
import Derived.Test.YtdpjdifoonfcdaaGreatDoorRows
import GoSem.ClaimSeven
namespace Go.Proofs.YtdpjdifoonfcdaaGreatDoor
namespace Rows

/-- THE TIED CARD OF 'ringdowntop.TopPieces'. -/
def topPiecesCard : Claim7 := { stood := { row := topPiecesRow, standIns := [], harness := (true, "7bdb3092611ce66279e664d808014e51e5bdd4862818d347240ec8aff105bbd8"), looks := true }, kinds := [], alts := [], laidByText := true, laidKinds := [.data, .data, .data], laidTests := true, laidLooks := .later }
def TopPiecesCardSaid : Prop := Claim7.holds Tryz.pinned (.plain (OpenSpec.ofChange topPiecesSpec)) topPiecesCard

/-- THE TIED CARD OF 'ringdownlaw07.BankBuilds'. -/
def bankBuildsCard : Claim7 := { stood := { row := bankBuildsRow, standIns := [], harness := (true, "7bdb3092611ce66279e664d808014e51e5bdd4862818d347240ec8aff105bbd8"), looks := true }, kinds := [], alts := [], laidByText := true, laidKinds := [.data, .data, .data], laidTests := true, laidLooks := .later }
def BankBuildsCardSaid : Prop := Claim7.holds Tryz.pinned (.plain (OpenSpec.ofChange bankBuildsSpec)) bankBuildsCard

/-- THE TIED CARD OF 'ringdowntop.TopBest'. -/
def topBestCard : Claim7 := { stood := { row := topBestRow, standIns := [], harness := (true, "7bdb3092611ce66279e664d808014e51e5bdd4862818d347240ec8aff105bbd8"), looks := true }, kinds := [], alts := [], laidByText := true, laidKinds := [.data, .data, .data], laidTests := true, laidLooks := .later }
def TopBestCardSaid : Prop := Claim7.holds Tryz.pinned (.plain (OpenSpec.ofChange topBestSpec)) topBestCard

/-- THE TIED CARD OF 'ringdownlaw07.BankCovers'. -/
def bankCoversCard : Claim7 := { stood := { row := bankCoversRow, standIns := [], harness := (true, "7bdb3092611ce66279e664d808014e51e5bdd4862818d347240ec8aff105bbd8"), looks := true }, kinds := [], alts := [], laidByText := true, laidKinds := [.data, .data, .data], laidTests := true, laidLooks := .later }
def BankCoversCardSaid : Prop := Claim7.holds Tryz.pinned (.plain (OpenSpec.ofChange bankCoversSpec)) bankCoversCard

/-- THE TIED CARD OF 'ringdownlaw07.BankKnown'. -/
def bankKnownCard : Claim7 := { stood := { row := bankKnownRow, standIns := [], harness := (true, "7bdb3092611ce66279e664d808014e51e5bdd4862818d347240ec8aff105bbd8"), looks := true }, kinds := [], alts := [], laidByText := true, laidKinds := [.data, .data, .data], laidTests := true, laidLooks := .later }
def BankKnownCardSaid : Prop := Claim7.holds Tryz.pinned (.plain (OpenSpec.ofChange bankKnownSpec)) bankKnownCard

/-- THE TIED CARD OF 'ringdowntop.TopLine'. -/
def topLineCard : Claim7 := { stood := { row := topLineRow, standIns := [], harness := (true, "7bdb3092611ce66279e664d808014e51e5bdd4862818d347240ec8aff105bbd8"), looks := true }, kinds := [], alts := [], laidByText := true, laidKinds := [.data, .data, .data], laidTests := true, laidLooks := .later }
def TopLineCardSaid : Prop := Claim7.holds Tryz.pinned (.plain (OpenSpec.ofChange topLineSpec)) topLineCard

/-- THE TIED CARD OF 'ringdownlaw07.BankLoop'. -/
def bankLoopCard : Claim7 := { stood := { row := bankLoopRow, standIns := [], harness := (true, "7bdb3092611ce66279e664d808014e51e5bdd4862818d347240ec8aff105bbd8"), looks := true }, kinds := [], alts := [], laidByText := true, laidKinds := [.data, .data, .data, .data, .sentinel, .sentinel, .pinned], laidTests := true, laidLooks := .later }
def BankLoopCardSaid : Prop := Claim7.holds Tryz.pinned (.plain (OpenSpec.ofChange bankLoopSpec)) bankLoopCard

/-- THE TIED CARD OF 'ringdownlaw05.RecordFilter'. -/
def recordFilterCard : Claim7 := { stood := { row := recordFilterRow, standIns := [], harness := (true, "7bdb3092611ce66279e664d808014e51e5bdd4862818d347240ec8aff105bbd8"), looks := true }, kinds := [], alts := [], laidByText := true, laidKinds := [.data, .data, .data, .data, .sentinel, .sentinel, .pinned], laidTests := true, laidLooks := .later }
def RecordFilterCardSaid : Prop := Claim7.holds Tryz.pinned (.plain (OpenSpec.ofChange recordFilterSpec)) recordFilterCard

/-- THE TIED CARD OF 'ringdownlaw07.BankRecorded'. -/
def bankRecordedCard : Claim7 := { stood := { row := bankRecordedRow, standIns := [], harness := (true, "7bdb3092611ce66279e664d808014e51e5bdd4862818d347240ec8aff105bbd8"), looks := true }, kinds := [], alts := [], laidByText := true, laidKinds := [.data, .data, .data], laidTests := true, laidLooks := .later }
def BankRecordedCardSaid : Prop := Claim7.holds Tryz.pinned (.plain (OpenSpec.ofChange bankRecordedSpec)) bankRecordedCard

/-- THE SECOND FORM's CARD OF 'ringdowntop.TopPieces'. -/
def topPiecesUptoCard : Claim7 := { stood := { row := topPiecesUptoRow, standIns := [], harness := (true, "7bdb3092611ce66279e664d808014e51e5bdd4862818d347240ec8aff105bbd8"), looks := true }, kinds := [], alts := [], laidByText := true, laidKinds := [.data, .data, .data], laidTests := true, laidLooks := .later }
def TopPiecesUptoCardSaid : Prop := Claim7.holds Tryz.pinned (.plain (OpenSpec.upto topPiecesSpec)) topPiecesUptoCard

/-- THE SECOND FORM's CARD OF 'ringdownlaw07.BankBuilds'. -/
def bankBuildsUptoCard : Claim7 := { stood := { row := bankBuildsUptoRow, standIns := [], harness := (true, "7bdb3092611ce66279e664d808014e51e5bdd4862818d347240ec8aff105bbd8"), looks := true }, kinds := [], alts := [], laidByText := true, laidKinds := [.data, .data, .data], laidTests := true, laidLooks := .later }
def BankBuildsUptoCardSaid : Prop := Claim7.holds Tryz.pinned (.plain (OpenSpec.upto bankBuildsSpec)) bankBuildsUptoCard

/-- THE SECOND FORM's CARD OF 'ringdowntop.TopBest'. -/
def topBestUptoCard : Claim7 := { stood := { row := topBestUptoRow, standIns := [], harness := (true, "7bdb3092611ce66279e664d808014e51e5bdd4862818d347240ec8aff105bbd8"), looks := true }, kinds := [], alts := [], laidByText := true, laidKinds := [.data, .data, .data], laidTests := true, laidLooks := .later }
def TopBestUptoCardSaid : Prop := Claim7.holds Tryz.pinned (.plain (OpenSpec.upto topBestSpec)) topBestUptoCard

/-- THE SECOND FORM's CARD OF 'ringdownlaw07.BankCovers'. -/
def bankCoversUptoCard : Claim7 := { stood := { row := bankCoversUptoRow, standIns := [], harness := (true, "7bdb3092611ce66279e664d808014e51e5bdd4862818d347240ec8aff105bbd8"), looks := true }, kinds := [], alts := [], laidByText := true, laidKinds := [.data, .data, .data], laidTests := true, laidLooks := .later }
def BankCoversUptoCardSaid : Prop := Claim7.holds Tryz.pinned (.plain (OpenSpec.upto bankCoversSpec)) bankCoversUptoCard

/-- THE SECOND FORM's CARD OF 'ringdownlaw07.BankKnown'. -/
def bankKnownUptoCard : Claim7 := { stood := { row := bankKnownUptoRow, standIns := [], harness := (true, "7bdb3092611ce66279e664d808014e51e5bdd4862818d347240ec8aff105bbd8"), looks := true }, kinds := [], alts := [], laidByText := true, laidKinds := [.data, .data, .data], laidTests := true, laidLooks := .later }
def BankKnownUptoCardSaid : Prop := Claim7.holds Tryz.pinned (.plain (OpenSpec.upto bankKnownSpec)) bankKnownUptoCard

/-- THE SECOND FORM's CARD OF 'ringdowntop.TopLine'. -/
def topLineUptoCard : Claim7 := { stood := { row := topLineUptoRow, standIns := [], harness := (true, "7bdb3092611ce66279e664d808014e51e5bdd4862818d347240ec8aff105bbd8"), looks := true }, kinds := [], alts := [], laidByText := true, laidKinds := [.data, .data, .data], laidTests := true, laidLooks := .later }
def TopLineUptoCardSaid : Prop := Claim7.holds Tryz.pinned (.plain (OpenSpec.upto topLineSpec)) topLineUptoCard

/-- THE SECOND FORM's CARD OF 'ringdownlaw07.BankLoop'. -/
def bankLoopUptoCard : Claim7 := { stood := { row := bankLoopUptoRow, standIns := [], harness := (true, "7bdb3092611ce66279e664d808014e51e5bdd4862818d347240ec8aff105bbd8"), looks := true }, kinds := [], alts := [], laidByText := true, laidKinds := [.data, .data, .data, .data, .sentinel, .sentinel, .pinned], laidTests := true, laidLooks := .later }
def BankLoopUptoCardSaid : Prop := Claim7.holds Tryz.pinned (.plain (OpenSpec.upto bankLoopSpec)) bankLoopUptoCard

/-- THE SECOND FORM's CARD OF 'ringdownlaw05.RecordFilter'. -/
def recordFilterUptoCard : Claim7 := { stood := { row := recordFilterUptoRow, standIns := [], harness := (true, "7bdb3092611ce66279e664d808014e51e5bdd4862818d347240ec8aff105bbd8"), looks := true }, kinds := [], alts := [], laidByText := true, laidKinds := [.data, .data, .data, .data, .sentinel, .sentinel, .pinned], laidTests := true, laidLooks := .later }
def RecordFilterUptoCardSaid : Prop := Claim7.holds Tryz.pinned (.plain (OpenSpec.upto recordFilterSpec)) recordFilterUptoCard

/-- THE SECOND FORM's CARD OF 'ringdownlaw07.BankRecorded'. -/
def bankRecordedUptoCard : Claim7 := { stood := { row := bankRecordedUptoRow, standIns := [], harness := (true, "7bdb3092611ce66279e664d808014e51e5bdd4862818d347240ec8aff105bbd8"), looks := true }, kinds := [], alts := [], laidByText := true, laidKinds := [.data, .data, .data], laidTests := true, laidLooks := .later }
def BankRecordedUptoCardSaid : Prop := Claim7.holds Tryz.pinned (.plain (OpenSpec.upto bankRecordedSpec)) bankRecordedUptoCard
end Rows
end Go.Proofs.YtdpjdifoonfcdaaGreatDoor
