/-
  DERIVED. GIVEN WITH THE SEED: THE CARDS: each row of YtahnadhlagabgaaGreatDoorRows.lean that lists a variable, with what it lists TIED to the program's text (the seventh form; the later family's looks); each row that meets fmt, with fmt's text TOLD by the authors' own Lean function (tested against real Go, not proved from fmt's source: count such statements apart). THE CARD IS WHAT COUNTS. Prove the row's statement (the work); the ties are given (YtahnadhlagabgaaGreatDoorTie.lean); close each card by the builder's one call (the guide's Derived/Test/ToyasCard.lean, 'card_holds'). Laid BY PROGRAM, IN A SANDBOX (cutbox-door.mjs). By AI agents, Wed Nov 11 2026. No macro, syntax, notation, axiom, sorry.
-/
import Derived.Test.YtahnadhlagabgaaGreatDoorRows
import GoSem.ClaimSeven
namespace Go.Proofs.YtahnadhlagabgaaGreatDoor
namespace Rows

/-- THE TIED CARD OF 'ringdownlaw07.BankProofs'. -/
def bankProofsCard : Claim7 := { stood := { row := bankProofsRow, standIns := [], harness := (true, "f68a383f8bb65dbf7c7e5308b081b351ffbb65e011cd91816add1c57623560f3"), looks := false }, kinds := [], alts := [], laidByText := true, laidKinds := [.data, .data, .data], laidTests := true, laidLooks := .later }
def BankProofsCardSaid : Prop := Claim7.holds Tryz.pinned (.plain (OpenSpec.ofChange bankProofsSpec)) bankProofsCard

/-- THE TIED CARD OF 'ringdownlaw07.BankBuilds'. -/
def bankBuildsCard : Claim7 := { stood := { row := bankBuildsRow, standIns := [], harness := (true, "f68a383f8bb65dbf7c7e5308b081b351ffbb65e011cd91816add1c57623560f3"), looks := false }, kinds := [], alts := [], laidByText := true, laidKinds := [.data, .data, .data], laidTests := true, laidLooks := .later }
def BankBuildsCardSaid : Prop := Claim7.holds Tryz.pinned (.plain (OpenSpec.ofChange bankBuildsSpec)) bankBuildsCard

/-- THE TIED CARD OF 'ringdownlaw07.BankPoints'. -/
def bankPointsCard : Claim7 := { stood := { row := bankPointsRow, standIns := [], harness := (true, "f68a383f8bb65dbf7c7e5308b081b351ffbb65e011cd91816add1c57623560f3"), looks := false }, kinds := [], alts := [], laidByText := true, laidKinds := [.data, .data, .data], laidTests := true, laidLooks := .later }
def BankPointsCardSaid : Prop := Claim7.holds Tryz.pinned (.plain (OpenSpec.ofChange bankPointsSpec)) bankPointsCard

/-- THE TIED CARD OF 'ringdownlaw07.BankCovers'. -/
def bankCoversCard : Claim7 := { stood := { row := bankCoversRow, standIns := [], harness := (true, "f68a383f8bb65dbf7c7e5308b081b351ffbb65e011cd91816add1c57623560f3"), looks := false }, kinds := [], alts := [], laidByText := true, laidKinds := [.data, .data, .data], laidTests := true, laidLooks := .later }
def BankCoversCardSaid : Prop := Claim7.holds Tryz.pinned (.plain (OpenSpec.ofChange bankCoversSpec)) bankCoversCard

/-- THE TIED CARD OF 'ringdownlaw07.BankKnown'. -/
def bankKnownCard : Claim7 := { stood := { row := bankKnownRow, standIns := [], harness := (true, "f68a383f8bb65dbf7c7e5308b081b351ffbb65e011cd91816add1c57623560f3"), looks := false }, kinds := [], alts := [], laidByText := true, laidKinds := [.data, .data, .data], laidTests := true, laidLooks := .later }
def BankKnownCardSaid : Prop := Claim7.holds Tryz.pinned (.plain (OpenSpec.ofChange bankKnownSpec)) bankKnownCard

/-- THE TIED CARD OF 'ringdownlaw07.BankSure'. -/
def bankSureCard : Claim7 := { stood := { row := bankSureRow, standIns := [], harness := (true, "f68a383f8bb65dbf7c7e5308b081b351ffbb65e011cd91816add1c57623560f3"), looks := false }, kinds := [], alts := [], laidByText := true, laidKinds := [.data, .data, .data], laidTests := true, laidLooks := .later }
def BankSureCardSaid : Prop := Claim7.holds Tryz.pinned (.plain (OpenSpec.ofChange bankSureSpec)) bankSureCard

/-- THE TIED CARD OF 'ringdownlaw07.BankHits'. -/
def bankHitsCard : Claim7 := { stood := { row := bankHitsRow, standIns := [], harness := (true, "f68a383f8bb65dbf7c7e5308b081b351ffbb65e011cd91816add1c57623560f3"), looks := false }, kinds := [], alts := [], laidByText := true, laidKinds := [.data, .data, .data], laidTests := true, laidLooks := .later }
def BankHitsCardSaid : Prop := Claim7.holds Tryz.pinned (.plain (OpenSpec.ofChange bankHitsSpec)) bankHitsCard

/-- THE TIED CARD OF 'ringdownlaw07.BankChosen'. -/
def bankChosenCard : Claim7 := { stood := { row := bankChosenRow, standIns := [], harness := (true, "f68a383f8bb65dbf7c7e5308b081b351ffbb65e011cd91816add1c57623560f3"), looks := false }, kinds := [], alts := [], laidByText := true, laidKinds := [.data, .data, .data], laidTests := true, laidLooks := .later }
def BankChosenCardSaid : Prop := Claim7.holds Tryz.pinned (.plain (OpenSpec.ofChange bankChosenSpec)) bankChosenCard

/-- THE SECOND FORM's CARD OF 'ringdownlaw07.BankProofs'. -/
def bankProofsUptoCard : Claim7 := { stood := { row := bankProofsUptoRow, standIns := [], harness := (true, "f68a383f8bb65dbf7c7e5308b081b351ffbb65e011cd91816add1c57623560f3"), looks := false }, kinds := [], alts := [], laidByText := true, laidKinds := [.data, .data, .data], laidTests := true, laidLooks := .later }
def BankProofsUptoCardSaid : Prop := Claim7.holds Tryz.pinned (.plain (OpenSpec.upto bankProofsSpec)) bankProofsUptoCard

/-- THE SECOND FORM's CARD OF 'ringdownlaw07.BankBuilds'. -/
def bankBuildsUptoCard : Claim7 := { stood := { row := bankBuildsUptoRow, standIns := [], harness := (true, "f68a383f8bb65dbf7c7e5308b081b351ffbb65e011cd91816add1c57623560f3"), looks := false }, kinds := [], alts := [], laidByText := true, laidKinds := [.data, .data, .data], laidTests := true, laidLooks := .later }
def BankBuildsUptoCardSaid : Prop := Claim7.holds Tryz.pinned (.plain (OpenSpec.upto bankBuildsSpec)) bankBuildsUptoCard

/-- THE SECOND FORM's CARD OF 'ringdownlaw07.BankPoints'. -/
def bankPointsUptoCard : Claim7 := { stood := { row := bankPointsUptoRow, standIns := [], harness := (true, "f68a383f8bb65dbf7c7e5308b081b351ffbb65e011cd91816add1c57623560f3"), looks := false }, kinds := [], alts := [], laidByText := true, laidKinds := [.data, .data, .data], laidTests := true, laidLooks := .later }
def BankPointsUptoCardSaid : Prop := Claim7.holds Tryz.pinned (.plain (OpenSpec.upto bankPointsSpec)) bankPointsUptoCard

/-- THE SECOND FORM's CARD OF 'ringdownlaw07.BankCovers'. -/
def bankCoversUptoCard : Claim7 := { stood := { row := bankCoversUptoRow, standIns := [], harness := (true, "f68a383f8bb65dbf7c7e5308b081b351ffbb65e011cd91816add1c57623560f3"), looks := false }, kinds := [], alts := [], laidByText := true, laidKinds := [.data, .data, .data], laidTests := true, laidLooks := .later }
def BankCoversUptoCardSaid : Prop := Claim7.holds Tryz.pinned (.plain (OpenSpec.upto bankCoversSpec)) bankCoversUptoCard

/-- THE SECOND FORM's CARD OF 'ringdownlaw07.BankKnown'. -/
def bankKnownUptoCard : Claim7 := { stood := { row := bankKnownUptoRow, standIns := [], harness := (true, "f68a383f8bb65dbf7c7e5308b081b351ffbb65e011cd91816add1c57623560f3"), looks := false }, kinds := [], alts := [], laidByText := true, laidKinds := [.data, .data, .data], laidTests := true, laidLooks := .later }
def BankKnownUptoCardSaid : Prop := Claim7.holds Tryz.pinned (.plain (OpenSpec.upto bankKnownSpec)) bankKnownUptoCard

/-- THE SECOND FORM's CARD OF 'ringdownlaw07.BankSure'. -/
def bankSureUptoCard : Claim7 := { stood := { row := bankSureUptoRow, standIns := [], harness := (true, "f68a383f8bb65dbf7c7e5308b081b351ffbb65e011cd91816add1c57623560f3"), looks := false }, kinds := [], alts := [], laidByText := true, laidKinds := [.data, .data, .data], laidTests := true, laidLooks := .later }
def BankSureUptoCardSaid : Prop := Claim7.holds Tryz.pinned (.plain (OpenSpec.upto bankSureSpec)) bankSureUptoCard

/-- THE SECOND FORM's CARD OF 'ringdownlaw07.BankHits'. -/
def bankHitsUptoCard : Claim7 := { stood := { row := bankHitsUptoRow, standIns := [], harness := (true, "f68a383f8bb65dbf7c7e5308b081b351ffbb65e011cd91816add1c57623560f3"), looks := false }, kinds := [], alts := [], laidByText := true, laidKinds := [.data, .data, .data], laidTests := true, laidLooks := .later }
def BankHitsUptoCardSaid : Prop := Claim7.holds Tryz.pinned (.plain (OpenSpec.upto bankHitsSpec)) bankHitsUptoCard

/-- THE SECOND FORM's CARD OF 'ringdownlaw07.BankChosen'. -/
def bankChosenUptoCard : Claim7 := { stood := { row := bankChosenUptoRow, standIns := [], harness := (true, "f68a383f8bb65dbf7c7e5308b081b351ffbb65e011cd91816add1c57623560f3"), looks := false }, kinds := [], alts := [], laidByText := true, laidKinds := [.data, .data, .data], laidTests := true, laidLooks := .later }
def BankChosenUptoCardSaid : Prop := Claim7.holds Tryz.pinned (.plain (OpenSpec.upto bankChosenSpec)) bankChosenUptoCard
end Rows
end Go.Proofs.YtahnadhlagabgaaGreatDoor
