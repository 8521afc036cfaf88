/-
  DERIVED. GIVEN WITH THE SEED: THE CARDS: each row of YtbjhjbjjfbmoeaaGreatDoorRows.lean that lists a variable, with what it lists TIED to the program's text (the seventh form; the later family's looks); each row that meets fmt, with fmt's text TOLD by the authors' own Lean function (tested against real Go, not proved from fmt's source: count such statements apart). THE CARD IS WHAT COUNTS. Prove the row's statement (the work); the ties are given (YtbjhjbjjfbmoeaaGreatDoorTie.lean); close each card by the builder's one call (the guide's Derived/Test/ToyasCard.lean, 'card_holds'). Laid BY PROGRAM, IN A SANDBOX (cutbox-door.mjs). By AI agents, Wed Nov 11 2026. No macro, syntax, notation, axiom, sorry.
-/
import Derived.Test.YtbjhjbjjfbmoeaaGreatDoorRows
import GoSem.ClaimSeven
namespace Go.Proofs.YtbjhjbjjfbmoeaaGreatDoor
namespace Rows

/-- THE TIED CARD OF 'ringdownlaw07.BankLinear'. -/
def bankLinearCard : Claim7 := { stood := { row := bankLinearRow, standIns := [], harness := (true, "c2f51d6e82ba2d6ab35abe988fcac4a648043c9419ffe099d7684c6edd5b7ecb"), looks := false }, kinds := [], alts := [], laidByText := true, laidKinds := [.data, .data, .data], laidTests := true, laidLooks := .later }
def BankLinearCardSaid : Prop := Claim7.holds Tryz.pinned (.plain (OpenSpec.ofChange bankLinearSpec)) bankLinearCard

/-- THE TIED CARD OF 'ringdownlaw07.BankWaves'. -/
def bankWavesCard : Claim7 := { stood := { row := bankWavesRow, standIns := [], harness := (true, "c2f51d6e82ba2d6ab35abe988fcac4a648043c9419ffe099d7684c6edd5b7ecb"), looks := false }, kinds := [], alts := [], laidByText := true, laidKinds := [.data, .data, .data], laidTests := true, laidLooks := .later }
def BankWavesCardSaid : Prop := Claim7.holds Tryz.pinned (.plain (OpenSpec.ofChange bankWavesSpec)) bankWavesCard

/-- THE TIED CARD OF 'ringdownlaw07.BankMatch'. -/
def bankMatchCard : Claim7 := { stood := { row := bankMatchRow, standIns := [], harness := (true, "c2f51d6e82ba2d6ab35abe988fcac4a648043c9419ffe099d7684c6edd5b7ecb"), looks := false }, kinds := [], alts := [], laidByText := true, laidKinds := [.data, .data, .data], laidTests := true, laidLooks := .later }
def BankMatchCardSaid : Prop := Claim7.holds Tryz.pinned (.plain (OpenSpec.ofChange bankMatchSpec)) bankMatchCard

/-- THE TIED CARD OF 'ringdownlaw07.BankExact'. -/
def bankExactCard : Claim7 := { stood := { row := bankExactRow, standIns := [], harness := (true, "c2f51d6e82ba2d6ab35abe988fcac4a648043c9419ffe099d7684c6edd5b7ecb"), looks := false }, kinds := [], alts := [], laidByText := true, laidKinds := [.data, .data, .data], laidTests := true, laidLooks := .later }
def BankExactCardSaid : Prop := Claim7.holds Tryz.pinned (.plain (OpenSpec.ofChange bankExactSpec)) bankExactCard

/-- THE TIED CARD OF 'ringdownlaw07.BankMisfits'. -/
def bankMisfitsCard : Claim7 := { stood := { row := bankMisfitsRow, standIns := [], harness := (true, "c2f51d6e82ba2d6ab35abe988fcac4a648043c9419ffe099d7684c6edd5b7ecb"), looks := false }, kinds := [], alts := [], laidByText := true, laidKinds := [.data, .data, .data], laidTests := true, laidLooks := .later }
def BankMisfitsCardSaid : Prop := Claim7.holds Tryz.pinned (.plain (OpenSpec.ofChange bankMisfitsSpec)) bankMisfitsCard

/-- THE TIED CARD OF 'ringdowntop.TopPieces'. -/
def topPiecesCard : Claim7 := { stood := { row := topPiecesRow, standIns := [], harness := (true, "c2f51d6e82ba2d6ab35abe988fcac4a648043c9419ffe099d7684c6edd5b7ecb"), looks := false }, kinds := [], alts := [], laidByText := true, laidKinds := [.data, .data, .data], laidTests := true, laidLooks := .later }
def TopPiecesCardSaid : Prop := Claim7.holds Tryz.pinned (.plain (OpenSpec.ofChange topPiecesSpec)) topPiecesCard

/-- THE TIED CARD OF 'ringdownlaw07.BankBands'. -/
def bankBandsCard : Claim7 := { stood := { row := bankBandsRow, standIns := [], harness := (true, "c2f51d6e82ba2d6ab35abe988fcac4a648043c9419ffe099d7684c6edd5b7ecb"), looks := false }, kinds := [], alts := [], laidByText := true, laidKinds := [.data, .data, .data], laidTests := true, laidLooks := .later }
def BankBandsCardSaid : Prop := Claim7.holds Tryz.pinned (.plain (OpenSpec.ofChange bankBandsSpec)) bankBandsCard

/-- THE TIED CARD OF 'ringdowntop.TopBest'. -/
def topBestCard : Claim7 := { stood := { row := topBestRow, standIns := [], harness := (true, "c2f51d6e82ba2d6ab35abe988fcac4a648043c9419ffe099d7684c6edd5b7ecb"), looks := false }, kinds := [], alts := [], laidByText := true, laidKinds := [.data, .data, .data], laidTests := true, laidLooks := .later }
def TopBestCardSaid : Prop := Claim7.holds Tryz.pinned (.plain (OpenSpec.ofChange topBestSpec)) topBestCard

/-- THE TIED CARD OF 'ringdownlaw07.BankProofs'. -/
def bankProofsCard : Claim7 := { stood := { row := bankProofsRow, standIns := [], harness := (true, "c2f51d6e82ba2d6ab35abe988fcac4a648043c9419ffe099d7684c6edd5b7ecb"), looks := false }, kinds := [], alts := [], laidByText := true, laidKinds := [.data, .data, .data], laidTests := true, laidLooks := .later }
def BankProofsCardSaid : Prop := Claim7.holds Tryz.pinned (.plain (OpenSpec.ofChange bankProofsSpec)) bankProofsCard

/-- THE TIED CARD OF 'ringdownlaw07.BankPoints'. -/
def bankPointsCard : Claim7 := { stood := { row := bankPointsRow, standIns := [], harness := (true, "c2f51d6e82ba2d6ab35abe988fcac4a648043c9419ffe099d7684c6edd5b7ecb"), looks := false }, kinds := [], alts := [], laidByText := true, laidKinds := [.data, .data, .data], laidTests := true, laidLooks := .later }
def BankPointsCardSaid : Prop := Claim7.holds Tryz.pinned (.plain (OpenSpec.ofChange bankPointsSpec)) bankPointsCard

/-- THE TIED CARD OF 'ringdownlaw07.BankFewer'. -/
def bankFewerCard : Claim7 := { stood := { row := bankFewerRow, standIns := [], harness := (true, "c2f51d6e82ba2d6ab35abe988fcac4a648043c9419ffe099d7684c6edd5b7ecb"), looks := false }, kinds := [], alts := [], laidByText := true, laidKinds := [.data, .data, .data], laidTests := true, laidLooks := .later }
def BankFewerCardSaid : Prop := Claim7.holds Tryz.pinned (.plain (OpenSpec.ofChange bankFewerSpec)) bankFewerCard

/-- THE SECOND FORM's CARD OF 'ringdownlaw07.BankLinear'. -/
def bankLinearUptoCard : Claim7 := { stood := { row := bankLinearUptoRow, standIns := [], harness := (true, "c2f51d6e82ba2d6ab35abe988fcac4a648043c9419ffe099d7684c6edd5b7ecb"), looks := false }, kinds := [], alts := [], laidByText := true, laidKinds := [.data, .data, .data], laidTests := true, laidLooks := .later }
def BankLinearUptoCardSaid : Prop := Claim7.holds Tryz.pinned (.plain (OpenSpec.upto bankLinearSpec)) bankLinearUptoCard

/-- THE SECOND FORM's CARD OF 'ringdownlaw07.BankWaves'. -/
def bankWavesUptoCard : Claim7 := { stood := { row := bankWavesUptoRow, standIns := [], harness := (true, "c2f51d6e82ba2d6ab35abe988fcac4a648043c9419ffe099d7684c6edd5b7ecb"), looks := false }, kinds := [], alts := [], laidByText := true, laidKinds := [.data, .data, .data], laidTests := true, laidLooks := .later }
def BankWavesUptoCardSaid : Prop := Claim7.holds Tryz.pinned (.plain (OpenSpec.upto bankWavesSpec)) bankWavesUptoCard

/-- THE SECOND FORM's CARD OF 'ringdownlaw07.BankMatch'. -/
def bankMatchUptoCard : Claim7 := { stood := { row := bankMatchUptoRow, standIns := [], harness := (true, "c2f51d6e82ba2d6ab35abe988fcac4a648043c9419ffe099d7684c6edd5b7ecb"), looks := false }, kinds := [], alts := [], laidByText := true, laidKinds := [.data, .data, .data], laidTests := true, laidLooks := .later }
def BankMatchUptoCardSaid : Prop := Claim7.holds Tryz.pinned (.plain (OpenSpec.upto bankMatchSpec)) bankMatchUptoCard

/-- THE SECOND FORM's CARD OF 'ringdownlaw07.BankExact'. -/
def bankExactUptoCard : Claim7 := { stood := { row := bankExactUptoRow, standIns := [], harness := (true, "c2f51d6e82ba2d6ab35abe988fcac4a648043c9419ffe099d7684c6edd5b7ecb"), looks := false }, kinds := [], alts := [], laidByText := true, laidKinds := [.data, .data, .data], laidTests := true, laidLooks := .later }
def BankExactUptoCardSaid : Prop := Claim7.holds Tryz.pinned (.plain (OpenSpec.upto bankExactSpec)) bankExactUptoCard

/-- THE SECOND FORM's CARD OF 'ringdownlaw07.BankMisfits'. -/
def bankMisfitsUptoCard : Claim7 := { stood := { row := bankMisfitsUptoRow, standIns := [], harness := (true, "c2f51d6e82ba2d6ab35abe988fcac4a648043c9419ffe099d7684c6edd5b7ecb"), looks := false }, kinds := [], alts := [], laidByText := true, laidKinds := [.data, .data, .data], laidTests := true, laidLooks := .later }
def BankMisfitsUptoCardSaid : Prop := Claim7.holds Tryz.pinned (.plain (OpenSpec.upto bankMisfitsSpec)) bankMisfitsUptoCard

/-- THE SECOND FORM's CARD OF 'ringdowntop.TopPieces'. -/
def topPiecesUptoCard : Claim7 := { stood := { row := topPiecesUptoRow, standIns := [], harness := (true, "c2f51d6e82ba2d6ab35abe988fcac4a648043c9419ffe099d7684c6edd5b7ecb"), looks := false }, kinds := [], alts := [], laidByText := true, laidKinds := [.data, .data, .data], laidTests := true, laidLooks := .later }
def TopPiecesUptoCardSaid : Prop := Claim7.holds Tryz.pinned (.plain (OpenSpec.upto topPiecesSpec)) topPiecesUptoCard

/-- THE SECOND FORM's CARD OF 'ringdownlaw07.BankBands'. -/
def bankBandsUptoCard : Claim7 := { stood := { row := bankBandsUptoRow, standIns := [], harness := (true, "c2f51d6e82ba2d6ab35abe988fcac4a648043c9419ffe099d7684c6edd5b7ecb"), looks := false }, kinds := [], alts := [], laidByText := true, laidKinds := [.data, .data, .data], laidTests := true, laidLooks := .later }
def BankBandsUptoCardSaid : Prop := Claim7.holds Tryz.pinned (.plain (OpenSpec.upto bankBandsSpec)) bankBandsUptoCard

/-- THE SECOND FORM's CARD OF 'ringdowntop.TopBest'. -/
def topBestUptoCard : Claim7 := { stood := { row := topBestUptoRow, standIns := [], harness := (true, "c2f51d6e82ba2d6ab35abe988fcac4a648043c9419ffe099d7684c6edd5b7ecb"), looks := false }, kinds := [], alts := [], laidByText := true, laidKinds := [.data, .data, .data], laidTests := true, laidLooks := .later }
def TopBestUptoCardSaid : Prop := Claim7.holds Tryz.pinned (.plain (OpenSpec.upto topBestSpec)) topBestUptoCard

/-- THE SECOND FORM's CARD OF 'ringdownlaw07.BankProofs'. -/
def bankProofsUptoCard : Claim7 := { stood := { row := bankProofsUptoRow, standIns := [], harness := (true, "c2f51d6e82ba2d6ab35abe988fcac4a648043c9419ffe099d7684c6edd5b7ecb"), looks := false }, kinds := [], alts := [], laidByText := true, laidKinds := [.data, .data, .data], laidTests := true, laidLooks := .later }
def BankProofsUptoCardSaid : Prop := Claim7.holds Tryz.pinned (.plain (OpenSpec.upto bankProofsSpec)) bankProofsUptoCard

/-- THE SECOND FORM's CARD OF 'ringdownlaw07.BankPoints'. -/
def bankPointsUptoCard : Claim7 := { stood := { row := bankPointsUptoRow, standIns := [], harness := (true, "c2f51d6e82ba2d6ab35abe988fcac4a648043c9419ffe099d7684c6edd5b7ecb"), looks := false }, kinds := [], alts := [], laidByText := true, laidKinds := [.data, .data, .data], laidTests := true, laidLooks := .later }
def BankPointsUptoCardSaid : Prop := Claim7.holds Tryz.pinned (.plain (OpenSpec.upto bankPointsSpec)) bankPointsUptoCard

/-- THE SECOND FORM's CARD OF 'ringdownlaw07.BankFewer'. -/
def bankFewerUptoCard : Claim7 := { stood := { row := bankFewerUptoRow, standIns := [], harness := (true, "c2f51d6e82ba2d6ab35abe988fcac4a648043c9419ffe099d7684c6edd5b7ecb"), looks := false }, kinds := [], alts := [], laidByText := true, laidKinds := [.data, .data, .data], laidTests := true, laidLooks := .later }
def BankFewerUptoCardSaid : Prop := Claim7.holds Tryz.pinned (.plain (OpenSpec.upto bankFewerSpec)) bankFewerUptoCard
end Rows
end Go.Proofs.YtbjhjbjjfbmoeaaGreatDoor
