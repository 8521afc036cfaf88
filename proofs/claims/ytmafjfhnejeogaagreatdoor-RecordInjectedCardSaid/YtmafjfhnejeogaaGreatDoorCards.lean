/-
  DERIVED. GIVEN WITH THE SEED: THE CARDS: each row of YtmafjfhnejeogaaGreatDoorRows.lean that lists a variable, with what it lists TIED to the program's text (the seventh form; the later family's looks); each row that meets fmt, with fmt's text TOLD by the authors' own Lean function (tested against real Go, not proved from fmt's source: count such statements apart). THE CARD IS WHAT COUNTS. Prove the row's statement (the work); the ties are given (YtmafjfhnejeogaaGreatDoorTie.lean); close each card by the builder's one call (the guide's Derived/Test/ToyasCard.lean, 'card_holds'). Laid BY PROGRAM, IN A SANDBOX (cutbox-door.mjs). By AI agents, Wed Nov 11 2026. No macro, syntax, notation, axiom, sorry.
-/
import Derived.Test.YtmafjfhnejeogaaGreatDoorRows
import GoSem.ClaimSeven
namespace Go.Proofs.YtmafjfhnejeogaaGreatDoor
namespace Rows

/-- THE TIED CARD OF 'ringdownlaw05.RecordLines'. -/
def recordLinesCard : Claim7 := { stood := { row := recordLinesRow, standIns := [], harness := (true, "97d826f1eb2552a4cc1441cb919c9d1e2960eca1643666a17f43b05d4739a370"), looks := false }, kinds := [], alts := [], laidByText := true, laidKinds := [.data, .data, .data], laidTests := true, laidLooks := .later }
def RecordLinesCardSaid : Prop := Claim7.holds Tryz.pinned (.plain (OpenSpec.ofChange recordLinesSpec)) recordLinesCard

/-- THE TIED CARD OF 'ringdownlaw07.BankLinear'. -/
def bankLinearCard : Claim7 := { stood := { row := bankLinearRow, standIns := [], harness := (true, "97d826f1eb2552a4cc1441cb919c9d1e2960eca1643666a17f43b05d4739a370"), looks := false }, kinds := [], alts := [], laidByText := true, laidKinds := [.data, .data, .data], laidTests := true, laidLooks := .later }
def BankLinearCardSaid : Prop := Claim7.holds Tryz.pinned (.plain (OpenSpec.ofChange bankLinearSpec)) bankLinearCard

/-- THE TIED CARD OF 'ringdownlaw07.BankWaves'. -/
def bankWavesCard : Claim7 := { stood := { row := bankWavesRow, standIns := [], harness := (true, "97d826f1eb2552a4cc1441cb919c9d1e2960eca1643666a17f43b05d4739a370"), looks := false }, kinds := [], alts := [], laidByText := true, laidKinds := [.data, .data, .data], laidTests := true, laidLooks := .later }
def BankWavesCardSaid : Prop := Claim7.holds Tryz.pinned (.plain (OpenSpec.ofChange bankWavesSpec)) bankWavesCard

/-- THE TIED CARD OF 'ringdownlaw07.BankMatch'. -/
def bankMatchCard : Claim7 := { stood := { row := bankMatchRow, standIns := [], harness := (true, "97d826f1eb2552a4cc1441cb919c9d1e2960eca1643666a17f43b05d4739a370"), looks := false }, kinds := [], alts := [], laidByText := true, laidKinds := [.data, .data, .data], laidTests := true, laidLooks := .later }
def BankMatchCardSaid : Prop := Claim7.holds Tryz.pinned (.plain (OpenSpec.ofChange bankMatchSpec)) bankMatchCard

/-- THE TIED CARD OF 'ringdownlaw07.BankExact'. -/
def bankExactCard : Claim7 := { stood := { row := bankExactRow, standIns := [], harness := (true, "97d826f1eb2552a4cc1441cb919c9d1e2960eca1643666a17f43b05d4739a370"), looks := false }, kinds := [], alts := [], laidByText := true, laidKinds := [.data, .data, .data], laidTests := true, laidLooks := .later }
def BankExactCardSaid : Prop := Claim7.holds Tryz.pinned (.plain (OpenSpec.ofChange bankExactSpec)) bankExactCard

/-- THE TIED CARD OF 'ringdownlaw07.BankMisfits'. -/
def bankMisfitsCard : Claim7 := { stood := { row := bankMisfitsRow, standIns := [], harness := (true, "97d826f1eb2552a4cc1441cb919c9d1e2960eca1643666a17f43b05d4739a370"), looks := false }, kinds := [], alts := [], laidByText := true, laidKinds := [.data, .data, .data], laidTests := true, laidLooks := .later }
def BankMisfitsCardSaid : Prop := Claim7.holds Tryz.pinned (.plain (OpenSpec.ofChange bankMisfitsSpec)) bankMisfitsCard

/-- THE TIED CARD OF 'ringdownlaw05.RecordInjected'. -/
def recordInjectedCard : Claim7 := { stood := { row := recordInjectedRow, standIns := [], harness := (true, "97d826f1eb2552a4cc1441cb919c9d1e2960eca1643666a17f43b05d4739a370"), looks := false }, kinds := [], alts := [], laidByText := true, laidKinds := [.data, .data, .data], laidTests := true, laidLooks := .later }
def RecordInjectedCardSaid : Prop := Claim7.holds Tryz.pinned (.plain (OpenSpec.ofChange recordInjectedSpec)) recordInjectedCard

/-- THE TIED CARD OF 'ringdownlaw05.RecordKept'. -/
def recordKeptCard : Claim7 := { stood := { row := recordKeptRow, standIns := [], harness := (true, "97d826f1eb2552a4cc1441cb919c9d1e2960eca1643666a17f43b05d4739a370"), looks := false }, kinds := [], alts := [], laidByText := true, laidKinds := [.data, .data, .data], laidTests := true, laidLooks := .later }
def RecordKeptCardSaid : Prop := Claim7.holds Tryz.pinned (.plain (OpenSpec.ofChange recordKeptSpec)) recordKeptCard

/-- THE SECOND FORM's CARD OF 'ringdownlaw05.RecordLines'. -/
def recordLinesUptoCard : Claim7 := { stood := { row := recordLinesUptoRow, standIns := [], harness := (true, "97d826f1eb2552a4cc1441cb919c9d1e2960eca1643666a17f43b05d4739a370"), looks := false }, kinds := [], alts := [], laidByText := true, laidKinds := [.data, .data, .data], laidTests := true, laidLooks := .later }
def RecordLinesUptoCardSaid : Prop := Claim7.holds Tryz.pinned (.plain (OpenSpec.upto recordLinesSpec)) recordLinesUptoCard

/-- THE SECOND FORM's CARD OF 'ringdownlaw07.BankLinear'. -/
def bankLinearUptoCard : Claim7 := { stood := { row := bankLinearUptoRow, standIns := [], harness := (true, "97d826f1eb2552a4cc1441cb919c9d1e2960eca1643666a17f43b05d4739a370"), looks := false }, kinds := [], alts := [], laidByText := true, laidKinds := [.data, .data, .data], laidTests := true, laidLooks := .later }
def BankLinearUptoCardSaid : Prop := Claim7.holds Tryz.pinned (.plain (OpenSpec.upto bankLinearSpec)) bankLinearUptoCard

/-- THE SECOND FORM's CARD OF 'ringdownlaw07.BankWaves'. -/
def bankWavesUptoCard : Claim7 := { stood := { row := bankWavesUptoRow, standIns := [], harness := (true, "97d826f1eb2552a4cc1441cb919c9d1e2960eca1643666a17f43b05d4739a370"), looks := false }, kinds := [], alts := [], laidByText := true, laidKinds := [.data, .data, .data], laidTests := true, laidLooks := .later }
def BankWavesUptoCardSaid : Prop := Claim7.holds Tryz.pinned (.plain (OpenSpec.upto bankWavesSpec)) bankWavesUptoCard

/-- THE SECOND FORM's CARD OF 'ringdownlaw07.BankMatch'. -/
def bankMatchUptoCard : Claim7 := { stood := { row := bankMatchUptoRow, standIns := [], harness := (true, "97d826f1eb2552a4cc1441cb919c9d1e2960eca1643666a17f43b05d4739a370"), looks := false }, kinds := [], alts := [], laidByText := true, laidKinds := [.data, .data, .data], laidTests := true, laidLooks := .later }
def BankMatchUptoCardSaid : Prop := Claim7.holds Tryz.pinned (.plain (OpenSpec.upto bankMatchSpec)) bankMatchUptoCard

/-- THE SECOND FORM's CARD OF 'ringdownlaw07.BankExact'. -/
def bankExactUptoCard : Claim7 := { stood := { row := bankExactUptoRow, standIns := [], harness := (true, "97d826f1eb2552a4cc1441cb919c9d1e2960eca1643666a17f43b05d4739a370"), looks := false }, kinds := [], alts := [], laidByText := true, laidKinds := [.data, .data, .data], laidTests := true, laidLooks := .later }
def BankExactUptoCardSaid : Prop := Claim7.holds Tryz.pinned (.plain (OpenSpec.upto bankExactSpec)) bankExactUptoCard

/-- THE SECOND FORM's CARD OF 'ringdownlaw07.BankMisfits'. -/
def bankMisfitsUptoCard : Claim7 := { stood := { row := bankMisfitsUptoRow, standIns := [], harness := (true, "97d826f1eb2552a4cc1441cb919c9d1e2960eca1643666a17f43b05d4739a370"), looks := false }, kinds := [], alts := [], laidByText := true, laidKinds := [.data, .data, .data], laidTests := true, laidLooks := .later }
def BankMisfitsUptoCardSaid : Prop := Claim7.holds Tryz.pinned (.plain (OpenSpec.upto bankMisfitsSpec)) bankMisfitsUptoCard

/-- THE SECOND FORM's CARD OF 'ringdownlaw05.RecordInjected'. -/
def recordInjectedUptoCard : Claim7 := { stood := { row := recordInjectedUptoRow, standIns := [], harness := (true, "97d826f1eb2552a4cc1441cb919c9d1e2960eca1643666a17f43b05d4739a370"), looks := false }, kinds := [], alts := [], laidByText := true, laidKinds := [.data, .data, .data], laidTests := true, laidLooks := .later }
def RecordInjectedUptoCardSaid : Prop := Claim7.holds Tryz.pinned (.plain (OpenSpec.upto recordInjectedSpec)) recordInjectedUptoCard

/-- THE SECOND FORM's CARD OF 'ringdownlaw05.RecordKept'. -/
def recordKeptUptoCard : Claim7 := { stood := { row := recordKeptUptoRow, standIns := [], harness := (true, "97d826f1eb2552a4cc1441cb919c9d1e2960eca1643666a17f43b05d4739a370"), looks := false }, kinds := [], alts := [], laidByText := true, laidKinds := [.data, .data, .data], laidTests := true, laidLooks := .later }
def RecordKeptUptoCardSaid : Prop := Claim7.holds Tryz.pinned (.plain (OpenSpec.upto recordKeptSpec)) recordKeptUptoCard
end Rows
end Go.Proofs.YtmafjfhnejeogaaGreatDoor
