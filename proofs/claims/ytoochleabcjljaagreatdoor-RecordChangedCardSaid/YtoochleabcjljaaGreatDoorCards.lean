/-
  DERIVED. GIVEN WITH THE SEED: THE CARDS: each row of YtoochleabcjljaaGreatDoorRows.lean that lists a variable, with what it lists TIED to the program's text (the seventh form; the later family's looks); each row that meets fmt, with fmt's text TOLD by the authors' own Lean function (tested against real Go, not proved from fmt's source: count such statements apart). THE CARD IS WHAT COUNTS. Prove the row's statement (the work); the ties are given (YtoochleabcjljaaGreatDoorTie.lean); close each card by the builder's one call (the guide's Derived/Test/ToyasCard.lean, 'card_holds'). Laid BY PROGRAM, IN A SANDBOX (cutbox-door.mjs). By AI agents, Wed Nov 11 2026. No macro, syntax, notation, axiom, sorry.
-/
import Derived.Test.YtoochleabcjljaaGreatDoorRows
import GoSem.ClaimSeven
namespace Go.Proofs.YtoochleabcjljaaGreatDoor
namespace Rows

/-- THE TIED CARD OF 'ringdownlaw05.RecordLines'. -/
def recordLinesCard : Claim7 := { stood := { row := recordLinesRow, standIns := [], harness := (true, "1349f90c2ae16d446a8efbf58d3fdaf7ef37a468f2cca24618554f211dbdd702"), looks := false }, kinds := [], alts := [], laidByText := true, laidKinds := [.data, .data, .data], laidTests := true, laidLooks := .later }
def RecordLinesCardSaid : Prop := Claim7.holds Tryz.pinned (.plain (OpenSpec.ofChange recordLinesSpec)) recordLinesCard

/-- THE TIED CARD OF 'ringdownlaw05.RecordFrames'. -/
def recordFramesCard : Claim7 := { stood := { row := recordFramesRow, standIns := [], harness := (true, "1349f90c2ae16d446a8efbf58d3fdaf7ef37a468f2cca24618554f211dbdd702"), looks := false }, kinds := [], alts := [], laidByText := true, laidKinds := [.data, .data, .data], laidTests := true, laidLooks := .later }
def RecordFramesCardSaid : Prop := Claim7.holds Tryz.pinned (.plain (OpenSpec.ofChange recordFramesSpec)) recordFramesCard

/-- THE TIED CARD OF 'ringdownlaw05.RecordSpans'. -/
def recordSpansCard : Claim7 := { stood := { row := recordSpansRow, standIns := [], harness := (true, "1349f90c2ae16d446a8efbf58d3fdaf7ef37a468f2cca24618554f211dbdd702"), looks := false }, kinds := [], alts := [], laidByText := true, laidKinds := [.data, .data, .data], laidTests := true, laidLooks := .later }
def RecordSpansCardSaid : Prop := Claim7.holds Tryz.pinned (.plain (OpenSpec.ofChange recordSpansSpec)) recordSpansCard

/-- THE TIED CARD OF 'ringdownlaw05.RecordCodes'. -/
def recordCodesCard : Claim7 := { stood := { row := recordCodesRow, standIns := [], harness := (true, "1349f90c2ae16d446a8efbf58d3fdaf7ef37a468f2cca24618554f211dbdd702"), looks := false }, kinds := [], alts := [], laidByText := true, laidKinds := [.data, .data, .data], laidTests := true, laidLooks := .later }
def RecordCodesCardSaid : Prop := Claim7.holds Tryz.pinned (.plain (OpenSpec.ofChange recordCodesSpec)) recordCodesCard

/-- THE TIED CARD OF 'ringdownlaw05.RecordChanged'. -/
def recordChangedCard : Claim7 := { stood := { row := recordChangedRow, standIns := [], harness := (true, "1349f90c2ae16d446a8efbf58d3fdaf7ef37a468f2cca24618554f211dbdd702"), looks := false }, kinds := [], alts := [], laidByText := true, laidKinds := [.data, .data, .data], laidTests := true, laidLooks := .later }
def RecordChangedCardSaid : Prop := Claim7.holds Tryz.pinned (.plain (OpenSpec.ofChange recordChangedSpec)) recordChangedCard

/-- THE TIED CARD OF 'ringdownlaw05.RecordBack'. -/
def recordBackCard : Claim7 := { stood := { row := recordBackRow, standIns := [], harness := (true, "1349f90c2ae16d446a8efbf58d3fdaf7ef37a468f2cca24618554f211dbdd702"), looks := false }, kinds := [], alts := [], laidByText := true, laidKinds := [.data, .data, .data], laidTests := true, laidLooks := .later }
def RecordBackCardSaid : Prop := Claim7.holds Tryz.pinned (.plain (OpenSpec.ofChange recordBackSpec)) recordBackCard

/-- THE TIED CARD OF 'ringdownlaw05.RecordInjected'. -/
def recordInjectedCard : Claim7 := { stood := { row := recordInjectedRow, standIns := [], harness := (true, "1349f90c2ae16d446a8efbf58d3fdaf7ef37a468f2cca24618554f211dbdd702"), looks := false }, kinds := [], alts := [], laidByText := true, laidKinds := [.data, .data, .data], laidTests := true, laidLooks := .later }
def RecordInjectedCardSaid : Prop := Claim7.holds Tryz.pinned (.plain (OpenSpec.ofChange recordInjectedSpec)) recordInjectedCard

/-- THE TIED CARD OF 'ringdownlaw05.RecordKept'. -/
def recordKeptCard : Claim7 := { stood := { row := recordKeptRow, standIns := [], harness := (true, "1349f90c2ae16d446a8efbf58d3fdaf7ef37a468f2cca24618554f211dbdd702"), looks := false }, kinds := [], alts := [], laidByText := true, laidKinds := [.data, .data, .data], laidTests := true, laidLooks := .later }
def RecordKeptCardSaid : Prop := Claim7.holds Tryz.pinned (.plain (OpenSpec.ofChange recordKeptSpec)) recordKeptCard

/-- THE TIED CARD OF 'ringdownlaw05.RecordKnown'. -/
def recordKnownCard : Claim7 := { stood := { row := recordKnownRow, standIns := [], harness := (true, "1349f90c2ae16d446a8efbf58d3fdaf7ef37a468f2cca24618554f211dbdd702"), looks := false }, kinds := [], alts := [], laidByText := true, laidKinds := [.data, .data, .data], laidTests := true, laidLooks := .later }
def RecordKnownCardSaid : Prop := Claim7.holds Tryz.pinned (.plain (OpenSpec.ofChange recordKnownSpec)) recordKnownCard

/-- THE SECOND FORM's CARD OF 'ringdownlaw05.RecordLines'. -/
def recordLinesUptoCard : Claim7 := { stood := { row := recordLinesUptoRow, standIns := [], harness := (true, "1349f90c2ae16d446a8efbf58d3fdaf7ef37a468f2cca24618554f211dbdd702"), looks := false }, kinds := [], alts := [], laidByText := true, laidKinds := [.data, .data, .data], laidTests := true, laidLooks := .later }
def RecordLinesUptoCardSaid : Prop := Claim7.holds Tryz.pinned (.plain (OpenSpec.upto recordLinesSpec)) recordLinesUptoCard

/-- THE SECOND FORM's CARD OF 'ringdownlaw05.RecordFrames'. -/
def recordFramesUptoCard : Claim7 := { stood := { row := recordFramesUptoRow, standIns := [], harness := (true, "1349f90c2ae16d446a8efbf58d3fdaf7ef37a468f2cca24618554f211dbdd702"), looks := false }, kinds := [], alts := [], laidByText := true, laidKinds := [.data, .data, .data], laidTests := true, laidLooks := .later }
def RecordFramesUptoCardSaid : Prop := Claim7.holds Tryz.pinned (.plain (OpenSpec.upto recordFramesSpec)) recordFramesUptoCard

/-- THE SECOND FORM's CARD OF 'ringdownlaw05.RecordSpans'. -/
def recordSpansUptoCard : Claim7 := { stood := { row := recordSpansUptoRow, standIns := [], harness := (true, "1349f90c2ae16d446a8efbf58d3fdaf7ef37a468f2cca24618554f211dbdd702"), looks := false }, kinds := [], alts := [], laidByText := true, laidKinds := [.data, .data, .data], laidTests := true, laidLooks := .later }
def RecordSpansUptoCardSaid : Prop := Claim7.holds Tryz.pinned (.plain (OpenSpec.upto recordSpansSpec)) recordSpansUptoCard

/-- THE SECOND FORM's CARD OF 'ringdownlaw05.RecordCodes'. -/
def recordCodesUptoCard : Claim7 := { stood := { row := recordCodesUptoRow, standIns := [], harness := (true, "1349f90c2ae16d446a8efbf58d3fdaf7ef37a468f2cca24618554f211dbdd702"), looks := false }, kinds := [], alts := [], laidByText := true, laidKinds := [.data, .data, .data], laidTests := true, laidLooks := .later }
def RecordCodesUptoCardSaid : Prop := Claim7.holds Tryz.pinned (.plain (OpenSpec.upto recordCodesSpec)) recordCodesUptoCard

/-- THE SECOND FORM's CARD OF 'ringdownlaw05.RecordChanged'. -/
def recordChangedUptoCard : Claim7 := { stood := { row := recordChangedUptoRow, standIns := [], harness := (true, "1349f90c2ae16d446a8efbf58d3fdaf7ef37a468f2cca24618554f211dbdd702"), looks := false }, kinds := [], alts := [], laidByText := true, laidKinds := [.data, .data, .data], laidTests := true, laidLooks := .later }
def RecordChangedUptoCardSaid : Prop := Claim7.holds Tryz.pinned (.plain (OpenSpec.upto recordChangedSpec)) recordChangedUptoCard

/-- THE SECOND FORM's CARD OF 'ringdownlaw05.RecordBack'. -/
def recordBackUptoCard : Claim7 := { stood := { row := recordBackUptoRow, standIns := [], harness := (true, "1349f90c2ae16d446a8efbf58d3fdaf7ef37a468f2cca24618554f211dbdd702"), looks := false }, kinds := [], alts := [], laidByText := true, laidKinds := [.data, .data, .data], laidTests := true, laidLooks := .later }
def RecordBackUptoCardSaid : Prop := Claim7.holds Tryz.pinned (.plain (OpenSpec.upto recordBackSpec)) recordBackUptoCard

/-- THE SECOND FORM's CARD OF 'ringdownlaw05.RecordInjected'. -/
def recordInjectedUptoCard : Claim7 := { stood := { row := recordInjectedUptoRow, standIns := [], harness := (true, "1349f90c2ae16d446a8efbf58d3fdaf7ef37a468f2cca24618554f211dbdd702"), looks := false }, kinds := [], alts := [], laidByText := true, laidKinds := [.data, .data, .data], laidTests := true, laidLooks := .later }
def RecordInjectedUptoCardSaid : Prop := Claim7.holds Tryz.pinned (.plain (OpenSpec.upto recordInjectedSpec)) recordInjectedUptoCard

/-- THE SECOND FORM's CARD OF 'ringdownlaw05.RecordKept'. -/
def recordKeptUptoCard : Claim7 := { stood := { row := recordKeptUptoRow, standIns := [], harness := (true, "1349f90c2ae16d446a8efbf58d3fdaf7ef37a468f2cca24618554f211dbdd702"), looks := false }, kinds := [], alts := [], laidByText := true, laidKinds := [.data, .data, .data], laidTests := true, laidLooks := .later }
def RecordKeptUptoCardSaid : Prop := Claim7.holds Tryz.pinned (.plain (OpenSpec.upto recordKeptSpec)) recordKeptUptoCard

/-- THE SECOND FORM's CARD OF 'ringdownlaw05.RecordKnown'. -/
def recordKnownUptoCard : Claim7 := { stood := { row := recordKnownUptoRow, standIns := [], harness := (true, "1349f90c2ae16d446a8efbf58d3fdaf7ef37a468f2cca24618554f211dbdd702"), looks := false }, kinds := [], alts := [], laidByText := true, laidKinds := [.data, .data, .data], laidTests := true, laidLooks := .later }
def RecordKnownUptoCardSaid : Prop := Claim7.holds Tryz.pinned (.plain (OpenSpec.upto recordKnownSpec)) recordKnownUptoCard
end Rows
end Go.Proofs.YtoochleabcjljaaGreatDoor
