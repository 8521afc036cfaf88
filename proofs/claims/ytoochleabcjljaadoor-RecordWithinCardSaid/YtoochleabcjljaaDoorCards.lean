/-
  DERIVED. GIVEN WITH THE SEED: THE CARDS: each row of YtoochleabcjljaaDoorRows.lean that lists a variable, with what it lists TIED to the program's text (the seventh form; the later family's looks); each row that meets fmt, with fmt's text TOLD by the authors' own Lean function (tested against real Go, not proved from fmt's source: count such statements apart). THE CARD IS WHAT COUNTS. Prove the row's statement (the work); the ties are given (YtoochleabcjljaaDoorTie.lean); close each card by the builder's one call (the guide's Derived/Test/ToyasCard.lean, 'card_holds'). Laid BY PROGRAM, IN A SANDBOX (cutbox-door.mjs). By AI agents, Wed Nov 11 2026. No macro, syntax, notation, axiom, sorry.
-/
import Derived.Test.YtoochleabcjljaaDoorRows
import GoSem.ClaimSeven
namespace Go.Proofs.YtoochleabcjljaaDoor
namespace Rows

/-- THE TIED CARD OF 'ringdownlaw05.RecordStrains'. -/
def recordStrainsCard : Claim7 := { stood := { row := recordStrainsRow, standIns := [], harness := (true, "9f15d0c92fd76ad21c33812b65ed517bb28e15b250b05fb761cbfaa1ed078911"), looks := false }, kinds := [], alts := [], laidByText := true, laidKinds := [.data, .data, .data], laidTests := true, laidLooks := .later }
def RecordStrainsCardSaid : Prop := Claim7.holds Tryd.pinned (.plain (OpenSpec.ofChange recordStrainsSpec)) recordStrainsCard

/-- THE TIED CARD OF 'ringdownlaw05.RecordWithin'. -/
def recordWithinCard : Claim7 := { stood := { row := recordWithinRow, standIns := [], harness := (true, "9f15d0c92fd76ad21c33812b65ed517bb28e15b250b05fb761cbfaa1ed078911"), looks := false }, kinds := [], alts := [], laidByText := true, laidKinds := [.data, .data, .data], laidTests := true, laidLooks := .later }
def RecordWithinCardSaid : Prop := Claim7.holds Tryd.pinned (.plain (OpenSpec.ofChange recordWithinSpec)) recordWithinCard

/-- THE TIED CARD OF 'ringdownlaw05.RecordSeconds'. -/
def recordSecondsCard : Claim7 := { stood := { row := recordSecondsRow, standIns := [], harness := (true, "9f15d0c92fd76ad21c33812b65ed517bb28e15b250b05fb761cbfaa1ed078911"), looks := false }, kinds := [], alts := [], laidByText := true, laidKinds := [.data, .data, .data], laidTests := true, laidLooks := .later }
def RecordSecondsCardSaid : Prop := Claim7.holds Tryd.pinned (.plain (OpenSpec.ofChange recordSecondsSpec)) recordSecondsCard

/-- THE SECOND FORM's CARD OF 'ringdownlaw05.RecordStrains'. -/
def recordStrainsUptoCard : Claim7 := { stood := { row := recordStrainsUptoRow, standIns := [], harness := (true, "9f15d0c92fd76ad21c33812b65ed517bb28e15b250b05fb761cbfaa1ed078911"), looks := false }, kinds := [], alts := [], laidByText := true, laidKinds := [.data, .data, .data], laidTests := true, laidLooks := .later }
def RecordStrainsUptoCardSaid : Prop := Claim7.holds Tryd.pinned (.plain (OpenSpec.upto recordStrainsSpec)) recordStrainsUptoCard

/-- THE SECOND FORM's CARD OF 'ringdownlaw05.RecordWithin'. -/
def recordWithinUptoCard : Claim7 := { stood := { row := recordWithinUptoRow, standIns := [], harness := (true, "9f15d0c92fd76ad21c33812b65ed517bb28e15b250b05fb761cbfaa1ed078911"), looks := false }, kinds := [], alts := [], laidByText := true, laidKinds := [.data, .data, .data], laidTests := true, laidLooks := .later }
def RecordWithinUptoCardSaid : Prop := Claim7.holds Tryd.pinned (.plain (OpenSpec.upto recordWithinSpec)) recordWithinUptoCard

/-- THE SECOND FORM's CARD OF 'ringdownlaw05.RecordSeconds'. -/
def recordSecondsUptoCard : Claim7 := { stood := { row := recordSecondsUptoRow, standIns := [], harness := (true, "9f15d0c92fd76ad21c33812b65ed517bb28e15b250b05fb761cbfaa1ed078911"), looks := false }, kinds := [], alts := [], laidByText := true, laidKinds := [.data, .data, .data], laidTests := true, laidLooks := .later }
def RecordSecondsUptoCardSaid : Prop := Claim7.holds Tryd.pinned (.plain (OpenSpec.upto recordSecondsSpec)) recordSecondsUptoCard
end Rows
end Go.Proofs.YtoochleabcjljaaDoor
