/-
  NARROWER THAN 'FOR EVERY INPUT', by the rows' own cells (each row's printed sentence says how): BankLinear: laid · BankWaves: laid · BankMatch: laid · BankExact: laid · BankMisfits: laid · TopPieces: laid · BankBands: laid · TopBest: laid · BankProofs: laid · BankPoints: laid · BankFewer: laid.
  DERIVED. THE GIVEN ROWS OF THIS SEAT. 11 by the template 'for every input the law returns true; each argument reads behind the call as it read before'; 0 by the template 'total and deterministic' (their statements: YtbjhjbjjfbmoeaaGreatDoorTotals.lean).
  GIVEN WITH THE SEED: the statements are not yours to turn. If you find one false, say at which input.
  Laid BY PROGRAM, IN A SANDBOX (cutbox-rows.mjs): the forced cells as the released guide's own fill.sh prints them over the translation a7737dc4ab610689… (all of the seat's roots in one cut). By AI agents, Wed Nov 11 2026. No macro, syntax, notation, axiom, sorry.
-/
import Derived.Test.YtbjhjbjjfbmoeaaGreatDoorChecked
import GoSem.Claim
import GoSem.ClaimJoined
import GoSem.ClaimMapViews
import Derived.JoinedTies
import Derived.KernelRfl
namespace Go.Proofs.YtbjhjbjjfbmoeaaGreatDoor
/- THE CELL 'sum', in the pinned program and in every row, IS THE sha256 OF THE DUMP (.gsa) THAT YtbjhjbjjfbmoeaaGreatDoorProg.lean LOADS. Nothing in Lean hashes anything: it is a label: what it is worth is what the hold of that sum in a sandbox is worth. -/
noncomputable def Tryz.pinned : Pinned := { name := "ytbjhjbjjfbmoeaagreatdoor", sum := "a7737dc4ab610689187917023f345862a87c0554cf9667c97b21ffe86bd3c391", checked := Tryz.checked }
namespace Rows
def none {H : Type} : Left H := { results := [], args := [] }

/- WHAT THE LISTED PACKAGE-LEVEL VARIABLES READ AS WHEN THE CALL BEGINS. Each datum BY PROGRAM (the guide's laid-datum.mjs) off the statement by which the dump's own 'gosem.cut.vars' lays the variable. In a bare row this is a premise. The card (YtbjhjbjjfbmoeaaGreatDoorCards.lean) ties it to the program's text. -/
def laid_math_bits_deBruijn32tab {H : Type} : DataW H := .agg [.lit (.int .u8 0), .lit (.int .u8 1), .lit (.int .u8 28), .lit (.int .u8 2), .lit (.int .u8 29), .lit (.int .u8 14), .lit (.int .u8 24), .lit (.int .u8 3), .lit (.int .u8 30), .lit (.int .u8 22), .lit (.int .u8 20), .lit (.int .u8 15), .lit (.int .u8 25), .lit (.int .u8 17), .lit (.int .u8 4), .lit (.int .u8 8), .lit (.int .u8 31), .lit (.int .u8 27), .lit (.int .u8 13), .lit (.int .u8 23), .lit (.int .u8 21), .lit (.int .u8 19), .lit (.int .u8 16), .lit (.int .u8 7), .lit (.int .u8 26), .lit (.int .u8 12), .lit (.int .u8 18), .lit (.int .u8 6), .lit (.int .u8 11), .lit (.int .u8 5), .lit (.int .u8 10), .lit (.int .u8 9)]
def laid_math_bits_deBruijn64tab {H : Type} : DataW H := .agg [.lit (.int .u8 0), .lit (.int .u8 1), .lit (.int .u8 56), .lit (.int .u8 2), .lit (.int .u8 57), .lit (.int .u8 49), .lit (.int .u8 28), .lit (.int .u8 3), .lit (.int .u8 61), .lit (.int .u8 58), .lit (.int .u8 42), .lit (.int .u8 50), .lit (.int .u8 38), .lit (.int .u8 29), .lit (.int .u8 17), .lit (.int .u8 4), .lit (.int .u8 62), .lit (.int .u8 47), .lit (.int .u8 59), .lit (.int .u8 36), .lit (.int .u8 45), .lit (.int .u8 43), .lit (.int .u8 51), .lit (.int .u8 22), .lit (.int .u8 53), .lit (.int .u8 39), .lit (.int .u8 33), .lit (.int .u8 30), .lit (.int .u8 24), .lit (.int .u8 18), .lit (.int .u8 12), .lit (.int .u8 5), .lit (.int .u8 63), .lit (.int .u8 55), .lit (.int .u8 48), .lit (.int .u8 27), .lit (.int .u8 60), .lit (.int .u8 41), .lit (.int .u8 37), .lit (.int .u8 16), .lit (.int .u8 46), .lit (.int .u8 35), .lit (.int .u8 44), .lit (.int .u8 21), .lit (.int .u8 52), .lit (.int .u8 32), .lit (.int .u8 23), .lit (.int .u8 11), .lit (.int .u8 54), .lit (.int .u8 26), .lit (.int .u8 40), .lit (.int .u8 15), .lit (.int .u8 34), .lit (.int .u8 20), .lit (.int .u8 31), .lit (.int .u8 10), .lit (.int .u8 25), .lit (.int .u8 14), .lit (.int .u8 19), .lit (.int .u8 9), .lit (.int .u8 13), .lit (.int .u8 8), .lit (.int .u8 7), .lit (.int .u8 6)]
def laid_internal_strconv_uint64pow10 {H : Type} : DataW H := .agg [.lit (.int .u64 1), .lit (.int .u64 10), .lit (.int .u64 100), .lit (.int .u64 1000), .lit (.int .u64 10000), .lit (.int .u64 100000), .lit (.int .u64 1000000), .lit (.int .u64 10000000), .lit (.int .u64 100000000), .lit (.int .u64 1000000000), .lit (.int .u64 10000000000), .lit (.int .u64 100000000000), .lit (.int .u64 1000000000000), .lit (.int .u64 10000000000000), .lit (.int .u64 100000000000000), .lit (.int .u64 1000000000000000), .lit (.int .u64 10000000000000000), .lit (.int .u64 100000000000000000), .lit (.int .u64 1000000000000000000), .lit (.int .u64 10000000000000000000)]

/-- 'ringdownlaw07.BankLinear': WHATEVER THE INPUT: true; the input reads as it did. -/
def bankLinearSpec : ChangeSpec := { name := "bankLinear", fn := fun _ => fun
  | [d1, d2, d3] => { results := [.lit (.bool true)], args := [d1, d2, d3] }
  | _ => none }
def bankLinearRow : OpenClaim := { program := "ytbjhjbjjfbmoeaagreatdoor", sum := "a7737dc4ab610689187917023f345862a87c0554cf9667c97b21ffe86bd3c391", func := "ringdown/ringdownlaw07.BankLinear", spec := "bankLinear", inPlace := ["internal/abi.NoEscape", "internal/bytealg.MakeNoZero", "internal/bytealg.IndexByteString", "internal/bytealg.IndexString"], unfollowed := true, recurses := true, named := ["internal/strconv.uint64pow10", "math/bits.deBruijn32tab", "math/bits.deBruijn64tab", "internal/bytealg.MaxLen"], apart := false, laid := [("math/bits.deBruijn32tab", laid_math_bits_deBruijn32tab), ("math/bits.deBruijn64tab", laid_math_bits_deBruijn64tab), ("internal/strconv.uint64pow10", laid_internal_strconv_uint64pow10)] }
def BankLinearSaid : Prop := bankLinearRow.holds Tryz.pinned (OpenSpec.ofChange bankLinearSpec)

/-- ITS FALSE NEIGHBOUR: 'it returns false'. Refute it at one input. -/
def bankLinearWrong : ChangeSpec := { name := "bankLinear", fn := fun _ => fun
  | [d1, d2, d3] => { results := [.lit (.bool false)], args := [d1, d2, d3] }
  | _ => none }
def BankLinearWrongFalsely : Prop := bankLinearRow.holds Tryz.pinned (OpenSpec.ofChange bankLinearWrong)

/-- 'ringdownlaw07.BankWaves': WHATEVER THE INPUT: true; the input reads as it did. -/
def bankWavesSpec : ChangeSpec := { name := "bankWaves", fn := fun _ => fun
  | [d1, d2] => { results := [.lit (.bool true)], args := [d1, d2] }
  | _ => none }
def bankWavesRow : OpenClaim := { program := "ytbjhjbjjfbmoeaagreatdoor", sum := "a7737dc4ab610689187917023f345862a87c0554cf9667c97b21ffe86bd3c391", func := "ringdown/ringdownlaw07.BankWaves", spec := "bankWaves", inPlace := ["internal/abi.NoEscape", "internal/bytealg.MakeNoZero", "internal/bytealg.IndexByteString", "internal/bytealg.IndexString"], unfollowed := true, recurses := true, named := ["internal/strconv.uint64pow10", "math/bits.deBruijn32tab", "math/bits.deBruijn64tab", "internal/bytealg.MaxLen"], apart := false, laid := [("math/bits.deBruijn32tab", laid_math_bits_deBruijn32tab), ("math/bits.deBruijn64tab", laid_math_bits_deBruijn64tab), ("internal/strconv.uint64pow10", laid_internal_strconv_uint64pow10)] }
def BankWavesSaid : Prop := bankWavesRow.holds Tryz.pinned (OpenSpec.ofChange bankWavesSpec)

/-- ITS FALSE NEIGHBOUR: 'it returns false'. Refute it at one input. -/
def bankWavesWrong : ChangeSpec := { name := "bankWaves", fn := fun _ => fun
  | [d1, d2] => { results := [.lit (.bool false)], args := [d1, d2] }
  | _ => none }
def BankWavesWrongFalsely : Prop := bankWavesRow.holds Tryz.pinned (OpenSpec.ofChange bankWavesWrong)

/-- 'ringdownlaw07.BankMatch': WHATEVER THE INPUT: true; the input reads as it did. -/
def bankMatchSpec : ChangeSpec := { name := "bankMatch", fn := fun _ => fun
  | [d] => { results := [.lit (.bool true)], args := [d] }
  | _ => none }
def bankMatchRow : OpenClaim := { program := "ytbjhjbjjfbmoeaagreatdoor", sum := "a7737dc4ab610689187917023f345862a87c0554cf9667c97b21ffe86bd3c391", func := "ringdown/ringdownlaw07.BankMatch", spec := "bankMatch", inPlace := ["internal/abi.NoEscape", "internal/bytealg.MakeNoZero", "internal/bytealg.IndexByteString", "internal/bytealg.IndexString"], unfollowed := true, recurses := true, named := ["internal/strconv.uint64pow10", "math/bits.deBruijn32tab", "math/bits.deBruijn64tab", "internal/bytealg.MaxLen"], apart := false, laid := [("math/bits.deBruijn32tab", laid_math_bits_deBruijn32tab), ("math/bits.deBruijn64tab", laid_math_bits_deBruijn64tab), ("internal/strconv.uint64pow10", laid_internal_strconv_uint64pow10)] }
def BankMatchSaid : Prop := bankMatchRow.holds Tryz.pinned (OpenSpec.ofChange bankMatchSpec)

/-- ITS FALSE NEIGHBOUR: 'it returns false'. Refute it at one input. -/
def bankMatchWrong : ChangeSpec := { name := "bankMatch", fn := fun _ => fun
  | [d] => { results := [.lit (.bool false)], args := [d] }
  | _ => none }
def BankMatchWrongFalsely : Prop := bankMatchRow.holds Tryz.pinned (OpenSpec.ofChange bankMatchWrong)

/-- 'ringdownlaw07.BankExact': WHATEVER THE INPUT: true; the input reads as it did. -/
def bankExactSpec : ChangeSpec := { name := "bankExact", fn := fun _ => fun
  | [d1, d2, d3] => { results := [.lit (.bool true)], args := [d1, d2, d3] }
  | _ => none }
def bankExactRow : OpenClaim := { program := "ytbjhjbjjfbmoeaagreatdoor", sum := "a7737dc4ab610689187917023f345862a87c0554cf9667c97b21ffe86bd3c391", func := "ringdown/ringdownlaw07.BankExact", spec := "bankExact", inPlace := ["internal/abi.NoEscape", "internal/bytealg.MakeNoZero", "internal/bytealg.IndexByteString", "internal/bytealg.IndexString"], unfollowed := true, recurses := true, named := ["internal/strconv.uint64pow10", "math/bits.deBruijn32tab", "math/bits.deBruijn64tab", "internal/bytealg.MaxLen"], apart := false, laid := [("math/bits.deBruijn32tab", laid_math_bits_deBruijn32tab), ("math/bits.deBruijn64tab", laid_math_bits_deBruijn64tab), ("internal/strconv.uint64pow10", laid_internal_strconv_uint64pow10)] }
def BankExactSaid : Prop := bankExactRow.holds Tryz.pinned (OpenSpec.ofChange bankExactSpec)

/-- ITS FALSE NEIGHBOUR: 'it returns false'. Refute it at one input. -/
def bankExactWrong : ChangeSpec := { name := "bankExact", fn := fun _ => fun
  | [d1, d2, d3] => { results := [.lit (.bool false)], args := [d1, d2, d3] }
  | _ => none }
def BankExactWrongFalsely : Prop := bankExactRow.holds Tryz.pinned (OpenSpec.ofChange bankExactWrong)

/-- 'ringdownlaw07.BankMisfits': WHATEVER THE INPUT: true; the input reads as it did. -/
def bankMisfitsSpec : ChangeSpec := { name := "bankMisfits", fn := fun _ => fun
  | [d1, d2, d3] => { results := [.lit (.bool true)], args := [d1, d2, d3] }
  | _ => none }
def bankMisfitsRow : OpenClaim := { program := "ytbjhjbjjfbmoeaagreatdoor", sum := "a7737dc4ab610689187917023f345862a87c0554cf9667c97b21ffe86bd3c391", func := "ringdown/ringdownlaw07.BankMisfits", spec := "bankMisfits", inPlace := ["internal/abi.NoEscape", "internal/bytealg.MakeNoZero", "internal/bytealg.IndexByteString", "internal/bytealg.IndexString"], unfollowed := true, recurses := true, named := ["internal/strconv.uint64pow10", "math/bits.deBruijn32tab", "math/bits.deBruijn64tab", "internal/bytealg.MaxLen"], apart := false, laid := [("math/bits.deBruijn32tab", laid_math_bits_deBruijn32tab), ("math/bits.deBruijn64tab", laid_math_bits_deBruijn64tab), ("internal/strconv.uint64pow10", laid_internal_strconv_uint64pow10)] }
def BankMisfitsSaid : Prop := bankMisfitsRow.holds Tryz.pinned (OpenSpec.ofChange bankMisfitsSpec)

/-- ITS FALSE NEIGHBOUR: 'it returns false'. Refute it at one input. -/
def bankMisfitsWrong : ChangeSpec := { name := "bankMisfits", fn := fun _ => fun
  | [d1, d2, d3] => { results := [.lit (.bool false)], args := [d1, d2, d3] }
  | _ => none }
def BankMisfitsWrongFalsely : Prop := bankMisfitsRow.holds Tryz.pinned (OpenSpec.ofChange bankMisfitsWrong)

/-- 'ringdowntop.TopPieces': WHATEVER THE INPUT: true; the input reads as it did. -/
def topPiecesSpec : ChangeSpec := { name := "topPieces", fn := fun _ => fun
  | [d1, d2] => { results := [.lit (.bool true)], args := [d1, d2] }
  | _ => none }
def topPiecesRow : OpenClaim := { program := "ytbjhjbjjfbmoeaagreatdoor", sum := "a7737dc4ab610689187917023f345862a87c0554cf9667c97b21ffe86bd3c391", func := "ringdown/ringdowntop.TopPieces", spec := "topPieces", inPlace := ["internal/abi.NoEscape", "internal/bytealg.MakeNoZero", "internal/bytealg.IndexByteString", "internal/bytealg.IndexString"], unfollowed := true, recurses := true, named := ["internal/strconv.uint64pow10", "math/bits.deBruijn32tab", "math/bits.deBruijn64tab", "internal/bytealg.MaxLen"], apart := false, laid := [("math/bits.deBruijn32tab", laid_math_bits_deBruijn32tab), ("math/bits.deBruijn64tab", laid_math_bits_deBruijn64tab), ("internal/strconv.uint64pow10", laid_internal_strconv_uint64pow10)] }
def TopPiecesSaid : Prop := topPiecesRow.holds Tryz.pinned (OpenSpec.ofChange topPiecesSpec)

/-- ITS FALSE NEIGHBOUR: 'it returns false'. Refute it at one input. -/
def topPiecesWrong : ChangeSpec := { name := "topPieces", fn := fun _ => fun
  | [d1, d2] => { results := [.lit (.bool false)], args := [d1, d2] }
  | _ => none }
def TopPiecesWrongFalsely : Prop := topPiecesRow.holds Tryz.pinned (OpenSpec.ofChange topPiecesWrong)

/-- 'ringdownlaw07.BankBands': WHATEVER THE INPUT: true; the input reads as it did. -/
def bankBandsSpec : ChangeSpec := { name := "bankBands", fn := fun _ => fun
  | [d1, d2, d3] => { results := [.lit (.bool true)], args := [d1, d2, d3] }
  | _ => none }
def bankBandsRow : OpenClaim := { program := "ytbjhjbjjfbmoeaagreatdoor", sum := "a7737dc4ab610689187917023f345862a87c0554cf9667c97b21ffe86bd3c391", func := "ringdown/ringdownlaw07.BankBands", spec := "bankBands", inPlace := ["internal/abi.NoEscape", "internal/bytealg.MakeNoZero", "internal/bytealg.IndexByteString", "internal/bytealg.IndexString"], unfollowed := true, recurses := true, named := ["internal/strconv.uint64pow10", "math/bits.deBruijn32tab", "math/bits.deBruijn64tab", "internal/bytealg.MaxLen"], apart := false, laid := [("math/bits.deBruijn32tab", laid_math_bits_deBruijn32tab), ("math/bits.deBruijn64tab", laid_math_bits_deBruijn64tab), ("internal/strconv.uint64pow10", laid_internal_strconv_uint64pow10)] }
def BankBandsSaid : Prop := bankBandsRow.holds Tryz.pinned (OpenSpec.ofChange bankBandsSpec)

/-- ITS FALSE NEIGHBOUR: 'it returns false'. Refute it at one input. -/
def bankBandsWrong : ChangeSpec := { name := "bankBands", fn := fun _ => fun
  | [d1, d2, d3] => { results := [.lit (.bool false)], args := [d1, d2, d3] }
  | _ => none }
def BankBandsWrongFalsely : Prop := bankBandsRow.holds Tryz.pinned (OpenSpec.ofChange bankBandsWrong)

/-- 'ringdowntop.TopBest': WHATEVER THE INPUT: true; the input reads as it did. -/
def topBestSpec : ChangeSpec := { name := "topBest", fn := fun _ => fun
  | [d] => { results := [.lit (.bool true)], args := [d] }
  | _ => none }
def topBestRow : OpenClaim := { program := "ytbjhjbjjfbmoeaagreatdoor", sum := "a7737dc4ab610689187917023f345862a87c0554cf9667c97b21ffe86bd3c391", func := "ringdown/ringdowntop.TopBest", spec := "topBest", inPlace := ["internal/abi.NoEscape", "internal/bytealg.MakeNoZero", "internal/bytealg.IndexByteString", "internal/bytealg.IndexString"], unfollowed := true, recurses := true, named := ["internal/strconv.uint64pow10", "math/bits.deBruijn32tab", "math/bits.deBruijn64tab", "internal/bytealg.MaxLen"], apart := false, laid := [("math/bits.deBruijn32tab", laid_math_bits_deBruijn32tab), ("math/bits.deBruijn64tab", laid_math_bits_deBruijn64tab), ("internal/strconv.uint64pow10", laid_internal_strconv_uint64pow10)] }
def TopBestSaid : Prop := topBestRow.holds Tryz.pinned (OpenSpec.ofChange topBestSpec)

/-- ITS FALSE NEIGHBOUR: 'it returns false'. Refute it at one input. -/
def topBestWrong : ChangeSpec := { name := "topBest", fn := fun _ => fun
  | [d] => { results := [.lit (.bool false)], args := [d] }
  | _ => none }
def TopBestWrongFalsely : Prop := topBestRow.holds Tryz.pinned (OpenSpec.ofChange topBestWrong)

/-- 'ringdownlaw07.BankProofs': WHATEVER THE INPUT: true; the input reads as it did. -/
def bankProofsSpec : ChangeSpec := { name := "bankProofs", fn := fun _ => fun
  | [d1, d2] => { results := [.lit (.bool true)], args := [d1, d2] }
  | _ => none }
def bankProofsRow : OpenClaim := { program := "ytbjhjbjjfbmoeaagreatdoor", sum := "a7737dc4ab610689187917023f345862a87c0554cf9667c97b21ffe86bd3c391", func := "ringdown/ringdownlaw07.BankProofs", spec := "bankProofs", inPlace := ["internal/bytealg.IndexByteString", "internal/bytealg.IndexString", "internal/abi.NoEscape", "internal/bytealg.MakeNoZero"], unfollowed := true, recurses := true, named := ["internal/bytealg.MaxLen", "internal/strconv.uint64pow10", "math/bits.deBruijn32tab", "math/bits.deBruijn64tab"], apart := false, laid := [("math/bits.deBruijn32tab", laid_math_bits_deBruijn32tab), ("math/bits.deBruijn64tab", laid_math_bits_deBruijn64tab), ("internal/strconv.uint64pow10", laid_internal_strconv_uint64pow10)] }
def BankProofsSaid : Prop := bankProofsRow.holds Tryz.pinned (OpenSpec.ofChange bankProofsSpec)

/-- ITS FALSE NEIGHBOUR: 'it returns false'. Refute it at one input. -/
def bankProofsWrong : ChangeSpec := { name := "bankProofs", fn := fun _ => fun
  | [d1, d2] => { results := [.lit (.bool false)], args := [d1, d2] }
  | _ => none }
def BankProofsWrongFalsely : Prop := bankProofsRow.holds Tryz.pinned (OpenSpec.ofChange bankProofsWrong)

/-- 'ringdownlaw07.BankPoints': WHATEVER THE INPUT: true; the input reads as it did. -/
def bankPointsSpec : ChangeSpec := { name := "bankPoints", fn := fun _ => fun
  | [d] => { results := [.lit (.bool true)], args := [d] }
  | _ => none }
def bankPointsRow : OpenClaim := { program := "ytbjhjbjjfbmoeaagreatdoor", sum := "a7737dc4ab610689187917023f345862a87c0554cf9667c97b21ffe86bd3c391", func := "ringdown/ringdownlaw07.BankPoints", spec := "bankPoints", inPlace := ["internal/bytealg.IndexByteString", "internal/bytealg.IndexString", "internal/abi.NoEscape", "internal/bytealg.MakeNoZero"], unfollowed := true, recurses := true, named := ["internal/bytealg.MaxLen", "internal/strconv.uint64pow10", "math/bits.deBruijn32tab", "math/bits.deBruijn64tab"], apart := false, laid := [("math/bits.deBruijn32tab", laid_math_bits_deBruijn32tab), ("math/bits.deBruijn64tab", laid_math_bits_deBruijn64tab), ("internal/strconv.uint64pow10", laid_internal_strconv_uint64pow10)] }
def BankPointsSaid : Prop := bankPointsRow.holds Tryz.pinned (OpenSpec.ofChange bankPointsSpec)

/-- ITS FALSE NEIGHBOUR: 'it returns false'. Refute it at one input. -/
def bankPointsWrong : ChangeSpec := { name := "bankPoints", fn := fun _ => fun
  | [d] => { results := [.lit (.bool false)], args := [d] }
  | _ => none }
def BankPointsWrongFalsely : Prop := bankPointsRow.holds Tryz.pinned (OpenSpec.ofChange bankPointsWrong)

/-- 'ringdownlaw07.BankFewer': WHATEVER THE INPUT: true; the input reads as it did. -/
def bankFewerSpec : ChangeSpec := { name := "bankFewer", fn := fun _ => fun
  | [d1, d2, d3] => { results := [.lit (.bool true)], args := [d1, d2, d3] }
  | _ => none }
def bankFewerRow : OpenClaim := { program := "ytbjhjbjjfbmoeaagreatdoor", sum := "a7737dc4ab610689187917023f345862a87c0554cf9667c97b21ffe86bd3c391", func := "ringdown/ringdownlaw07.BankFewer", spec := "bankFewer", inPlace := ["internal/bytealg.IndexByteString", "internal/bytealg.IndexString", "internal/abi.NoEscape", "internal/bytealg.MakeNoZero"], unfollowed := true, recurses := true, named := ["internal/bytealg.MaxLen", "internal/strconv.uint64pow10", "math/bits.deBruijn32tab", "math/bits.deBruijn64tab"], apart := false, laid := [("math/bits.deBruijn32tab", laid_math_bits_deBruijn32tab), ("math/bits.deBruijn64tab", laid_math_bits_deBruijn64tab), ("internal/strconv.uint64pow10", laid_internal_strconv_uint64pow10)] }
def BankFewerSaid : Prop := bankFewerRow.holds Tryz.pinned (OpenSpec.ofChange bankFewerSpec)

/-- ITS FALSE NEIGHBOUR: 'it returns false'. Refute it at one input. -/
def bankFewerWrong : ChangeSpec := { name := "bankFewer", fn := fun _ => fun
  | [d1, d2, d3] => { results := [.lit (.bool false)], args := [d1, d2, d3] }
  | _ => none }
def BankFewerWrongFalsely : Prop := bankFewerRow.holds Tryz.pinned (OpenSpec.ofChange bankFewerWrong)

/- THE SECOND FORM. 'bulk': how many values and letters a reading holds, each counted each time it is reached (what is shared counts as often as it is met; a slice's spare places count too). A statement '..UptoSaid' is the law's where the arguments, and the package variables that the reading takes, are together of bulk at most 1048576: NARROWER than '..Said'. Prove '..Said' where nothing that the law and all that it calls make is longer than what came in: it says more and counts as full. Else prove '..UptoSaid'. A law counts once. -/
mutual
def uptoBulk {H : Type} : DataW H → Nat
  | .lit (.string bytes) => bytes.length + 1
  | .lit _ => 1
  | .nil => 1
  | .ptr d => uptoBulk d + 1
  | .slice elems spare => uptoBulkAll elems + uptoBulkAll spare + 1
  | .agg parts => uptoBulkAll parts + 1
  | .iface _ d => uptoBulk d + 1
  | .map entries => uptoBulkEntries entries + 1
  | .held _ => 1
def uptoBulkAll {H : Type} : List (DataW H) → Nat
  | [] => 0
  | d :: r => uptoBulk d + uptoBulkAll r
def uptoBulkEntries {H : Type} : List (Lit × DataW H) → Nat
  | [] => 0
  | x :: r => uptoBulkEntry x + uptoBulkEntries r
def uptoBulkEntry {H : Type} : Lit × DataW H → Nat
  | (.string bytes, d) => bytes.length + uptoBulk d + 1
  | (_, d) => uptoBulk d + 1
 end
def uptoSmall : (H : Type) → List (DataW H) → Bool := fun _ ds => decide (uptoBulkAll ds ≤ 1048576)
def OpenSpec.upto (s : _root_.Go.ChangeSpec) : _root_.Go.OpenSpec := { _root_.Go.OpenSpec.ofChange s with cond := some uptoSmall }

/-- 'ringdownlaw07.BankLinear', WHERE WHAT IT READS IS OF BULK AT MOST 1048576: true; the input reads as it did. -/
def bankLinearUptoRow : OpenClaim := { program := "ytbjhjbjjfbmoeaagreatdoor", sum := "a7737dc4ab610689187917023f345862a87c0554cf9667c97b21ffe86bd3c391", func := "ringdown/ringdownlaw07.BankLinear", spec := "bankLinear", inPlace := ["internal/abi.NoEscape", "internal/bytealg.MakeNoZero", "internal/bytealg.IndexByteString", "internal/bytealg.IndexString"], unfollowed := true, recurses := true, named := ["internal/strconv.uint64pow10", "math/bits.deBruijn32tab", "math/bits.deBruijn64tab", "internal/bytealg.MaxLen"], apart := false, laid := [("math/bits.deBruijn32tab", laid_math_bits_deBruijn32tab), ("math/bits.deBruijn64tab", laid_math_bits_deBruijn64tab), ("internal/strconv.uint64pow10", laid_internal_strconv_uint64pow10)], narrowed := true }
def BankLinearUptoSaid : Prop := bankLinearUptoRow.holds Tryz.pinned (OpenSpec.upto bankLinearSpec)

/-- 'ringdownlaw07.BankWaves', WHERE WHAT IT READS IS OF BULK AT MOST 1048576: true; the input reads as it did. -/
def bankWavesUptoRow : OpenClaim := { program := "ytbjhjbjjfbmoeaagreatdoor", sum := "a7737dc4ab610689187917023f345862a87c0554cf9667c97b21ffe86bd3c391", func := "ringdown/ringdownlaw07.BankWaves", spec := "bankWaves", inPlace := ["internal/abi.NoEscape", "internal/bytealg.MakeNoZero", "internal/bytealg.IndexByteString", "internal/bytealg.IndexString"], unfollowed := true, recurses := true, named := ["internal/strconv.uint64pow10", "math/bits.deBruijn32tab", "math/bits.deBruijn64tab", "internal/bytealg.MaxLen"], apart := false, laid := [("math/bits.deBruijn32tab", laid_math_bits_deBruijn32tab), ("math/bits.deBruijn64tab", laid_math_bits_deBruijn64tab), ("internal/strconv.uint64pow10", laid_internal_strconv_uint64pow10)], narrowed := true }
def BankWavesUptoSaid : Prop := bankWavesUptoRow.holds Tryz.pinned (OpenSpec.upto bankWavesSpec)

/-- 'ringdownlaw07.BankMatch', WHERE WHAT IT READS IS OF BULK AT MOST 1048576: true; the input reads as it did. -/
def bankMatchUptoRow : OpenClaim := { program := "ytbjhjbjjfbmoeaagreatdoor", sum := "a7737dc4ab610689187917023f345862a87c0554cf9667c97b21ffe86bd3c391", func := "ringdown/ringdownlaw07.BankMatch", spec := "bankMatch", inPlace := ["internal/abi.NoEscape", "internal/bytealg.MakeNoZero", "internal/bytealg.IndexByteString", "internal/bytealg.IndexString"], unfollowed := true, recurses := true, named := ["internal/strconv.uint64pow10", "math/bits.deBruijn32tab", "math/bits.deBruijn64tab", "internal/bytealg.MaxLen"], apart := false, laid := [("math/bits.deBruijn32tab", laid_math_bits_deBruijn32tab), ("math/bits.deBruijn64tab", laid_math_bits_deBruijn64tab), ("internal/strconv.uint64pow10", laid_internal_strconv_uint64pow10)], narrowed := true }
def BankMatchUptoSaid : Prop := bankMatchUptoRow.holds Tryz.pinned (OpenSpec.upto bankMatchSpec)

/-- 'ringdownlaw07.BankExact', WHERE WHAT IT READS IS OF BULK AT MOST 1048576: true; the input reads as it did. -/
def bankExactUptoRow : OpenClaim := { program := "ytbjhjbjjfbmoeaagreatdoor", sum := "a7737dc4ab610689187917023f345862a87c0554cf9667c97b21ffe86bd3c391", func := "ringdown/ringdownlaw07.BankExact", spec := "bankExact", inPlace := ["internal/abi.NoEscape", "internal/bytealg.MakeNoZero", "internal/bytealg.IndexByteString", "internal/bytealg.IndexString"], unfollowed := true, recurses := true, named := ["internal/strconv.uint64pow10", "math/bits.deBruijn32tab", "math/bits.deBruijn64tab", "internal/bytealg.MaxLen"], apart := false, laid := [("math/bits.deBruijn32tab", laid_math_bits_deBruijn32tab), ("math/bits.deBruijn64tab", laid_math_bits_deBruijn64tab), ("internal/strconv.uint64pow10", laid_internal_strconv_uint64pow10)], narrowed := true }
def BankExactUptoSaid : Prop := bankExactUptoRow.holds Tryz.pinned (OpenSpec.upto bankExactSpec)

/-- 'ringdownlaw07.BankMisfits', WHERE WHAT IT READS IS OF BULK AT MOST 1048576: true; the input reads as it did. -/
def bankMisfitsUptoRow : OpenClaim := { program := "ytbjhjbjjfbmoeaagreatdoor", sum := "a7737dc4ab610689187917023f345862a87c0554cf9667c97b21ffe86bd3c391", func := "ringdown/ringdownlaw07.BankMisfits", spec := "bankMisfits", inPlace := ["internal/abi.NoEscape", "internal/bytealg.MakeNoZero", "internal/bytealg.IndexByteString", "internal/bytealg.IndexString"], unfollowed := true, recurses := true, named := ["internal/strconv.uint64pow10", "math/bits.deBruijn32tab", "math/bits.deBruijn64tab", "internal/bytealg.MaxLen"], apart := false, laid := [("math/bits.deBruijn32tab", laid_math_bits_deBruijn32tab), ("math/bits.deBruijn64tab", laid_math_bits_deBruijn64tab), ("internal/strconv.uint64pow10", laid_internal_strconv_uint64pow10)], narrowed := true }
def BankMisfitsUptoSaid : Prop := bankMisfitsUptoRow.holds Tryz.pinned (OpenSpec.upto bankMisfitsSpec)

/-- 'ringdowntop.TopPieces', WHERE WHAT IT READS IS OF BULK AT MOST 1048576: true; the input reads as it did. -/
def topPiecesUptoRow : OpenClaim := { program := "ytbjhjbjjfbmoeaagreatdoor", sum := "a7737dc4ab610689187917023f345862a87c0554cf9667c97b21ffe86bd3c391", func := "ringdown/ringdowntop.TopPieces", spec := "topPieces", inPlace := ["internal/abi.NoEscape", "internal/bytealg.MakeNoZero", "internal/bytealg.IndexByteString", "internal/bytealg.IndexString"], unfollowed := true, recurses := true, named := ["internal/strconv.uint64pow10", "math/bits.deBruijn32tab", "math/bits.deBruijn64tab", "internal/bytealg.MaxLen"], apart := false, laid := [("math/bits.deBruijn32tab", laid_math_bits_deBruijn32tab), ("math/bits.deBruijn64tab", laid_math_bits_deBruijn64tab), ("internal/strconv.uint64pow10", laid_internal_strconv_uint64pow10)], narrowed := true }
def TopPiecesUptoSaid : Prop := topPiecesUptoRow.holds Tryz.pinned (OpenSpec.upto topPiecesSpec)

/-- 'ringdownlaw07.BankBands', WHERE WHAT IT READS IS OF BULK AT MOST 1048576: true; the input reads as it did. -/
def bankBandsUptoRow : OpenClaim := { program := "ytbjhjbjjfbmoeaagreatdoor", sum := "a7737dc4ab610689187917023f345862a87c0554cf9667c97b21ffe86bd3c391", func := "ringdown/ringdownlaw07.BankBands", spec := "bankBands", inPlace := ["internal/abi.NoEscape", "internal/bytealg.MakeNoZero", "internal/bytealg.IndexByteString", "internal/bytealg.IndexString"], unfollowed := true, recurses := true, named := ["internal/strconv.uint64pow10", "math/bits.deBruijn32tab", "math/bits.deBruijn64tab", "internal/bytealg.MaxLen"], apart := false, laid := [("math/bits.deBruijn32tab", laid_math_bits_deBruijn32tab), ("math/bits.deBruijn64tab", laid_math_bits_deBruijn64tab), ("internal/strconv.uint64pow10", laid_internal_strconv_uint64pow10)], narrowed := true }
def BankBandsUptoSaid : Prop := bankBandsUptoRow.holds Tryz.pinned (OpenSpec.upto bankBandsSpec)

/-- 'ringdowntop.TopBest', WHERE WHAT IT READS IS OF BULK AT MOST 1048576: true; the input reads as it did. -/
def topBestUptoRow : OpenClaim := { program := "ytbjhjbjjfbmoeaagreatdoor", sum := "a7737dc4ab610689187917023f345862a87c0554cf9667c97b21ffe86bd3c391", func := "ringdown/ringdowntop.TopBest", spec := "topBest", inPlace := ["internal/abi.NoEscape", "internal/bytealg.MakeNoZero", "internal/bytealg.IndexByteString", "internal/bytealg.IndexString"], unfollowed := true, recurses := true, named := ["internal/strconv.uint64pow10", "math/bits.deBruijn32tab", "math/bits.deBruijn64tab", "internal/bytealg.MaxLen"], apart := false, laid := [("math/bits.deBruijn32tab", laid_math_bits_deBruijn32tab), ("math/bits.deBruijn64tab", laid_math_bits_deBruijn64tab), ("internal/strconv.uint64pow10", laid_internal_strconv_uint64pow10)], narrowed := true }
def TopBestUptoSaid : Prop := topBestUptoRow.holds Tryz.pinned (OpenSpec.upto topBestSpec)

/-- 'ringdownlaw07.BankProofs', WHERE WHAT IT READS IS OF BULK AT MOST 1048576: true; the input reads as it did. -/
def bankProofsUptoRow : OpenClaim := { program := "ytbjhjbjjfbmoeaagreatdoor", sum := "a7737dc4ab610689187917023f345862a87c0554cf9667c97b21ffe86bd3c391", func := "ringdown/ringdownlaw07.BankProofs", spec := "bankProofs", inPlace := ["internal/bytealg.IndexByteString", "internal/bytealg.IndexString", "internal/abi.NoEscape", "internal/bytealg.MakeNoZero"], unfollowed := true, recurses := true, named := ["internal/bytealg.MaxLen", "internal/strconv.uint64pow10", "math/bits.deBruijn32tab", "math/bits.deBruijn64tab"], apart := false, laid := [("math/bits.deBruijn32tab", laid_math_bits_deBruijn32tab), ("math/bits.deBruijn64tab", laid_math_bits_deBruijn64tab), ("internal/strconv.uint64pow10", laid_internal_strconv_uint64pow10)], narrowed := true }
def BankProofsUptoSaid : Prop := bankProofsUptoRow.holds Tryz.pinned (OpenSpec.upto bankProofsSpec)

/-- 'ringdownlaw07.BankPoints', WHERE WHAT IT READS IS OF BULK AT MOST 1048576: true; the input reads as it did. -/
def bankPointsUptoRow : OpenClaim := { program := "ytbjhjbjjfbmoeaagreatdoor", sum := "a7737dc4ab610689187917023f345862a87c0554cf9667c97b21ffe86bd3c391", func := "ringdown/ringdownlaw07.BankPoints", spec := "bankPoints", inPlace := ["internal/bytealg.IndexByteString", "internal/bytealg.IndexString", "internal/abi.NoEscape", "internal/bytealg.MakeNoZero"], unfollowed := true, recurses := true, named := ["internal/bytealg.MaxLen", "internal/strconv.uint64pow10", "math/bits.deBruijn32tab", "math/bits.deBruijn64tab"], apart := false, laid := [("math/bits.deBruijn32tab", laid_math_bits_deBruijn32tab), ("math/bits.deBruijn64tab", laid_math_bits_deBruijn64tab), ("internal/strconv.uint64pow10", laid_internal_strconv_uint64pow10)], narrowed := true }
def BankPointsUptoSaid : Prop := bankPointsUptoRow.holds Tryz.pinned (OpenSpec.upto bankPointsSpec)

/-- 'ringdownlaw07.BankFewer', WHERE WHAT IT READS IS OF BULK AT MOST 1048576: true; the input reads as it did. -/
def bankFewerUptoRow : OpenClaim := { program := "ytbjhjbjjfbmoeaagreatdoor", sum := "a7737dc4ab610689187917023f345862a87c0554cf9667c97b21ffe86bd3c391", func := "ringdown/ringdownlaw07.BankFewer", spec := "bankFewer", inPlace := ["internal/bytealg.IndexByteString", "internal/bytealg.IndexString", "internal/abi.NoEscape", "internal/bytealg.MakeNoZero"], unfollowed := true, recurses := true, named := ["internal/bytealg.MaxLen", "internal/strconv.uint64pow10", "math/bits.deBruijn32tab", "math/bits.deBruijn64tab"], apart := false, laid := [("math/bits.deBruijn32tab", laid_math_bits_deBruijn32tab), ("math/bits.deBruijn64tab", laid_math_bits_deBruijn64tab), ("internal/strconv.uint64pow10", laid_internal_strconv_uint64pow10)], narrowed := true }
def BankFewerUptoSaid : Prop := bankFewerUptoRow.holds Tryz.pinned (OpenSpec.upto bankFewerSpec)

end Rows
end Go.Proofs.YtbjhjbjjfbmoeaaGreatDoor
