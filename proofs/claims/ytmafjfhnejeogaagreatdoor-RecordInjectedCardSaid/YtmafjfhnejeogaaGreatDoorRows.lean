/-
  NARROWER THAN 'FOR EVERY INPUT', by the rows' own cells (each row's printed sentence says how): RecordLines: laid · BankLinear: laid · BankWaves: laid · BankMatch: laid · BankExact: laid · BankMisfits: laid · RecordInjected: laid · RecordKept: laid.
  DERIVED. THE GIVEN ROWS OF THIS SEAT. 8 by the template 'for every input the law returns true; each argument reads behind the call as it read before'; 0 by the template 'total and deterministic' (their statements: YtmafjfhnejeogaaGreatDoorTotals.lean).
  GIVEN WITH THE SEED: the statements are not yours to turn. If you find one false, say at which input.
  Laid BY PROGRAM, IN A SANDBOX (cutbox-rows.mjs): the forced cells as the released guide's own fill.sh prints them over the translation a661a9afd58d7d80… (all of the seat's roots in one cut). By AI agents, Wed Nov 11 2026. No macro, syntax, notation, axiom, sorry.
-/
import Derived.Test.YtmafjfhnejeogaaGreatDoorChecked
import GoSem.Claim
import GoSem.ClaimJoined
import GoSem.ClaimMapViews
import Derived.JoinedTies
import Derived.KernelRfl
namespace Go.Proofs.YtmafjfhnejeogaaGreatDoor
/- THE CELL 'sum', in the pinned program and in every row, IS THE sha256 OF THE DUMP (.gsa) THAT YtmafjfhnejeogaaGreatDoorProg.lean LOADS. Nothing in Lean hashes anything: it is a label: what it is worth is what the hold of that sum in a sandbox is worth. -/
noncomputable def Tryz.pinned : Pinned := { name := "ytmafjfhnejeogaagreatdoor", sum := "a661a9afd58d7d80af68fa77f92345f3e4d536b40f68bc2b5dd53d0059faf6cf", checked := Tryz.checked }
namespace Rows
def none {H : Type} : Left H := { results := [], args := [] }

/- WHAT THE LISTED PACKAGE-LEVEL VARIABLES READ AS WHEN THE CALL BEGINS. Each datum BY PROGRAM (the guide's laid-datum.mjs) off the statement by which the dump's own 'gosem.cut.vars' lays the variable. In a bare row this is a premise. The card (YtmafjfhnejeogaaGreatDoorCards.lean) ties it to the program's text. -/
def laid_math_bits_deBruijn32tab {H : Type} : DataW H := .agg [.lit (.int .u8 0), .lit (.int .u8 1), .lit (.int .u8 28), .lit (.int .u8 2), .lit (.int .u8 29), .lit (.int .u8 14), .lit (.int .u8 24), .lit (.int .u8 3), .lit (.int .u8 30), .lit (.int .u8 22), .lit (.int .u8 20), .lit (.int .u8 15), .lit (.int .u8 25), .lit (.int .u8 17), .lit (.int .u8 4), .lit (.int .u8 8), .lit (.int .u8 31), .lit (.int .u8 27), .lit (.int .u8 13), .lit (.int .u8 23), .lit (.int .u8 21), .lit (.int .u8 19), .lit (.int .u8 16), .lit (.int .u8 7), .lit (.int .u8 26), .lit (.int .u8 12), .lit (.int .u8 18), .lit (.int .u8 6), .lit (.int .u8 11), .lit (.int .u8 5), .lit (.int .u8 10), .lit (.int .u8 9)]
def laid_math_bits_deBruijn64tab {H : Type} : DataW H := .agg [.lit (.int .u8 0), .lit (.int .u8 1), .lit (.int .u8 56), .lit (.int .u8 2), .lit (.int .u8 57), .lit (.int .u8 49), .lit (.int .u8 28), .lit (.int .u8 3), .lit (.int .u8 61), .lit (.int .u8 58), .lit (.int .u8 42), .lit (.int .u8 50), .lit (.int .u8 38), .lit (.int .u8 29), .lit (.int .u8 17), .lit (.int .u8 4), .lit (.int .u8 62), .lit (.int .u8 47), .lit (.int .u8 59), .lit (.int .u8 36), .lit (.int .u8 45), .lit (.int .u8 43), .lit (.int .u8 51), .lit (.int .u8 22), .lit (.int .u8 53), .lit (.int .u8 39), .lit (.int .u8 33), .lit (.int .u8 30), .lit (.int .u8 24), .lit (.int .u8 18), .lit (.int .u8 12), .lit (.int .u8 5), .lit (.int .u8 63), .lit (.int .u8 55), .lit (.int .u8 48), .lit (.int .u8 27), .lit (.int .u8 60), .lit (.int .u8 41), .lit (.int .u8 37), .lit (.int .u8 16), .lit (.int .u8 46), .lit (.int .u8 35), .lit (.int .u8 44), .lit (.int .u8 21), .lit (.int .u8 52), .lit (.int .u8 32), .lit (.int .u8 23), .lit (.int .u8 11), .lit (.int .u8 54), .lit (.int .u8 26), .lit (.int .u8 40), .lit (.int .u8 15), .lit (.int .u8 34), .lit (.int .u8 20), .lit (.int .u8 31), .lit (.int .u8 10), .lit (.int .u8 25), .lit (.int .u8 14), .lit (.int .u8 19), .lit (.int .u8 9), .lit (.int .u8 13), .lit (.int .u8 8), .lit (.int .u8 7), .lit (.int .u8 6)]
def laid_internal_strconv_uint64pow10 {H : Type} : DataW H := .agg [.lit (.int .u64 1), .lit (.int .u64 10), .lit (.int .u64 100), .lit (.int .u64 1000), .lit (.int .u64 10000), .lit (.int .u64 100000), .lit (.int .u64 1000000), .lit (.int .u64 10000000), .lit (.int .u64 100000000), .lit (.int .u64 1000000000), .lit (.int .u64 10000000000), .lit (.int .u64 100000000000), .lit (.int .u64 1000000000000), .lit (.int .u64 10000000000000), .lit (.int .u64 100000000000000), .lit (.int .u64 1000000000000000), .lit (.int .u64 10000000000000000), .lit (.int .u64 100000000000000000), .lit (.int .u64 1000000000000000000), .lit (.int .u64 10000000000000000000)]

/-- 'ringdownlaw05.RecordLines': WHATEVER THE INPUT: true; the input reads as it did. -/
def recordLinesSpec : ChangeSpec := { name := "recordLines", fn := fun _ => fun
  | [d1, d2, d3] => { results := [.lit (.bool true)], args := [d1, d2, d3] }
  | _ => none }
def recordLinesRow : OpenClaim := { program := "ytmafjfhnejeogaagreatdoor", sum := "a661a9afd58d7d80af68fa77f92345f3e4d536b40f68bc2b5dd53d0059faf6cf", func := "ringdown/ringdownlaw05.RecordLines", spec := "recordLines", inPlace := ["internal/abi.NoEscape", "internal/bytealg.MakeNoZero"], unfollowed := true, recurses := true, named := ["internal/strconv.uint64pow10", "math/bits.deBruijn32tab", "math/bits.deBruijn64tab"], apart := false, laid := [("math/bits.deBruijn32tab", laid_math_bits_deBruijn32tab), ("math/bits.deBruijn64tab", laid_math_bits_deBruijn64tab), ("internal/strconv.uint64pow10", laid_internal_strconv_uint64pow10)] }
def RecordLinesSaid : Prop := recordLinesRow.holds Tryz.pinned (OpenSpec.ofChange recordLinesSpec)

/-- ITS FALSE NEIGHBOUR: 'it returns false'. Refute it at one input. -/
def recordLinesWrong : ChangeSpec := { name := "recordLines", fn := fun _ => fun
  | [d1, d2, d3] => { results := [.lit (.bool false)], args := [d1, d2, d3] }
  | _ => none }
def RecordLinesWrongFalsely : Prop := recordLinesRow.holds Tryz.pinned (OpenSpec.ofChange recordLinesWrong)

/-- 'ringdownlaw07.BankLinear': WHATEVER THE INPUT: true; the input reads as it did. -/
def bankLinearSpec : ChangeSpec := { name := "bankLinear", fn := fun _ => fun
  | [d1, d2, d3] => { results := [.lit (.bool true)], args := [d1, d2, d3] }
  | _ => none }
def bankLinearRow : OpenClaim := { program := "ytmafjfhnejeogaagreatdoor", sum := "a661a9afd58d7d80af68fa77f92345f3e4d536b40f68bc2b5dd53d0059faf6cf", func := "ringdown/ringdownlaw07.BankLinear", spec := "bankLinear", inPlace := ["internal/abi.NoEscape", "internal/bytealg.MakeNoZero", "internal/bytealg.IndexByteString", "internal/bytealg.IndexString"], unfollowed := true, recurses := true, named := ["internal/strconv.uint64pow10", "math/bits.deBruijn32tab", "math/bits.deBruijn64tab", "internal/bytealg.MaxLen"], apart := false, laid := [("math/bits.deBruijn32tab", laid_math_bits_deBruijn32tab), ("math/bits.deBruijn64tab", laid_math_bits_deBruijn64tab), ("internal/strconv.uint64pow10", laid_internal_strconv_uint64pow10)] }
def BankLinearSaid : Prop := bankLinearRow.holds Tryz.pinned (OpenSpec.ofChange bankLinearSpec)

/-- ITS FALSE NEIGHBOUR: 'it returns false'. Refute it at one input. -/
def bankLinearWrong : ChangeSpec := { name := "bankLinear", fn := fun _ => fun
  | [d1, d2, d3] => { results := [.lit (.bool false)], args := [d1, d2, d3] }
  | _ => none }
def BankLinearWrongFalsely : Prop := bankLinearRow.holds Tryz.pinned (OpenSpec.ofChange bankLinearWrong)

/-- 'ringdownlaw07.BankWaves': WHATEVER THE INPUT: true; the input reads as it did. -/
def bankWavesSpec : ChangeSpec := { name := "bankWaves", fn := fun _ => fun
  | [d1, d2] => { results := [.lit (.bool true)], args := [d1, d2] }
  | _ => none }
def bankWavesRow : OpenClaim := { program := "ytmafjfhnejeogaagreatdoor", sum := "a661a9afd58d7d80af68fa77f92345f3e4d536b40f68bc2b5dd53d0059faf6cf", func := "ringdown/ringdownlaw07.BankWaves", spec := "bankWaves", inPlace := ["internal/abi.NoEscape", "internal/bytealg.MakeNoZero", "internal/bytealg.IndexByteString", "internal/bytealg.IndexString"], unfollowed := true, recurses := true, named := ["internal/strconv.uint64pow10", "math/bits.deBruijn32tab", "math/bits.deBruijn64tab", "internal/bytealg.MaxLen"], apart := false, laid := [("math/bits.deBruijn32tab", laid_math_bits_deBruijn32tab), ("math/bits.deBruijn64tab", laid_math_bits_deBruijn64tab), ("internal/strconv.uint64pow10", laid_internal_strconv_uint64pow10)] }
def BankWavesSaid : Prop := bankWavesRow.holds Tryz.pinned (OpenSpec.ofChange bankWavesSpec)

/-- ITS FALSE NEIGHBOUR: 'it returns false'. Refute it at one input. -/
def bankWavesWrong : ChangeSpec := { name := "bankWaves", fn := fun _ => fun
  | [d1, d2] => { results := [.lit (.bool false)], args := [d1, d2] }
  | _ => none }
def BankWavesWrongFalsely : Prop := bankWavesRow.holds Tryz.pinned (OpenSpec.ofChange bankWavesWrong)

/-- 'ringdownlaw07.BankMatch': WHATEVER THE INPUT: true; the input reads as it did. -/
def bankMatchSpec : ChangeSpec := { name := "bankMatch", fn := fun _ => fun
  | [d] => { results := [.lit (.bool true)], args := [d] }
  | _ => none }
def bankMatchRow : OpenClaim := { program := "ytmafjfhnejeogaagreatdoor", sum := "a661a9afd58d7d80af68fa77f92345f3e4d536b40f68bc2b5dd53d0059faf6cf", func := "ringdown/ringdownlaw07.BankMatch", spec := "bankMatch", inPlace := ["internal/abi.NoEscape", "internal/bytealg.MakeNoZero", "internal/bytealg.IndexByteString", "internal/bytealg.IndexString"], unfollowed := true, recurses := true, named := ["internal/strconv.uint64pow10", "math/bits.deBruijn32tab", "math/bits.deBruijn64tab", "internal/bytealg.MaxLen"], apart := false, laid := [("math/bits.deBruijn32tab", laid_math_bits_deBruijn32tab), ("math/bits.deBruijn64tab", laid_math_bits_deBruijn64tab), ("internal/strconv.uint64pow10", laid_internal_strconv_uint64pow10)] }
def BankMatchSaid : Prop := bankMatchRow.holds Tryz.pinned (OpenSpec.ofChange bankMatchSpec)

/-- ITS FALSE NEIGHBOUR: 'it returns false'. Refute it at one input. -/
def bankMatchWrong : ChangeSpec := { name := "bankMatch", fn := fun _ => fun
  | [d] => { results := [.lit (.bool false)], args := [d] }
  | _ => none }
def BankMatchWrongFalsely : Prop := bankMatchRow.holds Tryz.pinned (OpenSpec.ofChange bankMatchWrong)

/-- 'ringdownlaw07.BankExact': WHATEVER THE INPUT: true; the input reads as it did. -/
def bankExactSpec : ChangeSpec := { name := "bankExact", fn := fun _ => fun
  | [d1, d2, d3] => { results := [.lit (.bool true)], args := [d1, d2, d3] }
  | _ => none }
def bankExactRow : OpenClaim := { program := "ytmafjfhnejeogaagreatdoor", sum := "a661a9afd58d7d80af68fa77f92345f3e4d536b40f68bc2b5dd53d0059faf6cf", func := "ringdown/ringdownlaw07.BankExact", spec := "bankExact", inPlace := ["internal/abi.NoEscape", "internal/bytealg.MakeNoZero", "internal/bytealg.IndexByteString", "internal/bytealg.IndexString"], unfollowed := true, recurses := true, named := ["internal/strconv.uint64pow10", "math/bits.deBruijn32tab", "math/bits.deBruijn64tab", "internal/bytealg.MaxLen"], apart := false, laid := [("math/bits.deBruijn32tab", laid_math_bits_deBruijn32tab), ("math/bits.deBruijn64tab", laid_math_bits_deBruijn64tab), ("internal/strconv.uint64pow10", laid_internal_strconv_uint64pow10)] }
def BankExactSaid : Prop := bankExactRow.holds Tryz.pinned (OpenSpec.ofChange bankExactSpec)

/-- ITS FALSE NEIGHBOUR: 'it returns false'. Refute it at one input. -/
def bankExactWrong : ChangeSpec := { name := "bankExact", fn := fun _ => fun
  | [d1, d2, d3] => { results := [.lit (.bool false)], args := [d1, d2, d3] }
  | _ => none }
def BankExactWrongFalsely : Prop := bankExactRow.holds Tryz.pinned (OpenSpec.ofChange bankExactWrong)

/-- 'ringdownlaw07.BankMisfits': WHATEVER THE INPUT: true; the input reads as it did. -/
def bankMisfitsSpec : ChangeSpec := { name := "bankMisfits", fn := fun _ => fun
  | [d1, d2, d3] => { results := [.lit (.bool true)], args := [d1, d2, d3] }
  | _ => none }
def bankMisfitsRow : OpenClaim := { program := "ytmafjfhnejeogaagreatdoor", sum := "a661a9afd58d7d80af68fa77f92345f3e4d536b40f68bc2b5dd53d0059faf6cf", func := "ringdown/ringdownlaw07.BankMisfits", spec := "bankMisfits", inPlace := ["internal/abi.NoEscape", "internal/bytealg.MakeNoZero", "internal/bytealg.IndexByteString", "internal/bytealg.IndexString"], unfollowed := true, recurses := true, named := ["internal/strconv.uint64pow10", "math/bits.deBruijn32tab", "math/bits.deBruijn64tab", "internal/bytealg.MaxLen"], apart := false, laid := [("math/bits.deBruijn32tab", laid_math_bits_deBruijn32tab), ("math/bits.deBruijn64tab", laid_math_bits_deBruijn64tab), ("internal/strconv.uint64pow10", laid_internal_strconv_uint64pow10)] }
def BankMisfitsSaid : Prop := bankMisfitsRow.holds Tryz.pinned (OpenSpec.ofChange bankMisfitsSpec)

/-- ITS FALSE NEIGHBOUR: 'it returns false'. Refute it at one input. -/
def bankMisfitsWrong : ChangeSpec := { name := "bankMisfits", fn := fun _ => fun
  | [d1, d2, d3] => { results := [.lit (.bool false)], args := [d1, d2, d3] }
  | _ => none }
def BankMisfitsWrongFalsely : Prop := bankMisfitsRow.holds Tryz.pinned (OpenSpec.ofChange bankMisfitsWrong)

/-- 'ringdownlaw05.RecordInjected': WHATEVER THE INPUT: true; the input reads as it did. -/
def recordInjectedSpec : ChangeSpec := { name := "recordInjected", fn := fun _ => fun
  | [d1, d2, d3] => { results := [.lit (.bool true)], args := [d1, d2, d3] }
  | _ => none }
def recordInjectedRow : OpenClaim := { program := "ytmafjfhnejeogaagreatdoor", sum := "a661a9afd58d7d80af68fa77f92345f3e4d536b40f68bc2b5dd53d0059faf6cf", func := "ringdown/ringdownlaw05.RecordInjected", spec := "recordInjected", inPlace := ["internal/abi.NoEscape", "internal/bytealg.MakeNoZero", "internal/bytealg.IndexByteString", "internal/bytealg.IndexString"], unfollowed := true, recurses := true, named := ["internal/strconv.uint64pow10", "math/bits.deBruijn32tab", "math/bits.deBruijn64tab", "internal/bytealg.MaxLen"], apart := false, laid := [("math/bits.deBruijn32tab", laid_math_bits_deBruijn32tab), ("math/bits.deBruijn64tab", laid_math_bits_deBruijn64tab), ("internal/strconv.uint64pow10", laid_internal_strconv_uint64pow10)] }
def RecordInjectedSaid : Prop := recordInjectedRow.holds Tryz.pinned (OpenSpec.ofChange recordInjectedSpec)

/-- ITS FALSE NEIGHBOUR: 'it returns false'. Refute it at one input. -/
def recordInjectedWrong : ChangeSpec := { name := "recordInjected", fn := fun _ => fun
  | [d1, d2, d3] => { results := [.lit (.bool false)], args := [d1, d2, d3] }
  | _ => none }
def RecordInjectedWrongFalsely : Prop := recordInjectedRow.holds Tryz.pinned (OpenSpec.ofChange recordInjectedWrong)

/-- 'ringdownlaw05.RecordKept': WHATEVER THE INPUT: true; the input reads as it did. -/
def recordKeptSpec : ChangeSpec := { name := "recordKept", fn := fun _ => fun
  | [d1, d2, d3] => { results := [.lit (.bool true)], args := [d1, d2, d3] }
  | _ => none }
def recordKeptRow : OpenClaim := { program := "ytmafjfhnejeogaagreatdoor", sum := "a661a9afd58d7d80af68fa77f92345f3e4d536b40f68bc2b5dd53d0059faf6cf", func := "ringdown/ringdownlaw05.RecordKept", spec := "recordKept", inPlace := ["internal/bytealg.IndexByteString", "internal/bytealg.IndexString", "internal/abi.NoEscape", "internal/bytealg.MakeNoZero"], unfollowed := true, recurses := true, named := ["internal/bytealg.MaxLen", "internal/strconv.uint64pow10", "math/bits.deBruijn32tab", "math/bits.deBruijn64tab"], apart := false, laid := [("math/bits.deBruijn32tab", laid_math_bits_deBruijn32tab), ("math/bits.deBruijn64tab", laid_math_bits_deBruijn64tab), ("internal/strconv.uint64pow10", laid_internal_strconv_uint64pow10)] }
def RecordKeptSaid : Prop := recordKeptRow.holds Tryz.pinned (OpenSpec.ofChange recordKeptSpec)

/-- ITS FALSE NEIGHBOUR: 'it returns false'. Refute it at one input. -/
def recordKeptWrong : ChangeSpec := { name := "recordKept", fn := fun _ => fun
  | [d1, d2, d3] => { results := [.lit (.bool false)], args := [d1, d2, d3] }
  | _ => none }
def RecordKeptWrongFalsely : Prop := recordKeptRow.holds Tryz.pinned (OpenSpec.ofChange recordKeptWrong)

/- THE SECOND FORM. 'bulk': how many values and letters a reading holds, each counted each time it is reached (what is shared counts as often as it is met; a slice's spare places count too). A statement '..UptoSaid' is the law's where the arguments, and the package variables that the reading takes, are together of bulk at most 1048576: NARROWER than '..Said'. Prove '..Said' where nothing that the law and all that it calls make is longer than what came in: it says more and counts as full. Else prove '..UptoSaid'. A law counts once. -/
mutual
def uptoBulk {H : Type} : DataW H → Nat
  | .lit (.string bytes) => bytes.length + 1
  | .lit _ => 1
  | .nil => 1
  | .ptr d => uptoBulk d + 1
  | .slice elems spare => uptoBulkAll elems + uptoBulkAll spare + 1
  | .agg parts => uptoBulkAll parts + 1
  | .iface _ d => uptoBulk d + 1
  | .map entries => uptoBulkEntries entries + 1
  | .held _ => 1
def uptoBulkAll {H : Type} : List (DataW H) → Nat
  | [] => 0
  | d :: r => uptoBulk d + uptoBulkAll r
def uptoBulkEntries {H : Type} : List (Lit × DataW H) → Nat
  | [] => 0
  | x :: r => uptoBulkEntry x + uptoBulkEntries r
def uptoBulkEntry {H : Type} : Lit × DataW H → Nat
  | (.string bytes, d) => bytes.length + uptoBulk d + 1
  | (_, d) => uptoBulk d + 1
 end
def uptoSmall : (H : Type) → List (DataW H) → Bool := fun _ ds => decide (uptoBulkAll ds ≤ 1048576)
def OpenSpec.upto (s : _root_.Go.ChangeSpec) : _root_.Go.OpenSpec := { _root_.Go.OpenSpec.ofChange s with cond := some uptoSmall }

/-- 'ringdownlaw05.RecordLines', WHERE WHAT IT READS IS OF BULK AT MOST 1048576: true; the input reads as it did. -/
def recordLinesUptoRow : OpenClaim := { program := "ytmafjfhnejeogaagreatdoor", sum := "a661a9afd58d7d80af68fa77f92345f3e4d536b40f68bc2b5dd53d0059faf6cf", func := "ringdown/ringdownlaw05.RecordLines", spec := "recordLines", inPlace := ["internal/abi.NoEscape", "internal/bytealg.MakeNoZero"], unfollowed := true, recurses := true, named := ["internal/strconv.uint64pow10", "math/bits.deBruijn32tab", "math/bits.deBruijn64tab"], apart := false, laid := [("math/bits.deBruijn32tab", laid_math_bits_deBruijn32tab), ("math/bits.deBruijn64tab", laid_math_bits_deBruijn64tab), ("internal/strconv.uint64pow10", laid_internal_strconv_uint64pow10)], narrowed := true }
def RecordLinesUptoSaid : Prop := recordLinesUptoRow.holds Tryz.pinned (OpenSpec.upto recordLinesSpec)

/-- 'ringdownlaw07.BankLinear', WHERE WHAT IT READS IS OF BULK AT MOST 1048576: true; the input reads as it did. -/
def bankLinearUptoRow : OpenClaim := { program := "ytmafjfhnejeogaagreatdoor", sum := "a661a9afd58d7d80af68fa77f92345f3e4d536b40f68bc2b5dd53d0059faf6cf", func := "ringdown/ringdownlaw07.BankLinear", spec := "bankLinear", inPlace := ["internal/abi.NoEscape", "internal/bytealg.MakeNoZero", "internal/bytealg.IndexByteString", "internal/bytealg.IndexString"], unfollowed := true, recurses := true, named := ["internal/strconv.uint64pow10", "math/bits.deBruijn32tab", "math/bits.deBruijn64tab", "internal/bytealg.MaxLen"], apart := false, laid := [("math/bits.deBruijn32tab", laid_math_bits_deBruijn32tab), ("math/bits.deBruijn64tab", laid_math_bits_deBruijn64tab), ("internal/strconv.uint64pow10", laid_internal_strconv_uint64pow10)], narrowed := true }
def BankLinearUptoSaid : Prop := bankLinearUptoRow.holds Tryz.pinned (OpenSpec.upto bankLinearSpec)

/-- 'ringdownlaw07.BankWaves', WHERE WHAT IT READS IS OF BULK AT MOST 1048576: true; the input reads as it did. -/
def bankWavesUptoRow : OpenClaim := { program := "ytmafjfhnejeogaagreatdoor", sum := "a661a9afd58d7d80af68fa77f92345f3e4d536b40f68bc2b5dd53d0059faf6cf", func := "ringdown/ringdownlaw07.BankWaves", spec := "bankWaves", inPlace := ["internal/abi.NoEscape", "internal/bytealg.MakeNoZero", "internal/bytealg.IndexByteString", "internal/bytealg.IndexString"], unfollowed := true, recurses := true, named := ["internal/strconv.uint64pow10", "math/bits.deBruijn32tab", "math/bits.deBruijn64tab", "internal/bytealg.MaxLen"], apart := false, laid := [("math/bits.deBruijn32tab", laid_math_bits_deBruijn32tab), ("math/bits.deBruijn64tab", laid_math_bits_deBruijn64tab), ("internal/strconv.uint64pow10", laid_internal_strconv_uint64pow10)], narrowed := true }
def BankWavesUptoSaid : Prop := bankWavesUptoRow.holds Tryz.pinned (OpenSpec.upto bankWavesSpec)

/-- 'ringdownlaw07.BankMatch', WHERE WHAT IT READS IS OF BULK AT MOST 1048576: true; the input reads as it did. -/
def bankMatchUptoRow : OpenClaim := { program := "ytmafjfhnejeogaagreatdoor", sum := "a661a9afd58d7d80af68fa77f92345f3e4d536b40f68bc2b5dd53d0059faf6cf", func := "ringdown/ringdownlaw07.BankMatch", spec := "bankMatch", inPlace := ["internal/abi.NoEscape", "internal/bytealg.MakeNoZero", "internal/bytealg.IndexByteString", "internal/bytealg.IndexString"], unfollowed := true, recurses := true, named := ["internal/strconv.uint64pow10", "math/bits.deBruijn32tab", "math/bits.deBruijn64tab", "internal/bytealg.MaxLen"], apart := false, laid := [("math/bits.deBruijn32tab", laid_math_bits_deBruijn32tab), ("math/bits.deBruijn64tab", laid_math_bits_deBruijn64tab), ("internal/strconv.uint64pow10", laid_internal_strconv_uint64pow10)], narrowed := true }
def BankMatchUptoSaid : Prop := bankMatchUptoRow.holds Tryz.pinned (OpenSpec.upto bankMatchSpec)

/-- 'ringdownlaw07.BankExact', WHERE WHAT IT READS IS OF BULK AT MOST 1048576: true; the input reads as it did. -/
def bankExactUptoRow : OpenClaim := { program := "ytmafjfhnejeogaagreatdoor", sum := "a661a9afd58d7d80af68fa77f92345f3e4d536b40f68bc2b5dd53d0059faf6cf", func := "ringdown/ringdownlaw07.BankExact", spec := "bankExact", inPlace := ["internal/abi.NoEscape", "internal/bytealg.MakeNoZero", "internal/bytealg.IndexByteString", "internal/bytealg.IndexString"], unfollowed := true, recurses := true, named := ["internal/strconv.uint64pow10", "math/bits.deBruijn32tab", "math/bits.deBruijn64tab", "internal/bytealg.MaxLen"], apart := false, laid := [("math/bits.deBruijn32tab", laid_math_bits_deBruijn32tab), ("math/bits.deBruijn64tab", laid_math_bits_deBruijn64tab), ("internal/strconv.uint64pow10", laid_internal_strconv_uint64pow10)], narrowed := true }
def BankExactUptoSaid : Prop := bankExactUptoRow.holds Tryz.pinned (OpenSpec.upto bankExactSpec)

/-- 'ringdownlaw07.BankMisfits', WHERE WHAT IT READS IS OF BULK AT MOST 1048576: true; the input reads as it did. -/
def bankMisfitsUptoRow : OpenClaim := { program := "ytmafjfhnejeogaagreatdoor", sum := "a661a9afd58d7d80af68fa77f92345f3e4d536b40f68bc2b5dd53d0059faf6cf", func := "ringdown/ringdownlaw07.BankMisfits", spec := "bankMisfits", inPlace := ["internal/abi.NoEscape", "internal/bytealg.MakeNoZero", "internal/bytealg.IndexByteString", "internal/bytealg.IndexString"], unfollowed := true, recurses := true, named := ["internal/strconv.uint64pow10", "math/bits.deBruijn32tab", "math/bits.deBruijn64tab", "internal/bytealg.MaxLen"], apart := false, laid := [("math/bits.deBruijn32tab", laid_math_bits_deBruijn32tab), ("math/bits.deBruijn64tab", laid_math_bits_deBruijn64tab), ("internal/strconv.uint64pow10", laid_internal_strconv_uint64pow10)], narrowed := true }
def BankMisfitsUptoSaid : Prop := bankMisfitsUptoRow.holds Tryz.pinned (OpenSpec.upto bankMisfitsSpec)

/-- 'ringdownlaw05.RecordInjected', WHERE WHAT IT READS IS OF BULK AT MOST 1048576: true; the input reads as it did. -/
def recordInjectedUptoRow : OpenClaim := { program := "ytmafjfhnejeogaagreatdoor", sum := "a661a9afd58d7d80af68fa77f92345f3e4d536b40f68bc2b5dd53d0059faf6cf", func := "ringdown/ringdownlaw05.RecordInjected", spec := "recordInjected", inPlace := ["internal/abi.NoEscape", "internal/bytealg.MakeNoZero", "internal/bytealg.IndexByteString", "internal/bytealg.IndexString"], unfollowed := true, recurses := true, named := ["internal/strconv.uint64pow10", "math/bits.deBruijn32tab", "math/bits.deBruijn64tab", "internal/bytealg.MaxLen"], apart := false, laid := [("math/bits.deBruijn32tab", laid_math_bits_deBruijn32tab), ("math/bits.deBruijn64tab", laid_math_bits_deBruijn64tab), ("internal/strconv.uint64pow10", laid_internal_strconv_uint64pow10)], narrowed := true }
def RecordInjectedUptoSaid : Prop := recordInjectedUptoRow.holds Tryz.pinned (OpenSpec.upto recordInjectedSpec)

/-- 'ringdownlaw05.RecordKept', WHERE WHAT IT READS IS OF BULK AT MOST 1048576: true; the input reads as it did. -/
def recordKeptUptoRow : OpenClaim := { program := "ytmafjfhnejeogaagreatdoor", sum := "a661a9afd58d7d80af68fa77f92345f3e4d536b40f68bc2b5dd53d0059faf6cf", func := "ringdown/ringdownlaw05.RecordKept", spec := "recordKept", inPlace := ["internal/bytealg.IndexByteString", "internal/bytealg.IndexString", "internal/abi.NoEscape", "internal/bytealg.MakeNoZero"], unfollowed := true, recurses := true, named := ["internal/bytealg.MaxLen", "internal/strconv.uint64pow10", "math/bits.deBruijn32tab", "math/bits.deBruijn64tab"], apart := false, laid := [("math/bits.deBruijn32tab", laid_math_bits_deBruijn32tab), ("math/bits.deBruijn64tab", laid_math_bits_deBruijn64tab), ("internal/strconv.uint64pow10", laid_internal_strconv_uint64pow10)], narrowed := true }
def RecordKeptUptoSaid : Prop := recordKeptUptoRow.holds Tryz.pinned (OpenSpec.upto recordKeptSpec)

end Rows
end Go.Proofs.YtmafjfhnejeogaaGreatDoor
