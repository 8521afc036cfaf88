/-
  NARROWER THAN 'FOR EVERY INPUT', by the rows' own cells (each row's printed sentence says how): BankProofs: laid · BankBuilds: laid · BankPoints: laid · BankCovers: laid · BankKnown: laid · BankSure: laid · BankHits: laid · BankChosen: laid.
  DERIVED. THE GIVEN ROWS OF THIS SEAT. 8 by the template 'for every input the law returns true; each argument reads behind the call as it read before'; 0 by the template 'total and deterministic' (their statements: YtahnadhlagabgaaGreatDoorTotals.lean).
  GIVEN WITH THE SEED: the statements are not yours to turn. If you find one false, say at which input.
  Laid BY PROGRAM, IN A SANDBOX (cutbox-rows.mjs): the forced cells as the released guide's own fill.sh prints them over the translation a4b0b144c9428a69… (all of the seat's roots in one cut). By AI agents, Wed Nov 11 2026. No macro, syntax, notation, axiom, sorry.
-/
import Derived.Test.YtahnadhlagabgaaGreatDoorChecked
import GoSem.Claim
import GoSem.ClaimJoined
import GoSem.ClaimMapViews
import Derived.JoinedTies
import Derived.KernelRfl
namespace Go.Proofs.YtahnadhlagabgaaGreatDoor
/- THE CELL 'sum', in the pinned program and in every row, IS THE sha256 OF THE DUMP (.gsa) THAT YtahnadhlagabgaaGreatDoorProg.lean LOADS. Nothing in Lean hashes anything: it is a label: what it is worth is what the hold of that sum in a sandbox is worth. -/
noncomputable def Tryz.pinned : Pinned := { name := "ytahnadhlagabgaagreatdoor", sum := "a4b0b144c9428a698390554a4c9b074b68413d59f59434e3283ba11ea5701632", checked := Tryz.checked }
namespace Rows
def none {H : Type} : Left H := { results := [], args := [] }

/- WHAT THE LISTED PACKAGE-LEVEL VARIABLES READ AS WHEN THE CALL BEGINS. Each datum BY PROGRAM (the guide's laid-datum.mjs) off the statement by which the dump's own 'gosem.cut.vars' lays the variable. In a bare row this is a premise. The card (YtahnadhlagabgaaGreatDoorCards.lean) ties it to the program's text. -/
def laid_math_bits_deBruijn32tab {H : Type} : DataW H := .agg [.lit (.int .u8 0), .lit (.int .u8 1), .lit (.int .u8 28), .lit (.int .u8 2), .lit (.int .u8 29), .lit (.int .u8 14), .lit (.int .u8 24), .lit (.int .u8 3), .lit (.int .u8 30), .lit (.int .u8 22), .lit (.int .u8 20), .lit (.int .u8 15), .lit (.int .u8 25), .lit (.int .u8 17), .lit (.int .u8 4), .lit (.int .u8 8), .lit (.int .u8 31), .lit (.int .u8 27), .lit (.int .u8 13), .lit (.int .u8 23), .lit (.int .u8 21), .lit (.int .u8 19), .lit (.int .u8 16), .lit (.int .u8 7), .lit (.int .u8 26), .lit (.int .u8 12), .lit (.int .u8 18), .lit (.int .u8 6), .lit (.int .u8 11), .lit (.int .u8 5), .lit (.int .u8 10), .lit (.int .u8 9)]
def laid_math_bits_deBruijn64tab {H : Type} : DataW H := .agg [.lit (.int .u8 0), .lit (.int .u8 1), .lit (.int .u8 56), .lit (.int .u8 2), .lit (.int .u8 57), .lit (.int .u8 49), .lit (.int .u8 28), .lit (.int .u8 3), .lit (.int .u8 61), .lit (.int .u8 58), .lit (.int .u8 42), .lit (.int .u8 50), .lit (.int .u8 38), .lit (.int .u8 29), .lit (.int .u8 17), .lit (.int .u8 4), .lit (.int .u8 62), .lit (.int .u8 47), .lit (.int .u8 59), .lit (.int .u8 36), .lit (.int .u8 45), .lit (.int .u8 43), .lit (.int .u8 51), .lit (.int .u8 22), .lit (.int .u8 53), .lit (.int .u8 39), .lit (.int .u8 33), .lit (.int .u8 30), .lit (.int .u8 24), .lit (.int .u8 18), .lit (.int .u8 12), .lit (.int .u8 5), .lit (.int .u8 63), .lit (.int .u8 55), .lit (.int .u8 48), .lit (.int .u8 27), .lit (.int .u8 60), .lit (.int .u8 41), .lit (.int .u8 37), .lit (.int .u8 16), .lit (.int .u8 46), .lit (.int .u8 35), .lit (.int .u8 44), .lit (.int .u8 21), .lit (.int .u8 52), .lit (.int .u8 32), .lit (.int .u8 23), .lit (.int .u8 11), .lit (.int .u8 54), .lit (.int .u8 26), .lit (.int .u8 40), .lit (.int .u8 15), .lit (.int .u8 34), .lit (.int .u8 20), .lit (.int .u8 31), .lit (.int .u8 10), .lit (.int .u8 25), .lit (.int .u8 14), .lit (.int .u8 19), .lit (.int .u8 9), .lit (.int .u8 13), .lit (.int .u8 8), .lit (.int .u8 7), .lit (.int .u8 6)]
def laid_internal_strconv_uint64pow10 {H : Type} : DataW H := .agg [.lit (.int .u64 1), .lit (.int .u64 10), .lit (.int .u64 100), .lit (.int .u64 1000), .lit (.int .u64 10000), .lit (.int .u64 100000), .lit (.int .u64 1000000), .lit (.int .u64 10000000), .lit (.int .u64 100000000), .lit (.int .u64 1000000000), .lit (.int .u64 10000000000), .lit (.int .u64 100000000000), .lit (.int .u64 1000000000000), .lit (.int .u64 10000000000000), .lit (.int .u64 100000000000000), .lit (.int .u64 1000000000000000), .lit (.int .u64 10000000000000000), .lit (.int .u64 100000000000000000), .lit (.int .u64 1000000000000000000), .lit (.int .u64 10000000000000000000)]

/-- 'ringdownlaw07.BankProofs': WHATEVER THE INPUT: true; the input reads as it did. -/
def bankProofsSpec : ChangeSpec := { name := "bankProofs", fn := fun _ => fun
  | [d1, d2] => { results := [.lit (.bool true)], args := [d1, d2] }
  | _ => none }
def bankProofsRow : OpenClaim := { program := "ytahnadhlagabgaagreatdoor", sum := "a4b0b144c9428a698390554a4c9b074b68413d59f59434e3283ba11ea5701632", func := "ringdown/ringdownlaw07.BankProofs", spec := "bankProofs", inPlace := ["internal/bytealg.IndexByteString", "internal/bytealg.IndexString", "internal/abi.NoEscape", "internal/bytealg.MakeNoZero"], unfollowed := true, recurses := true, named := ["internal/bytealg.MaxLen", "internal/strconv.uint64pow10", "math/bits.deBruijn32tab", "math/bits.deBruijn64tab"], apart := false, laid := [("math/bits.deBruijn32tab", laid_math_bits_deBruijn32tab), ("math/bits.deBruijn64tab", laid_math_bits_deBruijn64tab), ("internal/strconv.uint64pow10", laid_internal_strconv_uint64pow10)] }
def BankProofsSaid : Prop := bankProofsRow.holds Tryz.pinned (OpenSpec.ofChange bankProofsSpec)

/-- ITS FALSE NEIGHBOUR: 'it returns false'. Refute it at one input. -/
def bankProofsWrong : ChangeSpec := { name := "bankProofs", fn := fun _ => fun
  | [d1, d2] => { results := [.lit (.bool false)], args := [d1, d2] }
  | _ => none }
def BankProofsWrongFalsely : Prop := bankProofsRow.holds Tryz.pinned (OpenSpec.ofChange bankProofsWrong)

/-- 'ringdownlaw07.BankBuilds': WHATEVER THE INPUT: true; the input reads as it did. -/
def bankBuildsSpec : ChangeSpec := { name := "bankBuilds", fn := fun _ => fun
  | [d1, d2] => { results := [.lit (.bool true)], args := [d1, d2] }
  | _ => none }
def bankBuildsRow : OpenClaim := { program := "ytahnadhlagabgaagreatdoor", sum := "a4b0b144c9428a698390554a4c9b074b68413d59f59434e3283ba11ea5701632", func := "ringdown/ringdownlaw07.BankBuilds", spec := "bankBuilds", inPlace := ["internal/bytealg.IndexByteString", "internal/bytealg.IndexString", "internal/abi.NoEscape", "internal/bytealg.MakeNoZero"], unfollowed := true, recurses := true, named := ["internal/bytealg.MaxLen", "internal/strconv.uint64pow10", "math/bits.deBruijn32tab", "math/bits.deBruijn64tab"], apart := false, laid := [("math/bits.deBruijn32tab", laid_math_bits_deBruijn32tab), ("math/bits.deBruijn64tab", laid_math_bits_deBruijn64tab), ("internal/strconv.uint64pow10", laid_internal_strconv_uint64pow10)] }
def BankBuildsSaid : Prop := bankBuildsRow.holds Tryz.pinned (OpenSpec.ofChange bankBuildsSpec)

/-- ITS FALSE NEIGHBOUR: 'it returns false'. Refute it at one input. -/
def bankBuildsWrong : ChangeSpec := { name := "bankBuilds", fn := fun _ => fun
  | [d1, d2] => { results := [.lit (.bool false)], args := [d1, d2] }
  | _ => none }
def BankBuildsWrongFalsely : Prop := bankBuildsRow.holds Tryz.pinned (OpenSpec.ofChange bankBuildsWrong)

/-- 'ringdownlaw07.BankPoints': WHATEVER THE INPUT: true; the input reads as it did. -/
def bankPointsSpec : ChangeSpec := { name := "bankPoints", fn := fun _ => fun
  | [d] => { results := [.lit (.bool true)], args := [d] }
  | _ => none }
def bankPointsRow : OpenClaim := { program := "ytahnadhlagabgaagreatdoor", sum := "a4b0b144c9428a698390554a4c9b074b68413d59f59434e3283ba11ea5701632", func := "ringdown/ringdownlaw07.BankPoints", spec := "bankPoints", inPlace := ["internal/bytealg.IndexByteString", "internal/bytealg.IndexString", "internal/abi.NoEscape", "internal/bytealg.MakeNoZero"], unfollowed := true, recurses := true, named := ["internal/bytealg.MaxLen", "internal/strconv.uint64pow10", "math/bits.deBruijn32tab", "math/bits.deBruijn64tab"], apart := false, laid := [("math/bits.deBruijn32tab", laid_math_bits_deBruijn32tab), ("math/bits.deBruijn64tab", laid_math_bits_deBruijn64tab), ("internal/strconv.uint64pow10", laid_internal_strconv_uint64pow10)] }
def BankPointsSaid : Prop := bankPointsRow.holds Tryz.pinned (OpenSpec.ofChange bankPointsSpec)

/-- ITS FALSE NEIGHBOUR: 'it returns false'. Refute it at one input. -/
def bankPointsWrong : ChangeSpec := { name := "bankPoints", fn := fun _ => fun
  | [d] => { results := [.lit (.bool false)], args := [d] }
  | _ => none }
def BankPointsWrongFalsely : Prop := bankPointsRow.holds Tryz.pinned (OpenSpec.ofChange bankPointsWrong)

/-- 'ringdownlaw07.BankCovers': WHATEVER THE INPUT: true; the input reads as it did. -/
def bankCoversSpec : ChangeSpec := { name := "bankCovers", fn := fun _ => fun
  | [d1, d2] => { results := [.lit (.bool true)], args := [d1, d2] }
  | _ => none }
def bankCoversRow : OpenClaim := { program := "ytahnadhlagabgaagreatdoor", sum := "a4b0b144c9428a698390554a4c9b074b68413d59f59434e3283ba11ea5701632", func := "ringdown/ringdownlaw07.BankCovers", spec := "bankCovers", inPlace := ["internal/bytealg.IndexByteString", "internal/bytealg.IndexString", "internal/abi.NoEscape", "internal/bytealg.MakeNoZero"], unfollowed := true, recurses := true, named := ["internal/bytealg.MaxLen", "internal/strconv.uint64pow10", "math/bits.deBruijn32tab", "math/bits.deBruijn64tab"], apart := false, laid := [("math/bits.deBruijn32tab", laid_math_bits_deBruijn32tab), ("math/bits.deBruijn64tab", laid_math_bits_deBruijn64tab), ("internal/strconv.uint64pow10", laid_internal_strconv_uint64pow10)] }
def BankCoversSaid : Prop := bankCoversRow.holds Tryz.pinned (OpenSpec.ofChange bankCoversSpec)

/-- ITS FALSE NEIGHBOUR: 'it returns false'. Refute it at one input. -/
def bankCoversWrong : ChangeSpec := { name := "bankCovers", fn := fun _ => fun
  | [d1, d2] => { results := [.lit (.bool false)], args := [d1, d2] }
  | _ => none }
def BankCoversWrongFalsely : Prop := bankCoversRow.holds Tryz.pinned (OpenSpec.ofChange bankCoversWrong)

/-- 'ringdownlaw07.BankKnown': WHATEVER THE INPUT: true; the input reads as it did. -/
def bankKnownSpec : ChangeSpec := { name := "bankKnown", fn := fun _ => fun
  | [] => { results := [.lit (.bool true)], args := [] }
  | _ => none }
def bankKnownRow : OpenClaim := { program := "ytahnadhlagabgaagreatdoor", sum := "a4b0b144c9428a698390554a4c9b074b68413d59f59434e3283ba11ea5701632", func := "ringdown/ringdownlaw07.BankKnown", spec := "bankKnown", inPlace := ["internal/abi.NoEscape", "internal/bytealg.MakeNoZero", "internal/bytealg.IndexByteString", "internal/bytealg.IndexString"], unfollowed := true, recurses := true, named := ["internal/strconv.uint64pow10", "math/bits.deBruijn32tab", "math/bits.deBruijn64tab", "internal/bytealg.MaxLen"], apart := false, laid := [("math/bits.deBruijn32tab", laid_math_bits_deBruijn32tab), ("math/bits.deBruijn64tab", laid_math_bits_deBruijn64tab), ("internal/strconv.uint64pow10", laid_internal_strconv_uint64pow10)] }
def BankKnownSaid : Prop := bankKnownRow.holds Tryz.pinned (OpenSpec.ofChange bankKnownSpec)

/-- ITS FALSE NEIGHBOUR: 'it returns false'. Refute it at one input. -/
def bankKnownWrong : ChangeSpec := { name := "bankKnown", fn := fun _ => fun
  | [] => { results := [.lit (.bool false)], args := [] }
  | _ => none }
def BankKnownWrongFalsely : Prop := bankKnownRow.holds Tryz.pinned (OpenSpec.ofChange bankKnownWrong)

/-- 'ringdownlaw07.BankSure': WHATEVER THE INPUT: true; the input reads as it did. -/
def bankSureSpec : ChangeSpec := { name := "bankSure", fn := fun _ => fun
  | [d] => { results := [.lit (.bool true)], args := [d] }
  | _ => none }
def bankSureRow : OpenClaim := { program := "ytahnadhlagabgaagreatdoor", sum := "a4b0b144c9428a698390554a4c9b074b68413d59f59434e3283ba11ea5701632", func := "ringdown/ringdownlaw07.BankSure", spec := "bankSure", inPlace := ["internal/abi.NoEscape", "internal/bytealg.MakeNoZero", "internal/bytealg.IndexByteString", "internal/bytealg.IndexString"], unfollowed := true, recurses := true, named := ["internal/strconv.uint64pow10", "math/bits.deBruijn32tab", "math/bits.deBruijn64tab", "internal/bytealg.MaxLen"], apart := false, laid := [("math/bits.deBruijn32tab", laid_math_bits_deBruijn32tab), ("math/bits.deBruijn64tab", laid_math_bits_deBruijn64tab), ("internal/strconv.uint64pow10", laid_internal_strconv_uint64pow10)] }
def BankSureSaid : Prop := bankSureRow.holds Tryz.pinned (OpenSpec.ofChange bankSureSpec)

/-- ITS FALSE NEIGHBOUR: 'it returns false'. Refute it at one input. -/
def bankSureWrong : ChangeSpec := { name := "bankSure", fn := fun _ => fun
  | [d] => { results := [.lit (.bool false)], args := [d] }
  | _ => none }
def BankSureWrongFalsely : Prop := bankSureRow.holds Tryz.pinned (OpenSpec.ofChange bankSureWrong)

/-- 'ringdownlaw07.BankHits': WHATEVER THE INPUT: true; the input reads as it did. -/
def bankHitsSpec : ChangeSpec := { name := "bankHits", fn := fun _ => fun
  | [d1, d2] => { results := [.lit (.bool true)], args := [d1, d2] }
  | _ => none }
def bankHitsRow : OpenClaim := { program := "ytahnadhlagabgaagreatdoor", sum := "a4b0b144c9428a698390554a4c9b074b68413d59f59434e3283ba11ea5701632", func := "ringdown/ringdownlaw07.BankHits", spec := "bankHits", inPlace := ["internal/abi.NoEscape", "internal/bytealg.MakeNoZero", "internal/bytealg.IndexByteString", "internal/bytealg.IndexString"], unfollowed := true, recurses := true, named := ["internal/strconv.uint64pow10", "math/bits.deBruijn32tab", "math/bits.deBruijn64tab", "internal/bytealg.MaxLen"], apart := false, laid := [("math/bits.deBruijn32tab", laid_math_bits_deBruijn32tab), ("math/bits.deBruijn64tab", laid_math_bits_deBruijn64tab), ("internal/strconv.uint64pow10", laid_internal_strconv_uint64pow10)] }
def BankHitsSaid : Prop := bankHitsRow.holds Tryz.pinned (OpenSpec.ofChange bankHitsSpec)

/-- ITS FALSE NEIGHBOUR: 'it returns false'. Refute it at one input. -/
def bankHitsWrong : ChangeSpec := { name := "bankHits", fn := fun _ => fun
  | [d1, d2] => { results := [.lit (.bool false)], args := [d1, d2] }
  | _ => none }
def BankHitsWrongFalsely : Prop := bankHitsRow.holds Tryz.pinned (OpenSpec.ofChange bankHitsWrong)

/-- 'ringdownlaw07.BankChosen': WHATEVER THE INPUT: true; the input reads as it did. -/
def bankChosenSpec : ChangeSpec := { name := "bankChosen", fn := fun _ => fun
  | [d] => { results := [.lit (.bool true)], args := [d] }
  | _ => none }
def bankChosenRow : OpenClaim := { program := "ytahnadhlagabgaagreatdoor", sum := "a4b0b144c9428a698390554a4c9b074b68413d59f59434e3283ba11ea5701632", func := "ringdown/ringdownlaw07.BankChosen", spec := "bankChosen", inPlace := ["internal/abi.NoEscape", "internal/bytealg.MakeNoZero", "internal/bytealg.IndexByteString", "internal/bytealg.IndexString"], unfollowed := true, recurses := true, named := ["internal/strconv.uint64pow10", "math/bits.deBruijn32tab", "math/bits.deBruijn64tab", "internal/bytealg.MaxLen"], apart := false, laid := [("math/bits.deBruijn32tab", laid_math_bits_deBruijn32tab), ("math/bits.deBruijn64tab", laid_math_bits_deBruijn64tab), ("internal/strconv.uint64pow10", laid_internal_strconv_uint64pow10)] }
def BankChosenSaid : Prop := bankChosenRow.holds Tryz.pinned (OpenSpec.ofChange bankChosenSpec)

/-- ITS FALSE NEIGHBOUR: 'it returns false'. Refute it at one input. -/
def bankChosenWrong : ChangeSpec := { name := "bankChosen", fn := fun _ => fun
  | [d] => { results := [.lit (.bool false)], args := [d] }
  | _ => none }
def BankChosenWrongFalsely : Prop := bankChosenRow.holds Tryz.pinned (OpenSpec.ofChange bankChosenWrong)

/- THE SECOND FORM. 'bulk': how many values and letters a reading holds, each counted each time it is reached (what is shared counts as often as it is met; a slice's spare places count too). A statement '..UptoSaid' is the law's where the arguments, and the package variables that the reading takes, are together of bulk at most 1048576: NARROWER than '..Said'. Prove '..Said' where nothing that the law and all that it calls make is longer than what came in: it says more and counts as full. Else prove '..UptoSaid'. A law counts once. -/
mutual
def uptoBulk {H : Type} : DataW H → Nat
  | .lit (.string bytes) => bytes.length + 1
  | .lit _ => 1
  | .nil => 1
  | .ptr d => uptoBulk d + 1
  | .slice elems spare => uptoBulkAll elems + uptoBulkAll spare + 1
  | .agg parts => uptoBulkAll parts + 1
  | .iface _ d => uptoBulk d + 1
  | .map entries => uptoBulkEntries entries + 1
  | .held _ => 1
def uptoBulkAll {H : Type} : List (DataW H) → Nat
  | [] => 0
  | d :: r => uptoBulk d + uptoBulkAll r
def uptoBulkEntries {H : Type} : List (Lit × DataW H) → Nat
  | [] => 0
  | x :: r => uptoBulkEntry x + uptoBulkEntries r
def uptoBulkEntry {H : Type} : Lit × DataW H → Nat
  | (.string bytes, d) => bytes.length + uptoBulk d + 1
  | (_, d) => uptoBulk d + 1
 end
def uptoSmall : (H : Type) → List (DataW H) → Bool := fun _ ds => decide (uptoBulkAll ds ≤ 1048576)
def OpenSpec.upto (s : _root_.Go.ChangeSpec) : _root_.Go.OpenSpec := { _root_.Go.OpenSpec.ofChange s with cond := some uptoSmall }

/-- 'ringdownlaw07.BankProofs', WHERE WHAT IT READS IS OF BULK AT MOST 1048576: true; the input reads as it did. -/
def bankProofsUptoRow : OpenClaim := { program := "ytahnadhlagabgaagreatdoor", sum := "a4b0b144c9428a698390554a4c9b074b68413d59f59434e3283ba11ea5701632", func := "ringdown/ringdownlaw07.BankProofs", spec := "bankProofs", inPlace := ["internal/bytealg.IndexByteString", "internal/bytealg.IndexString", "internal/abi.NoEscape", "internal/bytealg.MakeNoZero"], unfollowed := true, recurses := true, named := ["internal/bytealg.MaxLen", "internal/strconv.uint64pow10", "math/bits.deBruijn32tab", "math/bits.deBruijn64tab"], apart := false, laid := [("math/bits.deBruijn32tab", laid_math_bits_deBruijn32tab), ("math/bits.deBruijn64tab", laid_math_bits_deBruijn64tab), ("internal/strconv.uint64pow10", laid_internal_strconv_uint64pow10)], narrowed := true }
def BankProofsUptoSaid : Prop := bankProofsUptoRow.holds Tryz.pinned (OpenSpec.upto bankProofsSpec)

/-- 'ringdownlaw07.BankBuilds', WHERE WHAT IT READS IS OF BULK AT MOST 1048576: true; the input reads as it did. -/
def bankBuildsUptoRow : OpenClaim := { program := "ytahnadhlagabgaagreatdoor", sum := "a4b0b144c9428a698390554a4c9b074b68413d59f59434e3283ba11ea5701632", func := "ringdown/ringdownlaw07.BankBuilds", spec := "bankBuilds", inPlace := ["internal/bytealg.IndexByteString", "internal/bytealg.IndexString", "internal/abi.NoEscape", "internal/bytealg.MakeNoZero"], unfollowed := true, recurses := true, named := ["internal/bytealg.MaxLen", "internal/strconv.uint64pow10", "math/bits.deBruijn32tab", "math/bits.deBruijn64tab"], apart := false, laid := [("math/bits.deBruijn32tab", laid_math_bits_deBruijn32tab), ("math/bits.deBruijn64tab", laid_math_bits_deBruijn64tab), ("internal/strconv.uint64pow10", laid_internal_strconv_uint64pow10)], narrowed := true }
def BankBuildsUptoSaid : Prop := bankBuildsUptoRow.holds Tryz.pinned (OpenSpec.upto bankBuildsSpec)

/-- 'ringdownlaw07.BankPoints', WHERE WHAT IT READS IS OF BULK AT MOST 1048576: true; the input reads as it did. -/
def bankPointsUptoRow : OpenClaim := { program := "ytahnadhlagabgaagreatdoor", sum := "a4b0b144c9428a698390554a4c9b074b68413d59f59434e3283ba11ea5701632", func := "ringdown/ringdownlaw07.BankPoints", spec := "bankPoints", inPlace := ["internal/bytealg.IndexByteString", "internal/bytealg.IndexString", "internal/abi.NoEscape", "internal/bytealg.MakeNoZero"], unfollowed := true, recurses := true, named := ["internal/bytealg.MaxLen", "internal/strconv.uint64pow10", "math/bits.deBruijn32tab", "math/bits.deBruijn64tab"], apart := false, laid := [("math/bits.deBruijn32tab", laid_math_bits_deBruijn32tab), ("math/bits.deBruijn64tab", laid_math_bits_deBruijn64tab), ("internal/strconv.uint64pow10", laid_internal_strconv_uint64pow10)], narrowed := true }
def BankPointsUptoSaid : Prop := bankPointsUptoRow.holds Tryz.pinned (OpenSpec.upto bankPointsSpec)

/-- 'ringdownlaw07.BankCovers', WHERE WHAT IT READS IS OF BULK AT MOST 1048576: true; the input reads as it did. -/
def bankCoversUptoRow : OpenClaim := { program := "ytahnadhlagabgaagreatdoor", sum := "a4b0b144c9428a698390554a4c9b074b68413d59f59434e3283ba11ea5701632", func := "ringdown/ringdownlaw07.BankCovers", spec := "bankCovers", inPlace := ["internal/bytealg.IndexByteString", "internal/bytealg.IndexString", "internal/abi.NoEscape", "internal/bytealg.MakeNoZero"], unfollowed := true, recurses := true, named := ["internal/bytealg.MaxLen", "internal/strconv.uint64pow10", "math/bits.deBruijn32tab", "math/bits.deBruijn64tab"], apart := false, laid := [("math/bits.deBruijn32tab", laid_math_bits_deBruijn32tab), ("math/bits.deBruijn64tab", laid_math_bits_deBruijn64tab), ("internal/strconv.uint64pow10", laid_internal_strconv_uint64pow10)], narrowed := true }
def BankCoversUptoSaid : Prop := bankCoversUptoRow.holds Tryz.pinned (OpenSpec.upto bankCoversSpec)

/-- 'ringdownlaw07.BankKnown', WHERE WHAT IT READS IS OF BULK AT MOST 1048576: true; the input reads as it did. -/
def bankKnownUptoRow : OpenClaim := { program := "ytahnadhlagabgaagreatdoor", sum := "a4b0b144c9428a698390554a4c9b074b68413d59f59434e3283ba11ea5701632", func := "ringdown/ringdownlaw07.BankKnown", spec := "bankKnown", inPlace := ["internal/abi.NoEscape", "internal/bytealg.MakeNoZero", "internal/bytealg.IndexByteString", "internal/bytealg.IndexString"], unfollowed := true, recurses := true, named := ["internal/strconv.uint64pow10", "math/bits.deBruijn32tab", "math/bits.deBruijn64tab", "internal/bytealg.MaxLen"], apart := false, laid := [("math/bits.deBruijn32tab", laid_math_bits_deBruijn32tab), ("math/bits.deBruijn64tab", laid_math_bits_deBruijn64tab), ("internal/strconv.uint64pow10", laid_internal_strconv_uint64pow10)], narrowed := true }
def BankKnownUptoSaid : Prop := bankKnownUptoRow.holds Tryz.pinned (OpenSpec.upto bankKnownSpec)

/-- 'ringdownlaw07.BankSure', WHERE WHAT IT READS IS OF BULK AT MOST 1048576: true; the input reads as it did. -/
def bankSureUptoRow : OpenClaim := { program := "ytahnadhlagabgaagreatdoor", sum := "a4b0b144c9428a698390554a4c9b074b68413d59f59434e3283ba11ea5701632", func := "ringdown/ringdownlaw07.BankSure", spec := "bankSure", inPlace := ["internal/abi.NoEscape", "internal/bytealg.MakeNoZero", "internal/bytealg.IndexByteString", "internal/bytealg.IndexString"], unfollowed := true, recurses := true, named := ["internal/strconv.uint64pow10", "math/bits.deBruijn32tab", "math/bits.deBruijn64tab", "internal/bytealg.MaxLen"], apart := false, laid := [("math/bits.deBruijn32tab", laid_math_bits_deBruijn32tab), ("math/bits.deBruijn64tab", laid_math_bits_deBruijn64tab), ("internal/strconv.uint64pow10", laid_internal_strconv_uint64pow10)], narrowed := true }
def BankSureUptoSaid : Prop := bankSureUptoRow.holds Tryz.pinned (OpenSpec.upto bankSureSpec)

/-- 'ringdownlaw07.BankHits', WHERE WHAT IT READS IS OF BULK AT MOST 1048576: true; the input reads as it did. -/
def bankHitsUptoRow : OpenClaim := { program := "ytahnadhlagabgaagreatdoor", sum := "a4b0b144c9428a698390554a4c9b074b68413d59f59434e3283ba11ea5701632", func := "ringdown/ringdownlaw07.BankHits", spec := "bankHits", inPlace := ["internal/abi.NoEscape", "internal/bytealg.MakeNoZero", "internal/bytealg.IndexByteString", "internal/bytealg.IndexString"], unfollowed := true, recurses := true, named := ["internal/strconv.uint64pow10", "math/bits.deBruijn32tab", "math/bits.deBruijn64tab", "internal/bytealg.MaxLen"], apart := false, laid := [("math/bits.deBruijn32tab", laid_math_bits_deBruijn32tab), ("math/bits.deBruijn64tab", laid_math_bits_deBruijn64tab), ("internal/strconv.uint64pow10", laid_internal_strconv_uint64pow10)], narrowed := true }
def BankHitsUptoSaid : Prop := bankHitsUptoRow.holds Tryz.pinned (OpenSpec.upto bankHitsSpec)

/-- 'ringdownlaw07.BankChosen', WHERE WHAT IT READS IS OF BULK AT MOST 1048576: true; the input reads as it did. -/
def bankChosenUptoRow : OpenClaim := { program := "ytahnadhlagabgaagreatdoor", sum := "a4b0b144c9428a698390554a4c9b074b68413d59f59434e3283ba11ea5701632", func := "ringdown/ringdownlaw07.BankChosen", spec := "bankChosen", inPlace := ["internal/abi.NoEscape", "internal/bytealg.MakeNoZero", "internal/bytealg.IndexByteString", "internal/bytealg.IndexString"], unfollowed := true, recurses := true, named := ["internal/strconv.uint64pow10", "math/bits.deBruijn32tab", "math/bits.deBruijn64tab", "internal/bytealg.MaxLen"], apart := false, laid := [("math/bits.deBruijn32tab", laid_math_bits_deBruijn32tab), ("math/bits.deBruijn64tab", laid_math_bits_deBruijn64tab), ("internal/strconv.uint64pow10", laid_internal_strconv_uint64pow10)], narrowed := true }
def BankChosenUptoSaid : Prop := bankChosenUptoRow.holds Tryz.pinned (OpenSpec.upto bankChosenSpec)

end Rows
end Go.Proofs.YtahnadhlagabgaaGreatDoor
