/-
  NARROWER THAN 'FOR EVERY INPUT', by the rows' own cells (each row's printed sentence says how): ColltableChecks: laid · ColltableSteps: laid · ColltableFinds: laid · ColltableLongest: laid · ColltableWalks: laid · ColltableJoins: laid · ColltableElements: laid · ColltableSame: laid · ColltableRefuses: laid.
  DERIVED. THE GIVEN ROWS OF THIS SEAT. 9 by the template 'for every input the law returns true; each argument reads behind the call as it read before'; 0 by the template 'total and deterministic' (their statements: YtgbaaobgnpjhcaaGreatDoorTotals.lean).
  GIVEN WITH THE SEED: the statements are not yours to turn. If you find one false, say at which input.
  Laid BY PROGRAM, IN A SANDBOX (cutbox-rows.mjs): the forced cells as the released guide's own fill.sh prints them over the translation 7b74bd2ba2643f44… (all of the seat's roots in one cut). By AI agents, Wed Nov 11 2026. No macro, syntax, notation, axiom, sorry.
-/
import Derived.Test.YtgbaaobgnpjhcaaGreatDoorChecked
import GoSem.Claim
import GoSem.ClaimJoined
import GoSem.ClaimMapViews
import Derived.JoinedTies
import Derived.KernelRfl
namespace Go.Proofs.YtgbaaobgnpjhcaaGreatDoor
/- THE CELL 'sum', in the pinned program and in every row, IS THE sha256 OF THE DUMP (.gsa) THAT YtgbaaobgnpjhcaaGreatDoorProg.lean LOADS. Nothing in Lean hashes anything: it is a label: what it is worth is what the hold of that sum in a sandbox is worth. -/
noncomputable def Tryz.pinned : Pinned := { name := "ytgbaaobgnpjhcaagreatdoor", sum := "7b74bd2ba2643f44090de5260a23b000d259ea2a486309114b74edfa0119eae3", checked := Tryz.checked }
namespace Rows
def none {H : Type} : Left H := { results := [], args := [] }

/- WHAT THE LISTED PACKAGE-LEVEL VARIABLES READ AS WHEN THE CALL BEGINS. Each datum BY PROGRAM (the guide's laid-datum.mjs) off the statement by which the dump's own 'gosem.cut.vars' lays the variable. In a bare row this is a premise. The card (YtgbaaobgnpjhcaaGreatDoorCards.lean) ties it to the program's text. -/
def laid_math_bits_deBruijn32tab {H : Type} : DataW H := .agg [.lit (.int .u8 0), .lit (.int .u8 1), .lit (.int .u8 28), .lit (.int .u8 2), .lit (.int .u8 29), .lit (.int .u8 14), .lit (.int .u8 24), .lit (.int .u8 3), .lit (.int .u8 30), .lit (.int .u8 22), .lit (.int .u8 20), .lit (.int .u8 15), .lit (.int .u8 25), .lit (.int .u8 17), .lit (.int .u8 4), .lit (.int .u8 8), .lit (.int .u8 31), .lit (.int .u8 27), .lit (.int .u8 13), .lit (.int .u8 23), .lit (.int .u8 21), .lit (.int .u8 19), .lit (.int .u8 16), .lit (.int .u8 7), .lit (.int .u8 26), .lit (.int .u8 12), .lit (.int .u8 18), .lit (.int .u8 6), .lit (.int .u8 11), .lit (.int .u8 5), .lit (.int .u8 10), .lit (.int .u8 9)]
def laid_math_bits_deBruijn64tab {H : Type} : DataW H := .agg [.lit (.int .u8 0), .lit (.int .u8 1), .lit (.int .u8 56), .lit (.int .u8 2), .lit (.int .u8 57), .lit (.int .u8 49), .lit (.int .u8 28), .lit (.int .u8 3), .lit (.int .u8 61), .lit (.int .u8 58), .lit (.int .u8 42), .lit (.int .u8 50), .lit (.int .u8 38), .lit (.int .u8 29), .lit (.int .u8 17), .lit (.int .u8 4), .lit (.int .u8 62), .lit (.int .u8 47), .lit (.int .u8 59), .lit (.int .u8 36), .lit (.int .u8 45), .lit (.int .u8 43), .lit (.int .u8 51), .lit (.int .u8 22), .lit (.int .u8 53), .lit (.int .u8 39), .lit (.int .u8 33), .lit (.int .u8 30), .lit (.int .u8 24), .lit (.int .u8 18), .lit (.int .u8 12), .lit (.int .u8 5), .lit (.int .u8 63), .lit (.int .u8 55), .lit (.int .u8 48), .lit (.int .u8 27), .lit (.int .u8 60), .lit (.int .u8 41), .lit (.int .u8 37), .lit (.int .u8 16), .lit (.int .u8 46), .lit (.int .u8 35), .lit (.int .u8 44), .lit (.int .u8 21), .lit (.int .u8 52), .lit (.int .u8 32), .lit (.int .u8 23), .lit (.int .u8 11), .lit (.int .u8 54), .lit (.int .u8 26), .lit (.int .u8 40), .lit (.int .u8 15), .lit (.int .u8 34), .lit (.int .u8 20), .lit (.int .u8 31), .lit (.int .u8 10), .lit (.int .u8 25), .lit (.int .u8 14), .lit (.int .u8 19), .lit (.int .u8 9), .lit (.int .u8 13), .lit (.int .u8 8), .lit (.int .u8 7), .lit (.int .u8 6)]
def laid_internal_strconv_uint64pow10 {H : Type} : DataW H := .agg [.lit (.int .u64 1), .lit (.int .u64 10), .lit (.int .u64 100), .lit (.int .u64 1000), .lit (.int .u64 10000), .lit (.int .u64 100000), .lit (.int .u64 1000000), .lit (.int .u64 10000000), .lit (.int .u64 100000000), .lit (.int .u64 1000000000), .lit (.int .u64 10000000000), .lit (.int .u64 100000000000), .lit (.int .u64 1000000000000), .lit (.int .u64 10000000000000), .lit (.int .u64 100000000000000), .lit (.int .u64 1000000000000000), .lit (.int .u64 10000000000000000), .lit (.int .u64 100000000000000000), .lit (.int .u64 1000000000000000000), .lit (.int .u64 10000000000000000000)]
def laid_unicodetext_ordering_ranges {H : Type} : DataW H := .agg [.agg [.lit (.int .i64 4352), .lit (.int .i64 4370)], .agg [.lit (.int .i64 4449), .lit (.int .i64 4469)], .agg [.lit (.int .i64 4520), .lit (.int .i64 4546)], .agg [.lit (.int .i64 44032), .lit (.int .i64 55203)]]

/-- 'unicodetextlaw43.ColltableChecks': WHATEVER THE INPUT: true; the input reads as it did. -/
def colltableChecksSpec : ChangeSpec := { name := "colltableChecks", fn := fun _ => fun
  | [d] => { results := [.lit (.bool true)], args := [d] }
  | _ => none }
def colltableChecksRow : OpenClaim := { program := "ytgbaaobgnpjhcaagreatdoor", sum := "7b74bd2ba2643f44090de5260a23b000d259ea2a486309114b74edfa0119eae3", func := "unicodetext/unicodetextlaw43.ColltableChecks", spec := "colltableChecks", inPlace := ["internal/bytealg.abigen_runtime_cmpstring", "internal/abi.NoEscape"], unfollowed := true, recurses := true, named := ["unicodetext/ordering.ranges", "internal/strconv.uint64pow10", "math/bits.deBruijn32tab", "math/bits.deBruijn64tab"], plainKeys := false, apart := false, laid := [("math/bits.deBruijn32tab", laid_math_bits_deBruijn32tab), ("math/bits.deBruijn64tab", laid_math_bits_deBruijn64tab), ("internal/strconv.uint64pow10", laid_internal_strconv_uint64pow10), ("unicodetext/ordering.ranges", laid_unicodetext_ordering_ranges)] }
def ColltableChecksSaid : Prop := colltableChecksRow.holds Tryz.pinned (OpenSpec.ofChange colltableChecksSpec)

/-- ITS FALSE NEIGHBOUR: 'it returns false'. Refute it at one input. -/
def colltableChecksWrong : ChangeSpec := { name := "colltableChecks", fn := fun _ => fun
  | [d] => { results := [.lit (.bool false)], args := [d] }
  | _ => none }
def ColltableChecksWrongFalsely : Prop := colltableChecksRow.holds Tryz.pinned (OpenSpec.ofChange colltableChecksWrong)

/-- 'unicodetextlaw43.ColltableSteps': WHATEVER THE INPUT: true; the input reads as it did. -/
def colltableStepsSpec : ChangeSpec := { name := "colltableSteps", fn := fun _ => fun
  | [d] => { results := [.lit (.bool true)], args := [d] }
  | _ => none }
def colltableStepsRow : OpenClaim := { program := "ytgbaaobgnpjhcaagreatdoor", sum := "7b74bd2ba2643f44090de5260a23b000d259ea2a486309114b74edfa0119eae3", func := "unicodetext/unicodetextlaw43.ColltableSteps", spec := "colltableSteps", inPlace := ["internal/bytealg.abigen_runtime_cmpstring", "internal/abi.NoEscape"], unfollowed := true, recurses := true, named := ["unicodetext/ordering.ranges", "internal/strconv.uint64pow10", "math/bits.deBruijn32tab", "math/bits.deBruijn64tab"], plainKeys := false, apart := false, laid := [("math/bits.deBruijn32tab", laid_math_bits_deBruijn32tab), ("math/bits.deBruijn64tab", laid_math_bits_deBruijn64tab), ("internal/strconv.uint64pow10", laid_internal_strconv_uint64pow10), ("unicodetext/ordering.ranges", laid_unicodetext_ordering_ranges)] }
def ColltableStepsSaid : Prop := colltableStepsRow.holds Tryz.pinned (OpenSpec.ofChange colltableStepsSpec)

/-- ITS FALSE NEIGHBOUR: 'it returns false'. Refute it at one input. -/
def colltableStepsWrong : ChangeSpec := { name := "colltableSteps", fn := fun _ => fun
  | [d] => { results := [.lit (.bool false)], args := [d] }
  | _ => none }
def ColltableStepsWrongFalsely : Prop := colltableStepsRow.holds Tryz.pinned (OpenSpec.ofChange colltableStepsWrong)

/-- 'unicodetextlaw43.ColltableFinds': WHATEVER THE INPUT: true; the input reads as it did. -/
def colltableFindsSpec : ChangeSpec := { name := "colltableFinds", fn := fun _ => fun
  | [d1, d2, d3] => { results := [.lit (.bool true)], args := [d1, d2, d3] }
  | _ => none }
def colltableFindsRow : OpenClaim := { program := "ytgbaaobgnpjhcaagreatdoor", sum := "7b74bd2ba2643f44090de5260a23b000d259ea2a486309114b74edfa0119eae3", func := "unicodetext/unicodetextlaw43.ColltableFinds", spec := "colltableFinds", inPlace := ["internal/bytealg.abigen_runtime_cmpstring", "internal/abi.NoEscape"], unfollowed := true, recurses := true, named := ["unicodetext/ordering.ranges", "internal/strconv.uint64pow10", "math/bits.deBruijn32tab", "math/bits.deBruijn64tab"], plainKeys := false, apart := false, laid := [("math/bits.deBruijn32tab", laid_math_bits_deBruijn32tab), ("math/bits.deBruijn64tab", laid_math_bits_deBruijn64tab), ("internal/strconv.uint64pow10", laid_internal_strconv_uint64pow10), ("unicodetext/ordering.ranges", laid_unicodetext_ordering_ranges)] }
def ColltableFindsSaid : Prop := colltableFindsRow.holds Tryz.pinned (OpenSpec.ofChange colltableFindsSpec)

/-- ITS FALSE NEIGHBOUR: 'it returns false'. Refute it at one input. -/
def colltableFindsWrong : ChangeSpec := { name := "colltableFinds", fn := fun _ => fun
  | [d1, d2, d3] => { results := [.lit (.bool false)], args := [d1, d2, d3] }
  | _ => none }
def ColltableFindsWrongFalsely : Prop := colltableFindsRow.holds Tryz.pinned (OpenSpec.ofChange colltableFindsWrong)

/-- 'unicodetextlaw43.ColltableLongest': WHATEVER THE INPUT: true; the input reads as it did. -/
def colltableLongestSpec : ChangeSpec := { name := "colltableLongest", fn := fun _ => fun
  | [d] => { results := [.lit (.bool true)], args := [d] }
  | _ => none }
def colltableLongestRow : OpenClaim := { program := "ytgbaaobgnpjhcaagreatdoor", sum := "7b74bd2ba2643f44090de5260a23b000d259ea2a486309114b74edfa0119eae3", func := "unicodetext/unicodetextlaw43.ColltableLongest", spec := "colltableLongest", inPlace := ["internal/bytealg.abigen_runtime_cmpstring", "internal/abi.NoEscape"], unfollowed := true, recurses := true, named := ["unicodetext/ordering.ranges", "internal/strconv.uint64pow10", "math/bits.deBruijn32tab", "math/bits.deBruijn64tab"], plainKeys := false, apart := false, laid := [("math/bits.deBruijn32tab", laid_math_bits_deBruijn32tab), ("math/bits.deBruijn64tab", laid_math_bits_deBruijn64tab), ("internal/strconv.uint64pow10", laid_internal_strconv_uint64pow10), ("unicodetext/ordering.ranges", laid_unicodetext_ordering_ranges)] }
def ColltableLongestSaid : Prop := colltableLongestRow.holds Tryz.pinned (OpenSpec.ofChange colltableLongestSpec)

/-- ITS FALSE NEIGHBOUR: 'it returns false'. Refute it at one input. -/
def colltableLongestWrong : ChangeSpec := { name := "colltableLongest", fn := fun _ => fun
  | [d] => { results := [.lit (.bool false)], args := [d] }
  | _ => none }
def ColltableLongestWrongFalsely : Prop := colltableLongestRow.holds Tryz.pinned (OpenSpec.ofChange colltableLongestWrong)

/-- 'unicodetextlaw43.ColltableWalks': WHATEVER THE INPUT: true; the input reads as it did. -/
def colltableWalksSpec : ChangeSpec := { name := "colltableWalks", fn := fun _ => fun
  | [d] => { results := [.lit (.bool true)], args := [d] }
  | _ => none }
def colltableWalksRow : OpenClaim := { program := "ytgbaaobgnpjhcaagreatdoor", sum := "7b74bd2ba2643f44090de5260a23b000d259ea2a486309114b74edfa0119eae3", func := "unicodetext/unicodetextlaw43.ColltableWalks", spec := "colltableWalks", inPlace := ["internal/bytealg.abigen_runtime_cmpstring", "internal/abi.NoEscape"], unfollowed := true, recurses := true, named := ["unicodetext/ordering.ranges", "internal/strconv.uint64pow10", "math/bits.deBruijn32tab", "math/bits.deBruijn64tab"], plainKeys := false, apart := false, laid := [("math/bits.deBruijn32tab", laid_math_bits_deBruijn32tab), ("math/bits.deBruijn64tab", laid_math_bits_deBruijn64tab), ("internal/strconv.uint64pow10", laid_internal_strconv_uint64pow10), ("unicodetext/ordering.ranges", laid_unicodetext_ordering_ranges)] }
def ColltableWalksSaid : Prop := colltableWalksRow.holds Tryz.pinned (OpenSpec.ofChange colltableWalksSpec)

/-- ITS FALSE NEIGHBOUR: 'it returns false'. Refute it at one input. -/
def colltableWalksWrong : ChangeSpec := { name := "colltableWalks", fn := fun _ => fun
  | [d] => { results := [.lit (.bool false)], args := [d] }
  | _ => none }
def ColltableWalksWrongFalsely : Prop := colltableWalksRow.holds Tryz.pinned (OpenSpec.ofChange colltableWalksWrong)

/-- 'unicodetextlaw43.ColltableJoins': WHATEVER THE INPUT: true; the input reads as it did. -/
def colltableJoinsSpec : ChangeSpec := { name := "colltableJoins", fn := fun _ => fun
  | [d1, d2] => { results := [.lit (.bool true)], args := [d1, d2] }
  | _ => none }
def colltableJoinsRow : OpenClaim := { program := "ytgbaaobgnpjhcaagreatdoor", sum := "7b74bd2ba2643f44090de5260a23b000d259ea2a486309114b74edfa0119eae3", func := "unicodetext/unicodetextlaw43.ColltableJoins", spec := "colltableJoins", inPlace := ["internal/bytealg.abigen_runtime_cmpstring", "internal/abi.NoEscape"], unfollowed := true, recurses := true, named := ["unicodetext/ordering.ranges", "internal/strconv.uint64pow10", "math/bits.deBruijn32tab", "math/bits.deBruijn64tab"], plainKeys := false, apart := false, laid := [("math/bits.deBruijn32tab", laid_math_bits_deBruijn32tab), ("math/bits.deBruijn64tab", laid_math_bits_deBruijn64tab), ("internal/strconv.uint64pow10", laid_internal_strconv_uint64pow10), ("unicodetext/ordering.ranges", laid_unicodetext_ordering_ranges)] }
def ColltableJoinsSaid : Prop := colltableJoinsRow.holds Tryz.pinned (OpenSpec.ofChange colltableJoinsSpec)

/-- ITS FALSE NEIGHBOUR: 'it returns false'. Refute it at one input. -/
def colltableJoinsWrong : ChangeSpec := { name := "colltableJoins", fn := fun _ => fun
  | [d1, d2] => { results := [.lit (.bool false)], args := [d1, d2] }
  | _ => none }
def ColltableJoinsWrongFalsely : Prop := colltableJoinsRow.holds Tryz.pinned (OpenSpec.ofChange colltableJoinsWrong)

/-- 'unicodetextlaw43.ColltableElements': WHATEVER THE INPUT: true; the input reads as it did. -/
def colltableElementsSpec : ChangeSpec := { name := "colltableElements", fn := fun _ => fun
  | [d] => { results := [.lit (.bool true)], args := [d] }
  | _ => none }
def colltableElementsRow : OpenClaim := { program := "ytgbaaobgnpjhcaagreatdoor", sum := "7b74bd2ba2643f44090de5260a23b000d259ea2a486309114b74edfa0119eae3", func := "unicodetext/unicodetextlaw43.ColltableElements", spec := "colltableElements", inPlace := ["internal/bytealg.abigen_runtime_cmpstring", "internal/abi.NoEscape"], unfollowed := true, recurses := true, named := ["unicodetext/ordering.ranges", "internal/strconv.uint64pow10", "math/bits.deBruijn32tab", "math/bits.deBruijn64tab"], plainKeys := false, apart := false, laid := [("math/bits.deBruijn32tab", laid_math_bits_deBruijn32tab), ("math/bits.deBruijn64tab", laid_math_bits_deBruijn64tab), ("internal/strconv.uint64pow10", laid_internal_strconv_uint64pow10), ("unicodetext/ordering.ranges", laid_unicodetext_ordering_ranges)] }
def ColltableElementsSaid : Prop := colltableElementsRow.holds Tryz.pinned (OpenSpec.ofChange colltableElementsSpec)

/-- ITS FALSE NEIGHBOUR: 'it returns false'. Refute it at one input. -/
def colltableElementsWrong : ChangeSpec := { name := "colltableElements", fn := fun _ => fun
  | [d] => { results := [.lit (.bool false)], args := [d] }
  | _ => none }
def ColltableElementsWrongFalsely : Prop := colltableElementsRow.holds Tryz.pinned (OpenSpec.ofChange colltableElementsWrong)

/-- 'unicodetextlaw43.ColltableSame': WHATEVER THE INPUT: true; the input reads as it did. -/
def colltableSameSpec : ChangeSpec := { name := "colltableSame", fn := fun _ => fun
  | [d1, d2] => { results := [.lit (.bool true)], args := [d1, d2] }
  | _ => none }
def colltableSameRow : OpenClaim := { program := "ytgbaaobgnpjhcaagreatdoor", sum := "7b74bd2ba2643f44090de5260a23b000d259ea2a486309114b74edfa0119eae3", func := "unicodetext/unicodetextlaw43.ColltableSame", spec := "colltableSame", inPlace := ["internal/bytealg.abigen_runtime_cmpstring", "internal/abi.NoEscape"], unfollowed := true, recurses := true, named := ["unicodetext/ordering.ranges", "internal/strconv.uint64pow10", "math/bits.deBruijn32tab", "math/bits.deBruijn64tab"], plainKeys := false, apart := false, laid := [("math/bits.deBruijn32tab", laid_math_bits_deBruijn32tab), ("math/bits.deBruijn64tab", laid_math_bits_deBruijn64tab), ("internal/strconv.uint64pow10", laid_internal_strconv_uint64pow10), ("unicodetext/ordering.ranges", laid_unicodetext_ordering_ranges)] }
def ColltableSameSaid : Prop := colltableSameRow.holds Tryz.pinned (OpenSpec.ofChange colltableSameSpec)

/-- ITS FALSE NEIGHBOUR: 'it returns false'. Refute it at one input. -/
def colltableSameWrong : ChangeSpec := { name := "colltableSame", fn := fun _ => fun
  | [d1, d2] => { results := [.lit (.bool false)], args := [d1, d2] }
  | _ => none }
def ColltableSameWrongFalsely : Prop := colltableSameRow.holds Tryz.pinned (OpenSpec.ofChange colltableSameWrong)

/-- 'unicodetextlaw43.ColltableRefuses': WHATEVER THE INPUT: true; the input reads as it did. -/
def colltableRefusesSpec : ChangeSpec := { name := "colltableRefuses", fn := fun _ => fun
  | [d1, d2] => { results := [.lit (.bool true)], args := [d1, d2] }
  | _ => none }
def colltableRefusesRow : OpenClaim := { program := "ytgbaaobgnpjhcaagreatdoor", sum := "7b74bd2ba2643f44090de5260a23b000d259ea2a486309114b74edfa0119eae3", func := "unicodetext/unicodetextlaw43.ColltableRefuses", spec := "colltableRefuses", inPlace := ["internal/bytealg.abigen_runtime_cmpstring", "internal/abi.NoEscape"], unfollowed := true, recurses := true, named := ["unicodetext/ordering.ranges", "internal/strconv.uint64pow10", "math/bits.deBruijn32tab", "math/bits.deBruijn64tab"], plainKeys := false, apart := false, laid := [("math/bits.deBruijn32tab", laid_math_bits_deBruijn32tab), ("math/bits.deBruijn64tab", laid_math_bits_deBruijn64tab), ("internal/strconv.uint64pow10", laid_internal_strconv_uint64pow10), ("unicodetext/ordering.ranges", laid_unicodetext_ordering_ranges)] }
def ColltableRefusesSaid : Prop := colltableRefusesRow.holds Tryz.pinned (OpenSpec.ofChange colltableRefusesSpec)

/-- ITS FALSE NEIGHBOUR: 'it returns false'. Refute it at one input. -/
def colltableRefusesWrong : ChangeSpec := { name := "colltableRefuses", fn := fun _ => fun
  | [d1, d2] => { results := [.lit (.bool false)], args := [d1, d2] }
  | _ => none }
def ColltableRefusesWrongFalsely : Prop := colltableRefusesRow.holds Tryz.pinned (OpenSpec.ofChange colltableRefusesWrong)

/- THE SECOND FORM. 'bulk': how many values and letters a reading holds, each counted each time it is reached (what is shared counts as often as it is met; a slice's spare places count too). A statement '..UptoSaid' is the law's where the arguments, and the package variables that the reading takes, are together of bulk at most 1048576: NARROWER than '..Said'. Prove '..Said' where nothing that the law and all that it calls make is longer than what came in: it says more and counts as full. Else prove '..UptoSaid'. A law counts once. -/
mutual
def uptoBulk {H : Type} : DataW H → Nat
  | .lit (.string bytes) => bytes.length + 1
  | .lit _ => 1
  | .nil => 1
  | .ptr d => uptoBulk d + 1
  | .slice elems spare => uptoBulkAll elems + uptoBulkAll spare + 1
  | .agg parts => uptoBulkAll parts + 1
  | .iface _ d => uptoBulk d + 1
  | .map entries => uptoBulkEntries entries + 1
  | .held _ => 1
def uptoBulkAll {H : Type} : List (DataW H) → Nat
  | [] => 0
  | d :: r => uptoBulk d + uptoBulkAll r
def uptoBulkEntries {H : Type} : List (Lit × DataW H) → Nat
  | [] => 0
  | x :: r => uptoBulkEntry x + uptoBulkEntries r
def uptoBulkEntry {H : Type} : Lit × DataW H → Nat
  | (.string bytes, d) => bytes.length + uptoBulk d + 1
  | (_, d) => uptoBulk d + 1
 end
def uptoSmall : (H : Type) → List (DataW H) → Bool := fun _ ds => decide (uptoBulkAll ds ≤ 1048576)
def OpenSpec.upto (s : _root_.Go.ChangeSpec) : _root_.Go.OpenSpec := { _root_.Go.OpenSpec.ofChange s with cond := some uptoSmall }

/-- 'unicodetextlaw43.ColltableChecks', WHERE WHAT IT READS IS OF BULK AT MOST 1048576: true; the input reads as it did. -/
def colltableChecksUptoRow : OpenClaim := { program := "ytgbaaobgnpjhcaagreatdoor", sum := "7b74bd2ba2643f44090de5260a23b000d259ea2a486309114b74edfa0119eae3", func := "unicodetext/unicodetextlaw43.ColltableChecks", spec := "colltableChecks", inPlace := ["internal/bytealg.abigen_runtime_cmpstring", "internal/abi.NoEscape"], unfollowed := true, recurses := true, named := ["unicodetext/ordering.ranges", "internal/strconv.uint64pow10", "math/bits.deBruijn32tab", "math/bits.deBruijn64tab"], plainKeys := false, apart := false, laid := [("math/bits.deBruijn32tab", laid_math_bits_deBruijn32tab), ("math/bits.deBruijn64tab", laid_math_bits_deBruijn64tab), ("internal/strconv.uint64pow10", laid_internal_strconv_uint64pow10), ("unicodetext/ordering.ranges", laid_unicodetext_ordering_ranges)], narrowed := true }
def ColltableChecksUptoSaid : Prop := colltableChecksUptoRow.holds Tryz.pinned (OpenSpec.upto colltableChecksSpec)

/-- 'unicodetextlaw43.ColltableSteps', WHERE WHAT IT READS IS OF BULK AT MOST 1048576: true; the input reads as it did. -/
def colltableStepsUptoRow : OpenClaim := { program := "ytgbaaobgnpjhcaagreatdoor", sum := "7b74bd2ba2643f44090de5260a23b000d259ea2a486309114b74edfa0119eae3", func := "unicodetext/unicodetextlaw43.ColltableSteps", spec := "colltableSteps", inPlace := ["internal/bytealg.abigen_runtime_cmpstring", "internal/abi.NoEscape"], unfollowed := true, recurses := true, named := ["unicodetext/ordering.ranges", "internal/strconv.uint64pow10", "math/bits.deBruijn32tab", "math/bits.deBruijn64tab"], plainKeys := false, apart := false, laid := [("math/bits.deBruijn32tab", laid_math_bits_deBruijn32tab), ("math/bits.deBruijn64tab", laid_math_bits_deBruijn64tab), ("internal/strconv.uint64pow10", laid_internal_strconv_uint64pow10), ("unicodetext/ordering.ranges", laid_unicodetext_ordering_ranges)], narrowed := true }
def ColltableStepsUptoSaid : Prop := colltableStepsUptoRow.holds Tryz.pinned (OpenSpec.upto colltableStepsSpec)

/-- 'unicodetextlaw43.ColltableFinds', WHERE WHAT IT READS IS OF BULK AT MOST 1048576: true; the input reads as it did. -/
def colltableFindsUptoRow : OpenClaim := { program := "ytgbaaobgnpjhcaagreatdoor", sum := "7b74bd2ba2643f44090de5260a23b000d259ea2a486309114b74edfa0119eae3", func := "unicodetext/unicodetextlaw43.ColltableFinds", spec := "colltableFinds", inPlace := ["internal/bytealg.abigen_runtime_cmpstring", "internal/abi.NoEscape"], unfollowed := true, recurses := true, named := ["unicodetext/ordering.ranges", "internal/strconv.uint64pow10", "math/bits.deBruijn32tab", "math/bits.deBruijn64tab"], plainKeys := false, apart := false, laid := [("math/bits.deBruijn32tab", laid_math_bits_deBruijn32tab), ("math/bits.deBruijn64tab", laid_math_bits_deBruijn64tab), ("internal/strconv.uint64pow10", laid_internal_strconv_uint64pow10), ("unicodetext/ordering.ranges", laid_unicodetext_ordering_ranges)], narrowed := true }
def ColltableFindsUptoSaid : Prop := colltableFindsUptoRow.holds Tryz.pinned (OpenSpec.upto colltableFindsSpec)

/-- 'unicodetextlaw43.ColltableLongest', WHERE WHAT IT READS IS OF BULK AT MOST 1048576: true; the input reads as it did. -/
def colltableLongestUptoRow : OpenClaim := { program := "ytgbaaobgnpjhcaagreatdoor", sum := "7b74bd2ba2643f44090de5260a23b000d259ea2a486309114b74edfa0119eae3", func := "unicodetext/unicodetextlaw43.ColltableLongest", spec := "colltableLongest", inPlace := ["internal/bytealg.abigen_runtime_cmpstring", "internal/abi.NoEscape"], unfollowed := true, recurses := true, named := ["unicodetext/ordering.ranges", "internal/strconv.uint64pow10", "math/bits.deBruijn32tab", "math/bits.deBruijn64tab"], plainKeys := false, apart := false, laid := [("math/bits.deBruijn32tab", laid_math_bits_deBruijn32tab), ("math/bits.deBruijn64tab", laid_math_bits_deBruijn64tab), ("internal/strconv.uint64pow10", laid_internal_strconv_uint64pow10), ("unicodetext/ordering.ranges", laid_unicodetext_ordering_ranges)], narrowed := true }
def ColltableLongestUptoSaid : Prop := colltableLongestUptoRow.holds Tryz.pinned (OpenSpec.upto colltableLongestSpec)

/-- 'unicodetextlaw43.ColltableWalks', WHERE WHAT IT READS IS OF BULK AT MOST 1048576: true; the input reads as it did. -/
def colltableWalksUptoRow : OpenClaim := { program := "ytgbaaobgnpjhcaagreatdoor", sum := "7b74bd2ba2643f44090de5260a23b000d259ea2a486309114b74edfa0119eae3", func := "unicodetext/unicodetextlaw43.ColltableWalks", spec := "colltableWalks", inPlace := ["internal/bytealg.abigen_runtime_cmpstring", "internal/abi.NoEscape"], unfollowed := true, recurses := true, named := ["unicodetext/ordering.ranges", "internal/strconv.uint64pow10", "math/bits.deBruijn32tab", "math/bits.deBruijn64tab"], plainKeys := false, apart := false, laid := [("math/bits.deBruijn32tab", laid_math_bits_deBruijn32tab), ("math/bits.deBruijn64tab", laid_math_bits_deBruijn64tab), ("internal/strconv.uint64pow10", laid_internal_strconv_uint64pow10), ("unicodetext/ordering.ranges", laid_unicodetext_ordering_ranges)], narrowed := true }
def ColltableWalksUptoSaid : Prop := colltableWalksUptoRow.holds Tryz.pinned (OpenSpec.upto colltableWalksSpec)

/-- 'unicodetextlaw43.ColltableJoins', WHERE WHAT IT READS IS OF BULK AT MOST 1048576: true; the input reads as it did. -/
def colltableJoinsUptoRow : OpenClaim := { program := "ytgbaaobgnpjhcaagreatdoor", sum := "7b74bd2ba2643f44090de5260a23b000d259ea2a486309114b74edfa0119eae3", func := "unicodetext/unicodetextlaw43.ColltableJoins", spec := "colltableJoins", inPlace := ["internal/bytealg.abigen_runtime_cmpstring", "internal/abi.NoEscape"], unfollowed := true, recurses := true, named := ["unicodetext/ordering.ranges", "internal/strconv.uint64pow10", "math/bits.deBruijn32tab", "math/bits.deBruijn64tab"], plainKeys := false, apart := false, laid := [("math/bits.deBruijn32tab", laid_math_bits_deBruijn32tab), ("math/bits.deBruijn64tab", laid_math_bits_deBruijn64tab), ("internal/strconv.uint64pow10", laid_internal_strconv_uint64pow10), ("unicodetext/ordering.ranges", laid_unicodetext_ordering_ranges)], narrowed := true }
def ColltableJoinsUptoSaid : Prop := colltableJoinsUptoRow.holds Tryz.pinned (OpenSpec.upto colltableJoinsSpec)

/-- 'unicodetextlaw43.ColltableElements', WHERE WHAT IT READS IS OF BULK AT MOST 1048576: true; the input reads as it did. -/
def colltableElementsUptoRow : OpenClaim := { program := "ytgbaaobgnpjhcaagreatdoor", sum := "7b74bd2ba2643f44090de5260a23b000d259ea2a486309114b74edfa0119eae3", func := "unicodetext/unicodetextlaw43.ColltableElements", spec := "colltableElements", inPlace := ["internal/bytealg.abigen_runtime_cmpstring", "internal/abi.NoEscape"], unfollowed := true, recurses := true, named := ["unicodetext/ordering.ranges", "internal/strconv.uint64pow10", "math/bits.deBruijn32tab", "math/bits.deBruijn64tab"], plainKeys := false, apart := false, laid := [("math/bits.deBruijn32tab", laid_math_bits_deBruijn32tab), ("math/bits.deBruijn64tab", laid_math_bits_deBruijn64tab), ("internal/strconv.uint64pow10", laid_internal_strconv_uint64pow10), ("unicodetext/ordering.ranges", laid_unicodetext_ordering_ranges)], narrowed := true }
def ColltableElementsUptoSaid : Prop := colltableElementsUptoRow.holds Tryz.pinned (OpenSpec.upto colltableElementsSpec)

/-- 'unicodetextlaw43.ColltableSame', WHERE WHAT IT READS IS OF BULK AT MOST 1048576: true; the input reads as it did. -/
def colltableSameUptoRow : OpenClaim := { program := "ytgbaaobgnpjhcaagreatdoor", sum := "7b74bd2ba2643f44090de5260a23b000d259ea2a486309114b74edfa0119eae3", func := "unicodetext/unicodetextlaw43.ColltableSame", spec := "colltableSame", inPlace := ["internal/bytealg.abigen_runtime_cmpstring", "internal/abi.NoEscape"], unfollowed := true, recurses := true, named := ["unicodetext/ordering.ranges", "internal/strconv.uint64pow10", "math/bits.deBruijn32tab", "math/bits.deBruijn64tab"], plainKeys := false, apart := false, laid := [("math/bits.deBruijn32tab", laid_math_bits_deBruijn32tab), ("math/bits.deBruijn64tab", laid_math_bits_deBruijn64tab), ("internal/strconv.uint64pow10", laid_internal_strconv_uint64pow10), ("unicodetext/ordering.ranges", laid_unicodetext_ordering_ranges)], narrowed := true }
def ColltableSameUptoSaid : Prop := colltableSameUptoRow.holds Tryz.pinned (OpenSpec.upto colltableSameSpec)

/-- 'unicodetextlaw43.ColltableRefuses', WHERE WHAT IT READS IS OF BULK AT MOST 1048576: true; the input reads as it did. -/
def colltableRefusesUptoRow : OpenClaim := { program := "ytgbaaobgnpjhcaagreatdoor", sum := "7b74bd2ba2643f44090de5260a23b000d259ea2a486309114b74edfa0119eae3", func := "unicodetext/unicodetextlaw43.ColltableRefuses", spec := "colltableRefuses", inPlace := ["internal/bytealg.abigen_runtime_cmpstring", "internal/abi.NoEscape"], unfollowed := true, recurses := true, named := ["unicodetext/ordering.ranges", "internal/strconv.uint64pow10", "math/bits.deBruijn32tab", "math/bits.deBruijn64tab"], plainKeys := false, apart := false, laid := [("math/bits.deBruijn32tab", laid_math_bits_deBruijn32tab), ("math/bits.deBruijn64tab", laid_math_bits_deBruijn64tab), ("internal/strconv.uint64pow10", laid_internal_strconv_uint64pow10), ("unicodetext/ordering.ranges", laid_unicodetext_ordering_ranges)], narrowed := true }
def ColltableRefusesUptoSaid : Prop := colltableRefusesUptoRow.holds Tryz.pinned (OpenSpec.upto colltableRefusesSpec)

end Rows
end Go.Proofs.YtgbaaobgnpjhcaaGreatDoor
