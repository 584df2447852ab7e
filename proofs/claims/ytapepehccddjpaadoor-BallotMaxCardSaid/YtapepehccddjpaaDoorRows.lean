/-
  NARROWER THAN 'FOR EVERY INPUT', by the rows' own cells (each row's printed sentence says how): MigrUps: laid · MigrChecks: laid · BallotLess: laid · BallotNext: laid · BallotMax: laid · SessChecks: laid · KvoneChecks: laid · KvtwoChecks: laid.
  DERIVED. THE GIVEN ROWS OF THIS SEAT. 8 by the template 'for every input the law returns true; each argument reads behind the call as it read before'; 0 by the template 'total and deterministic' (their statements: YtapepehccddjpaaDoorTotals.lean).
  GIVEN WITH THE SEED: the statements are not yours to turn. If you find one false, say at which input.
  Laid BY PROGRAM, IN A SANDBOX (cutbox-rows.mjs): the forced cells as the released guide's own fill.sh prints them over the translation e9118b33e0f88e45… (all of the seat's roots in one cut). By AI agents, Wed Nov 11 2026. No macro, syntax, notation, axiom, sorry.
-/
import Derived.Test.YtapepehccddjpaaDoorChecked
import GoSem.PinnedTables
import GoSem.Claim
import GoSem.ClaimJoined
import GoSem.ClaimMapViews
import Derived.JoinedTies
import Derived.KernelRfl
namespace Go.Proofs.YtapepehccddjpaaDoor
/- THE CELL 'sum', in the pinned program and in every row, IS THE sha256 OF THE DUMP (.gsa) THAT YtapepehccddjpaaDoorProg.lean LOADS. Nothing in Lean hashes anything: it is a label: what it is worth is what the hold of that sum in a sandbox is worth. -/
noncomputable def Tryd.pinned : Pinned := { name := "ytapepehccddjpaadoor", sum := "e9118b33e0f88e45f60098feb0a26902dffa2bd1b58046e1b6a4a032db7425a2", checked := Tryd.checked }
namespace Rows
def none {H : Type} : Left H := { results := [], args := [] }

/- WHAT THE LISTED PACKAGE-LEVEL VARIABLES READ AS WHEN THE CALL BEGINS. Each datum BY PROGRAM (the guide's laid-datum.mjs) off the statement by which the dump's own 'gosem.cut.vars' lays the variable. In a bare row this is a premise. The card (YtapepehccddjpaaDoorCards.lean) ties it to the program's text. -/
def laid_unicode_utf8_acceptRanges {H : Type} : DataW H := .agg [.agg [.lit (.int .u8 128), .lit (.int .u8 191)], .agg [.lit (.int .u8 160), .lit (.int .u8 191)], .agg [.lit (.int .u8 128), .lit (.int .u8 159)], .agg [.lit (.int .u8 144), .lit (.int .u8 191)], .agg [.lit (.int .u8 128), .lit (.int .u8 143)], .agg [.lit (.int .u8 0), .lit (.int .u8 0)], .agg [.lit (.int .u8 0), .lit (.int .u8 0)], .agg [.lit (.int .u8 0), .lit (.int .u8 0)], .agg [.lit (.int .u8 0), .lit (.int .u8 0)], .agg [.lit (.int .u8 0), .lit (.int .u8 0)], .agg [.lit (.int .u8 0), .lit (.int .u8 0)], .agg [.lit (.int .u8 0), .lit (.int .u8 0)], .agg [.lit (.int .u8 0), .lit (.int .u8 0)], .agg [.lit (.int .u8 0), .lit (.int .u8 0)], .agg [.lit (.int .u8 0), .lit (.int .u8 0)], .agg [.lit (.int .u8 0), .lit (.int .u8 0)]]
/-- One of Go's own tables, pinned by name: the form's constant. -/
def laid_unicode_utf8_first : DataW Unit := Go.Pinned.utf8First
def laid_math_bits_deBruijn32tab {H : Type} : DataW H := .agg [.lit (.int .u8 0), .lit (.int .u8 1), .lit (.int .u8 28), .lit (.int .u8 2), .lit (.int .u8 29), .lit (.int .u8 14), .lit (.int .u8 24), .lit (.int .u8 3), .lit (.int .u8 30), .lit (.int .u8 22), .lit (.int .u8 20), .lit (.int .u8 15), .lit (.int .u8 25), .lit (.int .u8 17), .lit (.int .u8 4), .lit (.int .u8 8), .lit (.int .u8 31), .lit (.int .u8 27), .lit (.int .u8 13), .lit (.int .u8 23), .lit (.int .u8 21), .lit (.int .u8 19), .lit (.int .u8 16), .lit (.int .u8 7), .lit (.int .u8 26), .lit (.int .u8 12), .lit (.int .u8 18), .lit (.int .u8 6), .lit (.int .u8 11), .lit (.int .u8 5), .lit (.int .u8 10), .lit (.int .u8 9)]
def laid_math_bits_deBruijn64tab {H : Type} : DataW H := .agg [.lit (.int .u8 0), .lit (.int .u8 1), .lit (.int .u8 56), .lit (.int .u8 2), .lit (.int .u8 57), .lit (.int .u8 49), .lit (.int .u8 28), .lit (.int .u8 3), .lit (.int .u8 61), .lit (.int .u8 58), .lit (.int .u8 42), .lit (.int .u8 50), .lit (.int .u8 38), .lit (.int .u8 29), .lit (.int .u8 17), .lit (.int .u8 4), .lit (.int .u8 62), .lit (.int .u8 47), .lit (.int .u8 59), .lit (.int .u8 36), .lit (.int .u8 45), .lit (.int .u8 43), .lit (.int .u8 51), .lit (.int .u8 22), .lit (.int .u8 53), .lit (.int .u8 39), .lit (.int .u8 33), .lit (.int .u8 30), .lit (.int .u8 24), .lit (.int .u8 18), .lit (.int .u8 12), .lit (.int .u8 5), .lit (.int .u8 63), .lit (.int .u8 55), .lit (.int .u8 48), .lit (.int .u8 27), .lit (.int .u8 60), .lit (.int .u8 41), .lit (.int .u8 37), .lit (.int .u8 16), .lit (.int .u8 46), .lit (.int .u8 35), .lit (.int .u8 44), .lit (.int .u8 21), .lit (.int .u8 52), .lit (.int .u8 32), .lit (.int .u8 23), .lit (.int .u8 11), .lit (.int .u8 54), .lit (.int .u8 26), .lit (.int .u8 40), .lit (.int .u8 15), .lit (.int .u8 34), .lit (.int .u8 20), .lit (.int .u8 31), .lit (.int .u8 10), .lit (.int .u8 25), .lit (.int .u8 14), .lit (.int .u8 19), .lit (.int .u8 9), .lit (.int .u8 13), .lit (.int .u8 8), .lit (.int .u8 7), .lit (.int .u8 6)]
def laid_internal_strconv_uint64pow10 {H : Type} : DataW H := .agg [.lit (.int .u64 1), .lit (.int .u64 10), .lit (.int .u64 100), .lit (.int .u64 1000), .lit (.int .u64 10000), .lit (.int .u64 100000), .lit (.int .u64 1000000), .lit (.int .u64 10000000), .lit (.int .u64 100000000), .lit (.int .u64 1000000000), .lit (.int .u64 10000000000), .lit (.int .u64 100000000000), .lit (.int .u64 1000000000000), .lit (.int .u64 10000000000000), .lit (.int .u64 100000000000000), .lit (.int .u64 1000000000000000), .lit (.int .u64 10000000000000000), .lit (.int .u64 100000000000000000), .lit (.int .u64 1000000000000000000), .lit (.int .u64 10000000000000000000)]

/-- 'changeoverlaw25.MigrUps': WHATEVER THE INPUT: true; the input reads as it did. -/
def migrUpsSpec : ChangeSpec := { name := "migrUps", fn := fun _ => fun
  | [d] => { results := [.lit (.bool true)], args := [d] }
  | _ => none }
def migrUpsRow : OpenClaim := { program := "ytapepehccddjpaadoor", sum := "e9118b33e0f88e45f60098feb0a26902dffa2bd1b58046e1b6a4a032db7425a2", func := "changeover/changeoverlaw25.MigrUps", spec := "migrUps", unfollowed := true, recurses := true, named := ["unicode/utf8.first", "unicode/utf8.acceptRanges"], apart := false, laid := [("unicode/utf8.acceptRanges", laid_unicode_utf8_acceptRanges), ("unicode/utf8.first", laid_unicode_utf8_first)] }
def MigrUpsSaid : Prop := migrUpsRow.holds Tryd.pinned (OpenSpec.ofChange migrUpsSpec)

/-- ITS FALSE NEIGHBOUR: 'it returns false'. Refute it at one input. -/
def migrUpsWrong : ChangeSpec := { name := "migrUps", fn := fun _ => fun
  | [d] => { results := [.lit (.bool false)], args := [d] }
  | _ => none }
def MigrUpsWrongFalsely : Prop := migrUpsRow.holds Tryd.pinned (OpenSpec.ofChange migrUpsWrong)

/-- 'changeoverlaw25.MigrChecks': WHATEVER THE INPUT: true; the input reads as it did. -/
def migrChecksSpec : ChangeSpec := { name := "migrChecks", fn := fun _ => fun
  | [d1, d2] => { results := [.lit (.bool true)], args := [d1, d2] }
  | _ => none }
def migrChecksRow : OpenClaim := { program := "ytapepehccddjpaadoor", sum := "e9118b33e0f88e45f60098feb0a26902dffa2bd1b58046e1b6a4a032db7425a2", func := "changeover/changeoverlaw25.MigrChecks", spec := "migrChecks", unfollowed := true, recurses := true, named := ["unicode/utf8.first", "unicode/utf8.acceptRanges"], apart := false, laid := [("unicode/utf8.acceptRanges", laid_unicode_utf8_acceptRanges), ("unicode/utf8.first", laid_unicode_utf8_first)] }
def MigrChecksSaid : Prop := migrChecksRow.holds Tryd.pinned (OpenSpec.ofChange migrChecksSpec)

/-- ITS FALSE NEIGHBOUR: 'it returns false'. Refute it at one input. -/
def migrChecksWrong : ChangeSpec := { name := "migrChecks", fn := fun _ => fun
  | [d1, d2] => { results := [.lit (.bool false)], args := [d1, d2] }
  | _ => none }
def MigrChecksWrongFalsely : Prop := migrChecksRow.holds Tryd.pinned (OpenSpec.ofChange migrChecksWrong)

/-- 'changeoverlaw10.BallotLess': WHATEVER THE INPUT: true; the input reads as it did. -/
def ballotLessSpec : ChangeSpec := { name := "ballotLess", fn := fun _ => fun
  | [d1, d2] => { results := [.lit (.bool true)], args := [d1, d2] }
  | _ => none }
def ballotLessRow : OpenClaim := { program := "ytapepehccddjpaadoor", sum := "e9118b33e0f88e45f60098feb0a26902dffa2bd1b58046e1b6a4a032db7425a2", func := "changeover/changeoverlaw10.BallotLess", spec := "ballotLess", named := ["internal/strconv.uint64pow10", "math/bits.deBruijn32tab", "math/bits.deBruijn64tab"], apart := false, laid := [("math/bits.deBruijn32tab", laid_math_bits_deBruijn32tab), ("math/bits.deBruijn64tab", laid_math_bits_deBruijn64tab), ("internal/strconv.uint64pow10", laid_internal_strconv_uint64pow10)] }
def BallotLessSaid : Prop := ballotLessRow.holds Tryd.pinned (OpenSpec.ofChange ballotLessSpec)

/-- ITS FALSE NEIGHBOUR: 'it returns false'. Refute it at one input. -/
def ballotLessWrong : ChangeSpec := { name := "ballotLess", fn := fun _ => fun
  | [d1, d2] => { results := [.lit (.bool false)], args := [d1, d2] }
  | _ => none }
def BallotLessWrongFalsely : Prop := ballotLessRow.holds Tryd.pinned (OpenSpec.ofChange ballotLessWrong)

/-- 'changeoverlaw10.BallotNext': WHATEVER THE INPUT: true; the input reads as it did. -/
def ballotNextSpec : ChangeSpec := { name := "ballotNext", fn := fun _ => fun
  | [d1, d2] => { results := [.lit (.bool true)], args := [d1, d2] }
  | _ => none }
def ballotNextRow : OpenClaim := { program := "ytapepehccddjpaadoor", sum := "e9118b33e0f88e45f60098feb0a26902dffa2bd1b58046e1b6a4a032db7425a2", func := "changeover/changeoverlaw10.BallotNext", spec := "ballotNext", named := ["internal/strconv.uint64pow10", "math/bits.deBruijn32tab", "math/bits.deBruijn64tab"], apart := false, laid := [("math/bits.deBruijn32tab", laid_math_bits_deBruijn32tab), ("math/bits.deBruijn64tab", laid_math_bits_deBruijn64tab), ("internal/strconv.uint64pow10", laid_internal_strconv_uint64pow10)] }
def BallotNextSaid : Prop := ballotNextRow.holds Tryd.pinned (OpenSpec.ofChange ballotNextSpec)

/-- ITS FALSE NEIGHBOUR: 'it returns false'. Refute it at one input. -/
def ballotNextWrong : ChangeSpec := { name := "ballotNext", fn := fun _ => fun
  | [d1, d2] => { results := [.lit (.bool false)], args := [d1, d2] }
  | _ => none }
def BallotNextWrongFalsely : Prop := ballotNextRow.holds Tryd.pinned (OpenSpec.ofChange ballotNextWrong)

/-- 'changeoverlaw10.BallotMax': WHATEVER THE INPUT: true; the input reads as it did. -/
def ballotMaxSpec : ChangeSpec := { name := "ballotMax", fn := fun _ => fun
  | [d] => { results := [.lit (.bool true)], args := [d] }
  | _ => none }
def ballotMaxRow : OpenClaim := { program := "ytapepehccddjpaadoor", sum := "e9118b33e0f88e45f60098feb0a26902dffa2bd1b58046e1b6a4a032db7425a2", func := "changeover/changeoverlaw10.BallotMax", spec := "ballotMax", named := ["internal/strconv.uint64pow10", "math/bits.deBruijn32tab", "math/bits.deBruijn64tab"], apart := false, laid := [("math/bits.deBruijn32tab", laid_math_bits_deBruijn32tab), ("math/bits.deBruijn64tab", laid_math_bits_deBruijn64tab), ("internal/strconv.uint64pow10", laid_internal_strconv_uint64pow10)] }
def BallotMaxSaid : Prop := ballotMaxRow.holds Tryd.pinned (OpenSpec.ofChange ballotMaxSpec)

/-- ITS FALSE NEIGHBOUR: 'it returns false'. Refute it at one input. -/
def ballotMaxWrong : ChangeSpec := { name := "ballotMax", fn := fun _ => fun
  | [d] => { results := [.lit (.bool false)], args := [d] }
  | _ => none }
def BallotMaxWrongFalsely : Prop := ballotMaxRow.holds Tryd.pinned (OpenSpec.ofChange ballotMaxWrong)

/-- 'changeoverlaw22.SessChecks': WHATEVER THE INPUT: true; the input reads as it did. -/
def sessChecksSpec : ChangeSpec := { name := "sessChecks", fn := fun _ => fun
  | [d] => { results := [.lit (.bool true)], args := [d] }
  | _ => none }
def sessChecksRow : OpenClaim := { program := "ytapepehccddjpaadoor", sum := "e9118b33e0f88e45f60098feb0a26902dffa2bd1b58046e1b6a4a032db7425a2", func := "changeover/changeoverlaw22.SessChecks", spec := "sessChecks", inPlace := ["slices.overlaps[changeover/api.Session]"], unfollowed := true, recurses := true, named := ["unicode/utf8.first", "unicode/utf8.acceptRanges"], apart := false, laid := [("unicode/utf8.acceptRanges", laid_unicode_utf8_acceptRanges), ("unicode/utf8.first", laid_unicode_utf8_first)] }
def SessChecksSaid : Prop := sessChecksRow.holds Tryd.pinned (OpenSpec.ofChange sessChecksSpec)

/-- ITS FALSE NEIGHBOUR: 'it returns false'. Refute it at one input. -/
def sessChecksWrong : ChangeSpec := { name := "sessChecks", fn := fun _ => fun
  | [d] => { results := [.lit (.bool false)], args := [d] }
  | _ => none }
def SessChecksWrongFalsely : Prop := sessChecksRow.holds Tryd.pinned (OpenSpec.ofChange sessChecksWrong)

/-- 'changeoverlaw23.KvoneChecks': WHATEVER THE INPUT: true; the input reads as it did. -/
def kvoneChecksSpec : ChangeSpec := { name := "kvoneChecks", fn := fun _ => fun
  | [d1, d2] => { results := [.lit (.bool true)], args := [d1, d2] }
  | _ => none }
def kvoneChecksRow : OpenClaim := { program := "ytapepehccddjpaadoor", sum := "e9118b33e0f88e45f60098feb0a26902dffa2bd1b58046e1b6a4a032db7425a2", func := "changeover/changeoverlaw23.KvoneChecks", spec := "kvoneChecks", inPlace := ["internal/bytealg.abigen_runtime_cmpstring", "slices.overlaps[changeover/api.Pair]"], unfollowed := true, recurses := true, named := ["unicode/utf8.first", "unicode/utf8.acceptRanges"], apart := false, laid := [("unicode/utf8.acceptRanges", laid_unicode_utf8_acceptRanges), ("unicode/utf8.first", laid_unicode_utf8_first)] }
def KvoneChecksSaid : Prop := kvoneChecksRow.holds Tryd.pinned (OpenSpec.ofChange kvoneChecksSpec)

/-- ITS FALSE NEIGHBOUR: 'it returns false'. Refute it at one input. -/
def kvoneChecksWrong : ChangeSpec := { name := "kvoneChecks", fn := fun _ => fun
  | [d1, d2] => { results := [.lit (.bool false)], args := [d1, d2] }
  | _ => none }
def KvoneChecksWrongFalsely : Prop := kvoneChecksRow.holds Tryd.pinned (OpenSpec.ofChange kvoneChecksWrong)

/-- 'changeoverlaw24.KvtwoChecks': WHATEVER THE INPUT: true; the input reads as it did. -/
def kvtwoChecksSpec : ChangeSpec := { name := "kvtwoChecks", fn := fun _ => fun
  | [d] => { results := [.lit (.bool true)], args := [d] }
  | _ => none }
def kvtwoChecksRow : OpenClaim := { program := "ytapepehccddjpaadoor", sum := "e9118b33e0f88e45f60098feb0a26902dffa2bd1b58046e1b6a4a032db7425a2", func := "changeover/changeoverlaw24.KvtwoChecks", spec := "kvtwoChecks", inPlace := ["internal/bytealg.abigen_runtime_cmpstring", "slices.overlaps[changeover/api.Pair]"], unfollowed := true, recurses := true, named := ["unicode/utf8.first", "unicode/utf8.acceptRanges"], apart := false, laid := [("unicode/utf8.acceptRanges", laid_unicode_utf8_acceptRanges), ("unicode/utf8.first", laid_unicode_utf8_first)] }
def KvtwoChecksSaid : Prop := kvtwoChecksRow.holds Tryd.pinned (OpenSpec.ofChange kvtwoChecksSpec)

/-- ITS FALSE NEIGHBOUR: 'it returns false'. Refute it at one input. -/
def kvtwoChecksWrong : ChangeSpec := { name := "kvtwoChecks", fn := fun _ => fun
  | [d] => { results := [.lit (.bool false)], args := [d] }
  | _ => none }
def KvtwoChecksWrongFalsely : Prop := kvtwoChecksRow.holds Tryd.pinned (OpenSpec.ofChange kvtwoChecksWrong)

/- THE SECOND FORM. 'bulk': how many values and letters a reading holds, each counted each time it is reached (what is shared counts as often as it is met; a slice's spare places count too). A statement '..UptoSaid' is the law's where the arguments, and the package variables that the reading takes, are together of bulk at most 1048576: NARROWER than '..Said'. Prove '..Said' where nothing that the law and all that it calls make is longer than what came in: it says more and counts as full. Else prove '..UptoSaid'. A law counts once. -/
mutual
def uptoBulk {H : Type} : DataW H → Nat
  | .lit (.string bytes) => bytes.length + 1
  | .lit _ => 1
  | .nil => 1
  | .ptr d => uptoBulk d + 1
  | .slice elems spare => uptoBulkAll elems + uptoBulkAll spare + 1
  | .agg parts => uptoBulkAll parts + 1
  | .iface _ d => uptoBulk d + 1
  | .map entries => uptoBulkEntries entries + 1
  | .held _ => 1
def uptoBulkAll {H : Type} : List (DataW H) → Nat
  | [] => 0
  | d :: r => uptoBulk d + uptoBulkAll r
def uptoBulkEntries {H : Type} : List (Lit × DataW H) → Nat
  | [] => 0
  | x :: r => uptoBulkEntry x + uptoBulkEntries r
def uptoBulkEntry {H : Type} : Lit × DataW H → Nat
  | (.string bytes, d) => bytes.length + uptoBulk d + 1
  | (_, d) => uptoBulk d + 1
 end
def uptoSmall : (H : Type) → List (DataW H) → Bool := fun _ ds => decide (uptoBulkAll ds ≤ 1048576)
def OpenSpec.upto (s : _root_.Go.ChangeSpec) : _root_.Go.OpenSpec := { _root_.Go.OpenSpec.ofChange s with cond := some uptoSmall }

/-- 'changeoverlaw25.MigrUps', WHERE WHAT IT READS IS OF BULK AT MOST 1048576: true; the input reads as it did. -/
def migrUpsUptoRow : OpenClaim := { program := "ytapepehccddjpaadoor", sum := "e9118b33e0f88e45f60098feb0a26902dffa2bd1b58046e1b6a4a032db7425a2", func := "changeover/changeoverlaw25.MigrUps", spec := "migrUps", unfollowed := true, recurses := true, named := ["unicode/utf8.first", "unicode/utf8.acceptRanges"], apart := false, laid := [("unicode/utf8.acceptRanges", laid_unicode_utf8_acceptRanges), ("unicode/utf8.first", laid_unicode_utf8_first)], narrowed := true }
def MigrUpsUptoSaid : Prop := migrUpsUptoRow.holds Tryd.pinned (OpenSpec.upto migrUpsSpec)

/-- 'changeoverlaw25.MigrChecks', WHERE WHAT IT READS IS OF BULK AT MOST 1048576: true; the input reads as it did. -/
def migrChecksUptoRow : OpenClaim := { program := "ytapepehccddjpaadoor", sum := "e9118b33e0f88e45f60098feb0a26902dffa2bd1b58046e1b6a4a032db7425a2", func := "changeover/changeoverlaw25.MigrChecks", spec := "migrChecks", unfollowed := true, recurses := true, named := ["unicode/utf8.first", "unicode/utf8.acceptRanges"], apart := false, laid := [("unicode/utf8.acceptRanges", laid_unicode_utf8_acceptRanges), ("unicode/utf8.first", laid_unicode_utf8_first)], narrowed := true }
def MigrChecksUptoSaid : Prop := migrChecksUptoRow.holds Tryd.pinned (OpenSpec.upto migrChecksSpec)

/-- 'changeoverlaw10.BallotLess', WHERE WHAT IT READS IS OF BULK AT MOST 1048576: true; the input reads as it did. -/
def ballotLessUptoRow : OpenClaim := { program := "ytapepehccddjpaadoor", sum := "e9118b33e0f88e45f60098feb0a26902dffa2bd1b58046e1b6a4a032db7425a2", func := "changeover/changeoverlaw10.BallotLess", spec := "ballotLess", named := ["internal/strconv.uint64pow10", "math/bits.deBruijn32tab", "math/bits.deBruijn64tab"], apart := false, laid := [("math/bits.deBruijn32tab", laid_math_bits_deBruijn32tab), ("math/bits.deBruijn64tab", laid_math_bits_deBruijn64tab), ("internal/strconv.uint64pow10", laid_internal_strconv_uint64pow10)], narrowed := true }
def BallotLessUptoSaid : Prop := ballotLessUptoRow.holds Tryd.pinned (OpenSpec.upto ballotLessSpec)

/-- 'changeoverlaw10.BallotNext', WHERE WHAT IT READS IS OF BULK AT MOST 1048576: true; the input reads as it did. -/
def ballotNextUptoRow : OpenClaim := { program := "ytapepehccddjpaadoor", sum := "e9118b33e0f88e45f60098feb0a26902dffa2bd1b58046e1b6a4a032db7425a2", func := "changeover/changeoverlaw10.BallotNext", spec := "ballotNext", named := ["internal/strconv.uint64pow10", "math/bits.deBruijn32tab", "math/bits.deBruijn64tab"], apart := false, laid := [("math/bits.deBruijn32tab", laid_math_bits_deBruijn32tab), ("math/bits.deBruijn64tab", laid_math_bits_deBruijn64tab), ("internal/strconv.uint64pow10", laid_internal_strconv_uint64pow10)], narrowed := true }
def BallotNextUptoSaid : Prop := ballotNextUptoRow.holds Tryd.pinned (OpenSpec.upto ballotNextSpec)

/-- 'changeoverlaw10.BallotMax', WHERE WHAT IT READS IS OF BULK AT MOST 1048576: true; the input reads as it did. -/
def ballotMaxUptoRow : OpenClaim := { program := "ytapepehccddjpaadoor", sum := "e9118b33e0f88e45f60098feb0a26902dffa2bd1b58046e1b6a4a032db7425a2", func := "changeover/changeoverlaw10.BallotMax", spec := "ballotMax", named := ["internal/strconv.uint64pow10", "math/bits.deBruijn32tab", "math/bits.deBruijn64tab"], apart := false, laid := [("math/bits.deBruijn32tab", laid_math_bits_deBruijn32tab), ("math/bits.deBruijn64tab", laid_math_bits_deBruijn64tab), ("internal/strconv.uint64pow10", laid_internal_strconv_uint64pow10)], narrowed := true }
def BallotMaxUptoSaid : Prop := ballotMaxUptoRow.holds Tryd.pinned (OpenSpec.upto ballotMaxSpec)

/-- 'changeoverlaw22.SessChecks', WHERE WHAT IT READS IS OF BULK AT MOST 1048576: true; the input reads as it did. -/
def sessChecksUptoRow : OpenClaim := { program := "ytapepehccddjpaadoor", sum := "e9118b33e0f88e45f60098feb0a26902dffa2bd1b58046e1b6a4a032db7425a2", func := "changeover/changeoverlaw22.SessChecks", spec := "sessChecks", inPlace := ["slices.overlaps[changeover/api.Session]"], unfollowed := true, recurses := true, named := ["unicode/utf8.first", "unicode/utf8.acceptRanges"], apart := false, laid := [("unicode/utf8.acceptRanges", laid_unicode_utf8_acceptRanges), ("unicode/utf8.first", laid_unicode_utf8_first)], narrowed := true }
def SessChecksUptoSaid : Prop := sessChecksUptoRow.holds Tryd.pinned (OpenSpec.upto sessChecksSpec)

/-- 'changeoverlaw23.KvoneChecks', WHERE WHAT IT READS IS OF BULK AT MOST 1048576: true; the input reads as it did. -/
def kvoneChecksUptoRow : OpenClaim := { program := "ytapepehccddjpaadoor", sum := "e9118b33e0f88e45f60098feb0a26902dffa2bd1b58046e1b6a4a032db7425a2", func := "changeover/changeoverlaw23.KvoneChecks", spec := "kvoneChecks", inPlace := ["internal/bytealg.abigen_runtime_cmpstring", "slices.overlaps[changeover/api.Pair]"], unfollowed := true, recurses := true, named := ["unicode/utf8.first", "unicode/utf8.acceptRanges"], apart := false, laid := [("unicode/utf8.acceptRanges", laid_unicode_utf8_acceptRanges), ("unicode/utf8.first", laid_unicode_utf8_first)], narrowed := true }
def KvoneChecksUptoSaid : Prop := kvoneChecksUptoRow.holds Tryd.pinned (OpenSpec.upto kvoneChecksSpec)

/-- 'changeoverlaw24.KvtwoChecks', WHERE WHAT IT READS IS OF BULK AT MOST 1048576: true; the input reads as it did. -/
def kvtwoChecksUptoRow : OpenClaim := { program := "ytapepehccddjpaadoor", sum := "e9118b33e0f88e45f60098feb0a26902dffa2bd1b58046e1b6a4a032db7425a2", func := "changeover/changeoverlaw24.KvtwoChecks", spec := "kvtwoChecks", inPlace := ["internal/bytealg.abigen_runtime_cmpstring", "slices.overlaps[changeover/api.Pair]"], unfollowed := true, recurses := true, named := ["unicode/utf8.first", "unicode/utf8.acceptRanges"], apart := false, laid := [("unicode/utf8.acceptRanges", laid_unicode_utf8_acceptRanges), ("unicode/utf8.first", laid_unicode_utf8_first)], narrowed := true }
def KvtwoChecksUptoSaid : Prop := kvtwoChecksUptoRow.holds Tryd.pinned (OpenSpec.upto kvtwoChecksSpec)

end Rows
end Go.Proofs.YtapepehccddjpaaDoor
