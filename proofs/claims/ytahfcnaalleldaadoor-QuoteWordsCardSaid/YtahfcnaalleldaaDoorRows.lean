/-
  NARROWER THAN 'FOR EVERY INPUT', by the rows' own cells (each row's printed sentence says how): QuoteTexts: laid · QuoteReads: laid · QuoteLines: laid · QuoteWords: laid · MsgoneChecks: laid · SnaponeEncodes: laid · SnaponeDecodes: laid · SnaptwoGets: laid · SnaptwoMigrates: laid · SnaptwoPuts: laid · MsgoneDecodes: laid.
  DERIVED. THE GIVEN ROWS OF THIS SEAT. 11 by the template 'for every input the law returns true; each argument reads behind the call as it read before'; 0 by the template 'total and deterministic' (their statements: YtahfcnaalleldaaDoorTotals.lean).
  GIVEN WITH THE SEED: the statements are not yours to turn. If you find one false, say at which input.
  Laid BY PROGRAM, IN A SANDBOX (cutbox-rows.mjs): the forced cells as the released guide's own fill.sh prints them over the translation cca198e80f7c13ab… (all of the seat's roots in one cut). By AI agents, Wed Nov 11 2026. No macro, syntax, notation, axiom, sorry.
-/
import Derived.Test.YtahfcnaalleldaaDoorChecked
import GoSem.PinnedTables
import GoSem.Claim
import GoSem.ClaimJoined
import GoSem.ClaimMapViews
import Derived.JoinedTies
import Derived.KernelRfl
namespace Go.Proofs.YtahfcnaalleldaaDoor
/- THE CELL 'sum', in the pinned program and in every row, IS THE sha256 OF THE DUMP (.gsa) THAT YtahfcnaalleldaaDoorProg.lean LOADS. Nothing in Lean hashes anything: it is a label: what it is worth is what the hold of that sum in a sandbox is worth. -/
noncomputable def Tryd.pinned : Pinned := { name := "ytahfcnaalleldaadoor", sum := "cca198e80f7c13ab711b2d34da19d712a92281404521a91c5e741307460fb3f8", checked := Tryd.checked }
namespace Rows
def none {H : Type} : Left H := { results := [], args := [] }

/- WHAT THE LISTED PACKAGE-LEVEL VARIABLES READ AS WHEN THE CALL BEGINS. Each datum BY PROGRAM (the guide's laid-datum.mjs) off the statement by which the dump's own 'gosem.cut.vars' lays the variable. In a bare row this is a premise. The card (YtahfcnaalleldaaDoorCards.lean) ties it to the program's text. -/
def laid_unicode_utf8_acceptRanges {H : Type} : DataW H := .agg [.agg [.lit (.int .u8 128), .lit (.int .u8 191)], .agg [.lit (.int .u8 160), .lit (.int .u8 191)], .agg [.lit (.int .u8 128), .lit (.int .u8 159)], .agg [.lit (.int .u8 144), .lit (.int .u8 191)], .agg [.lit (.int .u8 128), .lit (.int .u8 143)], .agg [.lit (.int .u8 0), .lit (.int .u8 0)], .agg [.lit (.int .u8 0), .lit (.int .u8 0)], .agg [.lit (.int .u8 0), .lit (.int .u8 0)], .agg [.lit (.int .u8 0), .lit (.int .u8 0)], .agg [.lit (.int .u8 0), .lit (.int .u8 0)], .agg [.lit (.int .u8 0), .lit (.int .u8 0)], .agg [.lit (.int .u8 0), .lit (.int .u8 0)], .agg [.lit (.int .u8 0), .lit (.int .u8 0)], .agg [.lit (.int .u8 0), .lit (.int .u8 0)], .agg [.lit (.int .u8 0), .lit (.int .u8 0)], .agg [.lit (.int .u8 0), .lit (.int .u8 0)]]
/-- One of Go's own tables, pinned by name: the form's constant. -/
def laid_unicode_utf8_first : DataW Unit := Go.Pinned.utf8First

/-- 'changeoverlaw06.QuoteTexts': WHATEVER THE INPUT: true; the input reads as it did. -/
def quoteTextsSpec : ChangeSpec := { name := "quoteTexts", fn := fun _ => fun
  | [d] => { results := [.lit (.bool true)], args := [d] }
  | _ => none }
def quoteTextsRow : OpenClaim := { program := "ytahfcnaalleldaadoor", sum := "cca198e80f7c13ab711b2d34da19d712a92281404521a91c5e741307460fb3f8", func := "changeover/changeoverlaw06.QuoteTexts", spec := "quoteTexts", inPlace := ["internal/bytealg.IndexByteString", "internal/abi.NoEscape", "internal/bytealg.IndexString", "internal/bytealg.MakeNoZero"], named := ["unicode/utf8.first", "unicode/utf8.acceptRanges", "internal/bytealg.MaxLen"], apart := false, laid := [("unicode/utf8.acceptRanges", laid_unicode_utf8_acceptRanges), ("unicode/utf8.first", laid_unicode_utf8_first)] }
def QuoteTextsSaid : Prop := quoteTextsRow.holds Tryd.pinned (OpenSpec.ofChange quoteTextsSpec)

/-- ITS FALSE NEIGHBOUR: 'it returns false'. Refute it at one input. -/
def quoteTextsWrong : ChangeSpec := { name := "quoteTexts", fn := fun _ => fun
  | [d] => { results := [.lit (.bool false)], args := [d] }
  | _ => none }
def QuoteTextsWrongFalsely : Prop := quoteTextsRow.holds Tryd.pinned (OpenSpec.ofChange quoteTextsWrong)

/-- 'changeoverlaw06.QuoteReads': WHATEVER THE INPUT: true; the input reads as it did. -/
def quoteReadsSpec : ChangeSpec := { name := "quoteReads", fn := fun _ => fun
  | [d] => { results := [.lit (.bool true)], args := [d] }
  | _ => none }
def quoteReadsRow : OpenClaim := { program := "ytahfcnaalleldaadoor", sum := "cca198e80f7c13ab711b2d34da19d712a92281404521a91c5e741307460fb3f8", func := "changeover/changeoverlaw06.QuoteReads", spec := "quoteReads", inPlace := ["internal/bytealg.IndexByteString", "internal/abi.NoEscape", "internal/bytealg.IndexString", "internal/bytealg.MakeNoZero"], named := ["unicode/utf8.first", "unicode/utf8.acceptRanges", "internal/bytealg.MaxLen"], apart := false, laid := [("unicode/utf8.acceptRanges", laid_unicode_utf8_acceptRanges), ("unicode/utf8.first", laid_unicode_utf8_first)] }
def QuoteReadsSaid : Prop := quoteReadsRow.holds Tryd.pinned (OpenSpec.ofChange quoteReadsSpec)

/-- ITS FALSE NEIGHBOUR: 'it returns false'. Refute it at one input. -/
def quoteReadsWrong : ChangeSpec := { name := "quoteReads", fn := fun _ => fun
  | [d] => { results := [.lit (.bool false)], args := [d] }
  | _ => none }
def QuoteReadsWrongFalsely : Prop := quoteReadsRow.holds Tryd.pinned (OpenSpec.ofChange quoteReadsWrong)

/-- 'changeoverlaw06.QuoteLines': WHATEVER THE INPUT: true; the input reads as it did. -/
def quoteLinesSpec : ChangeSpec := { name := "quoteLines", fn := fun _ => fun
  | [d] => { results := [.lit (.bool true)], args := [d] }
  | _ => none }
def quoteLinesRow : OpenClaim := { program := "ytahfcnaalleldaadoor", sum := "cca198e80f7c13ab711b2d34da19d712a92281404521a91c5e741307460fb3f8", func := "changeover/changeoverlaw06.QuoteLines", spec := "quoteLines", inPlace := ["internal/bytealg.IndexByteString", "internal/abi.NoEscape", "internal/bytealg.IndexString", "internal/bytealg.MakeNoZero"], named := ["unicode/utf8.first", "unicode/utf8.acceptRanges", "internal/bytealg.MaxLen"], apart := false, laid := [("unicode/utf8.acceptRanges", laid_unicode_utf8_acceptRanges), ("unicode/utf8.first", laid_unicode_utf8_first)] }
def QuoteLinesSaid : Prop := quoteLinesRow.holds Tryd.pinned (OpenSpec.ofChange quoteLinesSpec)

/-- ITS FALSE NEIGHBOUR: 'it returns false'. Refute it at one input. -/
def quoteLinesWrong : ChangeSpec := { name := "quoteLines", fn := fun _ => fun
  | [d] => { results := [.lit (.bool false)], args := [d] }
  | _ => none }
def QuoteLinesWrongFalsely : Prop := quoteLinesRow.holds Tryd.pinned (OpenSpec.ofChange quoteLinesWrong)

/-- 'changeoverlaw06.QuoteWords': WHATEVER THE INPUT: true; the input reads as it did. -/
def quoteWordsSpec : ChangeSpec := { name := "quoteWords", fn := fun _ => fun
  | [d] => { results := [.lit (.bool true)], args := [d] }
  | _ => none }
def quoteWordsRow : OpenClaim := { program := "ytahfcnaalleldaadoor", sum := "cca198e80f7c13ab711b2d34da19d712a92281404521a91c5e741307460fb3f8", func := "changeover/changeoverlaw06.QuoteWords", spec := "quoteWords", inPlace := ["internal/bytealg.IndexByteString", "internal/abi.NoEscape", "internal/bytealg.IndexString", "internal/bytealg.MakeNoZero"], named := ["unicode/utf8.first", "unicode/utf8.acceptRanges", "internal/bytealg.MaxLen"], apart := false, laid := [("unicode/utf8.acceptRanges", laid_unicode_utf8_acceptRanges), ("unicode/utf8.first", laid_unicode_utf8_first)] }
def QuoteWordsSaid : Prop := quoteWordsRow.holds Tryd.pinned (OpenSpec.ofChange quoteWordsSpec)

/-- ITS FALSE NEIGHBOUR: 'it returns false'. Refute it at one input. -/
def quoteWordsWrong : ChangeSpec := { name := "quoteWords", fn := fun _ => fun
  | [d] => { results := [.lit (.bool false)], args := [d] }
  | _ => none }
def QuoteWordsWrongFalsely : Prop := quoteWordsRow.holds Tryd.pinned (OpenSpec.ofChange quoteWordsWrong)

/-- 'changeoverlaw13.MsgoneChecks': WHATEVER THE INPUT: true; the input reads as it did. -/
def msgoneChecksSpec : ChangeSpec := { name := "msgoneChecks", fn := fun _ => fun
  | [d1, d2] => { results := [.lit (.bool true)], args := [d1, d2] }
  | _ => none }
def msgoneChecksRow : OpenClaim := { program := "ytahfcnaalleldaadoor", sum := "cca198e80f7c13ab711b2d34da19d712a92281404521a91c5e741307460fb3f8", func := "changeover/changeoverlaw13.MsgoneChecks", spec := "msgoneChecks", unfollowed := true, recurses := true, named := ["unicode/utf8.first", "unicode/utf8.acceptRanges"], apart := false, laid := [("unicode/utf8.acceptRanges", laid_unicode_utf8_acceptRanges), ("unicode/utf8.first", laid_unicode_utf8_first)] }
def MsgoneChecksSaid : Prop := msgoneChecksRow.holds Tryd.pinned (OpenSpec.ofChange msgoneChecksSpec)

/-- ITS FALSE NEIGHBOUR: 'it returns false'. Refute it at one input. -/
def msgoneChecksWrong : ChangeSpec := { name := "msgoneChecks", fn := fun _ => fun
  | [d1, d2] => { results := [.lit (.bool false)], args := [d1, d2] }
  | _ => none }
def MsgoneChecksWrongFalsely : Prop := msgoneChecksRow.holds Tryd.pinned (OpenSpec.ofChange msgoneChecksWrong)

/-- 'changeoverlaw26.SnaponeEncodes': WHATEVER THE INPUT: true; the input reads as it did. -/
def snaponeEncodesSpec : ChangeSpec := { name := "snaponeEncodes", fn := fun _ => fun
  | [d] => { results := [.lit (.bool true)], args := [d] }
  | _ => none }
def snaponeEncodesRow : OpenClaim := { program := "ytahfcnaalleldaadoor", sum := "cca198e80f7c13ab711b2d34da19d712a92281404521a91c5e741307460fb3f8", func := "changeover/changeoverlaw26.SnaponeEncodes", spec := "snaponeEncodes", unfollowed := true, recurses := true, named := ["unicode/utf8.first", "unicode/utf8.acceptRanges"], apart := false, laid := [("unicode/utf8.acceptRanges", laid_unicode_utf8_acceptRanges), ("unicode/utf8.first", laid_unicode_utf8_first)] }
def SnaponeEncodesSaid : Prop := snaponeEncodesRow.holds Tryd.pinned (OpenSpec.ofChange snaponeEncodesSpec)

/-- ITS FALSE NEIGHBOUR: 'it returns false'. Refute it at one input. -/
def snaponeEncodesWrong : ChangeSpec := { name := "snaponeEncodes", fn := fun _ => fun
  | [d] => { results := [.lit (.bool false)], args := [d] }
  | _ => none }
def SnaponeEncodesWrongFalsely : Prop := snaponeEncodesRow.holds Tryd.pinned (OpenSpec.ofChange snaponeEncodesWrong)

/-- 'changeoverlaw26.SnaponeDecodes': WHATEVER THE INPUT: true; the input reads as it did. -/
def snaponeDecodesSpec : ChangeSpec := { name := "snaponeDecodes", fn := fun _ => fun
  | [d] => { results := [.lit (.bool true)], args := [d] }
  | _ => none }
def snaponeDecodesRow : OpenClaim := { program := "ytahfcnaalleldaadoor", sum := "cca198e80f7c13ab711b2d34da19d712a92281404521a91c5e741307460fb3f8", func := "changeover/changeoverlaw26.SnaponeDecodes", spec := "snaponeDecodes", unfollowed := true, recurses := true, named := ["unicode/utf8.first", "unicode/utf8.acceptRanges"], apart := false, laid := [("unicode/utf8.acceptRanges", laid_unicode_utf8_acceptRanges), ("unicode/utf8.first", laid_unicode_utf8_first)] }
def SnaponeDecodesSaid : Prop := snaponeDecodesRow.holds Tryd.pinned (OpenSpec.ofChange snaponeDecodesSpec)

/-- ITS FALSE NEIGHBOUR: 'it returns false'. Refute it at one input. -/
def snaponeDecodesWrong : ChangeSpec := { name := "snaponeDecodes", fn := fun _ => fun
  | [d] => { results := [.lit (.bool false)], args := [d] }
  | _ => none }
def SnaponeDecodesWrongFalsely : Prop := snaponeDecodesRow.holds Tryd.pinned (OpenSpec.ofChange snaponeDecodesWrong)

/-- 'changeoverlaw27.SnaptwoGets': WHATEVER THE INPUT: true; the input reads as it did. -/
def snaptwoGetsSpec : ChangeSpec := { name := "snaptwoGets", fn := fun _ => fun
  | [d] => { results := [.lit (.bool true)], args := [d] }
  | _ => none }
def snaptwoGetsRow : OpenClaim := { program := "ytahfcnaalleldaadoor", sum := "cca198e80f7c13ab711b2d34da19d712a92281404521a91c5e741307460fb3f8", func := "changeover/changeoverlaw27.SnaptwoGets", spec := "snaptwoGets", unfollowed := true, recurses := true, named := ["unicode/utf8.first", "unicode/utf8.acceptRanges"], apart := false, laid := [("unicode/utf8.acceptRanges", laid_unicode_utf8_acceptRanges), ("unicode/utf8.first", laid_unicode_utf8_first)] }
def SnaptwoGetsSaid : Prop := snaptwoGetsRow.holds Tryd.pinned (OpenSpec.ofChange snaptwoGetsSpec)

/-- ITS FALSE NEIGHBOUR: 'it returns false'. Refute it at one input. -/
def snaptwoGetsWrong : ChangeSpec := { name := "snaptwoGets", fn := fun _ => fun
  | [d] => { results := [.lit (.bool false)], args := [d] }
  | _ => none }
def SnaptwoGetsWrongFalsely : Prop := snaptwoGetsRow.holds Tryd.pinned (OpenSpec.ofChange snaptwoGetsWrong)

/-- 'changeoverlaw27.SnaptwoMigrates': WHATEVER THE INPUT: true; the input reads as it did. -/
def snaptwoMigratesSpec : ChangeSpec := { name := "snaptwoMigrates", fn := fun _ => fun
  | [d1, d2] => { results := [.lit (.bool true)], args := [d1, d2] }
  | _ => none }
def snaptwoMigratesRow : OpenClaim := { program := "ytahfcnaalleldaadoor", sum := "cca198e80f7c13ab711b2d34da19d712a92281404521a91c5e741307460fb3f8", func := "changeover/changeoverlaw27.SnaptwoMigrates", spec := "snaptwoMigrates", unfollowed := true, recurses := true, named := ["unicode/utf8.first", "unicode/utf8.acceptRanges"], apart := false, laid := [("unicode/utf8.acceptRanges", laid_unicode_utf8_acceptRanges), ("unicode/utf8.first", laid_unicode_utf8_first)] }
def SnaptwoMigratesSaid : Prop := snaptwoMigratesRow.holds Tryd.pinned (OpenSpec.ofChange snaptwoMigratesSpec)

/-- ITS FALSE NEIGHBOUR: 'it returns false'. Refute it at one input. -/
def snaptwoMigratesWrong : ChangeSpec := { name := "snaptwoMigrates", fn := fun _ => fun
  | [d1, d2] => { results := [.lit (.bool false)], args := [d1, d2] }
  | _ => none }
def SnaptwoMigratesWrongFalsely : Prop := snaptwoMigratesRow.holds Tryd.pinned (OpenSpec.ofChange snaptwoMigratesWrong)

/-- 'changeoverlaw27.SnaptwoPuts': WHATEVER THE INPUT: true; the input reads as it did. -/
def snaptwoPutsSpec : ChangeSpec := { name := "snaptwoPuts", fn := fun _ => fun
  | [d] => { results := [.lit (.bool true)], args := [d] }
  | _ => none }
def snaptwoPutsRow : OpenClaim := { program := "ytahfcnaalleldaadoor", sum := "cca198e80f7c13ab711b2d34da19d712a92281404521a91c5e741307460fb3f8", func := "changeover/changeoverlaw27.SnaptwoPuts", spec := "snaptwoPuts", unfollowed := true, recurses := true, named := ["unicode/utf8.first", "unicode/utf8.acceptRanges"], apart := false, laid := [("unicode/utf8.acceptRanges", laid_unicode_utf8_acceptRanges), ("unicode/utf8.first", laid_unicode_utf8_first)] }
def SnaptwoPutsSaid : Prop := snaptwoPutsRow.holds Tryd.pinned (OpenSpec.ofChange snaptwoPutsSpec)

/-- ITS FALSE NEIGHBOUR: 'it returns false'. Refute it at one input. -/
def snaptwoPutsWrong : ChangeSpec := { name := "snaptwoPuts", fn := fun _ => fun
  | [d] => { results := [.lit (.bool false)], args := [d] }
  | _ => none }
def SnaptwoPutsWrongFalsely : Prop := snaptwoPutsRow.holds Tryd.pinned (OpenSpec.ofChange snaptwoPutsWrong)

/-- 'changeoverlaw13.MsgoneDecodes': WHATEVER THE INPUT: true; the input reads as it did. -/
def msgoneDecodesSpec : ChangeSpec := { name := "msgoneDecodes", fn := fun _ => fun
  | [d] => { results := [.lit (.bool true)], args := [d] }
  | _ => none }
def msgoneDecodesRow : OpenClaim := { program := "ytahfcnaalleldaadoor", sum := "cca198e80f7c13ab711b2d34da19d712a92281404521a91c5e741307460fb3f8", func := "changeover/changeoverlaw13.MsgoneDecodes", spec := "msgoneDecodes", unfollowed := true, recurses := true, named := ["unicode/utf8.first", "unicode/utf8.acceptRanges"], apart := false, laid := [("unicode/utf8.acceptRanges", laid_unicode_utf8_acceptRanges), ("unicode/utf8.first", laid_unicode_utf8_first)] }
def MsgoneDecodesSaid : Prop := msgoneDecodesRow.holds Tryd.pinned (OpenSpec.ofChange msgoneDecodesSpec)

/-- ITS FALSE NEIGHBOUR: 'it returns false'. Refute it at one input. -/
def msgoneDecodesWrong : ChangeSpec := { name := "msgoneDecodes", fn := fun _ => fun
  | [d] => { results := [.lit (.bool false)], args := [d] }
  | _ => none }
def MsgoneDecodesWrongFalsely : Prop := msgoneDecodesRow.holds Tryd.pinned (OpenSpec.ofChange msgoneDecodesWrong)

/- THE SECOND FORM. 'bulk': how many values and letters a reading holds, each counted each time it is reached (what is shared counts as often as it is met; a slice's spare places count too). A statement '..UptoSaid' is the law's where the arguments, and the package variables that the reading takes, are together of bulk at most 1048576: NARROWER than '..Said'. Prove '..Said' where nothing that the law and all that it calls make is longer than what came in: it says more and counts as full. Else prove '..UptoSaid'. A law counts once. -/
mutual
def uptoBulk {H : Type} : DataW H → Nat
  | .lit (.string bytes) => bytes.length + 1
  | .lit _ => 1
  | .nil => 1
  | .ptr d => uptoBulk d + 1
  | .slice elems spare => uptoBulkAll elems + uptoBulkAll spare + 1
  | .agg parts => uptoBulkAll parts + 1
  | .iface _ d => uptoBulk d + 1
  | .map entries => uptoBulkEntries entries + 1
  | .held _ => 1
def uptoBulkAll {H : Type} : List (DataW H) → Nat
  | [] => 0
  | d :: r => uptoBulk d + uptoBulkAll r
def uptoBulkEntries {H : Type} : List (Lit × DataW H) → Nat
  | [] => 0
  | x :: r => uptoBulkEntry x + uptoBulkEntries r
def uptoBulkEntry {H : Type} : Lit × DataW H → Nat
  | (.string bytes, d) => bytes.length + uptoBulk d + 1
  | (_, d) => uptoBulk d + 1
 end
def uptoSmall : (H : Type) → List (DataW H) → Bool := fun _ ds => decide (uptoBulkAll ds ≤ 1048576)
def OpenSpec.upto (s : _root_.Go.ChangeSpec) : _root_.Go.OpenSpec := { _root_.Go.OpenSpec.ofChange s with cond := some uptoSmall }

/-- 'changeoverlaw06.QuoteTexts', WHERE WHAT IT READS IS OF BULK AT MOST 1048576: true; the input reads as it did. -/
def quoteTextsUptoRow : OpenClaim := { program := "ytahfcnaalleldaadoor", sum := "cca198e80f7c13ab711b2d34da19d712a92281404521a91c5e741307460fb3f8", func := "changeover/changeoverlaw06.QuoteTexts", spec := "quoteTexts", inPlace := ["internal/bytealg.IndexByteString", "internal/abi.NoEscape", "internal/bytealg.IndexString", "internal/bytealg.MakeNoZero"], named := ["unicode/utf8.first", "unicode/utf8.acceptRanges", "internal/bytealg.MaxLen"], apart := false, laid := [("unicode/utf8.acceptRanges", laid_unicode_utf8_acceptRanges), ("unicode/utf8.first", laid_unicode_utf8_first)], narrowed := true }
def QuoteTextsUptoSaid : Prop := quoteTextsUptoRow.holds Tryd.pinned (OpenSpec.upto quoteTextsSpec)

/-- 'changeoverlaw06.QuoteReads', WHERE WHAT IT READS IS OF BULK AT MOST 1048576: true; the input reads as it did. -/
def quoteReadsUptoRow : OpenClaim := { program := "ytahfcnaalleldaadoor", sum := "cca198e80f7c13ab711b2d34da19d712a92281404521a91c5e741307460fb3f8", func := "changeover/changeoverlaw06.QuoteReads", spec := "quoteReads", inPlace := ["internal/bytealg.IndexByteString", "internal/abi.NoEscape", "internal/bytealg.IndexString", "internal/bytealg.MakeNoZero"], named := ["unicode/utf8.first", "unicode/utf8.acceptRanges", "internal/bytealg.MaxLen"], apart := false, laid := [("unicode/utf8.acceptRanges", laid_unicode_utf8_acceptRanges), ("unicode/utf8.first", laid_unicode_utf8_first)], narrowed := true }
def QuoteReadsUptoSaid : Prop := quoteReadsUptoRow.holds Tryd.pinned (OpenSpec.upto quoteReadsSpec)

/-- 'changeoverlaw06.QuoteLines', WHERE WHAT IT READS IS OF BULK AT MOST 1048576: true; the input reads as it did. -/
def quoteLinesUptoRow : OpenClaim := { program := "ytahfcnaalleldaadoor", sum := "cca198e80f7c13ab711b2d34da19d712a92281404521a91c5e741307460fb3f8", func := "changeover/changeoverlaw06.QuoteLines", spec := "quoteLines", inPlace := ["internal/bytealg.IndexByteString", "internal/abi.NoEscape", "internal/bytealg.IndexString", "internal/bytealg.MakeNoZero"], named := ["unicode/utf8.first", "unicode/utf8.acceptRanges", "internal/bytealg.MaxLen"], apart := false, laid := [("unicode/utf8.acceptRanges", laid_unicode_utf8_acceptRanges), ("unicode/utf8.first", laid_unicode_utf8_first)], narrowed := true }
def QuoteLinesUptoSaid : Prop := quoteLinesUptoRow.holds Tryd.pinned (OpenSpec.upto quoteLinesSpec)

/-- 'changeoverlaw06.QuoteWords', WHERE WHAT IT READS IS OF BULK AT MOST 1048576: true; the input reads as it did. -/
def quoteWordsUptoRow : OpenClaim := { program := "ytahfcnaalleldaadoor", sum := "cca198e80f7c13ab711b2d34da19d712a92281404521a91c5e741307460fb3f8", func := "changeover/changeoverlaw06.QuoteWords", spec := "quoteWords", inPlace := ["internal/bytealg.IndexByteString", "internal/abi.NoEscape", "internal/bytealg.IndexString", "internal/bytealg.MakeNoZero"], named := ["unicode/utf8.first", "unicode/utf8.acceptRanges", "internal/bytealg.MaxLen"], apart := false, laid := [("unicode/utf8.acceptRanges", laid_unicode_utf8_acceptRanges), ("unicode/utf8.first", laid_unicode_utf8_first)], narrowed := true }
def QuoteWordsUptoSaid : Prop := quoteWordsUptoRow.holds Tryd.pinned (OpenSpec.upto quoteWordsSpec)

/-- 'changeoverlaw13.MsgoneChecks', WHERE WHAT IT READS IS OF BULK AT MOST 1048576: true; the input reads as it did. -/
def msgoneChecksUptoRow : OpenClaim := { program := "ytahfcnaalleldaadoor", sum := "cca198e80f7c13ab711b2d34da19d712a92281404521a91c5e741307460fb3f8", func := "changeover/changeoverlaw13.MsgoneChecks", spec := "msgoneChecks", unfollowed := true, recurses := true, named := ["unicode/utf8.first", "unicode/utf8.acceptRanges"], apart := false, laid := [("unicode/utf8.acceptRanges", laid_unicode_utf8_acceptRanges), ("unicode/utf8.first", laid_unicode_utf8_first)], narrowed := true }
def MsgoneChecksUptoSaid : Prop := msgoneChecksUptoRow.holds Tryd.pinned (OpenSpec.upto msgoneChecksSpec)

/-- 'changeoverlaw26.SnaponeEncodes', WHERE WHAT IT READS IS OF BULK AT MOST 1048576: true; the input reads as it did. -/
def snaponeEncodesUptoRow : OpenClaim := { program := "ytahfcnaalleldaadoor", sum := "cca198e80f7c13ab711b2d34da19d712a92281404521a91c5e741307460fb3f8", func := "changeover/changeoverlaw26.SnaponeEncodes", spec := "snaponeEncodes", unfollowed := true, recurses := true, named := ["unicode/utf8.first", "unicode/utf8.acceptRanges"], apart := false, laid := [("unicode/utf8.acceptRanges", laid_unicode_utf8_acceptRanges), ("unicode/utf8.first", laid_unicode_utf8_first)], narrowed := true }
def SnaponeEncodesUptoSaid : Prop := snaponeEncodesUptoRow.holds Tryd.pinned (OpenSpec.upto snaponeEncodesSpec)

/-- 'changeoverlaw26.SnaponeDecodes', WHERE WHAT IT READS IS OF BULK AT MOST 1048576: true; the input reads as it did. -/
def snaponeDecodesUptoRow : OpenClaim := { program := "ytahfcnaalleldaadoor", sum := "cca198e80f7c13ab711b2d34da19d712a92281404521a91c5e741307460fb3f8", func := "changeover/changeoverlaw26.SnaponeDecodes", spec := "snaponeDecodes", unfollowed := true, recurses := true, named := ["unicode/utf8.first", "unicode/utf8.acceptRanges"], apart := false, laid := [("unicode/utf8.acceptRanges", laid_unicode_utf8_acceptRanges), ("unicode/utf8.first", laid_unicode_utf8_first)], narrowed := true }
def SnaponeDecodesUptoSaid : Prop := snaponeDecodesUptoRow.holds Tryd.pinned (OpenSpec.upto snaponeDecodesSpec)

/-- 'changeoverlaw27.SnaptwoGets', WHERE WHAT IT READS IS OF BULK AT MOST 1048576: true; the input reads as it did. -/
def snaptwoGetsUptoRow : OpenClaim := { program := "ytahfcnaalleldaadoor", sum := "cca198e80f7c13ab711b2d34da19d712a92281404521a91c5e741307460fb3f8", func := "changeover/changeoverlaw27.SnaptwoGets", spec := "snaptwoGets", unfollowed := true, recurses := true, named := ["unicode/utf8.first", "unicode/utf8.acceptRanges"], apart := false, laid := [("unicode/utf8.acceptRanges", laid_unicode_utf8_acceptRanges), ("unicode/utf8.first", laid_unicode_utf8_first)], narrowed := true }
def SnaptwoGetsUptoSaid : Prop := snaptwoGetsUptoRow.holds Tryd.pinned (OpenSpec.upto snaptwoGetsSpec)

/-- 'changeoverlaw27.SnaptwoMigrates', WHERE WHAT IT READS IS OF BULK AT MOST 1048576: true; the input reads as it did. -/
def snaptwoMigratesUptoRow : OpenClaim := { program := "ytahfcnaalleldaadoor", sum := "cca198e80f7c13ab711b2d34da19d712a92281404521a91c5e741307460fb3f8", func := "changeover/changeoverlaw27.SnaptwoMigrates", spec := "snaptwoMigrates", unfollowed := true, recurses := true, named := ["unicode/utf8.first", "unicode/utf8.acceptRanges"], apart := false, laid := [("unicode/utf8.acceptRanges", laid_unicode_utf8_acceptRanges), ("unicode/utf8.first", laid_unicode_utf8_first)], narrowed := true }
def SnaptwoMigratesUptoSaid : Prop := snaptwoMigratesUptoRow.holds Tryd.pinned (OpenSpec.upto snaptwoMigratesSpec)

/-- 'changeoverlaw27.SnaptwoPuts', WHERE WHAT IT READS IS OF BULK AT MOST 1048576: true; the input reads as it did. -/
def snaptwoPutsUptoRow : OpenClaim := { program := "ytahfcnaalleldaadoor", sum := "cca198e80f7c13ab711b2d34da19d712a92281404521a91c5e741307460fb3f8", func := "changeover/changeoverlaw27.SnaptwoPuts", spec := "snaptwoPuts", unfollowed := true, recurses := true, named := ["unicode/utf8.first", "unicode/utf8.acceptRanges"], apart := false, laid := [("unicode/utf8.acceptRanges", laid_unicode_utf8_acceptRanges), ("unicode/utf8.first", laid_unicode_utf8_first)], narrowed := true }
def SnaptwoPutsUptoSaid : Prop := snaptwoPutsUptoRow.holds Tryd.pinned (OpenSpec.upto snaptwoPutsSpec)

/-- 'changeoverlaw13.MsgoneDecodes', WHERE WHAT IT READS IS OF BULK AT MOST 1048576: true; the input reads as it did. -/
def msgoneDecodesUptoRow : OpenClaim := { program := "ytahfcnaalleldaadoor", sum := "cca198e80f7c13ab711b2d34da19d712a92281404521a91c5e741307460fb3f8", func := "changeover/changeoverlaw13.MsgoneDecodes", spec := "msgoneDecodes", unfollowed := true, recurses := true, named := ["unicode/utf8.first", "unicode/utf8.acceptRanges"], apart := false, laid := [("unicode/utf8.acceptRanges", laid_unicode_utf8_acceptRanges), ("unicode/utf8.first", laid_unicode_utf8_first)], narrowed := true }
def MsgoneDecodesUptoSaid : Prop := msgoneDecodesUptoRow.holds Tryd.pinned (OpenSpec.upto msgoneDecodesSpec)

end Rows
end Go.Proofs.YtahfcnaalleldaaDoor
