/-
  NARROWER THAN 'FOR EVERY INPUT', by the rows' own cells (each row's printed sentence says how): ImageDecodes: laid · TagWraps: laid · TagOpens: laid · TagTranslates: laid · LinkOpens: laid.
  DERIVED. THE GIVEN ROWS OF THIS SEAT. 5 by the template 'for every input the law returns true; each argument reads behind the call as it read before'; 0 by the template 'total and deterministic' (their statements: YthofeajlmgecmaaGreatDoorTotals.lean).
  GIVEN WITH THE SEED: the statements are not yours to turn. If you find one false, say at which input.
  Laid BY PROGRAM, IN A SANDBOX (cutbox-rows.mjs): the forced cells as the released guide's own fill.sh prints them over the translation 776d9de69c95b8ba… (all of the seat's roots in one cut). By AI agents, Wed Nov 11 2026. No macro, syntax, notation, axiom, sorry.
-/
import Derived.Test.YthofeajlmgecmaaGreatDoorChecked
import GoSem.PinnedTables
import GoSem.Claim
import GoSem.ClaimJoined
import GoSem.ClaimMapViews
import Derived.JoinedTies
import Derived.KernelRfl
namespace Go.Proofs.YthofeajlmgecmaaGreatDoor
/- THE CELL 'sum', in the pinned program and in every row, IS THE sha256 OF THE DUMP (.gsa) THAT YthofeajlmgecmaaGreatDoorProg.lean LOADS. Nothing in Lean hashes anything: it is a label: what it is worth is what the hold of that sum in a sandbox is worth. -/
noncomputable def Tryz.pinned : Pinned := { name := "ythofeajlmgecmaagreatdoor", sum := "776d9de69c95b8ba58f8d31b3be2c6cacbbc45e73ab369acd98c38d5ed95f58f", checked := Tryz.checked }
namespace Rows
def none {H : Type} : Left H := { results := [], args := [] }

/- WHAT THE LISTED PACKAGE-LEVEL VARIABLES READ AS WHEN THE CALL BEGINS. Each datum BY PROGRAM (the guide's laid-datum.mjs) off the statement by which the dump's own 'gosem.cut.vars' lays the variable. In a bare row this is a premise. The card (YthofeajlmgecmaaGreatDoorCards.lean) ties it to the program's text. -/
def laid_unicode_utf8_acceptRanges {H : Type} : DataW H := .agg [.agg [.lit (.int .u8 128), .lit (.int .u8 191)], .agg [.lit (.int .u8 160), .lit (.int .u8 191)], .agg [.lit (.int .u8 128), .lit (.int .u8 159)], .agg [.lit (.int .u8 144), .lit (.int .u8 191)], .agg [.lit (.int .u8 128), .lit (.int .u8 143)], .agg [.lit (.int .u8 0), .lit (.int .u8 0)], .agg [.lit (.int .u8 0), .lit (.int .u8 0)], .agg [.lit (.int .u8 0), .lit (.int .u8 0)], .agg [.lit (.int .u8 0), .lit (.int .u8 0)], .agg [.lit (.int .u8 0), .lit (.int .u8 0)], .agg [.lit (.int .u8 0), .lit (.int .u8 0)], .agg [.lit (.int .u8 0), .lit (.int .u8 0)], .agg [.lit (.int .u8 0), .lit (.int .u8 0)], .agg [.lit (.int .u8 0), .lit (.int .u8 0)], .agg [.lit (.int .u8 0), .lit (.int .u8 0)], .agg [.lit (.int .u8 0), .lit (.int .u8 0)]]
/-- One of Go's own tables, pinned by name: the form's constant. -/
def laid_unicode_utf8_first : DataW Unit := Go.Pinned.utf8First
def laid_changeover_crc_table {H : Type} : DataW H := .agg [.lit (.int .u32 0), .lit (.int .u32 498536548), .lit (.int .u32 997073096), .lit (.int .u32 651767980), .lit (.int .u32 1994146192), .lit (.int .u32 1802195444), .lit (.int .u32 1303535960), .lit (.int .u32 1342533948), .lit (.int .u32 3988292384), .lit (.int .u32 4027552580), .lit (.int .u32 3604390888), .lit (.int .u32 3412177804), .lit (.int .u32 2607071920), .lit (.int .u32 2262029012), .lit (.int .u32 2685067896), .lit (.int .u32 3183342108)]

/-- 'changeoverlaw39.ImageDecodes': WHATEVER THE INPUT: true; the input reads as it did. -/
def imageDecodesSpec : ChangeSpec := { name := "imageDecodes", fn := fun _ => fun
  | [d1, d2] => { results := [.lit (.bool true)], args := [d1, d2] }
  | _ => none }
def imageDecodesRow : OpenClaim := { program := "ythofeajlmgecmaagreatdoor", sum := "776d9de69c95b8ba58f8d31b3be2c6cacbbc45e73ab369acd98c38d5ed95f58f", func := "changeover/changeoverlaw39.ImageDecodes", spec := "imageDecodes", unfollowed := true, recurses := true, named := ["unicode/utf8.first", "unicode/utf8.acceptRanges"], apart := false, laid := [("unicode/utf8.acceptRanges", laid_unicode_utf8_acceptRanges), ("unicode/utf8.first", laid_unicode_utf8_first)] }
def ImageDecodesSaid : Prop := imageDecodesRow.holds Tryz.pinned (OpenSpec.ofChange imageDecodesSpec)

/-- ITS FALSE NEIGHBOUR: 'it returns false'. Refute it at one input. -/
def imageDecodesWrong : ChangeSpec := { name := "imageDecodes", fn := fun _ => fun
  | [d1, d2] => { results := [.lit (.bool false)], args := [d1, d2] }
  | _ => none }
def ImageDecodesWrongFalsely : Prop := imageDecodesRow.holds Tryz.pinned (OpenSpec.ofChange imageDecodesWrong)

/-- 'changeoverlaw15.TagWraps': WHATEVER THE INPUT: true; the input reads as it did. -/
def tagWrapsSpec : ChangeSpec := { name := "tagWraps", fn := fun _ => fun
  | [d1, d2, d3] => { results := [.lit (.bool true)], args := [d1, d2, d3] }
  | _ => none }
def tagWrapsRow : OpenClaim := { program := "ythofeajlmgecmaagreatdoor", sum := "776d9de69c95b8ba58f8d31b3be2c6cacbbc45e73ab369acd98c38d5ed95f58f", func := "changeover/changeoverlaw15.TagWraps", spec := "tagWraps", unfollowed := true, recurses := true, named := ["unicode/utf8.first", "unicode/utf8.acceptRanges", "changeover/crc.table"], apart := false, laid := [("unicode/utf8.acceptRanges", laid_unicode_utf8_acceptRanges), ("changeover/crc.table", laid_changeover_crc_table), ("unicode/utf8.first", laid_unicode_utf8_first)] }
def TagWrapsSaid : Prop := tagWrapsRow.holds Tryz.pinned (OpenSpec.ofChange tagWrapsSpec)

/-- ITS FALSE NEIGHBOUR: 'it returns false'. Refute it at one input. -/
def tagWrapsWrong : ChangeSpec := { name := "tagWraps", fn := fun _ => fun
  | [d1, d2, d3] => { results := [.lit (.bool false)], args := [d1, d2, d3] }
  | _ => none }
def TagWrapsWrongFalsely : Prop := tagWrapsRow.holds Tryz.pinned (OpenSpec.ofChange tagWrapsWrong)

/-- 'changeoverlaw15.TagOpens': WHATEVER THE INPUT: true; the input reads as it did. -/
def tagOpensSpec : ChangeSpec := { name := "tagOpens", fn := fun _ => fun
  | [d1, d2] => { results := [.lit (.bool true)], args := [d1, d2] }
  | _ => none }
def tagOpensRow : OpenClaim := { program := "ythofeajlmgecmaagreatdoor", sum := "776d9de69c95b8ba58f8d31b3be2c6cacbbc45e73ab369acd98c38d5ed95f58f", func := "changeover/changeoverlaw15.TagOpens", spec := "tagOpens", unfollowed := true, recurses := true, named := ["unicode/utf8.first", "unicode/utf8.acceptRanges", "changeover/crc.table"], apart := false, laid := [("unicode/utf8.acceptRanges", laid_unicode_utf8_acceptRanges), ("changeover/crc.table", laid_changeover_crc_table), ("unicode/utf8.first", laid_unicode_utf8_first)] }
def TagOpensSaid : Prop := tagOpensRow.holds Tryz.pinned (OpenSpec.ofChange tagOpensSpec)

/-- ITS FALSE NEIGHBOUR: 'it returns false'. Refute it at one input. -/
def tagOpensWrong : ChangeSpec := { name := "tagOpens", fn := fun _ => fun
  | [d1, d2] => { results := [.lit (.bool false)], args := [d1, d2] }
  | _ => none }
def TagOpensWrongFalsely : Prop := tagOpensRow.holds Tryz.pinned (OpenSpec.ofChange tagOpensWrong)

/-- 'changeoverlaw15.TagTranslates': WHATEVER THE INPUT: true; the input reads as it did. -/
def tagTranslatesSpec : ChangeSpec := { name := "tagTranslates", fn := fun _ => fun
  | [d1, d2, d3] => { results := [.lit (.bool true)], args := [d1, d2, d3] }
  | _ => none }
def tagTranslatesRow : OpenClaim := { program := "ythofeajlmgecmaagreatdoor", sum := "776d9de69c95b8ba58f8d31b3be2c6cacbbc45e73ab369acd98c38d5ed95f58f", func := "changeover/changeoverlaw15.TagTranslates", spec := "tagTranslates", unfollowed := true, recurses := true, named := ["unicode/utf8.first", "unicode/utf8.acceptRanges", "changeover/crc.table"], apart := false, laid := [("unicode/utf8.acceptRanges", laid_unicode_utf8_acceptRanges), ("changeover/crc.table", laid_changeover_crc_table), ("unicode/utf8.first", laid_unicode_utf8_first)] }
def TagTranslatesSaid : Prop := tagTranslatesRow.holds Tryz.pinned (OpenSpec.ofChange tagTranslatesSpec)

/-- ITS FALSE NEIGHBOUR: 'it returns false'. Refute it at one input. -/
def tagTranslatesWrong : ChangeSpec := { name := "tagTranslates", fn := fun _ => fun
  | [d1, d2, d3] => { results := [.lit (.bool false)], args := [d1, d2, d3] }
  | _ => none }
def TagTranslatesWrongFalsely : Prop := tagTranslatesRow.holds Tryz.pinned (OpenSpec.ofChange tagTranslatesWrong)

/-- 'changeoverlaw37.LinkOpens': WHATEVER THE INPUT: true; the input reads as it did. -/
def linkOpensSpec : ChangeSpec := { name := "linkOpens", fn := fun _ => fun
  | [d1, d2, d3] => { results := [.lit (.bool true)], args := [d1, d2, d3] }
  | _ => none }
def linkOpensRow : OpenClaim := { program := "ythofeajlmgecmaagreatdoor", sum := "776d9de69c95b8ba58f8d31b3be2c6cacbbc45e73ab369acd98c38d5ed95f58f", func := "changeover/changeoverlaw37.LinkOpens", spec := "linkOpens", unfollowed := true, recurses := true, named := ["unicode/utf8.first", "unicode/utf8.acceptRanges", "changeover/crc.table"], apart := false, laid := [("unicode/utf8.acceptRanges", laid_unicode_utf8_acceptRanges), ("changeover/crc.table", laid_changeover_crc_table), ("unicode/utf8.first", laid_unicode_utf8_first)] }
def LinkOpensSaid : Prop := linkOpensRow.holds Tryz.pinned (OpenSpec.ofChange linkOpensSpec)

/-- ITS FALSE NEIGHBOUR: 'it returns false'. Refute it at one input. -/
def linkOpensWrong : ChangeSpec := { name := "linkOpens", fn := fun _ => fun
  | [d1, d2, d3] => { results := [.lit (.bool false)], args := [d1, d2, d3] }
  | _ => none }
def LinkOpensWrongFalsely : Prop := linkOpensRow.holds Tryz.pinned (OpenSpec.ofChange linkOpensWrong)

/- THE SECOND FORM. 'bulk': how many values and letters a reading holds, each counted each time it is reached (what is shared counts as often as it is met; a slice's spare places count too). A statement '..UptoSaid' is the law's where the arguments, and the package variables that the reading takes, are together of bulk at most 1048576: NARROWER than '..Said'. Prove '..Said' where nothing that the law and all that it calls make is longer than what came in: it says more and counts as full. Else prove '..UptoSaid'. A law counts once. -/
mutual
def uptoBulk {H : Type} : DataW H → Nat
  | .lit (.string bytes) => bytes.length + 1
  | .lit _ => 1
  | .nil => 1
  | .ptr d => uptoBulk d + 1
  | .slice elems spare => uptoBulkAll elems + uptoBulkAll spare + 1
  | .agg parts => uptoBulkAll parts + 1
  | .iface _ d => uptoBulk d + 1
  | .map entries => uptoBulkEntries entries + 1
  | .held _ => 1
def uptoBulkAll {H : Type} : List (DataW H) → Nat
  | [] => 0
  | d :: r => uptoBulk d + uptoBulkAll r
def uptoBulkEntries {H : Type} : List (Lit × DataW H) → Nat
  | [] => 0
  | x :: r => uptoBulkEntry x + uptoBulkEntries r
def uptoBulkEntry {H : Type} : Lit × DataW H → Nat
  | (.string bytes, d) => bytes.length + uptoBulk d + 1
  | (_, d) => uptoBulk d + 1
 end
def uptoSmall : (H : Type) → List (DataW H) → Bool := fun _ ds => decide (uptoBulkAll ds ≤ 1048576)
def OpenSpec.upto (s : _root_.Go.ChangeSpec) : _root_.Go.OpenSpec := { _root_.Go.OpenSpec.ofChange s with cond := some uptoSmall }

/-- 'changeoverlaw39.ImageDecodes', WHERE WHAT IT READS IS OF BULK AT MOST 1048576: true; the input reads as it did. -/
def imageDecodesUptoRow : OpenClaim := { program := "ythofeajlmgecmaagreatdoor", sum := "776d9de69c95b8ba58f8d31b3be2c6cacbbc45e73ab369acd98c38d5ed95f58f", func := "changeover/changeoverlaw39.ImageDecodes", spec := "imageDecodes", unfollowed := true, recurses := true, named := ["unicode/utf8.first", "unicode/utf8.acceptRanges"], apart := false, laid := [("unicode/utf8.acceptRanges", laid_unicode_utf8_acceptRanges), ("unicode/utf8.first", laid_unicode_utf8_first)], narrowed := true }
def ImageDecodesUptoSaid : Prop := imageDecodesUptoRow.holds Tryz.pinned (OpenSpec.upto imageDecodesSpec)

/-- 'changeoverlaw15.TagWraps', WHERE WHAT IT READS IS OF BULK AT MOST 1048576: true; the input reads as it did. -/
def tagWrapsUptoRow : OpenClaim := { program := "ythofeajlmgecmaagreatdoor", sum := "776d9de69c95b8ba58f8d31b3be2c6cacbbc45e73ab369acd98c38d5ed95f58f", func := "changeover/changeoverlaw15.TagWraps", spec := "tagWraps", unfollowed := true, recurses := true, named := ["unicode/utf8.first", "unicode/utf8.acceptRanges", "changeover/crc.table"], apart := false, laid := [("unicode/utf8.acceptRanges", laid_unicode_utf8_acceptRanges), ("changeover/crc.table", laid_changeover_crc_table), ("unicode/utf8.first", laid_unicode_utf8_first)], narrowed := true }
def TagWrapsUptoSaid : Prop := tagWrapsUptoRow.holds Tryz.pinned (OpenSpec.upto tagWrapsSpec)

/-- 'changeoverlaw15.TagOpens', WHERE WHAT IT READS IS OF BULK AT MOST 1048576: true; the input reads as it did. -/
def tagOpensUptoRow : OpenClaim := { program := "ythofeajlmgecmaagreatdoor", sum := "776d9de69c95b8ba58f8d31b3be2c6cacbbc45e73ab369acd98c38d5ed95f58f", func := "changeover/changeoverlaw15.TagOpens", spec := "tagOpens", unfollowed := true, recurses := true, named := ["unicode/utf8.first", "unicode/utf8.acceptRanges", "changeover/crc.table"], apart := false, laid := [("unicode/utf8.acceptRanges", laid_unicode_utf8_acceptRanges), ("changeover/crc.table", laid_changeover_crc_table), ("unicode/utf8.first", laid_unicode_utf8_first)], narrowed := true }
def TagOpensUptoSaid : Prop := tagOpensUptoRow.holds Tryz.pinned (OpenSpec.upto tagOpensSpec)

/-- 'changeoverlaw15.TagTranslates', WHERE WHAT IT READS IS OF BULK AT MOST 1048576: true; the input reads as it did. -/
def tagTranslatesUptoRow : OpenClaim := { program := "ythofeajlmgecmaagreatdoor", sum := "776d9de69c95b8ba58f8d31b3be2c6cacbbc45e73ab369acd98c38d5ed95f58f", func := "changeover/changeoverlaw15.TagTranslates", spec := "tagTranslates", unfollowed := true, recurses := true, named := ["unicode/utf8.first", "unicode/utf8.acceptRanges", "changeover/crc.table"], apart := false, laid := [("unicode/utf8.acceptRanges", laid_unicode_utf8_acceptRanges), ("changeover/crc.table", laid_changeover_crc_table), ("unicode/utf8.first", laid_unicode_utf8_first)], narrowed := true }
def TagTranslatesUptoSaid : Prop := tagTranslatesUptoRow.holds Tryz.pinned (OpenSpec.upto tagTranslatesSpec)

/-- 'changeoverlaw37.LinkOpens', WHERE WHAT IT READS IS OF BULK AT MOST 1048576: true; the input reads as it did. -/
def linkOpensUptoRow : OpenClaim := { program := "ythofeajlmgecmaagreatdoor", sum := "776d9de69c95b8ba58f8d31b3be2c6cacbbc45e73ab369acd98c38d5ed95f58f", func := "changeover/changeoverlaw37.LinkOpens", spec := "linkOpens", unfollowed := true, recurses := true, named := ["unicode/utf8.first", "unicode/utf8.acceptRanges", "changeover/crc.table"], apart := false, laid := [("unicode/utf8.acceptRanges", laid_unicode_utf8_acceptRanges), ("changeover/crc.table", laid_changeover_crc_table), ("unicode/utf8.first", laid_unicode_utf8_first)], narrowed := true }
def LinkOpensUptoSaid : Prop := linkOpensUptoRow.holds Tryz.pinned (OpenSpec.upto linkOpensSpec)

end Rows
end Go.Proofs.YthofeajlmgecmaaGreatDoor
