/-
  NARROWER THAN 'FOR EVERY INPUT', by the rows' own cells (each row's printed sentence says how): MsgoneChecks: laid · AcceptorKeeps: laid · AcceptorTells: laid · MsgoneDecodes: laid.
  DERIVED. THE GIVEN ROWS OF THIS SEAT. 4 by the template 'for every input the law returns true; each argument reads behind the call as it read before'; 0 by the template 'total and deterministic' (their statements: YtjkknkklhnfloaaDoorTotals.lean).
  GIVEN WITH THE SEED: the statements are not yours to turn. If you find one false, say at which input.
  Laid BY PROGRAM, IN A SANDBOX (cutbox-rows.mjs): the forced cells as the released guide's own fill.sh prints them over the translation e27870d8ea4d099a… (all of the seat's roots in one cut). By AI agents, Wed Nov 11 2026. No macro, syntax, notation, axiom, sorry.
-/
import Derived.Test.YtjkknkklhnfloaaDoorChecked
import GoSem.PinnedTables
import GoSem.Claim
import GoSem.ClaimJoined
import GoSem.ClaimMapViews
import Derived.JoinedTies
import Derived.KernelRfl
namespace Go.Proofs.YtjkknkklhnfloaaDoor
/- THE CELL 'sum', in the pinned program and in every row, IS THE sha256 OF THE DUMP (.gsa) THAT YtjkknkklhnfloaaDoorProg.lean LOADS. Nothing in Lean hashes anything: it is a label: what it is worth is what the hold of that sum in a sandbox is worth. -/
noncomputable def Tryd.pinned : Pinned := { name := "ytjkknkklhnfloaadoor", sum := "e27870d8ea4d099a8e1f5d45184426cf1e3077a040ffd30e2e1a7bda28933eae", checked := Tryd.checked }
namespace Rows
def none {H : Type} : Left H := { results := [], args := [] }

/- WHAT THE LISTED PACKAGE-LEVEL VARIABLES READ AS WHEN THE CALL BEGINS. Each datum BY PROGRAM (the guide's laid-datum.mjs) off the statement by which the dump's own 'gosem.cut.vars' lays the variable. In a bare row this is a premise. The card (YtjkknkklhnfloaaDoorCards.lean) ties it to the program's text. -/
def laid_unicode_utf8_acceptRanges {H : Type} : DataW H := .agg [.agg [.lit (.int .u8 128), .lit (.int .u8 191)], .agg [.lit (.int .u8 160), .lit (.int .u8 191)], .agg [.lit (.int .u8 128), .lit (.int .u8 159)], .agg [.lit (.int .u8 144), .lit (.int .u8 191)], .agg [.lit (.int .u8 128), .lit (.int .u8 143)], .agg [.lit (.int .u8 0), .lit (.int .u8 0)], .agg [.lit (.int .u8 0), .lit (.int .u8 0)], .agg [.lit (.int .u8 0), .lit (.int .u8 0)], .agg [.lit (.int .u8 0), .lit (.int .u8 0)], .agg [.lit (.int .u8 0), .lit (.int .u8 0)], .agg [.lit (.int .u8 0), .lit (.int .u8 0)], .agg [.lit (.int .u8 0), .lit (.int .u8 0)], .agg [.lit (.int .u8 0), .lit (.int .u8 0)], .agg [.lit (.int .u8 0), .lit (.int .u8 0)], .agg [.lit (.int .u8 0), .lit (.int .u8 0)], .agg [.lit (.int .u8 0), .lit (.int .u8 0)]]
/-- One of Go's own tables, pinned by name: the form's constant. -/
def laid_unicode_utf8_first : DataW Unit := Go.Pinned.utf8First

/-- 'changeoverlaw13.MsgoneChecks': WHATEVER THE INPUT: true; the input reads as it did. -/
def msgoneChecksSpec : ChangeSpec := { name := "msgoneChecks", fn := fun _ => fun
  | [d1, d2] => { results := [.lit (.bool true)], args := [d1, d2] }
  | _ => none }
def msgoneChecksRow : OpenClaim := { program := "ytjkknkklhnfloaadoor", sum := "e27870d8ea4d099a8e1f5d45184426cf1e3077a040ffd30e2e1a7bda28933eae", func := "changeover/changeoverlaw13.MsgoneChecks", spec := "msgoneChecks", unfollowed := true, recurses := true, named := ["unicode/utf8.first", "unicode/utf8.acceptRanges"], apart := false, laid := [("unicode/utf8.acceptRanges", laid_unicode_utf8_acceptRanges), ("unicode/utf8.first", laid_unicode_utf8_first)] }
def MsgoneChecksSaid : Prop := msgoneChecksRow.holds Tryd.pinned (OpenSpec.ofChange msgoneChecksSpec)

/-- ITS FALSE NEIGHBOUR: 'it returns false'. Refute it at one input. -/
def msgoneChecksWrong : ChangeSpec := { name := "msgoneChecks", fn := fun _ => fun
  | [d1, d2] => { results := [.lit (.bool false)], args := [d1, d2] }
  | _ => none }
def MsgoneChecksWrongFalsely : Prop := msgoneChecksRow.holds Tryd.pinned (OpenSpec.ofChange msgoneChecksWrong)

/-- 'changeoverlaw31.AcceptorKeeps': WHATEVER THE INPUT: true; the input reads as it did. -/
def acceptorKeepsSpec : ChangeSpec := { name := "acceptorKeeps", fn := fun _ => fun
  | [d1, d2, d3] => { results := [.lit (.bool true)], args := [d1, d2, d3] }
  | _ => none }
def acceptorKeepsRow : OpenClaim := { program := "ytjkknkklhnfloaadoor", sum := "e27870d8ea4d099a8e1f5d45184426cf1e3077a040ffd30e2e1a7bda28933eae", func := "changeover/changeoverlaw31.AcceptorKeeps", spec := "acceptorKeeps", unfollowed := true, recurses := true, named := ["unicode/utf8.first", "unicode/utf8.acceptRanges"], apart := false, laid := [("unicode/utf8.acceptRanges", laid_unicode_utf8_acceptRanges), ("unicode/utf8.first", laid_unicode_utf8_first)] }
def AcceptorKeepsSaid : Prop := acceptorKeepsRow.holds Tryd.pinned (OpenSpec.ofChange acceptorKeepsSpec)

/-- ITS FALSE NEIGHBOUR: 'it returns false'. Refute it at one input. -/
def acceptorKeepsWrong : ChangeSpec := { name := "acceptorKeeps", fn := fun _ => fun
  | [d1, d2, d3] => { results := [.lit (.bool false)], args := [d1, d2, d3] }
  | _ => none }
def AcceptorKeepsWrongFalsely : Prop := acceptorKeepsRow.holds Tryd.pinned (OpenSpec.ofChange acceptorKeepsWrong)

/-- 'changeoverlaw31.AcceptorTells': WHATEVER THE INPUT: true; the input reads as it did. -/
def acceptorTellsSpec : ChangeSpec := { name := "acceptorTells", fn := fun _ => fun
  | [d1, d2, d3] => { results := [.lit (.bool true)], args := [d1, d2, d3] }
  | _ => none }
def acceptorTellsRow : OpenClaim := { program := "ytjkknkklhnfloaadoor", sum := "e27870d8ea4d099a8e1f5d45184426cf1e3077a040ffd30e2e1a7bda28933eae", func := "changeover/changeoverlaw31.AcceptorTells", spec := "acceptorTells", unfollowed := true, recurses := true, named := ["unicode/utf8.first", "unicode/utf8.acceptRanges"], apart := false, laid := [("unicode/utf8.acceptRanges", laid_unicode_utf8_acceptRanges), ("unicode/utf8.first", laid_unicode_utf8_first)] }
def AcceptorTellsSaid : Prop := acceptorTellsRow.holds Tryd.pinned (OpenSpec.ofChange acceptorTellsSpec)

/-- ITS FALSE NEIGHBOUR: 'it returns false'. Refute it at one input. -/
def acceptorTellsWrong : ChangeSpec := { name := "acceptorTells", fn := fun _ => fun
  | [d1, d2, d3] => { results := [.lit (.bool false)], args := [d1, d2, d3] }
  | _ => none }
def AcceptorTellsWrongFalsely : Prop := acceptorTellsRow.holds Tryd.pinned (OpenSpec.ofChange acceptorTellsWrong)

/-- 'changeoverlaw13.MsgoneDecodes': WHATEVER THE INPUT: true; the input reads as it did. -/
def msgoneDecodesSpec : ChangeSpec := { name := "msgoneDecodes", fn := fun _ => fun
  | [d] => { results := [.lit (.bool true)], args := [d] }
  | _ => none }
def msgoneDecodesRow : OpenClaim := { program := "ytjkknkklhnfloaadoor", sum := "e27870d8ea4d099a8e1f5d45184426cf1e3077a040ffd30e2e1a7bda28933eae", func := "changeover/changeoverlaw13.MsgoneDecodes", spec := "msgoneDecodes", unfollowed := true, recurses := true, named := ["unicode/utf8.first", "unicode/utf8.acceptRanges"], apart := false, laid := [("unicode/utf8.acceptRanges", laid_unicode_utf8_acceptRanges), ("unicode/utf8.first", laid_unicode_utf8_first)] }
def MsgoneDecodesSaid : Prop := msgoneDecodesRow.holds Tryd.pinned (OpenSpec.ofChange msgoneDecodesSpec)

/-- ITS FALSE NEIGHBOUR: 'it returns false'. Refute it at one input. -/
def msgoneDecodesWrong : ChangeSpec := { name := "msgoneDecodes", fn := fun _ => fun
  | [d] => { results := [.lit (.bool false)], args := [d] }
  | _ => none }
def MsgoneDecodesWrongFalsely : Prop := msgoneDecodesRow.holds Tryd.pinned (OpenSpec.ofChange msgoneDecodesWrong)

/- THE SECOND FORM. 'bulk': how many values and letters a reading holds, each counted each time it is reached (what is shared counts as often as it is met; a slice's spare places count too). A statement '..UptoSaid' is the law's where the arguments, and the package variables that the reading takes, are together of bulk at most 1048576: NARROWER than '..Said'. Prove '..Said' where nothing that the law and all that it calls make is longer than what came in: it says more and counts as full. Else prove '..UptoSaid'. A law counts once. -/
mutual
def uptoBulk {H : Type} : DataW H → Nat
  | .lit (.string bytes) => bytes.length + 1
  | .lit _ => 1
  | .nil => 1
  | .ptr d => uptoBulk d + 1
  | .slice elems spare => uptoBulkAll elems + uptoBulkAll spare + 1
  | .agg parts => uptoBulkAll parts + 1
  | .iface _ d => uptoBulk d + 1
  | .map entries => uptoBulkEntries entries + 1
  | .held _ => 1
def uptoBulkAll {H : Type} : List (DataW H) → Nat
  | [] => 0
  | d :: r => uptoBulk d + uptoBulkAll r
def uptoBulkEntries {H : Type} : List (Lit × DataW H) → Nat
  | [] => 0
  | x :: r => uptoBulkEntry x + uptoBulkEntries r
def uptoBulkEntry {H : Type} : Lit × DataW H → Nat
  | (.string bytes, d) => bytes.length + uptoBulk d + 1
  | (_, d) => uptoBulk d + 1
 end
def uptoSmall : (H : Type) → List (DataW H) → Bool := fun _ ds => decide (uptoBulkAll ds ≤ 1048576)
def OpenSpec.upto (s : _root_.Go.ChangeSpec) : _root_.Go.OpenSpec := { _root_.Go.OpenSpec.ofChange s with cond := some uptoSmall }

/-- 'changeoverlaw13.MsgoneChecks', WHERE WHAT IT READS IS OF BULK AT MOST 1048576: true; the input reads as it did. -/
def msgoneChecksUptoRow : OpenClaim := { program := "ytjkknkklhnfloaadoor", sum := "e27870d8ea4d099a8e1f5d45184426cf1e3077a040ffd30e2e1a7bda28933eae", func := "changeover/changeoverlaw13.MsgoneChecks", spec := "msgoneChecks", unfollowed := true, recurses := true, named := ["unicode/utf8.first", "unicode/utf8.acceptRanges"], apart := false, laid := [("unicode/utf8.acceptRanges", laid_unicode_utf8_acceptRanges), ("unicode/utf8.first", laid_unicode_utf8_first)], narrowed := true }
def MsgoneChecksUptoSaid : Prop := msgoneChecksUptoRow.holds Tryd.pinned (OpenSpec.upto msgoneChecksSpec)

/-- 'changeoverlaw31.AcceptorKeeps', WHERE WHAT IT READS IS OF BULK AT MOST 1048576: true; the input reads as it did. -/
def acceptorKeepsUptoRow : OpenClaim := { program := "ytjkknkklhnfloaadoor", sum := "e27870d8ea4d099a8e1f5d45184426cf1e3077a040ffd30e2e1a7bda28933eae", func := "changeover/changeoverlaw31.AcceptorKeeps", spec := "acceptorKeeps", unfollowed := true, recurses := true, named := ["unicode/utf8.first", "unicode/utf8.acceptRanges"], apart := false, laid := [("unicode/utf8.acceptRanges", laid_unicode_utf8_acceptRanges), ("unicode/utf8.first", laid_unicode_utf8_first)], narrowed := true }
def AcceptorKeepsUptoSaid : Prop := acceptorKeepsUptoRow.holds Tryd.pinned (OpenSpec.upto acceptorKeepsSpec)

/-- 'changeoverlaw31.AcceptorTells', WHERE WHAT IT READS IS OF BULK AT MOST 1048576: true; the input reads as it did. -/
def acceptorTellsUptoRow : OpenClaim := { program := "ytjkknkklhnfloaadoor", sum := "e27870d8ea4d099a8e1f5d45184426cf1e3077a040ffd30e2e1a7bda28933eae", func := "changeover/changeoverlaw31.AcceptorTells", spec := "acceptorTells", unfollowed := true, recurses := true, named := ["unicode/utf8.first", "unicode/utf8.acceptRanges"], apart := false, laid := [("unicode/utf8.acceptRanges", laid_unicode_utf8_acceptRanges), ("unicode/utf8.first", laid_unicode_utf8_first)], narrowed := true }
def AcceptorTellsUptoSaid : Prop := acceptorTellsUptoRow.holds Tryd.pinned (OpenSpec.upto acceptorTellsSpec)

/-- 'changeoverlaw13.MsgoneDecodes', WHERE WHAT IT READS IS OF BULK AT MOST 1048576: true; the input reads as it did. -/
def msgoneDecodesUptoRow : OpenClaim := { program := "ytjkknkklhnfloaadoor", sum := "e27870d8ea4d099a8e1f5d45184426cf1e3077a040ffd30e2e1a7bda28933eae", func := "changeover/changeoverlaw13.MsgoneDecodes", spec := "msgoneDecodes", unfollowed := true, recurses := true, named := ["unicode/utf8.first", "unicode/utf8.acceptRanges"], apart := false, laid := [("unicode/utf8.acceptRanges", laid_unicode_utf8_acceptRanges), ("unicode/utf8.first", laid_unicode_utf8_first)], narrowed := true }
def MsgoneDecodesUptoSaid : Prop := msgoneDecodesUptoRow.holds Tryd.pinned (OpenSpec.upto msgoneDecodesSpec)

end Rows
end Go.Proofs.YtjkknkklhnfloaaDoor
