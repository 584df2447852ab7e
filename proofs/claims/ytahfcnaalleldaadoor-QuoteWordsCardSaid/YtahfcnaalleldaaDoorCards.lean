/-
  DERIVED. GIVEN WITH THE SEED: THE CARDS: each row of YtahfcnaalleldaaDoorRows.lean that lists a variable, with what it lists TIED to the program's text (the seventh form; the later family's looks); each row that meets fmt, with fmt's text TOLD by the authors' own Lean function (tested against real Go, not proved from fmt's source: count such statements apart). THE CARD IS WHAT COUNTS. Prove the row's statement (the work); the ties are given (YtahfcnaalleldaaDoorTie.lean); close each card by the builder's one call (the guide's Derived/Test/ToyasCard.lean, 'card_holds'). Laid BY PROGRAM, IN A SANDBOX (cutbox-door.mjs). By AI agents, Wed Nov 11 2026. No macro, syntax, notation, axiom, sorry.
-/
import Derived.Test.YtahfcnaalleldaaDoorRows
import GoSem.ClaimSeven
namespace Go.Proofs.YtahfcnaalleldaaDoor
namespace Rows

/-- THE TIED CARD OF 'changeoverlaw06.QuoteTexts'. -/
def quoteTextsCard : Claim7 := { stood := { row := quoteTextsRow, standIns := [], harness := (true, "b6f4eac64b99c9b4d3371b514ce38830b5a6f4a043ca133864d950f3ea736802"), looks := true }, kinds := [], alts := [], laidByText := true, laidKinds := [.data, .pinned], laidTests := true, laidLooks := .later }
def QuoteTextsCardSaid : Prop := Claim7.holds Tryd.pinned (.plain (OpenSpec.ofChange quoteTextsSpec)) quoteTextsCard

/-- THE TIED CARD OF 'changeoverlaw06.QuoteReads'. -/
def quoteReadsCard : Claim7 := { stood := { row := quoteReadsRow, standIns := [], harness := (true, "b6f4eac64b99c9b4d3371b514ce38830b5a6f4a043ca133864d950f3ea736802"), looks := true }, kinds := [], alts := [], laidByText := true, laidKinds := [.data, .pinned], laidTests := true, laidLooks := .later }
def QuoteReadsCardSaid : Prop := Claim7.holds Tryd.pinned (.plain (OpenSpec.ofChange quoteReadsSpec)) quoteReadsCard

/-- THE TIED CARD OF 'changeoverlaw06.QuoteLines'. -/
def quoteLinesCard : Claim7 := { stood := { row := quoteLinesRow, standIns := [], harness := (true, "b6f4eac64b99c9b4d3371b514ce38830b5a6f4a043ca133864d950f3ea736802"), looks := true }, kinds := [], alts := [], laidByText := true, laidKinds := [.data, .pinned], laidTests := true, laidLooks := .later }
def QuoteLinesCardSaid : Prop := Claim7.holds Tryd.pinned (.plain (OpenSpec.ofChange quoteLinesSpec)) quoteLinesCard

/-- THE TIED CARD OF 'changeoverlaw06.QuoteWords'. -/
def quoteWordsCard : Claim7 := { stood := { row := quoteWordsRow, standIns := [], harness := (true, "b6f4eac64b99c9b4d3371b514ce38830b5a6f4a043ca133864d950f3ea736802"), looks := true }, kinds := [], alts := [], laidByText := true, laidKinds := [.data, .pinned], laidTests := true, laidLooks := .later }
def QuoteWordsCardSaid : Prop := Claim7.holds Tryd.pinned (.plain (OpenSpec.ofChange quoteWordsSpec)) quoteWordsCard

/-- THE TIED CARD OF 'changeoverlaw13.MsgoneChecks'. -/
def msgoneChecksCard : Claim7 := { stood := { row := msgoneChecksRow, standIns := [], harness := (true, "b6f4eac64b99c9b4d3371b514ce38830b5a6f4a043ca133864d950f3ea736802"), looks := true }, kinds := [], alts := [], laidByText := true, laidKinds := [.data, .pinned], laidTests := true, laidLooks := .later }
def MsgoneChecksCardSaid : Prop := Claim7.holds Tryd.pinned (.plain (OpenSpec.ofChange msgoneChecksSpec)) msgoneChecksCard

/-- THE TIED CARD OF 'changeoverlaw26.SnaponeEncodes'. -/
def snaponeEncodesCard : Claim7 := { stood := { row := snaponeEncodesRow, standIns := [], harness := (true, "b6f4eac64b99c9b4d3371b514ce38830b5a6f4a043ca133864d950f3ea736802"), looks := true }, kinds := [], alts := [], laidByText := true, laidKinds := [.data, .pinned], laidTests := true, laidLooks := .later }
def SnaponeEncodesCardSaid : Prop := Claim7.holds Tryd.pinned (.plain (OpenSpec.ofChange snaponeEncodesSpec)) snaponeEncodesCard

/-- THE TIED CARD OF 'changeoverlaw26.SnaponeDecodes'. -/
def snaponeDecodesCard : Claim7 := { stood := { row := snaponeDecodesRow, standIns := [], harness := (true, "b6f4eac64b99c9b4d3371b514ce38830b5a6f4a043ca133864d950f3ea736802"), looks := true }, kinds := [], alts := [], laidByText := true, laidKinds := [.data, .pinned], laidTests := true, laidLooks := .later }
def SnaponeDecodesCardSaid : Prop := Claim7.holds Tryd.pinned (.plain (OpenSpec.ofChange snaponeDecodesSpec)) snaponeDecodesCard

/-- THE TIED CARD OF 'changeoverlaw27.SnaptwoGets'. -/
def snaptwoGetsCard : Claim7 := { stood := { row := snaptwoGetsRow, standIns := [], harness := (true, "b6f4eac64b99c9b4d3371b514ce38830b5a6f4a043ca133864d950f3ea736802"), looks := true }, kinds := [], alts := [], laidByText := true, laidKinds := [.data, .pinned], laidTests := true, laidLooks := .later }
def SnaptwoGetsCardSaid : Prop := Claim7.holds Tryd.pinned (.plain (OpenSpec.ofChange snaptwoGetsSpec)) snaptwoGetsCard

/-- THE TIED CARD OF 'changeoverlaw27.SnaptwoMigrates'. -/
def snaptwoMigratesCard : Claim7 := { stood := { row := snaptwoMigratesRow, standIns := [], harness := (true, "b6f4eac64b99c9b4d3371b514ce38830b5a6f4a043ca133864d950f3ea736802"), looks := true }, kinds := [], alts := [], laidByText := true, laidKinds := [.data, .pinned], laidTests := true, laidLooks := .later }
def SnaptwoMigratesCardSaid : Prop := Claim7.holds Tryd.pinned (.plain (OpenSpec.ofChange snaptwoMigratesSpec)) snaptwoMigratesCard

/-- THE TIED CARD OF 'changeoverlaw27.SnaptwoPuts'. -/
def snaptwoPutsCard : Claim7 := { stood := { row := snaptwoPutsRow, standIns := [], harness := (true, "b6f4eac64b99c9b4d3371b514ce38830b5a6f4a043ca133864d950f3ea736802"), looks := true }, kinds := [], alts := [], laidByText := true, laidKinds := [.data, .pinned], laidTests := true, laidLooks := .later }
def SnaptwoPutsCardSaid : Prop := Claim7.holds Tryd.pinned (.plain (OpenSpec.ofChange snaptwoPutsSpec)) snaptwoPutsCard

/-- THE TIED CARD OF 'changeoverlaw13.MsgoneDecodes'. -/
def msgoneDecodesCard : Claim7 := { stood := { row := msgoneDecodesRow, standIns := [], harness := (true, "b6f4eac64b99c9b4d3371b514ce38830b5a6f4a043ca133864d950f3ea736802"), looks := true }, kinds := [], alts := [], laidByText := true, laidKinds := [.data, .pinned], laidTests := true, laidLooks := .later }
def MsgoneDecodesCardSaid : Prop := Claim7.holds Tryd.pinned (.plain (OpenSpec.ofChange msgoneDecodesSpec)) msgoneDecodesCard

/-- THE SECOND FORM's CARD OF 'changeoverlaw06.QuoteTexts'. -/
def quoteTextsUptoCard : Claim7 := { stood := { row := quoteTextsUptoRow, standIns := [], harness := (true, "b6f4eac64b99c9b4d3371b514ce38830b5a6f4a043ca133864d950f3ea736802"), looks := true }, kinds := [], alts := [], laidByText := true, laidKinds := [.data, .pinned], laidTests := true, laidLooks := .later }
def QuoteTextsUptoCardSaid : Prop := Claim7.holds Tryd.pinned (.plain (OpenSpec.upto quoteTextsSpec)) quoteTextsUptoCard

/-- THE SECOND FORM's CARD OF 'changeoverlaw06.QuoteReads'. -/
def quoteReadsUptoCard : Claim7 := { stood := { row := quoteReadsUptoRow, standIns := [], harness := (true, "b6f4eac64b99c9b4d3371b514ce38830b5a6f4a043ca133864d950f3ea736802"), looks := true }, kinds := [], alts := [], laidByText := true, laidKinds := [.data, .pinned], laidTests := true, laidLooks := .later }
def QuoteReadsUptoCardSaid : Prop := Claim7.holds Tryd.pinned (.plain (OpenSpec.upto quoteReadsSpec)) quoteReadsUptoCard

/-- THE SECOND FORM's CARD OF 'changeoverlaw06.QuoteLines'. -/
def quoteLinesUptoCard : Claim7 := { stood := { row := quoteLinesUptoRow, standIns := [], harness := (true, "b6f4eac64b99c9b4d3371b514ce38830b5a6f4a043ca133864d950f3ea736802"), looks := true }, kinds := [], alts := [], laidByText := true, laidKinds := [.data, .pinned], laidTests := true, laidLooks := .later }
def QuoteLinesUptoCardSaid : Prop := Claim7.holds Tryd.pinned (.plain (OpenSpec.upto quoteLinesSpec)) quoteLinesUptoCard

/-- THE SECOND FORM's CARD OF 'changeoverlaw06.QuoteWords'. -/
def quoteWordsUptoCard : Claim7 := { stood := { row := quoteWordsUptoRow, standIns := [], harness := (true, "b6f4eac64b99c9b4d3371b514ce38830b5a6f4a043ca133864d950f3ea736802"), looks := true }, kinds := [], alts := [], laidByText := true, laidKinds := [.data, .pinned], laidTests := true, laidLooks := .later }
def QuoteWordsUptoCardSaid : Prop := Claim7.holds Tryd.pinned (.plain (OpenSpec.upto quoteWordsSpec)) quoteWordsUptoCard

/-- THE SECOND FORM's CARD OF 'changeoverlaw13.MsgoneChecks'. -/
def msgoneChecksUptoCard : Claim7 := { stood := { row := msgoneChecksUptoRow, standIns := [], harness := (true, "b6f4eac64b99c9b4d3371b514ce38830b5a6f4a043ca133864d950f3ea736802"), looks := true }, kinds := [], alts := [], laidByText := true, laidKinds := [.data, .pinned], laidTests := true, laidLooks := .later }
def MsgoneChecksUptoCardSaid : Prop := Claim7.holds Tryd.pinned (.plain (OpenSpec.upto msgoneChecksSpec)) msgoneChecksUptoCard

/-- THE SECOND FORM's CARD OF 'changeoverlaw26.SnaponeEncodes'. -/
def snaponeEncodesUptoCard : Claim7 := { stood := { row := snaponeEncodesUptoRow, standIns := [], harness := (true, "b6f4eac64b99c9b4d3371b514ce38830b5a6f4a043ca133864d950f3ea736802"), looks := true }, kinds := [], alts := [], laidByText := true, laidKinds := [.data, .pinned], laidTests := true, laidLooks := .later }
def SnaponeEncodesUptoCardSaid : Prop := Claim7.holds Tryd.pinned (.plain (OpenSpec.upto snaponeEncodesSpec)) snaponeEncodesUptoCard

/-- THE SECOND FORM's CARD OF 'changeoverlaw26.SnaponeDecodes'. -/
def snaponeDecodesUptoCard : Claim7 := { stood := { row := snaponeDecodesUptoRow, standIns := [], harness := (true, "b6f4eac64b99c9b4d3371b514ce38830b5a6f4a043ca133864d950f3ea736802"), looks := true }, kinds := [], alts := [], laidByText := true, laidKinds := [.data, .pinned], laidTests := true, laidLooks := .later }
def SnaponeDecodesUptoCardSaid : Prop := Claim7.holds Tryd.pinned (.plain (OpenSpec.upto snaponeDecodesSpec)) snaponeDecodesUptoCard

/-- THE SECOND FORM's CARD OF 'changeoverlaw27.SnaptwoGets'. -/
def snaptwoGetsUptoCard : Claim7 := { stood := { row := snaptwoGetsUptoRow, standIns := [], harness := (true, "b6f4eac64b99c9b4d3371b514ce38830b5a6f4a043ca133864d950f3ea736802"), looks := true }, kinds := [], alts := [], laidByText := true, laidKinds := [.data, .pinned], laidTests := true, laidLooks := .later }
def SnaptwoGetsUptoCardSaid : Prop := Claim7.holds Tryd.pinned (.plain (OpenSpec.upto snaptwoGetsSpec)) snaptwoGetsUptoCard

/-- THE SECOND FORM's CARD OF 'changeoverlaw27.SnaptwoMigrates'. -/
def snaptwoMigratesUptoCard : Claim7 := { stood := { row := snaptwoMigratesUptoRow, standIns := [], harness := (true, "b6f4eac64b99c9b4d3371b514ce38830b5a6f4a043ca133864d950f3ea736802"), looks := true }, kinds := [], alts := [], laidByText := true, laidKinds := [.data, .pinned], laidTests := true, laidLooks := .later }
def SnaptwoMigratesUptoCardSaid : Prop := Claim7.holds Tryd.pinned (.plain (OpenSpec.upto snaptwoMigratesSpec)) snaptwoMigratesUptoCard

/-- THE SECOND FORM's CARD OF 'changeoverlaw27.SnaptwoPuts'. -/
def snaptwoPutsUptoCard : Claim7 := { stood := { row := snaptwoPutsUptoRow, standIns := [], harness := (true, "b6f4eac64b99c9b4d3371b514ce38830b5a6f4a043ca133864d950f3ea736802"), looks := true }, kinds := [], alts := [], laidByText := true, laidKinds := [.data, .pinned], laidTests := true, laidLooks := .later }
def SnaptwoPutsUptoCardSaid : Prop := Claim7.holds Tryd.pinned (.plain (OpenSpec.upto snaptwoPutsSpec)) snaptwoPutsUptoCard

/-- THE SECOND FORM's CARD OF 'changeoverlaw13.MsgoneDecodes'. -/
def msgoneDecodesUptoCard : Claim7 := { stood := { row := msgoneDecodesUptoRow, standIns := [], harness := (true, "b6f4eac64b99c9b4d3371b514ce38830b5a6f4a043ca133864d950f3ea736802"), looks := true }, kinds := [], alts := [], laidByText := true, laidKinds := [.data, .pinned], laidTests := true, laidLooks := .later }
def MsgoneDecodesUptoCardSaid : Prop := Claim7.holds Tryd.pinned (.plain (OpenSpec.upto msgoneDecodesSpec)) msgoneDecodesUptoCard
end Rows
end Go.Proofs.YtahfcnaalleldaaDoor
