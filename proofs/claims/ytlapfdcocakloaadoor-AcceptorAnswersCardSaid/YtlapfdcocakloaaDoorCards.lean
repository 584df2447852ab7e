/-
  DERIVED. GIVEN WITH THE SEED: THE CARDS: each row of YtlapfdcocakloaaDoorRows.lean that lists a variable, with what it lists TIED to the program's text (the seventh form; the later family's looks); each row that meets fmt, with fmt's text TOLD by the authors' own Lean function (tested against real Go, not proved from fmt's source: count such statements apart). THE CARD IS WHAT COUNTS. Prove the row's statement (the work); the ties are given (YtlapfdcocakloaaDoorTie.lean); close each card by the builder's one call (the guide's Derived/Test/ToyasCard.lean, 'card_holds'). Laid BY PROGRAM, IN A SANDBOX (cutbox-door.mjs). By AI agents, Wed Nov 11 2026. No macro, syntax, notation, axiom, sorry.
-/
import Derived.Test.YtlapfdcocakloaaDoorRows
import GoSem.ClaimSeven
namespace Go.Proofs.YtlapfdcocakloaaDoor
namespace Rows

/-- THE TIED CARD OF 'changeoverlaw31.AcceptorAnswers'. -/
def acceptorAnswersCard : Claim7 := { stood := { row := acceptorAnswersRow, standIns := [], harness := (true, "0abfc0156c4be5216c7e70f33b9d651d224a3e1ca8804ad6970b9675882a05eb"), looks := true }, kinds := [], alts := [], laidByText := true, laidKinds := [.data, .pinned], laidTests := true, laidLooks := .later }
def AcceptorAnswersCardSaid : Prop := Claim7.holds Tryd.pinned (.plain (OpenSpec.ofChange acceptorAnswersSpec)) acceptorAnswersCard

/-- THE TIED CARD OF 'changeoverlaw31.AcceptorKeeps'. -/
def acceptorKeepsCard : Claim7 := { stood := { row := acceptorKeepsRow, standIns := [], harness := (true, "0abfc0156c4be5216c7e70f33b9d651d224a3e1ca8804ad6970b9675882a05eb"), looks := true }, kinds := [], alts := [], laidByText := true, laidKinds := [.data, .pinned], laidTests := true, laidLooks := .later }
def AcceptorKeepsCardSaid : Prop := Claim7.holds Tryd.pinned (.plain (OpenSpec.ofChange acceptorKeepsSpec)) acceptorKeepsCard

/-- THE TIED CARD OF 'changeoverlaw31.AcceptorTells'. -/
def acceptorTellsCard : Claim7 := { stood := { row := acceptorTellsRow, standIns := [], harness := (true, "0abfc0156c4be5216c7e70f33b9d651d224a3e1ca8804ad6970b9675882a05eb"), looks := true }, kinds := [], alts := [], laidByText := true, laidKinds := [.data, .pinned], laidTests := true, laidLooks := .later }
def AcceptorTellsCardSaid : Prop := Claim7.holds Tryd.pinned (.plain (OpenSpec.ofChange acceptorTellsSpec)) acceptorTellsCard

/-- THE TIED CARD OF 'changeoverlaw14.MsgtwoEncodes'. -/
def msgtwoEncodesCard : Claim7 := { stood := { row := msgtwoEncodesRow, standIns := [], harness := (true, "0abfc0156c4be5216c7e70f33b9d651d224a3e1ca8804ad6970b9675882a05eb"), looks := true }, kinds := [], alts := [], laidByText := true, laidKinds := [.data, .pinned], laidTests := true, laidLooks := .later }
def MsgtwoEncodesCardSaid : Prop := Claim7.holds Tryd.pinned (.plain (OpenSpec.ofChange msgtwoEncodesSpec)) msgtwoEncodesCard

/-- THE TIED CARD OF 'changeoverlaw14.MsgtwoDecodes'. -/
def msgtwoDecodesCard : Claim7 := { stood := { row := msgtwoDecodesRow, standIns := [], harness := (true, "0abfc0156c4be5216c7e70f33b9d651d224a3e1ca8804ad6970b9675882a05eb"), looks := true }, kinds := [], alts := [], laidByText := true, laidKinds := [.data, .pinned], laidTests := true, laidLooks := .later }
def MsgtwoDecodesCardSaid : Prop := Claim7.holds Tryd.pinned (.plain (OpenSpec.ofChange msgtwoDecodesSpec)) msgtwoDecodesCard

/-- THE TIED CARD OF 'changeoverlaw09.AnswerDecodes'. -/
def answerDecodesCard : Claim7 := { stood := { row := answerDecodesRow, standIns := [], harness := (true, "0abfc0156c4be5216c7e70f33b9d651d224a3e1ca8804ad6970b9675882a05eb"), looks := true }, kinds := [], alts := [], laidByText := true, laidKinds := [.data, .data, .data, .data, .pinned], laidTests := true, laidLooks := .later }
def AnswerDecodesCardSaid : Prop := Claim7.holds Tryd.pinned (.plain (OpenSpec.ofChange answerDecodesSpec)) answerDecodesCard

/-- THE TIED CARD OF 'changeoverlaw08.CmdChecks'. -/
def cmdChecksCard : Claim7 := { stood := { row := cmdChecksRow, standIns := [], harness := (true, "0abfc0156c4be5216c7e70f33b9d651d224a3e1ca8804ad6970b9675882a05eb"), looks := true }, kinds := [], alts := [], laidByText := true, laidKinds := [.data, .data, .data, .data, .pinned], laidTests := true, laidLooks := .later }
def CmdChecksCardSaid : Prop := Claim7.holds Tryd.pinned (.plain (OpenSpec.ofChange cmdChecksSpec)) cmdChecksCard

/-- THE TIED CARD OF 'changeoverlaw09.AnswerEncodes'. -/
def answerEncodesCard : Claim7 := { stood := { row := answerEncodesRow, standIns := [], harness := (true, "0abfc0156c4be5216c7e70f33b9d651d224a3e1ca8804ad6970b9675882a05eb"), looks := true }, kinds := [], alts := [], laidByText := true, laidKinds := [.data, .data, .data, .data, .pinned], laidTests := true, laidLooks := .later }
def AnswerEncodesCardSaid : Prop := Claim7.holds Tryd.pinned (.plain (OpenSpec.ofChange answerEncodesSpec)) answerEncodesCard

/-- THE TIED CARD OF 'changeoverlaw08.CmdDecodes'. -/
def cmdDecodesCard : Claim7 := { stood := { row := cmdDecodesRow, standIns := [], harness := (true, "0abfc0156c4be5216c7e70f33b9d651d224a3e1ca8804ad6970b9675882a05eb"), looks := true }, kinds := [], alts := [], laidByText := true, laidKinds := [.data, .data, .data, .data, .pinned], laidTests := true, laidLooks := .later }
def CmdDecodesCardSaid : Prop := Claim7.holds Tryd.pinned (.plain (OpenSpec.ofChange cmdDecodesSpec)) cmdDecodesCard

/-- THE TIED CARD OF 'changeoverlaw09.AnswerTexts'. -/
def answerTextsCard : Claim7 := { stood := { row := answerTextsRow, standIns := [], harness := (true, "0abfc0156c4be5216c7e70f33b9d651d224a3e1ca8804ad6970b9675882a05eb"), looks := true }, kinds := [], alts := [], laidByText := true, laidKinds := [.data, .data, .data, .data, .sentinel, .sentinel, .pinned], laidTests := true, laidLooks := .later }
def AnswerTextsCardSaid : Prop := Claim7.holds Tryd.pinned (.plain (OpenSpec.ofChange answerTextsSpec)) answerTextsCard

/-- THE SECOND FORM's CARD OF 'changeoverlaw31.AcceptorAnswers'. -/
def acceptorAnswersUptoCard : Claim7 := { stood := { row := acceptorAnswersUptoRow, standIns := [], harness := (true, "0abfc0156c4be5216c7e70f33b9d651d224a3e1ca8804ad6970b9675882a05eb"), looks := true }, kinds := [], alts := [], laidByText := true, laidKinds := [.data, .pinned], laidTests := true, laidLooks := .later }
def AcceptorAnswersUptoCardSaid : Prop := Claim7.holds Tryd.pinned (.plain (OpenSpec.upto acceptorAnswersSpec)) acceptorAnswersUptoCard

/-- THE SECOND FORM's CARD OF 'changeoverlaw31.AcceptorKeeps'. -/
def acceptorKeepsUptoCard : Claim7 := { stood := { row := acceptorKeepsUptoRow, standIns := [], harness := (true, "0abfc0156c4be5216c7e70f33b9d651d224a3e1ca8804ad6970b9675882a05eb"), looks := true }, kinds := [], alts := [], laidByText := true, laidKinds := [.data, .pinned], laidTests := true, laidLooks := .later }
def AcceptorKeepsUptoCardSaid : Prop := Claim7.holds Tryd.pinned (.plain (OpenSpec.upto acceptorKeepsSpec)) acceptorKeepsUptoCard

/-- THE SECOND FORM's CARD OF 'changeoverlaw31.AcceptorTells'. -/
def acceptorTellsUptoCard : Claim7 := { stood := { row := acceptorTellsUptoRow, standIns := [], harness := (true, "0abfc0156c4be5216c7e70f33b9d651d224a3e1ca8804ad6970b9675882a05eb"), looks := true }, kinds := [], alts := [], laidByText := true, laidKinds := [.data, .pinned], laidTests := true, laidLooks := .later }
def AcceptorTellsUptoCardSaid : Prop := Claim7.holds Tryd.pinned (.plain (OpenSpec.upto acceptorTellsSpec)) acceptorTellsUptoCard

/-- THE SECOND FORM's CARD OF 'changeoverlaw14.MsgtwoEncodes'. -/
def msgtwoEncodesUptoCard : Claim7 := { stood := { row := msgtwoEncodesUptoRow, standIns := [], harness := (true, "0abfc0156c4be5216c7e70f33b9d651d224a3e1ca8804ad6970b9675882a05eb"), looks := true }, kinds := [], alts := [], laidByText := true, laidKinds := [.data, .pinned], laidTests := true, laidLooks := .later }
def MsgtwoEncodesUptoCardSaid : Prop := Claim7.holds Tryd.pinned (.plain (OpenSpec.upto msgtwoEncodesSpec)) msgtwoEncodesUptoCard

/-- THE SECOND FORM's CARD OF 'changeoverlaw14.MsgtwoDecodes'. -/
def msgtwoDecodesUptoCard : Claim7 := { stood := { row := msgtwoDecodesUptoRow, standIns := [], harness := (true, "0abfc0156c4be5216c7e70f33b9d651d224a3e1ca8804ad6970b9675882a05eb"), looks := true }, kinds := [], alts := [], laidByText := true, laidKinds := [.data, .pinned], laidTests := true, laidLooks := .later }
def MsgtwoDecodesUptoCardSaid : Prop := Claim7.holds Tryd.pinned (.plain (OpenSpec.upto msgtwoDecodesSpec)) msgtwoDecodesUptoCard

/-- THE SECOND FORM's CARD OF 'changeoverlaw09.AnswerDecodes'. -/
def answerDecodesUptoCard : Claim7 := { stood := { row := answerDecodesUptoRow, standIns := [], harness := (true, "0abfc0156c4be5216c7e70f33b9d651d224a3e1ca8804ad6970b9675882a05eb"), looks := true }, kinds := [], alts := [], laidByText := true, laidKinds := [.data, .data, .data, .data, .pinned], laidTests := true, laidLooks := .later }
def AnswerDecodesUptoCardSaid : Prop := Claim7.holds Tryd.pinned (.plain (OpenSpec.upto answerDecodesSpec)) answerDecodesUptoCard

/-- THE SECOND FORM's CARD OF 'changeoverlaw08.CmdChecks'. -/
def cmdChecksUptoCard : Claim7 := { stood := { row := cmdChecksUptoRow, standIns := [], harness := (true, "0abfc0156c4be5216c7e70f33b9d651d224a3e1ca8804ad6970b9675882a05eb"), looks := true }, kinds := [], alts := [], laidByText := true, laidKinds := [.data, .data, .data, .data, .pinned], laidTests := true, laidLooks := .later }
def CmdChecksUptoCardSaid : Prop := Claim7.holds Tryd.pinned (.plain (OpenSpec.upto cmdChecksSpec)) cmdChecksUptoCard

/-- THE SECOND FORM's CARD OF 'changeoverlaw09.AnswerEncodes'. -/
def answerEncodesUptoCard : Claim7 := { stood := { row := answerEncodesUptoRow, standIns := [], harness := (true, "0abfc0156c4be5216c7e70f33b9d651d224a3e1ca8804ad6970b9675882a05eb"), looks := true }, kinds := [], alts := [], laidByText := true, laidKinds := [.data, .data, .data, .data, .pinned], laidTests := true, laidLooks := .later }
def AnswerEncodesUptoCardSaid : Prop := Claim7.holds Tryd.pinned (.plain (OpenSpec.upto answerEncodesSpec)) answerEncodesUptoCard

/-- THE SECOND FORM's CARD OF 'changeoverlaw08.CmdDecodes'. -/
def cmdDecodesUptoCard : Claim7 := { stood := { row := cmdDecodesUptoRow, standIns := [], harness := (true, "0abfc0156c4be5216c7e70f33b9d651d224a3e1ca8804ad6970b9675882a05eb"), looks := true }, kinds := [], alts := [], laidByText := true, laidKinds := [.data, .data, .data, .data, .pinned], laidTests := true, laidLooks := .later }
def CmdDecodesUptoCardSaid : Prop := Claim7.holds Tryd.pinned (.plain (OpenSpec.upto cmdDecodesSpec)) cmdDecodesUptoCard

/-- THE SECOND FORM's CARD OF 'changeoverlaw09.AnswerTexts'. -/
def answerTextsUptoCard : Claim7 := { stood := { row := answerTextsUptoRow, standIns := [], harness := (true, "0abfc0156c4be5216c7e70f33b9d651d224a3e1ca8804ad6970b9675882a05eb"), looks := true }, kinds := [], alts := [], laidByText := true, laidKinds := [.data, .data, .data, .data, .sentinel, .sentinel, .pinned], laidTests := true, laidLooks := .later }
def AnswerTextsUptoCardSaid : Prop := Claim7.holds Tryd.pinned (.plain (OpenSpec.upto answerTextsSpec)) answerTextsUptoCard
end Rows
end Go.Proofs.YtlapfdcocakloaaDoor
