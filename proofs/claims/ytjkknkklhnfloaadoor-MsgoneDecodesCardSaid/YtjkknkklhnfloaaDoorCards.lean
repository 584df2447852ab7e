/-
  DERIVED. GIVEN WITH THE SEED: THE CARDS: each row of YtjkknkklhnfloaaDoorRows.lean that lists a variable, with what it lists TIED to the program's text (the seventh form; the later family's looks); each row that meets fmt, with fmt's text TOLD by the authors' own Lean function (tested against real Go, not proved from fmt's source: count such statements apart). THE CARD IS WHAT COUNTS. Prove the row's statement (the work); the ties are given (YtjkknkklhnfloaaDoorTie.lean); close each card by the builder's one call (the guide's Derived/Test/ToyasCard.lean, 'card_holds'). Laid BY PROGRAM, IN A SANDBOX (cutbox-door.mjs). By AI agents, Wed Nov 11 2026. No macro, syntax, notation, axiom, sorry.
-/
import Derived.Test.YtjkknkklhnfloaaDoorRows
import GoSem.ClaimSeven
namespace Go.Proofs.YtjkknkklhnfloaaDoor
namespace Rows

/-- THE TIED CARD OF 'changeoverlaw13.MsgoneChecks'. -/
def msgoneChecksCard : Claim7 := { stood := { row := msgoneChecksRow, standIns := [], harness := (true, "4754446ecb6931137b38592d113963c43a2b021ce5eb54ef996deba3eab0f385"), looks := true }, kinds := [], alts := [], laidByText := true, laidKinds := [.data, .pinned], laidTests := true, laidLooks := .later }
def MsgoneChecksCardSaid : Prop := Claim7.holds Tryd.pinned (.plain (OpenSpec.ofChange msgoneChecksSpec)) msgoneChecksCard

/-- THE TIED CARD OF 'changeoverlaw31.AcceptorKeeps'. -/
def acceptorKeepsCard : Claim7 := { stood := { row := acceptorKeepsRow, standIns := [], harness := (true, "4754446ecb6931137b38592d113963c43a2b021ce5eb54ef996deba3eab0f385"), looks := true }, kinds := [], alts := [], laidByText := true, laidKinds := [.data, .pinned], laidTests := true, laidLooks := .later }
def AcceptorKeepsCardSaid : Prop := Claim7.holds Tryd.pinned (.plain (OpenSpec.ofChange acceptorKeepsSpec)) acceptorKeepsCard

/-- THE TIED CARD OF 'changeoverlaw31.AcceptorTells'. -/
def acceptorTellsCard : Claim7 := { stood := { row := acceptorTellsRow, standIns := [], harness := (true, "4754446ecb6931137b38592d113963c43a2b021ce5eb54ef996deba3eab0f385"), looks := true }, kinds := [], alts := [], laidByText := true, laidKinds := [.data, .pinned], laidTests := true, laidLooks := .later }
def AcceptorTellsCardSaid : Prop := Claim7.holds Tryd.pinned (.plain (OpenSpec.ofChange acceptorTellsSpec)) acceptorTellsCard

/-- THE TIED CARD OF 'changeoverlaw13.MsgoneDecodes'. -/
def msgoneDecodesCard : Claim7 := { stood := { row := msgoneDecodesRow, standIns := [], harness := (true, "4754446ecb6931137b38592d113963c43a2b021ce5eb54ef996deba3eab0f385"), looks := true }, kinds := [], alts := [], laidByText := true, laidKinds := [.data, .pinned], laidTests := true, laidLooks := .later }
def MsgoneDecodesCardSaid : Prop := Claim7.holds Tryd.pinned (.plain (OpenSpec.ofChange msgoneDecodesSpec)) msgoneDecodesCard

/-- THE SECOND FORM's CARD OF 'changeoverlaw13.MsgoneChecks'. -/
def msgoneChecksUptoCard : Claim7 := { stood := { row := msgoneChecksUptoRow, standIns := [], harness := (true, "4754446ecb6931137b38592d113963c43a2b021ce5eb54ef996deba3eab0f385"), looks := true }, kinds := [], alts := [], laidByText := true, laidKinds := [.data, .pinned], laidTests := true, laidLooks := .later }
def MsgoneChecksUptoCardSaid : Prop := Claim7.holds Tryd.pinned (.plain (OpenSpec.upto msgoneChecksSpec)) msgoneChecksUptoCard

/-- THE SECOND FORM's CARD OF 'changeoverlaw31.AcceptorKeeps'. -/
def acceptorKeepsUptoCard : Claim7 := { stood := { row := acceptorKeepsUptoRow, standIns := [], harness := (true, "4754446ecb6931137b38592d113963c43a2b021ce5eb54ef996deba3eab0f385"), looks := true }, kinds := [], alts := [], laidByText := true, laidKinds := [.data, .pinned], laidTests := true, laidLooks := .later }
def AcceptorKeepsUptoCardSaid : Prop := Claim7.holds Tryd.pinned (.plain (OpenSpec.upto acceptorKeepsSpec)) acceptorKeepsUptoCard

/-- THE SECOND FORM's CARD OF 'changeoverlaw31.AcceptorTells'. -/
def acceptorTellsUptoCard : Claim7 := { stood := { row := acceptorTellsUptoRow, standIns := [], harness := (true, "4754446ecb6931137b38592d113963c43a2b021ce5eb54ef996deba3eab0f385"), looks := true }, kinds := [], alts := [], laidByText := true, laidKinds := [.data, .pinned], laidTests := true, laidLooks := .later }
def AcceptorTellsUptoCardSaid : Prop := Claim7.holds Tryd.pinned (.plain (OpenSpec.upto acceptorTellsSpec)) acceptorTellsUptoCard

/-- THE SECOND FORM's CARD OF 'changeoverlaw13.MsgoneDecodes'. -/
def msgoneDecodesUptoCard : Claim7 := { stood := { row := msgoneDecodesUptoRow, standIns := [], harness := (true, "4754446ecb6931137b38592d113963c43a2b021ce5eb54ef996deba3eab0f385"), looks := true }, kinds := [], alts := [], laidByText := true, laidKinds := [.data, .pinned], laidTests := true, laidLooks := .later }
def MsgoneDecodesUptoCardSaid : Prop := Claim7.holds Tryd.pinned (.plain (OpenSpec.upto msgoneDecodesSpec)) msgoneDecodesUptoCard
end Rows
end Go.Proofs.YtjkknkklhnfloaaDoor
