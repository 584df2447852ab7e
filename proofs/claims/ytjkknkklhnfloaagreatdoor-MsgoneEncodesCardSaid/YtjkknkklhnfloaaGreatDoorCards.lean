/-
  DERIVED. GIVEN WITH THE SEED: THE CARDS: each row of YtjkknkklhnfloaaGreatDoorRows.lean that lists a variable, with what it lists TIED to the program's text (the seventh form; the later family's looks); each row that meets fmt, with fmt's text TOLD by the authors' own Lean function (tested against real Go, not proved from fmt's source: count such statements apart). THE CARD IS WHAT COUNTS. Prove the row's statement (the work); the ties are given (YtjkknkklhnfloaaGreatDoorTie.lean); close each card by the builder's one call (the guide's Derived/Test/ToyasCard.lean, 'card_holds'). Laid BY PROGRAM, IN A SANDBOX (cutbox-door.mjs). By AI agents, Wed Nov 11 2026. No macro, syntax, notation, axiom, sorry.
-/
import Derived.Test.YtjkknkklhnfloaaGreatDoorRows
import GoSem.ClaimSeven
namespace Go.Proofs.YtjkknkklhnfloaaGreatDoor
namespace Rows

/-- THE TIED CARD OF 'changeoverlaw13.MsgoneEncodes'. -/
def msgoneEncodesCard : Claim7 := { stood := { row := msgoneEncodesRow, standIns := [], harness := (true, "ca814ff4aca8f713c3b045745c6fe33425f8b488ab4ad8c2d780f7ae02019e37"), looks := true }, kinds := [], alts := [], laidByText := true, laidKinds := [.data, .pinned], laidTests := true, laidLooks := .later }
def MsgoneEncodesCardSaid : Prop := Claim7.holds Tryz.pinned (.plain (OpenSpec.ofChange msgoneEncodesSpec)) msgoneEncodesCard

/-- THE SECOND FORM's CARD OF 'changeoverlaw13.MsgoneEncodes'. -/
def msgoneEncodesUptoCard : Claim7 := { stood := { row := msgoneEncodesUptoRow, standIns := [], harness := (true, "ca814ff4aca8f713c3b045745c6fe33425f8b488ab4ad8c2d780f7ae02019e37"), looks := true }, kinds := [], alts := [], laidByText := true, laidKinds := [.data, .pinned], laidTests := true, laidLooks := .later }
def MsgoneEncodesUptoCardSaid : Prop := Claim7.holds Tryz.pinned (.plain (OpenSpec.upto msgoneEncodesSpec)) msgoneEncodesUptoCard
end Rows
end Go.Proofs.YtjkknkklhnfloaaGreatDoor
