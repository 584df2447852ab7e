/-
  DERIVED. GIVEN WITH THE SEED: THE CARDS: each row of YtlapfdcocakloaaGreatDoorRows.lean that lists a variable, with what it lists TIED to the program's text (the seventh form; the later family's looks); each row that meets fmt, with fmt's text TOLD by the authors' own Lean function (tested against real Go, not proved from fmt's source: count such statements apart). THE CARD IS WHAT COUNTS. Prove the row's statement (the work); the ties are given (YtlapfdcocakloaaGreatDoorTie.lean); close each card by the builder's one call (the guide's Derived/Test/ToyasCard.lean, 'card_holds'). Laid BY PROGRAM, IN A SANDBOX (cutbox-door.mjs). By AI agents, Wed Nov 11 2026. No macro, syntax, notation, axiom, sorry.
-/
import Derived.Test.YtlapfdcocakloaaGreatDoorRows
import GoSem.ClaimSeven
namespace Go.Proofs.YtlapfdcocakloaaGreatDoor
namespace Rows

/-- THE TIED CARD OF 'changeoverlaw14.MsgtwoEither'. -/
def msgtwoEitherCard : Claim7 := { stood := { row := msgtwoEitherRow, standIns := [], harness := (true, "b2f79bfa875dcb8e3aedfd909ff91f81bc3c5fa3c0444b6adc6206653c9d1e21"), looks := true }, kinds := [], alts := [], laidByText := true, laidKinds := [.data, .pinned], laidTests := true, laidLooks := .later }
def MsgtwoEitherCardSaid : Prop := Claim7.holds Tryz.pinned (.plain (OpenSpec.ofChange msgtwoEitherSpec)) msgtwoEitherCard

/-- THE TIED CARD OF 'changeoverlaw08.CmdEncodes'. -/
def cmdEncodesCard : Claim7 := { stood := { row := cmdEncodesRow, standIns := [], harness := (true, "b2f79bfa875dcb8e3aedfd909ff91f81bc3c5fa3c0444b6adc6206653c9d1e21"), looks := true }, kinds := [], alts := [], laidByText := true, laidKinds := [.data, .data, .data, .data, .pinned], laidTests := true, laidLooks := .later }
def CmdEncodesCardSaid : Prop := Claim7.holds Tryz.pinned (.plain (OpenSpec.ofChange cmdEncodesSpec)) cmdEncodesCard

/-- THE TIED CARD OF 'changeoverlaw08.CmdRefuses'. -/
def cmdRefusesCard : Claim7 := { stood := { row := cmdRefusesRow, standIns := [], harness := (true, "b2f79bfa875dcb8e3aedfd909ff91f81bc3c5fa3c0444b6adc6206653c9d1e21"), looks := true }, kinds := [], alts := [], laidByText := true, laidKinds := [.data, .data, .data, .data, .pinned], laidTests := true, laidLooks := .later }
def CmdRefusesCardSaid : Prop := Claim7.holds Tryz.pinned (.plain (OpenSpec.ofChange cmdRefusesSpec)) cmdRefusesCard

/-- THE TIED CARD OF 'changeoverlaw08.CmdTexts'. -/
def cmdTextsCard : Claim7 := { stood := { row := cmdTextsRow, standIns := [], harness := (true, "b2f79bfa875dcb8e3aedfd909ff91f81bc3c5fa3c0444b6adc6206653c9d1e21"), looks := true }, kinds := [], alts := [], laidByText := true, laidKinds := [.data, .data, .data, .data, .sentinel, .sentinel, .pinned], laidTests := true, laidLooks := .later }
def CmdTextsCardSaid : Prop := Claim7.holds Tryz.pinned (.plain (OpenSpec.ofChange cmdTextsSpec)) cmdTextsCard

/-- THE SECOND FORM's CARD OF 'changeoverlaw14.MsgtwoEither'. -/
def msgtwoEitherUptoCard : Claim7 := { stood := { row := msgtwoEitherUptoRow, standIns := [], harness := (true, "b2f79bfa875dcb8e3aedfd909ff91f81bc3c5fa3c0444b6adc6206653c9d1e21"), looks := true }, kinds := [], alts := [], laidByText := true, laidKinds := [.data, .pinned], laidTests := true, laidLooks := .later }
def MsgtwoEitherUptoCardSaid : Prop := Claim7.holds Tryz.pinned (.plain (OpenSpec.upto msgtwoEitherSpec)) msgtwoEitherUptoCard

/-- THE SECOND FORM's CARD OF 'changeoverlaw08.CmdEncodes'. -/
def cmdEncodesUptoCard : Claim7 := { stood := { row := cmdEncodesUptoRow, standIns := [], harness := (true, "b2f79bfa875dcb8e3aedfd909ff91f81bc3c5fa3c0444b6adc6206653c9d1e21"), looks := true }, kinds := [], alts := [], laidByText := true, laidKinds := [.data, .data, .data, .data, .pinned], laidTests := true, laidLooks := .later }
def CmdEncodesUptoCardSaid : Prop := Claim7.holds Tryz.pinned (.plain (OpenSpec.upto cmdEncodesSpec)) cmdEncodesUptoCard

/-- THE SECOND FORM's CARD OF 'changeoverlaw08.CmdRefuses'. -/
def cmdRefusesUptoCard : Claim7 := { stood := { row := cmdRefusesUptoRow, standIns := [], harness := (true, "b2f79bfa875dcb8e3aedfd909ff91f81bc3c5fa3c0444b6adc6206653c9d1e21"), looks := true }, kinds := [], alts := [], laidByText := true, laidKinds := [.data, .data, .data, .data, .pinned], laidTests := true, laidLooks := .later }
def CmdRefusesUptoCardSaid : Prop := Claim7.holds Tryz.pinned (.plain (OpenSpec.upto cmdRefusesSpec)) cmdRefusesUptoCard

/-- THE SECOND FORM's CARD OF 'changeoverlaw08.CmdTexts'. -/
def cmdTextsUptoCard : Claim7 := { stood := { row := cmdTextsUptoRow, standIns := [], harness := (true, "b2f79bfa875dcb8e3aedfd909ff91f81bc3c5fa3c0444b6adc6206653c9d1e21"), looks := true }, kinds := [], alts := [], laidByText := true, laidKinds := [.data, .data, .data, .data, .sentinel, .sentinel, .pinned], laidTests := true, laidLooks := .later }
def CmdTextsUptoCardSaid : Prop := Claim7.holds Tryz.pinned (.plain (OpenSpec.upto cmdTextsSpec)) cmdTextsUptoCard
end Rows
end Go.Proofs.YtlapfdcocakloaaGreatDoor
