/-
  DERIVED. GIVEN WITH THE SEED: THE CARDS: each row of YtchkkeninkmclaaDoorRows.lean that lists a variable, with what it lists TIED to the program's text (the seventh form; the later family's looks); each row that meets fmt, with fmt's text TOLD by the authors' own Lean function (tested against real Go, not proved from fmt's source: count such statements apart). THE CARD IS WHAT COUNTS. Prove the row's statement (the work); the ties are given (YtchkkeninkmclaaDoorTie.lean); close each card by the builder's one call (the guide's Derived/Test/ToyasCard.lean, 'card_holds'). Laid BY PROGRAM, IN A SANDBOX (cutbox-door.mjs). By AI agents, Wed Nov 11 2026. No macro, syntax, notation, axiom, sorry.
-/
import Derived.Test.YtchkkeninkmclaaDoorRows
import GoSem.ClaimSeven
namespace Go.Proofs.YtchkkeninkmclaaDoor
namespace Rows

/-- THE TIED CARD OF 'changeoverlaw05.RunesTexts'. -/
def runesTextsCard : Claim7 := { stood := { row := runesTextsRow, standIns := [], harness := (true, "078059747b2838337e7c72a73dffa399716f010108fe0b44d78a0ed49dd8a78d"), looks := false }, kinds := [], alts := [], laidByText := true, laidKinds := [.data, .pinned], laidTests := true, laidLooks := .later }
def RunesTextsCardSaid : Prop := Claim7.holds Tryd.pinned (.plain (OpenSpec.ofChange runesTextsSpec)) runesTextsCard

/-- THE TIED CARD OF 'changeoverlaw05.RunesPlain'. -/
def runesPlainCard : Claim7 := { stood := { row := runesPlainRow, standIns := [], harness := (true, "078059747b2838337e7c72a73dffa399716f010108fe0b44d78a0ed49dd8a78d"), looks := false }, kinds := [], alts := [], laidByText := true, laidKinds := [.data, .pinned], laidTests := true, laidLooks := .later }
def RunesPlainCardSaid : Prop := Claim7.holds Tryd.pinned (.plain (OpenSpec.ofChange runesPlainSpec)) runesPlainCard

/-- THE TIED CARD OF 'changeoverlaw05.RunesCuts'. -/
def runesCutsCard : Claim7 := { stood := { row := runesCutsRow, standIns := [], harness := (true, "078059747b2838337e7c72a73dffa399716f010108fe0b44d78a0ed49dd8a78d"), looks := false }, kinds := [], alts := [], laidByText := true, laidKinds := [.data, .pinned], laidTests := true, laidLooks := .later }
def RunesCutsCardSaid : Prop := Claim7.holds Tryd.pinned (.plain (OpenSpec.ofChange runesCutsSpec)) runesCutsCard

/-- THE TIED CARD OF 'changeoverlaw05.RunesLower'. -/
def runesLowerCard : Claim7 := { stood := { row := runesLowerRow, standIns := [], harness := (true, "078059747b2838337e7c72a73dffa399716f010108fe0b44d78a0ed49dd8a78d"), looks := false }, kinds := [], alts := [], laidByText := true, laidKinds := [.data, .pinned], laidTests := true, laidLooks := .later }
def RunesLowerCardSaid : Prop := Claim7.holds Tryd.pinned (.plain (OpenSpec.ofChange runesLowerSpec)) runesLowerCard

/-- THE TIED CARD OF 'changeoverlaw02.CrcSums'. -/
def crcSumsCard : Claim7 := { stood := { row := crcSumsRow, standIns := [], harness := (true, "078059747b2838337e7c72a73dffa399716f010108fe0b44d78a0ed49dd8a78d"), looks := false }, kinds := [], alts := [], laidByText := true, laidKinds := [.data, .data, .data, .data], laidTests := true, laidLooks := .later }
def CrcSumsCardSaid : Prop := Claim7.holds Tryd.pinned (.plain (OpenSpec.ofChange crcSumsSpec)) crcSumsCard

/-- THE TIED CARD OF 'changeoverlaw02.CrcGoesOn'. -/
def crcGoesOnCard : Claim7 := { stood := { row := crcGoesOnRow, standIns := [], harness := (true, "078059747b2838337e7c72a73dffa399716f010108fe0b44d78a0ed49dd8a78d"), looks := false }, kinds := [], alts := [], laidByText := true, laidKinds := [.data, .data, .data, .data], laidTests := true, laidLooks := .later }
def CrcGoesOnCardSaid : Prop := Claim7.holds Tryd.pinned (.plain (OpenSpec.ofChange crcGoesOnSpec)) crcGoesOnCard

/-- THE TIED CARD OF 'changeoverlaw02.CrcChanges'. -/
def crcChangesCard : Claim7 := { stood := { row := crcChangesRow, standIns := [], harness := (true, "078059747b2838337e7c72a73dffa399716f010108fe0b44d78a0ed49dd8a78d"), looks := false }, kinds := [], alts := [], laidByText := true, laidKinds := [.data, .data, .data, .data], laidTests := true, laidLooks := .later }
def CrcChangesCardSaid : Prop := Claim7.holds Tryd.pinned (.plain (OpenSpec.ofChange crcChangesSpec)) crcChangesCard

/-- THE SECOND FORM's CARD OF 'changeoverlaw05.RunesTexts'. -/
def runesTextsUptoCard : Claim7 := { stood := { row := runesTextsUptoRow, standIns := [], harness := (true, "078059747b2838337e7c72a73dffa399716f010108fe0b44d78a0ed49dd8a78d"), looks := false }, kinds := [], alts := [], laidByText := true, laidKinds := [.data, .pinned], laidTests := true, laidLooks := .later }
def RunesTextsUptoCardSaid : Prop := Claim7.holds Tryd.pinned (.plain (OpenSpec.upto runesTextsSpec)) runesTextsUptoCard

/-- THE SECOND FORM's CARD OF 'changeoverlaw05.RunesPlain'. -/
def runesPlainUptoCard : Claim7 := { stood := { row := runesPlainUptoRow, standIns := [], harness := (true, "078059747b2838337e7c72a73dffa399716f010108fe0b44d78a0ed49dd8a78d"), looks := false }, kinds := [], alts := [], laidByText := true, laidKinds := [.data, .pinned], laidTests := true, laidLooks := .later }
def RunesPlainUptoCardSaid : Prop := Claim7.holds Tryd.pinned (.plain (OpenSpec.upto runesPlainSpec)) runesPlainUptoCard

/-- THE SECOND FORM's CARD OF 'changeoverlaw05.RunesCuts'. -/
def runesCutsUptoCard : Claim7 := { stood := { row := runesCutsUptoRow, standIns := [], harness := (true, "078059747b2838337e7c72a73dffa399716f010108fe0b44d78a0ed49dd8a78d"), looks := false }, kinds := [], alts := [], laidByText := true, laidKinds := [.data, .pinned], laidTests := true, laidLooks := .later }
def RunesCutsUptoCardSaid : Prop := Claim7.holds Tryd.pinned (.plain (OpenSpec.upto runesCutsSpec)) runesCutsUptoCard

/-- THE SECOND FORM's CARD OF 'changeoverlaw05.RunesLower'. -/
def runesLowerUptoCard : Claim7 := { stood := { row := runesLowerUptoRow, standIns := [], harness := (true, "078059747b2838337e7c72a73dffa399716f010108fe0b44d78a0ed49dd8a78d"), looks := false }, kinds := [], alts := [], laidByText := true, laidKinds := [.data, .pinned], laidTests := true, laidLooks := .later }
def RunesLowerUptoCardSaid : Prop := Claim7.holds Tryd.pinned (.plain (OpenSpec.upto runesLowerSpec)) runesLowerUptoCard

/-- THE SECOND FORM's CARD OF 'changeoverlaw02.CrcSums'. -/
def crcSumsUptoCard : Claim7 := { stood := { row := crcSumsUptoRow, standIns := [], harness := (true, "078059747b2838337e7c72a73dffa399716f010108fe0b44d78a0ed49dd8a78d"), looks := false }, kinds := [], alts := [], laidByText := true, laidKinds := [.data, .data, .data, .data], laidTests := true, laidLooks := .later }
def CrcSumsUptoCardSaid : Prop := Claim7.holds Tryd.pinned (.plain (OpenSpec.upto crcSumsSpec)) crcSumsUptoCard

/-- THE SECOND FORM's CARD OF 'changeoverlaw02.CrcGoesOn'. -/
def crcGoesOnUptoCard : Claim7 := { stood := { row := crcGoesOnUptoRow, standIns := [], harness := (true, "078059747b2838337e7c72a73dffa399716f010108fe0b44d78a0ed49dd8a78d"), looks := false }, kinds := [], alts := [], laidByText := true, laidKinds := [.data, .data, .data, .data], laidTests := true, laidLooks := .later }
def CrcGoesOnUptoCardSaid : Prop := Claim7.holds Tryd.pinned (.plain (OpenSpec.upto crcGoesOnSpec)) crcGoesOnUptoCard

/-- THE SECOND FORM's CARD OF 'changeoverlaw02.CrcChanges'. -/
def crcChangesUptoCard : Claim7 := { stood := { row := crcChangesUptoRow, standIns := [], harness := (true, "078059747b2838337e7c72a73dffa399716f010108fe0b44d78a0ed49dd8a78d"), looks := false }, kinds := [], alts := [], laidByText := true, laidKinds := [.data, .data, .data, .data], laidTests := true, laidLooks := .later }
def CrcChangesUptoCardSaid : Prop := Claim7.holds Tryd.pinned (.plain (OpenSpec.upto crcChangesSpec)) crcChangesUptoCard
end Rows
end Go.Proofs.YtchkkeninkmclaaDoor
