/-
  DERIVED. GIVEN WITH THE SEED: THE CARDS: each row of YthofeajlmgecmaaGreatDoorRows.lean that lists a variable, with what it lists TIED to the program's text (the seventh form; the later family's looks); each row that meets fmt, with fmt's text TOLD by the authors' own Lean function (tested against real Go, not proved from fmt's source: count such statements apart). THE CARD IS WHAT COUNTS. Prove the row's statement (the work); the ties are given (YthofeajlmgecmaaGreatDoorTie.lean); close each card by the builder's one call (the guide's Derived/Test/ToyasCard.lean, 'card_holds'). Laid BY PROGRAM, IN A SANDBOX (cutbox-door.mjs). By AI agents, Wed Nov 11 2026. No macro, syntax, notation, axiom, sorry.
-/
import Derived.Test.YthofeajlmgecmaaGreatDoorRows
import GoSem.ClaimSeven
namespace Go.Proofs.YthofeajlmgecmaaGreatDoor
namespace Rows

/-- THE TIED CARD OF 'changeoverlaw39.ImageDecodes'. -/
def imageDecodesCard : Claim7 := { stood := { row := imageDecodesRow, standIns := [], harness := (true, "b57abf3331d2c9759d3c352412257c5d2867de7dbb5a052b615ce9eac644b8e1"), looks := true }, kinds := [], alts := [], laidByText := true, laidKinds := [.data, .pinned], laidTests := true, laidLooks := .later }
def ImageDecodesCardSaid : Prop := Claim7.holds Tryz.pinned (.plain (OpenSpec.ofChange imageDecodesSpec)) imageDecodesCard

/-- THE TIED CARD OF 'changeoverlaw15.TagWraps'. -/
def tagWrapsCard : Claim7 := { stood := { row := tagWrapsRow, standIns := [], harness := (true, "b57abf3331d2c9759d3c352412257c5d2867de7dbb5a052b615ce9eac644b8e1"), looks := true }, kinds := [], alts := [], laidByText := true, laidKinds := [.data, .data, .pinned], laidTests := true, laidLooks := .later }
def TagWrapsCardSaid : Prop := Claim7.holds Tryz.pinned (.plain (OpenSpec.ofChange tagWrapsSpec)) tagWrapsCard

/-- THE TIED CARD OF 'changeoverlaw15.TagOpens'. -/
def tagOpensCard : Claim7 := { stood := { row := tagOpensRow, standIns := [], harness := (true, "b57abf3331d2c9759d3c352412257c5d2867de7dbb5a052b615ce9eac644b8e1"), looks := true }, kinds := [], alts := [], laidByText := true, laidKinds := [.data, .data, .pinned], laidTests := true, laidLooks := .later }
def TagOpensCardSaid : Prop := Claim7.holds Tryz.pinned (.plain (OpenSpec.ofChange tagOpensSpec)) tagOpensCard

/-- THE TIED CARD OF 'changeoverlaw15.TagTranslates'. -/
def tagTranslatesCard : Claim7 := { stood := { row := tagTranslatesRow, standIns := [], harness := (true, "b57abf3331d2c9759d3c352412257c5d2867de7dbb5a052b615ce9eac644b8e1"), looks := true }, kinds := [], alts := [], laidByText := true, laidKinds := [.data, .data, .pinned], laidTests := true, laidLooks := .later }
def TagTranslatesCardSaid : Prop := Claim7.holds Tryz.pinned (.plain (OpenSpec.ofChange tagTranslatesSpec)) tagTranslatesCard

/-- THE TIED CARD OF 'changeoverlaw37.LinkOpens'. -/
def linkOpensCard : Claim7 := { stood := { row := linkOpensRow, standIns := [], harness := (true, "b57abf3331d2c9759d3c352412257c5d2867de7dbb5a052b615ce9eac644b8e1"), looks := true }, kinds := [], alts := [], laidByText := true, laidKinds := [.data, .data, .pinned], laidTests := true, laidLooks := .later }
def LinkOpensCardSaid : Prop := Claim7.holds Tryz.pinned (.plain (OpenSpec.ofChange linkOpensSpec)) linkOpensCard

/-- THE SECOND FORM's CARD OF 'changeoverlaw39.ImageDecodes'. -/
def imageDecodesUptoCard : Claim7 := { stood := { row := imageDecodesUptoRow, standIns := [], harness := (true, "b57abf3331d2c9759d3c352412257c5d2867de7dbb5a052b615ce9eac644b8e1"), looks := true }, kinds := [], alts := [], laidByText := true, laidKinds := [.data, .pinned], laidTests := true, laidLooks := .later }
def ImageDecodesUptoCardSaid : Prop := Claim7.holds Tryz.pinned (.plain (OpenSpec.upto imageDecodesSpec)) imageDecodesUptoCard

/-- THE SECOND FORM's CARD OF 'changeoverlaw15.TagWraps'. -/
def tagWrapsUptoCard : Claim7 := { stood := { row := tagWrapsUptoRow, standIns := [], harness := (true, "b57abf3331d2c9759d3c352412257c5d2867de7dbb5a052b615ce9eac644b8e1"), looks := true }, kinds := [], alts := [], laidByText := true, laidKinds := [.data, .data, .pinned], laidTests := true, laidLooks := .later }
def TagWrapsUptoCardSaid : Prop := Claim7.holds Tryz.pinned (.plain (OpenSpec.upto tagWrapsSpec)) tagWrapsUptoCard

/-- THE SECOND FORM's CARD OF 'changeoverlaw15.TagOpens'. -/
def tagOpensUptoCard : Claim7 := { stood := { row := tagOpensUptoRow, standIns := [], harness := (true, "b57abf3331d2c9759d3c352412257c5d2867de7dbb5a052b615ce9eac644b8e1"), looks := true }, kinds := [], alts := [], laidByText := true, laidKinds := [.data, .data, .pinned], laidTests := true, laidLooks := .later }
def TagOpensUptoCardSaid : Prop := Claim7.holds Tryz.pinned (.plain (OpenSpec.upto tagOpensSpec)) tagOpensUptoCard

/-- THE SECOND FORM's CARD OF 'changeoverlaw15.TagTranslates'. -/
def tagTranslatesUptoCard : Claim7 := { stood := { row := tagTranslatesUptoRow, standIns := [], harness := (true, "b57abf3331d2c9759d3c352412257c5d2867de7dbb5a052b615ce9eac644b8e1"), looks := true }, kinds := [], alts := [], laidByText := true, laidKinds := [.data, .data, .pinned], laidTests := true, laidLooks := .later }
def TagTranslatesUptoCardSaid : Prop := Claim7.holds Tryz.pinned (.plain (OpenSpec.upto tagTranslatesSpec)) tagTranslatesUptoCard

/-- THE SECOND FORM's CARD OF 'changeoverlaw37.LinkOpens'. -/
def linkOpensUptoCard : Claim7 := { stood := { row := linkOpensUptoRow, standIns := [], harness := (true, "b57abf3331d2c9759d3c352412257c5d2867de7dbb5a052b615ce9eac644b8e1"), looks := true }, kinds := [], alts := [], laidByText := true, laidKinds := [.data, .data, .pinned], laidTests := true, laidLooks := .later }
def LinkOpensUptoCardSaid : Prop := Claim7.holds Tryz.pinned (.plain (OpenSpec.upto linkOpensSpec)) linkOpensUptoCard
end Rows
end Go.Proofs.YthofeajlmgecmaaGreatDoor
