/-
  DERIVED. GIVEN WITH THE SEED: THE CARDS: each row of YtapepehccddjpaaDoorRows.lean that lists a variable, with what it lists TIED to the program's text (the seventh form; the later family's looks); each row that meets fmt, with fmt's text TOLD by the authors' own Lean function (tested against real Go, not proved from fmt's source: count such statements apart). THE CARD IS WHAT COUNTS. Prove the row's statement (the work); the ties are given (YtapepehccddjpaaDoorTie.lean); close each card by the builder's one call (the guide's Derived/Test/ToyasCard.lean, 'card_holds'). Laid BY PROGRAM, IN A SANDBOX (cutbox-door.mjs). By AI agents, Wed Nov 11 2026. No macro, syntax, notation, axiom, sorry.
-/
import Derived.Test.YtapepehccddjpaaDoorRows
import GoSem.ClaimSeven
namespace Go.Proofs.YtapepehccddjpaaDoor
namespace Rows

/-- THE TIED CARD OF 'changeoverlaw25.MigrUps'. -/
def migrUpsCard : Claim7 := { stood := { row := migrUpsRow, standIns := [], harness := (true, "ccc93ad70fbe76e3a972307842b877ea0af4d583cde48c4aef1a545d6afce409"), looks := false }, kinds := [], alts := [], laidByText := true, laidKinds := [.data, .pinned], laidTests := true, laidLooks := .later }
def MigrUpsCardSaid : Prop := Claim7.holds Tryd.pinned (.plain (OpenSpec.ofChange migrUpsSpec)) migrUpsCard

/-- THE TIED CARD OF 'changeoverlaw25.MigrChecks'. -/
def migrChecksCard : Claim7 := { stood := { row := migrChecksRow, standIns := [], harness := (true, "ccc93ad70fbe76e3a972307842b877ea0af4d583cde48c4aef1a545d6afce409"), looks := false }, kinds := [], alts := [], laidByText := true, laidKinds := [.data, .pinned], laidTests := true, laidLooks := .later }
def MigrChecksCardSaid : Prop := Claim7.holds Tryd.pinned (.plain (OpenSpec.ofChange migrChecksSpec)) migrChecksCard

/-- THE TIED CARD OF 'changeoverlaw10.BallotLess'. -/
def ballotLessCard : Claim7 := { stood := { row := ballotLessRow, standIns := [], harness := (true, "ccc93ad70fbe76e3a972307842b877ea0af4d583cde48c4aef1a545d6afce409"), looks := false }, kinds := [], alts := [], laidByText := true, laidKinds := [.data, .data, .data], laidTests := true, laidLooks := .later }
def BallotLessCardSaid : Prop := Claim7.holds Tryd.pinned (.plain (OpenSpec.ofChange ballotLessSpec)) ballotLessCard

/-- THE TIED CARD OF 'changeoverlaw10.BallotNext'. -/
def ballotNextCard : Claim7 := { stood := { row := ballotNextRow, standIns := [], harness := (true, "ccc93ad70fbe76e3a972307842b877ea0af4d583cde48c4aef1a545d6afce409"), looks := false }, kinds := [], alts := [], laidByText := true, laidKinds := [.data, .data, .data], laidTests := true, laidLooks := .later }
def BallotNextCardSaid : Prop := Claim7.holds Tryd.pinned (.plain (OpenSpec.ofChange ballotNextSpec)) ballotNextCard

/-- THE TIED CARD OF 'changeoverlaw10.BallotMax'. -/
def ballotMaxCard : Claim7 := { stood := { row := ballotMaxRow, standIns := [], harness := (true, "ccc93ad70fbe76e3a972307842b877ea0af4d583cde48c4aef1a545d6afce409"), looks := false }, kinds := [], alts := [], laidByText := true, laidKinds := [.data, .data, .data], laidTests := true, laidLooks := .later }
def BallotMaxCardSaid : Prop := Claim7.holds Tryd.pinned (.plain (OpenSpec.ofChange ballotMaxSpec)) ballotMaxCard

/-- THE TIED CARD OF 'changeoverlaw22.SessChecks'. -/
def sessChecksCard : Claim7 := { stood := { row := sessChecksRow, standIns := [], harness := (true, "ccc93ad70fbe76e3a972307842b877ea0af4d583cde48c4aef1a545d6afce409"), looks := false }, kinds := [], alts := [], laidByText := true, laidKinds := [.data, .pinned], laidTests := true, laidLooks := .later }
def SessChecksCardSaid : Prop := Claim7.holds Tryd.pinned (.plain (OpenSpec.ofChange sessChecksSpec)) sessChecksCard

/-- THE TIED CARD OF 'changeoverlaw23.KvoneChecks'. -/
def kvoneChecksCard : Claim7 := { stood := { row := kvoneChecksRow, standIns := [], harness := (true, "ccc93ad70fbe76e3a972307842b877ea0af4d583cde48c4aef1a545d6afce409"), looks := false }, kinds := [], alts := [], laidByText := true, laidKinds := [.data, .pinned], laidTests := true, laidLooks := .later }
def KvoneChecksCardSaid : Prop := Claim7.holds Tryd.pinned (.plain (OpenSpec.ofChange kvoneChecksSpec)) kvoneChecksCard

/-- THE TIED CARD OF 'changeoverlaw24.KvtwoChecks'. -/
def kvtwoChecksCard : Claim7 := { stood := { row := kvtwoChecksRow, standIns := [], harness := (true, "ccc93ad70fbe76e3a972307842b877ea0af4d583cde48c4aef1a545d6afce409"), looks := false }, kinds := [], alts := [], laidByText := true, laidKinds := [.data, .pinned], laidTests := true, laidLooks := .later }
def KvtwoChecksCardSaid : Prop := Claim7.holds Tryd.pinned (.plain (OpenSpec.ofChange kvtwoChecksSpec)) kvtwoChecksCard

/-- THE SECOND FORM's CARD OF 'changeoverlaw25.MigrUps'. -/
def migrUpsUptoCard : Claim7 := { stood := { row := migrUpsUptoRow, standIns := [], harness := (true, "ccc93ad70fbe76e3a972307842b877ea0af4d583cde48c4aef1a545d6afce409"), looks := false }, kinds := [], alts := [], laidByText := true, laidKinds := [.data, .pinned], laidTests := true, laidLooks := .later }
def MigrUpsUptoCardSaid : Prop := Claim7.holds Tryd.pinned (.plain (OpenSpec.upto migrUpsSpec)) migrUpsUptoCard

/-- THE SECOND FORM's CARD OF 'changeoverlaw25.MigrChecks'. -/
def migrChecksUptoCard : Claim7 := { stood := { row := migrChecksUptoRow, standIns := [], harness := (true, "ccc93ad70fbe76e3a972307842b877ea0af4d583cde48c4aef1a545d6afce409"), looks := false }, kinds := [], alts := [], laidByText := true, laidKinds := [.data, .pinned], laidTests := true, laidLooks := .later }
def MigrChecksUptoCardSaid : Prop := Claim7.holds Tryd.pinned (.plain (OpenSpec.upto migrChecksSpec)) migrChecksUptoCard

/-- THE SECOND FORM's CARD OF 'changeoverlaw10.BallotLess'. -/
def ballotLessUptoCard : Claim7 := { stood := { row := ballotLessUptoRow, standIns := [], harness := (true, "ccc93ad70fbe76e3a972307842b877ea0af4d583cde48c4aef1a545d6afce409"), looks := false }, kinds := [], alts := [], laidByText := true, laidKinds := [.data, .data, .data], laidTests := true, laidLooks := .later }
def BallotLessUptoCardSaid : Prop := Claim7.holds Tryd.pinned (.plain (OpenSpec.upto ballotLessSpec)) ballotLessUptoCard

/-- THE SECOND FORM's CARD OF 'changeoverlaw10.BallotNext'. -/
def ballotNextUptoCard : Claim7 := { stood := { row := ballotNextUptoRow, standIns := [], harness := (true, "ccc93ad70fbe76e3a972307842b877ea0af4d583cde48c4aef1a545d6afce409"), looks := false }, kinds := [], alts := [], laidByText := true, laidKinds := [.data, .data, .data], laidTests := true, laidLooks := .later }
def BallotNextUptoCardSaid : Prop := Claim7.holds Tryd.pinned (.plain (OpenSpec.upto ballotNextSpec)) ballotNextUptoCard

/-- THE SECOND FORM's CARD OF 'changeoverlaw10.BallotMax'. -/
def ballotMaxUptoCard : Claim7 := { stood := { row := ballotMaxUptoRow, standIns := [], harness := (true, "ccc93ad70fbe76e3a972307842b877ea0af4d583cde48c4aef1a545d6afce409"), looks := false }, kinds := [], alts := [], laidByText := true, laidKinds := [.data, .data, .data], laidTests := true, laidLooks := .later }
def BallotMaxUptoCardSaid : Prop := Claim7.holds Tryd.pinned (.plain (OpenSpec.upto ballotMaxSpec)) ballotMaxUptoCard

/-- THE SECOND FORM's CARD OF 'changeoverlaw22.SessChecks'. -/
def sessChecksUptoCard : Claim7 := { stood := { row := sessChecksUptoRow, standIns := [], harness := (true, "ccc93ad70fbe76e3a972307842b877ea0af4d583cde48c4aef1a545d6afce409"), looks := false }, kinds := [], alts := [], laidByText := true, laidKinds := [.data, .pinned], laidTests := true, laidLooks := .later }
def SessChecksUptoCardSaid : Prop := Claim7.holds Tryd.pinned (.plain (OpenSpec.upto sessChecksSpec)) sessChecksUptoCard

/-- THE SECOND FORM's CARD OF 'changeoverlaw23.KvoneChecks'. -/
def kvoneChecksUptoCard : Claim7 := { stood := { row := kvoneChecksUptoRow, standIns := [], harness := (true, "ccc93ad70fbe76e3a972307842b877ea0af4d583cde48c4aef1a545d6afce409"), looks := false }, kinds := [], alts := [], laidByText := true, laidKinds := [.data, .pinned], laidTests := true, laidLooks := .later }
def KvoneChecksUptoCardSaid : Prop := Claim7.holds Tryd.pinned (.plain (OpenSpec.upto kvoneChecksSpec)) kvoneChecksUptoCard

/-- THE SECOND FORM's CARD OF 'changeoverlaw24.KvtwoChecks'. -/
def kvtwoChecksUptoCard : Claim7 := { stood := { row := kvtwoChecksUptoRow, standIns := [], harness := (true, "ccc93ad70fbe76e3a972307842b877ea0af4d583cde48c4aef1a545d6afce409"), looks := false }, kinds := [], alts := [], laidByText := true, laidKinds := [.data, .pinned], laidTests := true, laidLooks := .later }
def KvtwoChecksUptoCardSaid : Prop := Claim7.holds Tryd.pinned (.plain (OpenSpec.upto kvtwoChecksSpec)) kvtwoChecksUptoCard
end Rows
end Go.Proofs.YtapepehccddjpaaDoor
