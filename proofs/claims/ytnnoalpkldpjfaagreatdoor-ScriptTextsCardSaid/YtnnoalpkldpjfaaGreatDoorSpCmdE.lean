/-
  Commands: whether a version has one; encode and decode.
-/
import Derived.Test.YtnnoalpkldpjfaaGreatDoorSpRef08B
import Derived.Test.YtnnoalpkldpjfaaGreatDoorME
set_option maxRecDepth 20000
set_option linter.unusedVariables false
namespace Go.Chg
open Go.Vc
variable {w : World} {l : List UInt8} {v p no : Int} {c : ApiCmd}
/-- Has a version a kind? -/
def versHas (v k : Int) : Prop := (v = 1 ∨ v = 2) ∧ kOk k ∧ (k = 5 → 2 ≤ v)
/-- What is wrong with a command in a version. -/
def HasErr (v : Int) (c : ApiCmd) (e : Int) : Prop := (e ≠ 0 ∧ CmdErr c e) ∨ (e = 8 ∧ CmdOk c ∧ ¬ versHas v c.Kind) ∨ (e = 0 ∧ CmdOk c ∧ versHas v c.Kind)
theorem HasErr.ok {e : Int} (h : HasErr v c e) : e = 0 ↔ CmdOk c ∧ versHas v c.Kind := by
  rcases h with ⟨h, k⟩ | ⟨h, k, n⟩ | ⟨h, k, n⟩
  · exact ⟨fun e => absurd e h, fun e => absurd (k.ok.2 e.1) h⟩
  · exact ⟨fun e => by omega, fun e => absurd e.2 n⟩
  · exact ⟨fun _ => ⟨k, n⟩, fun _ => h⟩
def zCmd : ApiCmd := ⟨0, 0, 0, [], [], [], 0⟩
/-- What bytes are, as a command in a version. -/
def DecC (v : Int) (l : List UInt8) (r : ApiCmd × Int) : Prop :=
  (¬ (v = 1 ∨ v = 2) ∧ r = (zCmd, 8)) ∨ ((v = 1 ∨ v = 2) ∧ doneN l (rdCmd l v 0 0).2.1 (rdCmd l v 0 0).2.2 ≠ 0 ∧ r = (zCmd, doneN l (rdCmd l v 0 0).2.1 (rdCmd l v 0 0).2.2)) ∨
  ((v = 1 ∨ v = 2) ∧ doneN l (rdCmd l v 0 0).2.1 (rdCmd l v 0 0).2.2 = 0 ∧ ∃ e, HasErr v (rdCmd l v 0 0).1 e ∧ (e ≠ 0 ∧ r = (zCmd, e) ∨ e = 0 ∧ r = ((rdCmd l v 0 0).1, 0)))
theorem DecC.inv {r : ApiCmd × Int} (h : DecC v l r) (h0 : r.2 = 0) : (v = 1 ∨ v = 2) ∧ CmdOk r.1 ∧ versHas v r.1.Kind ∧ l = cmdB v r.1 := by
  rcases h with ⟨_, rfl⟩ | ⟨_, h1, rfl⟩ | ⟨hv, h1, e, he, ⟨h2, rfl⟩ | ⟨h2, rfl⟩⟩
  · cases h0
  · exact absurd h0 h1
  · exact absurd h0 h2
  · obtain ⟨k1, k2⟩ := doneN_0 h1
    obtain ⟨_, t, _⟩ := rdCmd_inv k1
    exact ⟨hv, (he.ok.1 h2).1, (he.ok.1 h2).2, t.whole k2⟩
theorem DecC.bad {r : ApiCmd × Int} (h : DecC v l r) (h0 : r.2 ≠ 0) : r.1 = zCmd := by
  rcases h with ⟨_, rfl⟩ | ⟨_, h1, rfl⟩ | ⟨hv, h1, e, he, ⟨h2, rfl⟩ | ⟨h2, rfl⟩⟩
  · rfl
  · rfl
  · rfl
  · exact absurd rfl h0
/-- What encode tells of a command. -/
def EncC (B : Nat) (v : Int) (w' : World) (c : ApiCmd) (r : Sl × Int) : Prop :=
  (¬ (v = 1 ∨ v = 2) ∧ r = (Sl.nil, 8)) ∨ ((v = 1 ∨ v = 2) ∧ ∃ e, HasErr v c e ∧ (e ≠ 0 ∧ r = (Sl.nil, e) ∨ e = 0 ∧ r.2 = 0 ∧ OwnSl eB w' B r.1 (cmdB v c)))
end Go.Chg
