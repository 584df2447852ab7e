/-
  A command's bytes: the document's answer.
-/
import Derived.Test.YtnnoalpkldpjfaaGreatDoorSpRef08
import Derived.Test.YtnnoalpkldpjfaaGreatDoorSpCmdL
import Derived.Test.YtnnoalpkldpjfaaGreatDoorMB
set_option maxRecDepth 20000
set_option linter.unusedVariables false
namespace Go.Chg
open Go.Vc
variable {w : World}
def pI (v : Int) (c : ApiCmd) (i : Nat) : List UInt8 := if wantI v c.Kind i = true then partB c i else []
theorem cmdB_eq (v : Int) (c : ApiCmd) : cmdB v c = enc c.Kind.toNat ++ pI v c 0 ++ pI v c 1 ++ pI v c 2 ++ pI v c 3 ++ pI v c 4 ++ pI v c 5 := rfl
theorem pI_yes {v : Int} {c : ApiCmd} {i : Nat} (h : wantI v c.Kind i = true) : pI v c i = partB c i := by unfold pI; rw [if_pos h]
theorem pI_no {v : Int} {c : ApiCmd} {i : Nat} (h : wantI v c.Kind i = false) : pI v c i = [] := by unfold pI; rw [h]; simp
theorem want1 {v k : Int} (h : v = 1) {i : Nat} (hi : i ≠ 3) : wantI v k i = true := by unfold wantI; rw [if_pos h]; simpa using hi
theorem want13 {v k : Int} (h : v = 1) : wantI v k 3 = false := by unfold wantI; rw [if_pos h]; rfl
theorem want2 {v k : Int} (h : v ≠ 1) (i : Nat) : wantI v k i = need k i := by unfold wantI; rw [if_neg h]
end Go.Chg
