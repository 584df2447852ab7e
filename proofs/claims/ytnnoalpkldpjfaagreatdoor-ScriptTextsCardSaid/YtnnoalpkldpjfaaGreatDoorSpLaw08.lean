/-
  The laws of chapter 8: CmdChecks, CmdDecodes.
-/
import Derived.Test.YtnnoalpkldpjfaaGreatDoorSpCmdX
set_option maxRecDepth 20000
set_option linter.unusedVariables false
namespace Go.Chg
open Go.Vc
variable {w : World} {l : List UInt8} {v p no : Int} {c : ApiCmd}
theorem cmd_Owned_spec {K : Bool → World → Prop} (hK : ∀ w', Ext w w' → K (kOwn c.Kind) w') : cmd_Owned c K w := by
  unfold cmd_Owned
  refine new_x (Ext.rfl' w) fun b1 w2 _ _ hx _ => ?_
  refine cmd_fields_calls (cmd_fields_spec fun b hb => kp_same ?_)
  have e : (bAnd .i64 (fieldsOf c.Kind) 1 != 0) = kOwn c.Kind := by
    have := need_eq c.Kind 0
    simp only [hasI, need] at this
    rw [bne, this, Bool.not_not]
  rw [e]
  exact hK _ hx
def exCmd : ApiCmd := ⟨2, 1, 2, [107], [118], [], 0⟩
theorem exCmd_ok : CmdOk exCmd := by
  have k : keyOk [107] = true := by unfold keyOk; rw [ascii_key (by decide)]; decide +kernel
  have t : valOk [118] = true := by unfold valOk; rw [ascii_key (by decide)]; decide +kernel
  have e1 : kOwn exCmd.Kind = true := rfl
  have e2 : kOld exCmd.Kind = false := rfl
  have e3 : kVal exCmd.Kind = true := rfl
  have e4 : kNode exCmd.Kind = false := rfl
  unfold CmdOk kOk cRng cTxt cFrm
  rw [e1, e2, e3, e4]
  refine ⟨⟨by decide, by decide⟩, ⟨fun _ => ⟨⟨by decide, by decide⟩, by decide, by decide⟩, fun h => by cases h⟩, ⟨fun _ => k, fun _ => t, fun h => by cases h⟩, (fun h => by cases h), (fun h => by cases h), fun _ => rfl, fun _ => rfl⟩
theorem exCmd_bytes : (cmdB 2 exCmd).length = 7 := by
  have e1 : enc 1 = [b8 1] := enc_small (by decide)
  have e2 : enc 2 = [b8 2] := enc_small (by decide)
  have k : ∀ i, wantI 2 exCmd.Kind i = need 2 i := fun i => want2 (by decide) i
  rw [cmdB_eq]
  simp only [pI, k]
  simp [exCmd, partB, numI, txtI, need, kOwn, kOld, kVal, kNode, e1, e2]
theorem quoteL_plain8 {c : UInt8} {r : List UInt8} (h1 : 32 ≤ c.toNat) (h2 : c.toNat < 127) (h3 : c.toNat ≠ 34) (h4 : c.toNat ≠ 92) : quoteL (c :: r) = c :: quoteL r := by
  have hd : dec (c :: r) = (1, c.toNat) := dec_small (by omega)
  have hu : uStep (c :: r) = (c.toNat, 1) := by rw [uStep_good (by rw [hd]; simp), hd]
  rw [quoteL_on (by simp), hu]
  unfold qItem
  rw [hd]
  dsimp only
  rw [if_neg (by omega), if_neg (by omega)]
  rfl
theorem exCmd_text : textC exCmd = [112, 117, 116, 32, 49, 32, 50, 32, 34, 107, 34, 32, 34, 118, 34] := by
  have q : ∀ x : UInt8, 32 ≤ x.toNat → x.toNat < 127 → x.toNat ≠ 34 → x.toNat ≠ 92 → quote [x] = [34, x, 34] := fun x h1 h2 h3 h4 => by
    unfold quote
    rw [quoteL_plain8 h1 h2 h3 h4, quoteL_nil]
    rfl
  have d1 : digits 10 1 = [49] := by decide +kernel
  have d2 : digits 10 2 = [50] := by decide +kernel
  have ws : wordsT exCmd 6 = [[112, 117, 116], [49], [50], [34, 107, 34], [34, 118, 34]] := by
    have w1 : wordI exCmd 0 = [49] := by show digits 10 1 = _; exact d1
    have w2 : wordI exCmd 1 = [50] := by show digits 10 2 = _; exact d2
    have w3 : wordI exCmd 2 = [34, 107, 34] := q 107 (by decide) (by decide) (by decide) (by decide)
    have w4 : wordI exCmd 4 = [34, 118, 34] := q 118 (by decide) (by decide) (by decide) (by decide)
    simp only [wordsT, w1, w2, w3, w4]
    rfl
  unfold textC
  rw [ws]
  rfl
end Go.Chg
