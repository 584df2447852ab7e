/-
  changeover/changeoverlaw32.LedgerAgrees: its row: the law answers true, whatever is handed in, and each argument reads as before.
-/
import Derived.Test.YtnnoalpkldpjfaaRows
import Derived.Test.YtnnoalpkldpjfaaSpLdg4
set_option linter.unusedVariables false
set_option maxRecDepth 20000
namespace Go.Proofs.Ytnnoalpkldpjfaa.ledgerAgrees
open Go.ChangeShapes Go.WideShapes Go.ChangeAt Go.RowKit Go.Vc Go.Chg

theorem own : ownKnob Try.prog.godebug = none := by kernel_rfl
theorem laidOut : laidOutB Try.prog = true := by kernel_rfl

theorem law : LawTrue Try.checked 4 Try.f4 Rows.ledgerAgreesSpec := by
  intro H enc W base args ds p hval0 hA0 hlt hz
  have hval : ∀ (j : Nat) t v, Try.f4.params[j]? = some t → args[j]? = some v → Value.okWide Try.prog W .any base t v := hval0
  have hA : DataW.TrodAll enc Try.prog W 0 (fun _ => true) true Try.f4.params.toList args.toList ds p := hA0
  rw [Try.params4] at hA hval
  obtain ⟨v0, vs0, d0, ds0, p0, q0, ha0, rfl, rfl, h0, r0⟩ := trodAll_cons hA
  obtain ⟨v1, vs1, d1, ds1, p1, q1, ha1, rfl, rfl, h1, r1⟩ := trodAll_cons r0
  obtain ⟨rfl, rfl, rfl⟩ := trodAll_nil r1
  subst ha1
  obtain rfl : args = #[v0, v1] := Array.toList_inj.1 ha0
  obtain ⟨s0, l0, rfl, hs0, wf0, hd0⟩ := open_list (E := eApiEntry) (e := 38) (by kernel_rfl) ApiEntry.flat (hval 0 22 v0 rfl rfl) h0
  obtain ⟨s1, l1, rfl, hs1, wf1, hd1⟩ := open_list (E := eApiEntry) (e := 38) (by kernel_rfl) ApiEntry.flat (hval 1 22 v1 rfl rfl) h1
  exact law32_LedgerAgrees_calls (law32_LedgerAgrees_spec hs0 hs1 fun w' hx => ⟨rfl, hx⟩)

set_option maxRecDepth 100000 in
theorem lifted (os : Os) (started : os.Started) (H : Type) (enc : TypeId × Value → H) :
    ReturnsInHanded {} Try.checked os 4 .any (Rows.ledgerAgreesSpec.pre6 enc Try.prog Try.f4 Rows.ledgerAgreesRow.domain false) (Rows.ledgerAgreesSpec.post enc Try.prog Try.f4 false true false false) :=
  lifted_true (C := Try.checked) (tb := 4) own started (by kernel_rfl) Try.func4
    (ChangeSpec.witness6 (enc := enc) (C := Try.checked) false ⟨#[], #[.slice none 0 0, .slice none 0 0], []⟩ 8 (by kernel_rfl) (by kernel_rfl) (by kernel_rfl) (by kernel_rfl))
    laidOut (by kernel_rfl) (by kernel_rfl) Try.underlying4 rfl (fun ds hd => by
      match ds, hd with
      | [e0, e1], _ => rfl) law

theorem proved : Rows.LedgerAgreesSaid :=
  OpenClaim.holds_of_wide 4 Try.f4 rfl rfl rfl rfl rfl rfl rfl ⟨rfl, rfl, rfl, rfl, rfl⟩ rfl rfl rfl rfl rfl (by kernel_rfl) Try.func4 (by kernel_rfl)
    (of_decide_eq_true (by kernel_rfl)) (by unfold Func.isWrapper; first | (rw [if_pos (by decide +kernel)]; kernel_rfl) | (rw [if_neg (by decide +kernel)]; exact ⟨rfl, rfl⟩))
    (fun os started H enc _ => lifted os started H enc)
end Go.Proofs.Ytnnoalpkldpjfaa.ledgerAgrees
