/-
  changeover/changeoverlaw13.MsgoneDecodes: its card: the law answers true, whatever is handed in, and each argument reads as before; the listed variables hold what the program's text lays.
-/
import Derived.Test.YtjkknkklhnfloaaDoorCards
import Derived.Test.YtjkknkklhnfloaaDoorTie
import Derived.Test.YtjkknkklhnfloaaDoorLaid
import Derived.Test.YtjkknkklhnfloaaDoorSpLaw13
set_option linter.unusedVariables false
set_option maxRecDepth 20000
namespace Go.Proofs.YtjkknkklhnfloaaDoor.msgoneDecodes
open Go.ChangeShapes Go.WideShapes Go.ChangeAt Go.RowKit Go.Vc Go.Chg

theorem own : ownKnob Tryd.prog.godebug = none := by kernel_rfl
theorem laidOut : laidOutB Tryd.prog = true := by kernel_rfl
theorem noHandle : (Rows.msgoneDecodesRow.laid.filter fun x => x.2.handleName?.isSome) = [] := by kernel_rfl
theorem tabUtf8T {W : World} (h : laidMetH Tryd.prog Rows.msgoneDecodesRow.laid W) : Utf8T W := ⟨(laid_glob h noHandle (List.Mem.tail _ (List.Mem.head _)) (by kernel_rfl) (by kernel_rfl) (t := 156) (flat_array (e := 5) (n := 256) (c := 1) (by kernel_rfl) (flat_int (k := .u8) (by kernel_rfl))) (by kernel_rfl)), (laid_glob h noHandle (List.Mem.head _) (by kernel_rfl) (by kernel_rfl) (t := 159) (flat_array (e := 158) (n := 16) (c := 2) (by kernel_rfl) (flat_struct [(5, 0, 1), (5, 1, 1)] (by kernel_rfl) ⟨(flat_int (k := .u8) (by kernel_rfl)), (flat_int (k := .u8) (by kernel_rfl)), trivial⟩)) (cs := (flatD (H := Unit) Rows.laid_unicode_utf8_acceptRanges).getD []) (by kernel_rfl)).take 10 (by kernel_rfl)⟩

theorem law : LawTrueL Tryd.checked 6 Tryd.f6 Rows.msgoneDecodesSpec Rows.msgoneDecodesRow.laid := by
  intro H enc W base args ds p hval0 hA0 hlt hL
  have hUtf8T := tabUtf8T hL
  have hval : ∀ (j : Nat) t v, Tryd.f6.params[j]? = some t → args[j]? = some v → Value.okWide Tryd.prog W .any base t v := hval0
  have hA : DataW.TrodAll enc Tryd.prog W 0 (fun _ => true) true Tryd.f6.params.toList args.toList ds p := hA0
  rw [Tryd.params6] at hA hval
  obtain ⟨v0, vs0, d0, ds0, p0, q0, ha0, rfl, rfl, h0, r0⟩ := trodAll_cons hA
  obtain ⟨rfl, rfl, rfl⟩ := trodAll_nil r0
  obtain rfl : args = #[v0] := Array.toList_inj.1 ha0
  obtain ⟨s0, l0, rfl, hs0, wf0, hd0⟩ := open_list (E := eB) (e := 5) (by kernel_rfl) (rd_u8 (by kernel_rfl)) (hval 0 25 v0 rfl rfl) h0
  exact law13_MsgoneDecodes_calls (law13_MsgoneDecodes_spec hUtf8T hs0 fun w' hx => ⟨rfl, hx⟩)

/-- A world in which the variables hold what they should. -/
noncomputable def laidWorld (os : Os) : World := { World.holding Tryd.prog os ⟨#[], #[], []⟩ with heap := (((World.holding Tryd.prog os ⟨#[], #[], []⟩).heap.modify 1 fun | .cells _ t frozen => .cells ((flatD (H := Unit) Rows.laid_unicode_utf8_acceptRanges).getD []).toArray t frozen | o => o).modify 0 fun | .cells _ t frozen => .cells ((flatD (H := Unit) Rows.laid_unicode_utf8_first).getD []).toArray t frozen | o => o) }
theorem laid_met (os : Os) : laidMet Tryd.prog Rows.msgoneDecodesRow.laid ((laidWorld os).forCall (fun _ _ => 0) ⟨#[], #[.slice none 0 0], []⟩).memory := laidMet_of_run' 8 (by kernel_rfl) (by kernel_rfl)
theorem reads (os : Os) {H : Type} (enc : TypeId × Value → H) : ∃ places, DataW.whole enc Tryd.prog ((laidWorld os).forCall (fun _ _ => 0) ⟨#[], #[.slice none 0 0], []⟩).memory Tryd.f6.params.toList Rows.msgoneDecodesSpec.vars false (#[.slice none 0 0] : Array Value).toList 8 = some ([.nil], [], places) := ⟨[], by kernel_rfl⟩
set_option maxRecDepth 100000 in
theorem lifted (os : Os) (started : os.Started) (H : Type) (enc : TypeId × Value → H) (F : Stop.Interp) :
    ReturnsInHanded {} Tryd.checked os 6 .any ((OpenSpec.ofChange Rows.msgoneDecodesSpec).preRow enc Tryd.prog Tryd.f6 Rows.msgoneDecodesRow.domain false Rows.msgoneDecodesRow.laid) (((OpenSpec.ofChange Rows.msgoneDecodesSpec).at F).post enc Tryd.prog Tryd.f6 false true false false) := by
  obtain ⟨places, hx⟩ := reads os enc
  exact lifted_laid (C := Tryd.checked) (tb := 4) own started (by kernel_rfl) Tryd.func6
    (witness_row_at (enc := enc) (C := Tryd.checked) false (laidWorld os) #[.slice none 0 0] rfl (by kernel_rfl) (by kernel_rfl) (by kernel_rfl) (OpenSpec.preRow_of_cond 8 hx (by kernel_rfl) (fun k hk => by cases hk) (by kernel_rfl) (laid_met os)))
    laidOut (by kernel_rfl) (by kernel_rfl) Tryd.underlying4 rfl (fun ds hd => by
      match ds, hd with
      | [e0], _ => rfl) law

theorem said : Rows.MsgoneDecodesSaid :=
  OpenClaim.holds_of_cond 6 Tryd.f6 rfl rfl rfl rfl rfl rfl rfl ⟨rfl, rfl, rfl, rfl, rfl⟩ rfl rfl rfl rfl rfl (by kernel_rfl) Tryd.func6 (by kernel_rfl)
    (of_decide_eq_true (by kernel_rfl)) (by unfold Func.isWrapper; first | (rw [if_pos (by decide +kernel)]; kernel_rfl) | (rw [if_neg (by decide +kernel)]; exact ⟨rfl, rfl⟩))
    (fun os started H enc _ F => by rw [OpenClaim.pre_eq_preRow]; exact lifted os started H enc F)
theorem plain (f : FuncId) (fn : Func) (hf : Tryd.pinned.checked.prog.funcNamed "changeover/changeoverlaw13.MsgoneDecodes" = some f) (hfn : Tryd.pinned.checked.prog.funcs[f]? = some fn) :
    true = Tryd.pinned.checked.prog.looks [] ∧ ∀ (j : Nat) t, fn.params[j]? = some t → Tryd.pinned.checked.prog.wantsStandIn t = false := by
  obtain rfl : f = 6 := Option.some.inj ((show Tryd.prog.funcNamed "changeover/changeoverlaw13.MsgoneDecodes" = some 6 by kernel_rfl).symm.trans hf) |>.symm
  obtain rfl : fn = Tryd.f6 := (Option.some.inj (Tryd.func6.symm.trans hfn)).symm
  refine ⟨by kernel_rfl, fun j t ht => ?_⟩
  rw [Tryd.params6] at ht
  have hm : t = 25 := by simpa using Array.mem_of_getElem? ht
  rcases hm with rfl
  · exact (show Tryd.prog.wantsStandIn 25 = false by kernel_rfl)
theorem card : Rows.MsgoneDecodesCardSaid :=
  Claim7.holds_tied_plain_at .later [] _ _ _ _ said (fun _ h => by cases h) (by kernel_rfl) (fun _ h => by cases h) msgoneDecodes_row_tie rfl ⟨rfl, rfl⟩ (by kernel_rfl) rfl plain (by kernel_rfl)
end Go.Proofs.YtjkknkklhnfloaaDoor.msgoneDecodes
