/-
  changeover/changeoverlaw39.ImageDecodes: its card: the law answers true, whatever is handed in, and each argument reads as before; the listed variables hold what the program's text lays.
-/
import Derived.Test.YthofeajlmgecmaaGreatDoorCards
import Derived.Test.YthofeajlmgecmaaGreatDoorTie
import Derived.Test.YthofeajlmgecmaaGreatDoorLaid
import Derived.Test.YthofeajlmgecmaaGreatDoorSpLaw39
set_option linter.unusedVariables false
set_option maxRecDepth 20000
namespace Go.Proofs.YthofeajlmgecmaaGreatDoor.imageDecodes
open Go.ChangeShapes Go.WideShapes Go.ChangeAt Go.RowKit Go.Vc Go.Chg

theorem own : ownKnob Tryz.prog.godebug = none := by kernel_rfl
theorem laidOut : laidOutB Tryz.prog = true := by kernel_rfl
theorem noHandle : (Rows.imageDecodesRow.laid.filter fun x => x.2.handleName?.isSome) = [] := by kernel_rfl
theorem tabUtf8T {W : World} (h : laidMetH Tryz.prog Rows.imageDecodesRow.laid W) : Utf8T W := ⟨(laid_glob h noHandle (List.Mem.tail _ (List.Mem.head _)) (by kernel_rfl) (by kernel_rfl) (t := 237) (flat_array (e := 5) (n := 256) (c := 1) (by kernel_rfl) (flat_int (k := .u8) (by kernel_rfl))) (by kernel_rfl)), (laid_glob h noHandle (List.Mem.head _) (by kernel_rfl) (by kernel_rfl) (t := 240) (flat_array (e := 239) (n := 16) (c := 2) (by kernel_rfl) (flat_struct [(5, 0, 1), (5, 1, 1)] (by kernel_rfl) ⟨(flat_int (k := .u8) (by kernel_rfl)), (flat_int (k := .u8) (by kernel_rfl)), trivial⟩)) (cs := (flatD (H := Unit) Rows.laid_unicode_utf8_acceptRanges).getD []) (by kernel_rfl)).take 10 (by kernel_rfl)⟩

theorem law : LawTrueL Tryz.checked 3 Tryz.f3 Rows.imageDecodesSpec Rows.imageDecodesRow.laid := by
  intro H enc W base args ds p hval0 hA0 hlt hL
  have hUtf8T := tabUtf8T hL
  have hval : ∀ (j : Nat) t v, Tryz.f3.params[j]? = some t → args[j]? = some v → Value.okWide Tryz.prog W .any base t v := hval0
  have hA : DataW.TrodAll enc Tryz.prog W 0 (fun _ => true) true Tryz.f3.params.toList args.toList ds p := hA0
  rw [Tryz.params3] at hA hval
  obtain ⟨v0, vs0, d0, ds0, p0, q0, ha0, rfl, rfl, h0, r0⟩ := trodAll_cons hA
  obtain ⟨v1, vs1, d1, ds1, p1, q1, ha1, rfl, rfl, h1, r1⟩ := trodAll_cons r0
  obtain ⟨rfl, rfl, rfl⟩ := trodAll_nil r1
  subst ha1
  obtain rfl : args = #[v0, v1] := Array.toList_inj.1 ha0
  obtain ⟨x0, rfl, rfl, rfl, w0⟩ := open_int Tryz.underlying3 (hval 0 3 v0 rfl rfl) h0
  obtain ⟨s1, l1, rfl, hs1, wf1, hd1⟩ := open_list (E := eB) (e := 5) (by kernel_rfl) (rd_u8 (by kernel_rfl)) (hval 1 22 v1 rfl rfl) h1
  exact law39_ImageDecodes_calls (law39_ImageDecodes_spec hUtf8T hs1 fun w' hx => ⟨rfl, hx⟩)

/-- A world in which the variables hold what they should. -/
noncomputable def laidWorld (os : Os) : World := { World.holding Tryz.prog os ⟨#[], #[], []⟩ with heap := (((World.holding Tryz.prog os ⟨#[], #[], []⟩).heap.modify 2 fun | .cells _ t frozen => .cells ((flatD (H := Unit) Rows.laid_unicode_utf8_acceptRanges).getD []).toArray t frozen | o => o).modify 1 fun | .cells _ t frozen => .cells ((flatD (H := Unit) Rows.laid_unicode_utf8_first).getD []).toArray t frozen | o => o) }
theorem laid_met (os : Os) : laidMet Tryz.prog Rows.imageDecodesRow.laid ((laidWorld os).forCall (fun _ _ => 0) ⟨#[], #[.int .i64 0, .slice none 0 0], []⟩).memory := laidMet_of_run' 8 (by kernel_rfl) (by kernel_rfl)
theorem reads (os : Os) {H : Type} (enc : TypeId × Value → H) : ∃ places, DataW.whole enc Tryz.prog ((laidWorld os).forCall (fun _ _ => 0) ⟨#[], #[.int .i64 0, .slice none 0 0], []⟩).memory Tryz.f3.params.toList Rows.imageDecodesSpec.vars false (#[.int .i64 0, .slice none 0 0] : Array Value).toList 8 = some ([.lit (.int .i64 0), .nil], [], places) := ⟨[], by kernel_rfl⟩
set_option maxRecDepth 100000 in
theorem lifted (os : Os) (started : os.Started) (H : Type) (enc : TypeId × Value → H) (F : Stop.Interp) :
    ReturnsInHanded {} Tryz.checked os 3 .any ((OpenSpec.ofChange Rows.imageDecodesSpec).preRow enc Tryz.prog Tryz.f3 Rows.imageDecodesRow.domain false Rows.imageDecodesRow.laid) (((OpenSpec.ofChange Rows.imageDecodesSpec).at F).post enc Tryz.prog Tryz.f3 false true false false) := by
  obtain ⟨places, hx⟩ := reads os enc
  exact lifted_laid (C := Tryz.checked) (tb := 4) own started (by kernel_rfl) Tryz.func3
    (witness_row_at (enc := enc) (C := Tryz.checked) false (laidWorld os) #[.int .i64 0, .slice none 0 0] rfl (by kernel_rfl) (by kernel_rfl) (by kernel_rfl) (OpenSpec.preRow_of_cond 8 hx (by kernel_rfl) (fun k hk => by cases hk) (by kernel_rfl) (laid_met os)))
    laidOut (by kernel_rfl) (by kernel_rfl) Tryz.underlying4 rfl (fun ds hd => by
      match ds, hd with
      | [e0, e1], _ => rfl) law

theorem said : Rows.ImageDecodesSaid :=
  OpenClaim.holds_of_cond 3 Tryz.f3 rfl rfl rfl rfl rfl rfl rfl ⟨rfl, rfl, rfl, rfl, rfl⟩ rfl rfl rfl rfl rfl (by kernel_rfl) Tryz.func3 (by kernel_rfl)
    (of_decide_eq_true (by kernel_rfl)) (by unfold Func.isWrapper; first | (rw [if_pos (by decide +kernel)]; kernel_rfl) | (rw [if_neg (by decide +kernel)]; exact ⟨rfl, rfl⟩))
    (fun os started H enc _ F => by rw [OpenClaim.pre_eq_preRow]; exact lifted os started H enc F)
theorem plain (f : FuncId) (fn : Func) (hf : Tryz.pinned.checked.prog.funcNamed "changeover/changeoverlaw39.ImageDecodes" = some f) (hfn : Tryz.pinned.checked.prog.funcs[f]? = some fn) :
    true = Tryz.pinned.checked.prog.looks [] ∧ ∀ (j : Nat) t, fn.params[j]? = some t → Tryz.pinned.checked.prog.wantsStandIn t = false := by
  obtain rfl : f = 3 := Option.some.inj ((show Tryz.prog.funcNamed "changeover/changeoverlaw39.ImageDecodes" = some 3 by kernel_rfl).symm.trans hf) |>.symm
  obtain rfl : fn = Tryz.f3 := (Option.some.inj (Tryz.func3.symm.trans hfn)).symm
  refine ⟨by kernel_rfl, fun j t ht => ?_⟩
  rw [Tryz.params3] at ht
  match j, ht with
  | 0, ht => exact Option.some.inj (show some 3 = some t from ht) ▸ (show Tryz.prog.wantsStandIn 3 = false by kernel_rfl)
  | 1, ht => exact Option.some.inj (show some 22 = some t from ht) ▸ (show Tryz.prog.wantsStandIn 22 = false by kernel_rfl)
  | q + 2, ht => exact absurd ht (by simp)
theorem card : Rows.ImageDecodesCardSaid :=
  Claim7.holds_tied_plain_at .later [] _ _ _ _ said (fun _ h => by cases h) (by kernel_rfl) (fun _ h => by cases h) imageDecodes_row_tie rfl ⟨rfl, rfl⟩ (by kernel_rfl) rfl plain (by kernel_rfl)
end Go.Proofs.YthofeajlmgecmaaGreatDoor.imageDecodes
