/-
  changeover/changeoverlaw42.ScriptTexts: its card: the law answers true, whatever is handed in, and each argument reads as before; the listed variables hold what the program's text lays.
-/
import Derived.Test.YtnnoalpkldpjfaaGreatDoorCards
import Derived.Test.YtnnoalpkldpjfaaGreatDoorTie
import Derived.Test.YtnnoalpkldpjfaaGreatDoorLaid
import Derived.Test.YtnnoalpkldpjfaaGreatDoorMG
set_option linter.unusedVariables false
set_option maxRecDepth 20000
namespace Go.Proofs.YtnnoalpkldpjfaaGreatDoor.scriptTexts
open Go.ChangeShapes Go.WideShapes Go.ChangeAt Go.RowKit Go.Vc Go.Chg

theorem own : ownKnob Tryz.prog.godebug = none := by kernel_rfl
theorem laidOut : laidOutB Tryz.prog = true := by kernel_rfl
theorem noHandle : (Rows.scriptTextsRow.laid.filter fun x => x.2.handleName?.isSome) = [] := by kernel_rfl
theorem tabUtf8T {W : World} (h : laidMetH Tryz.prog Rows.scriptTextsRow.laid W) : Utf8T W := ⟨(laid_glob h noHandle (List.Mem.tail _ (List.Mem.tail _ (List.Mem.tail _ (List.Mem.tail _ (List.Mem.tail _ (List.Mem.tail _ (List.Mem.head _))))))) (by kernel_rfl) (by kernel_rfl) (t := 158) (flat_array (e := 5) (n := 256) (c := 1) (by kernel_rfl) (flat_int (k := .u8) (by kernel_rfl))) (by kernel_rfl)), (laid_glob h noHandle (List.Mem.tail _ (List.Mem.tail _ (List.Mem.tail _ (List.Mem.head _)))) (by kernel_rfl) (by kernel_rfl) (t := 161) (flat_array (e := 160) (n := 16) (c := 2) (by kernel_rfl) (flat_struct [(5, 0, 1), (5, 1, 1)] (by kernel_rfl) ⟨(flat_int (k := .u8) (by kernel_rfl)), (flat_int (k := .u8) (by kernel_rfl)), trivial⟩)) (cs := (flatD (H := Unit) Rows.laid_unicode_utf8_acceptRanges).getD []) (by kernel_rfl)).take 10 (by kernel_rfl)⟩
theorem tabConvT {W : World} (h : laidMetH Tryz.prog Rows.scriptTextsRow.laid W) : ConvT W := ⟨(laid_glob h noHandle (List.Mem.tail _ (List.Mem.tail _ (List.Mem.head _))) (by kernel_rfl) (by kernel_rfl) (t := 170) (flat_array (e := 153) (n := 20) (c := 1) (by kernel_rfl) (flat_int (k := .u64) (by kernel_rfl))) (by kernel_rfl))⟩
theorem tabErrT {W : World} (h : laidMetH Tryz.prog Rows.scriptTextsRow.laid W) : ErrT W := ⟨(laid_if h noHandle (List.Mem.tail _ (List.Mem.tail _ (List.Mem.tail _ (List.Mem.tail _ (List.Mem.tail _ (List.Mem.head _)))))) (by kernel_rfl) (by kernel_rfl) (t := 97) (by kernel_rfl) rfl), (laid_if h noHandle (List.Mem.tail _ (List.Mem.tail _ (List.Mem.tail _ (List.Mem.tail _ (List.Mem.head _))))) (by kernel_rfl) (by kernel_rfl) (t := 97) (by kernel_rfl) rfl)⟩

theorem law : LawTrueL Tryz.checked 6 Tryz.f6 Rows.scriptTextsSpec Rows.scriptTextsRow.laid := by
  intro H enc W base args ds p hval0 hA0 hlt hL
  have hUtf8T := tabUtf8T hL
  have hConvT := tabConvT hL
  have hErrT := tabErrT hL
  have hval : ∀ (j : Nat) t v, Tryz.f6.params[j]? = some t → args[j]? = some v → Value.okWide Tryz.prog W .any base t v := hval0
  have hA : DataW.TrodAll enc Tryz.prog W 0 (fun _ => true) true Tryz.f6.params.toList args.toList ds p := hA0
  rw [Tryz.params6] at hA hval
  obtain ⟨v0, vs0, d0, ds0, p0, q0, ha0, rfl, rfl, h0, r0⟩ := trodAll_cons hA
  obtain ⟨v1, vs1, d1, ds1, p1, q1, ha1, rfl, rfl, h1, r1⟩ := trodAll_cons r0
  obtain ⟨rfl, rfl, rfl⟩ := trodAll_nil r1
  subst ha1
  obtain rfl : args = #[v0, v1] := Array.toList_inj.1 ha0
  obtain ⟨s0, l0, rfl, hs0, wf0, hd0⟩ := open_list (E := eApiEvent) (e := 33) (by kernel_rfl) ApiEvent.flat (hval 0 35 v0 rfl rfl) h0
  obtain ⟨x1, rfl, rfl, rfl, w1⟩ := open_int Tryz.underlying5 (hval 1 5 v1 rfl rfl) h1
  exact law42_ScriptTexts_calls (law42_ScriptTexts_spec hUtf8T hConvT hErrT hs0 fun w' hx => ⟨rfl, hx⟩)

/-- A world in which the variables hold what they should. -/
noncomputable def laidWorld (os : Os) : World := { World.holding Tryz.prog os ⟨#[], #[], []⟩ with heap := ((((((((((World.holding Tryz.prog os ⟨#[], #[], []⟩).heap.modify 3 fun | .cells _ t frozen => .cells #[.iface 176 (.pointer (some ⟨(World.holding Tryz.prog os ⟨#[], #[], []⟩).heap.size + 0, 0, none⟩))] t frozen | o => o).push (.cells #[sval [118, 97, 108, 117, 101, 32, 111, 117, 116, 32, 111, 102, 32, 114, 97, 110, 103, 101]] 178 (0, 0))).modify 2 fun | .cells _ t frozen => .cells #[.iface 176 (.pointer (some ⟨(World.holding Tryz.prog os ⟨#[], #[], []⟩).heap.size + 1, 0, none⟩))] t frozen | o => o).push (.cells #[sval [105, 110, 118, 97, 108, 105, 100, 32, 115, 121, 110, 116, 97, 120]] 178 (0, 0))).modify 6 fun | .cells _ t frozen => .cells ((flatD (H := Unit) Rows.laid_math_bits_deBruijn32tab).getD []).toArray t frozen | o => o).modify 7 fun | .cells _ t frozen => .cells ((flatD (H := Unit) Rows.laid_math_bits_deBruijn64tab).getD []).toArray t frozen | o => o).modify 4 fun | .cells _ t frozen => .cells ((flatD (H := Unit) Rows.laid_internal_strconv_uint64pow10).getD []).toArray t frozen | o => o).modify 1 fun | .cells _ t frozen => .cells ((flatD (H := Unit) Rows.laid_unicode_utf8_acceptRanges).getD []).toArray t frozen | o => o).modify 0 fun | .cells _ t frozen => .cells ((flatD (H := Unit) Rows.laid_unicode_utf8_first).getD []).toArray t frozen | o => o) }
theorem laid_met (os : Os) : laidMet Tryz.prog Rows.scriptTextsRow.laid ((laidWorld os).forCall (fun _ _ => 0) ⟨#[], #[.slice none 0 0, .int .u8 0], []⟩).memory := laidMet_of_run' 8 (by kernel_rfl) (by kernel_rfl)
theorem reads (os : Os) {H : Type} (enc : TypeId × Value → H) : ∃ places, DataW.whole enc Tryz.prog ((laidWorld os).forCall (fun _ _ => 0) ⟨#[], #[.slice none 0 0, .int .u8 0], []⟩).memory Tryz.f6.params.toList Rows.scriptTextsSpec.vars false (#[.slice none 0 0, .int .u8 0] : Array Value).toList 8 = some ([.nil, .lit (.int .u8 0)], [], places) := ⟨[], by kernel_rfl⟩
set_option maxRecDepth 100000 in
theorem lifted (os : Os) (started : os.Started) (H : Type) (enc : TypeId × Value → H) (F : Stop.Interp) :
    ReturnsInHanded {} Tryz.checked os 6 .any ((OpenSpec.ofChange Rows.scriptTextsSpec).preRow enc Tryz.prog Tryz.f6 Rows.scriptTextsRow.domain false Rows.scriptTextsRow.laid) (((OpenSpec.ofChange Rows.scriptTextsSpec).at F).post enc Tryz.prog Tryz.f6 false true false false) := by
  obtain ⟨places, hx⟩ := reads os enc
  exact lifted_laid (C := Tryz.checked) (tb := 4) own started (by kernel_rfl) Tryz.func6
    (witness_row_at (enc := enc) (C := Tryz.checked) false (laidWorld os) #[.slice none 0 0, .int .u8 0] rfl (by kernel_rfl) (by kernel_rfl) (by kernel_rfl) (OpenSpec.preRow_of_cond 8 hx (by kernel_rfl) (fun k hk => by cases hk) (by kernel_rfl) (laid_met os)))
    laidOut (by kernel_rfl) (by kernel_rfl) Tryz.underlying4 rfl (fun ds hd => by
      match ds, hd with
      | [e0, e1], _ => rfl) law

theorem said : Rows.ScriptTextsSaid :=
  OpenClaim.holds_of_cond 6 Tryz.f6 rfl rfl rfl rfl rfl rfl rfl ⟨rfl, rfl, rfl, rfl, rfl⟩ rfl rfl rfl rfl rfl (by kernel_rfl) Tryz.func6 (by kernel_rfl)
    (of_decide_eq_true (by kernel_rfl)) (by unfold Func.isWrapper; first | (rw [if_pos (by decide +kernel)]; kernel_rfl) | (rw [if_neg (by decide +kernel)]; exact ⟨rfl, rfl⟩))
    (fun os started H enc _ F => by rw [OpenClaim.pre_eq_preRow]; exact lifted os started H enc F)
theorem plain (f : FuncId) (fn : Func) (hf : Tryz.pinned.checked.prog.funcNamed "changeover/changeoverlaw42.ScriptTexts" = some f) (hfn : Tryz.pinned.checked.prog.funcs[f]? = some fn) :
    true = Tryz.pinned.checked.prog.looks [] ∧ ∀ (j : Nat) t, fn.params[j]? = some t → Tryz.pinned.checked.prog.wantsStandIn t = false := by
  obtain rfl : f = 6 := Option.some.inj ((show Tryz.prog.funcNamed "changeover/changeoverlaw42.ScriptTexts" = some 6 by kernel_rfl).symm.trans hf) |>.symm
  obtain rfl : fn = Tryz.f6 := (Option.some.inj (Tryz.func6.symm.trans hfn)).symm
  refine ⟨by kernel_rfl, fun j t ht => ?_⟩
  rw [Tryz.params6] at ht
  match j, ht with
  | 0, ht => exact Option.some.inj (show some 35 = some t from ht) ▸ (show Tryz.prog.wantsStandIn 35 = false by kernel_rfl)
  | 1, ht => exact Option.some.inj (show some 5 = some t from ht) ▸ (show Tryz.prog.wantsStandIn 5 = false by kernel_rfl)
  | q + 2, ht => exact absurd ht (by simp)
theorem card : Rows.ScriptTextsCardSaid :=
  Claim7.holds_tied_plain_at .later [] _ _ _ _ said (fun _ h => by cases h) (by kernel_rfl) (fun _ h => by cases h) scriptTexts_row_tie rfl ⟨rfl, rfl⟩ (by kernel_rfl) rfl plain (by kernel_rfl)
end Go.Proofs.YtnnoalpkldpjfaaGreatDoor.scriptTexts
