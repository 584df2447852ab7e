/-
  changeover/changeoverlaw15.TagOpens: its card: the law answers true, whatever is handed in, and each argument reads as before; the listed variables hold what the program's text lays.
-/
import Derived.Test.YthofeajlmgecmaaGreatDoorCards
import Derived.Test.YthofeajlmgecmaaGreatDoorTie
import Derived.Test.YthofeajlmgecmaaGreatDoorLaid
import Derived.Test.YthofeajlmgecmaaGreatDoorSpLaw15
set_option linter.unusedVariables false
set_option maxRecDepth 20000
namespace Go.Proofs.YthofeajlmgecmaaGreatDoor.tagOpens
open Go.ChangeShapes Go.WideShapes Go.ChangeAt Go.RowKit Go.Vc Go.Chg

theorem own : ownKnob Tryz.prog.godebug = none := by kernel_rfl
theorem laidOut : laidOutB Tryz.prog = true := by kernel_rfl
theorem noHandle : (Rows.tagOpensRow.laid.filter fun x => x.2.handleName?.isSome) = [] := by kernel_rfl
theorem tabUtf8T {W : World} (h : laidMetH Tryz.prog Rows.tagOpensRow.laid W) : Utf8T W := ⟨(laid_glob h noHandle (List.Mem.tail _ (List.Mem.tail _ (List.Mem.head _))) (by kernel_rfl) (by kernel_rfl) (t := 237) (flat_array (e := 5) (n := 256) (c := 1) (by kernel_rfl) (flat_int (k := .u8) (by kernel_rfl))) (by kernel_rfl)), (laid_glob h noHandle (List.Mem.head _) (by kernel_rfl) (by kernel_rfl) (t := 240) (flat_array (e := 239) (n := 16) (c := 2) (by kernel_rfl) (flat_struct [(5, 0, 1), (5, 1, 1)] (by kernel_rfl) ⟨(flat_int (k := .u8) (by kernel_rfl)), (flat_int (k := .u8) (by kernel_rfl)), trivial⟩)) (cs := (flatD (H := Unit) Rows.laid_unicode_utf8_acceptRanges).getD []) (by kernel_rfl)).take 10 (by kernel_rfl)⟩
theorem tabCrcT {W : World} (h : laidMetH Tryz.prog Rows.tagOpensRow.laid W) : CrcT W := ⟨(laid_glob h noHandle (List.Mem.tail _ (List.Mem.head _)) (by kernel_rfl) (by kernel_rfl) (t := 232) (flat_array (e := 144) (n := 16) (c := 1) (by kernel_rfl) (flat_int (k := .u32) (by kernel_rfl))) (by kernel_rfl))⟩

theorem law : LawTrueL Tryz.checked 5 Tryz.f5 Rows.tagOpensSpec Rows.tagOpensRow.laid := by
  intro H enc W base args ds p hval0 hA0 hlt hL
  have hUtf8T := tabUtf8T hL
  have hCrcT := tabCrcT hL
  have hval : ∀ (j : Nat) t v, Tryz.f5.params[j]? = some t → args[j]? = some v → Value.okWide Tryz.prog W .any base t v := hval0
  have hA : DataW.TrodAll enc Tryz.prog W 0 (fun _ => true) true Tryz.f5.params.toList args.toList ds p := hA0
  rw [Tryz.params5] at hA hval
  obtain ⟨v0, vs0, d0, ds0, p0, q0, ha0, rfl, rfl, h0, r0⟩ := trodAll_cons hA
  obtain ⟨v1, vs1, d1, ds1, p1, q1, ha1, rfl, rfl, h1, r1⟩ := trodAll_cons r0
  obtain ⟨rfl, rfl, rfl⟩ := trodAll_nil r1
  subst ha1
  obtain rfl : args = #[v0, v1] := Array.toList_inj.1 ha0
  obtain ⟨x0, rfl, rfl, rfl, w0⟩ := open_int Tryz.underlying3 (hval 0 3 v0 rfl rfl) h0
  obtain ⟨s1, l1, rfl, hs1, wf1, hd1⟩ := open_list (E := eB) (e := 5) (by kernel_rfl) (rd_u8 (by kernel_rfl)) (hval 1 22 v1 rfl rfl) h1
  exact law15_TagOpens_calls (law15_TagOpens_spec hUtf8T hCrcT hs1 fun w' hx => ⟨rfl, hx⟩)

/-- A world in which the variables hold what they should. -/
noncomputable def laidWorld (os : Os) : World := { World.holding Tryz.prog os ⟨#[], #[], []⟩ with heap := ((((World.holding Tryz.prog os ⟨#[], #[], []⟩).heap.modify 2 fun | .cells _ t frozen => .cells ((flatD (H := Unit) Rows.laid_unicode_utf8_acceptRanges).getD []).toArray t frozen | o => o).modify 0 fun | .cells _ t frozen => .cells ((flatD (H := Unit) Rows.laid_changeover_crc_table).getD []).toArray t frozen | o => o).modify 1 fun | .cells _ t frozen => .cells ((flatD (H := Unit) Rows.laid_unicode_utf8_first).getD []).toArray t frozen | o => o) }
theorem laid_met (os : Os) : laidMet Tryz.prog Rows.tagOpensRow.laid ((laidWorld os).forCall (fun _ _ => 0) ⟨#[], #[.int .i64 0, .slice none 0 0], []⟩).memory := laidMet_of_run' 8 (by kernel_rfl) (by kernel_rfl)
theorem reads (os : Os) {H : Type} (enc : TypeId × Value → H) : ∃ places, DataW.whole enc Tryz.prog ((laidWorld os).forCall (fun _ _ => 0) ⟨#[], #[.int .i64 0, .slice none 0 0], []⟩).memory Tryz.f5.params.toList Rows.tagOpensSpec.vars false (#[.int .i64 0, .slice none 0 0] : Array Value).toList 8 = some ([.lit (.int .i64 0), .nil], [], places) := ⟨[], by kernel_rfl⟩
set_option maxRecDepth 100000 in
theorem lifted (os : Os) (started : os.Started) (H : Type) (enc : TypeId × Value → H) (F : Stop.Interp) :
    ReturnsInHanded {} Tryz.checked os 5 .any ((OpenSpec.ofChange Rows.tagOpensSpec).preRow enc Tryz.prog Tryz.f5 Rows.tagOpensRow.domain false Rows.tagOpensRow.laid) (((OpenSpec.ofChange Rows.tagOpensSpec).at F).post enc Tryz.prog Tryz.f5 false true false false) := by
  obtain ⟨places, hx⟩ := reads os enc
  exact lifted_laid (C := Tryz.checked) (tb := 4) own started (by kernel_rfl) Tryz.func5
    (witness_row_at (enc := enc) (C := Tryz.checked) false (laidWorld os) #[.int .i64 0, .slice none 0 0] rfl (by kernel_rfl) (by kernel_rfl) (by kernel_rfl) (OpenSpec.preRow_of_cond 8 hx (by kernel_rfl) (fun k hk => by cases hk) (by kernel_rfl) (laid_met os)))
    laidOut (by kernel_rfl) (by kernel_rfl) Tryz.underlying4 rfl (fun ds hd => by
      match ds, hd with
      | [e0, e1], _ => rfl) law

theorem said : Rows.TagOpensSaid :=
  OpenClaim.holds_of_cond 5 Tryz.f5 rfl rfl rfl rfl rfl rfl rfl ⟨rfl, rfl, rfl, rfl, rfl⟩ rfl rfl rfl rfl rfl (by kernel_rfl) Tryz.func5 (by kernel_rfl)
    (of_decide_eq_true (by kernel_rfl)) (by unfold Func.isWrapper; first | (rw [if_pos (by decide +kernel)]; kernel_rfl) | (rw [if_neg (by decide +kernel)]; exact ⟨rfl, rfl⟩))
    (fun os started H enc _ F => by rw [OpenClaim.pre_eq_preRow]; exact lifted os started H enc F)
theorem plain (f : FuncId) (fn : Func) (hf : Tryz.pinned.checked.prog.funcNamed "changeover/changeoverlaw15.TagOpens" = some f) (hfn : Tryz.pinned.checked.prog.funcs[f]? = some fn) :
    true = Tryz.pinned.checked.prog.looks [] ∧ ∀ (j : Nat) t, fn.params[j]? = some t → Tryz.pinned.checked.prog.wantsStandIn t = false := by
  obtain rfl : f = 5 := Option.some.inj ((show Tryz.prog.funcNamed "changeover/changeoverlaw15.TagOpens" = some 5 by kernel_rfl).symm.trans hf) |>.symm
  obtain rfl : fn = Tryz.f5 := (Option.some.inj (Tryz.func5.symm.trans hfn)).symm
  refine ⟨by kernel_rfl, fun j t ht => ?_⟩
  rw [Tryz.params5] at ht
  have hm : t = 3 ∨ t = 22 := by simpa using Array.mem_of_getElem? ht
  rcases hm with rfl | rfl
  · exact (show Tryz.prog.wantsStandIn 3 = false by kernel_rfl)
  · exact (show Tryz.prog.wantsStandIn 22 = false by kernel_rfl)
theorem card : Rows.TagOpensCardSaid :=
  Claim7.holds_tied_plain_at .later [] _ _ _ _ said (fun _ h => by cases h) (by kernel_rfl) (fun _ h => by cases h) tagOpens_row_tie rfl ⟨rfl, rfl⟩ (by kernel_rfl) rfl plain (by kernel_rfl)
end Go.Proofs.YthofeajlmgecmaaGreatDoor.tagOpens
