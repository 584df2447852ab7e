/-
  changeover/changeoverlaw02.CrcChanges: its card: the law answers true, whatever is handed in, and each argument reads as before; the listed variables hold what the program's text lays.
-/
import Derived.Test.YtchkkeninkmclaaDoorCards
import Derived.Test.YtchkkeninkmclaaDoorTie
import Derived.Test.YtchkkeninkmclaaDoorLaid
import Derived.Test.YtchkkeninkmclaaDoorSpCrc
set_option linter.unusedVariables false
set_option maxRecDepth 20000
namespace Go.Proofs.YtchkkeninkmclaaDoor.crcChanges
open Go.ChangeShapes Go.WideShapes Go.ChangeAt Go.RowKit Go.Vc Go.Chg

theorem own : ownKnob Tryd.prog.godebug = none := by kernel_rfl
theorem laidOut : laidOutB Tryd.prog = true := by kernel_rfl
theorem noHandle : (Rows.crcChangesRow.laid.filter fun x => x.2.handleName?.isSome) = [] := by kernel_rfl
theorem tabCrcT {W : World} (h : laidMetH Tryd.prog Rows.crcChangesRow.laid W) : CrcT W := ⟨(laid_glob h noHandle (List.Mem.tail _ (List.Mem.tail _ (List.Mem.tail _ (List.Mem.head _)))) (by kernel_rfl) (by kernel_rfl) (t := 51) (flat_array (e := 33) (n := 16) (c := 1) (by kernel_rfl) (flat_int (k := .u32) (by kernel_rfl))) (by kernel_rfl))⟩
theorem tabHexT {W : World} (h : laidMetH Tryd.prog Rows.crcChangesRow.laid W) : HexT W := ⟨(laid_glob h noHandle (List.Mem.tail _ (List.Mem.head _)) (by kernel_rfl) (by kernel_rfl) (t := 69) (flat_array (e := 5) (n := 64) (c := 1) (by kernel_rfl) (flat_int (k := .u8) (by kernel_rfl))) (by kernel_rfl))⟩

theorem law : LawTrueL Tryd.checked 9 Tryd.f9 Rows.crcChangesSpec Rows.crcChangesRow.laid := by
  intro H enc W base args ds p hval0 hA0 hlt hL
  have hCrcT := tabCrcT hL
  have hHexT := tabHexT hL
  have hval : ∀ (j : Nat) t v, Tryd.f9.params[j]? = some t → args[j]? = some v → Value.okWide Tryd.prog W .any base t v := hval0
  have hA : DataW.TrodAll enc Tryd.prog W 0 (fun _ => true) true Tryd.f9.params.toList args.toList ds p := hA0
  rw [Tryd.params9] at hA hval
  obtain ⟨v0, vs0, d0, ds0, p0, q0, ha0, rfl, rfl, h0, r0⟩ := trodAll_cons hA
  obtain ⟨v1, vs1, d1, ds1, p1, q1, ha1, rfl, rfl, h1, r1⟩ := trodAll_cons r0
  obtain ⟨v2, vs2, d2, ds2, p2, q2, ha2, rfl, rfl, h2, r2⟩ := trodAll_cons r1
  obtain ⟨rfl, rfl, rfl⟩ := trodAll_nil r2
  subst ha2
  subst ha1
  obtain rfl : args = #[v0, v1, v2] := Array.toList_inj.1 ha0
  obtain ⟨s0, l0, rfl, hs0, wf0, hd0⟩ := open_list (E := eB) (e := 5) (by kernel_rfl) (rd_u8 (by kernel_rfl)) (hval 0 32 v0 rfl rfl) h0
  obtain ⟨x1, rfl, rfl, rfl, w1⟩ := open_int Tryd.underlying3 (hval 1 3 v1 rfl rfl) h1
  obtain ⟨l2, rfl, hl2, hd2⟩ := open_array (E := eB) (e := 5) (n := 4) (by kernel_rfl) (rd_u8 (by kernel_rfl)) (hval 2 39 v2 rfl rfl) h2
  exact law02_CrcChanges_calls (law02_CrcChanges_spec hCrcT hHexT hs0 (wf_i64 w1) rfl hl2 fun w' hx => ⟨rfl, hx⟩)

/-- A world in which the variables hold what they should. -/
noncomputable def laidWorld (os : Os) : World := { World.holding Tryd.prog os ⟨#[], #[], []⟩ with heap := (((((World.holding Tryd.prog os ⟨#[], #[], []⟩).heap.modify 4 fun | .cells _ t frozen => .cells ((flatD (H := Unit) Rows.laid_math_bits_deBruijn32tab).getD []).toArray t frozen | o => o).modify 5 fun | .cells _ t frozen => .cells ((flatD (H := Unit) Rows.laid_math_bits_deBruijn64tab).getD []).toArray t frozen | o => o).modify 3 fun | .cells _ t frozen => .cells ((flatD (H := Unit) Rows.laid_internal_strconv_uint64pow10).getD []).toArray t frozen | o => o).modify 0 fun | .cells _ t frozen => .cells ((flatD (H := Unit) Rows.laid_changeover_crc_table).getD []).toArray t frozen | o => o) }
theorem laid_met (os : Os) : laidMet Tryd.prog Rows.crcChangesRow.laid ((laidWorld os).forCall (fun _ _ => 0) ⟨#[], #[.slice none 0 0, .int .i64 0, .agg ⟨[.int .u8 0, .int .u8 0, .int .u8 0, .int .u8 0]⟩], []⟩).memory := laidMet_of_run' 8 (by kernel_rfl) (by kernel_rfl)
theorem reads (os : Os) {H : Type} (enc : TypeId × Value → H) : ∃ places, DataW.whole enc Tryd.prog ((laidWorld os).forCall (fun _ _ => 0) ⟨#[], #[.slice none 0 0, .int .i64 0, .agg ⟨[.int .u8 0, .int .u8 0, .int .u8 0, .int .u8 0]⟩], []⟩).memory Tryd.f9.params.toList Rows.crcChangesSpec.vars false (#[.slice none 0 0, .int .i64 0, .agg ⟨[.int .u8 0, .int .u8 0, .int .u8 0, .int .u8 0]⟩] : Array Value).toList 8 = some ([.nil, .lit (.int .i64 0), .agg [.lit (.int .u8 0), .lit (.int .u8 0), .lit (.int .u8 0), .lit (.int .u8 0)]], [], places) := ⟨[], by kernel_rfl⟩
set_option maxRecDepth 100000 in
theorem lifted (os : Os) (started : os.Started) (H : Type) (enc : TypeId × Value → H) (F : Stop.Interp) :
    ReturnsInHanded {} Tryd.checked os 9 .any ((OpenSpec.ofChange Rows.crcChangesSpec).preRow enc Tryd.prog Tryd.f9 Rows.crcChangesRow.domain false Rows.crcChangesRow.laid) (((OpenSpec.ofChange Rows.crcChangesSpec).at F).post enc Tryd.prog Tryd.f9 false true false false) := by
  obtain ⟨places, hx⟩ := reads os enc
  exact lifted_laid (C := Tryd.checked) (tb := 4) own started (by kernel_rfl) Tryd.func9
    (witness_row_at (enc := enc) (C := Tryd.checked) false (laidWorld os) #[.slice none 0 0, .int .i64 0, .agg ⟨[.int .u8 0, .int .u8 0, .int .u8 0, .int .u8 0]⟩] rfl (by kernel_rfl) (by kernel_rfl) (by kernel_rfl) (OpenSpec.preRow_of_cond 8 hx (by kernel_rfl) (fun k hk => by cases hk) (by kernel_rfl) (laid_met os)))
    laidOut (by kernel_rfl) (by kernel_rfl) Tryd.underlying4 rfl (fun ds hd => by
      match ds, hd with
      | [e0, e1, e2], _ => rfl) law

theorem said : Rows.CrcChangesSaid :=
  OpenClaim.holds_of_cond 9 Tryd.f9 rfl rfl rfl rfl rfl rfl rfl ⟨rfl, rfl, rfl, rfl, rfl⟩ rfl rfl rfl rfl rfl (by kernel_rfl) Tryd.func9 (by kernel_rfl)
    (of_decide_eq_true (by kernel_rfl)) (by unfold Func.isWrapper; first | (rw [if_pos (by decide +kernel)]; kernel_rfl) | (rw [if_neg (by decide +kernel)]; exact ⟨rfl, rfl⟩))
    (fun os started H enc _ F => by rw [OpenClaim.pre_eq_preRow]; exact lifted os started H enc F)
theorem plain (f : FuncId) (fn : Func) (hf : Tryd.pinned.checked.prog.funcNamed "changeover/changeoverlaw02.CrcChanges" = some f) (hfn : Tryd.pinned.checked.prog.funcs[f]? = some fn) :
    false = Tryd.pinned.checked.prog.looks [] ∧ ∀ (j : Nat) t, fn.params[j]? = some t → Tryd.pinned.checked.prog.wantsStandIn t = false := by
  obtain rfl : f = 9 := Option.some.inj ((show Tryd.prog.funcNamed "changeover/changeoverlaw02.CrcChanges" = some 9 by kernel_rfl).symm.trans hf) |>.symm
  obtain rfl : fn = Tryd.f9 := (Option.some.inj (Tryd.func9.symm.trans hfn)).symm
  refine ⟨by kernel_rfl, fun j t ht => ?_⟩
  rw [Tryd.params9] at ht
  have hm : t = 32 ∨ t = 3 ∨ t = 39 := by simpa using Array.mem_of_getElem? ht
  rcases hm with rfl | rfl | rfl
  · exact (show Tryd.prog.wantsStandIn 32 = false by kernel_rfl)
  · exact (show Tryd.prog.wantsStandIn 3 = false by kernel_rfl)
  · exact (show Tryd.prog.wantsStandIn 39 = false by kernel_rfl)
theorem card : Rows.CrcChangesCardSaid :=
  Claim7.holds_tied_plain_at .later [] _ _ _ _ said (fun _ h => by cases h) (by kernel_rfl) (fun _ h => by cases h) crcChanges_row_tie rfl ⟨rfl, rfl⟩ (by kernel_rfl) rfl plain (by kernel_rfl)
end Go.Proofs.YtchkkeninkmclaaDoor.crcChanges
