/-
  changeover/changeoverlaw27.SnaptwoMigrates: its card: the law answers true, whatever is handed in, and each argument reads as before; the listed variables hold what the program's text lays.
-/
import Derived.Test.YtahfcnaalleldaaDoorCards
import Derived.Test.YtahfcnaalleldaaDoorTie
import Derived.Test.YtahfcnaalleldaaDoorLaid
import Derived.Test.YtahfcnaalleldaaDoorSpSnap5
set_option linter.unusedVariables false
set_option maxRecDepth 20000
namespace Go.Proofs.YtahfcnaalleldaaDoor.snaptwoMigrates
open Go.ChangeShapes Go.WideShapes Go.ChangeAt Go.RowKit Go.Vc Go.Chg

theorem own : ownKnob Tryd.prog.godebug = none := by kernel_rfl
theorem laidOut : laidOutB Tryd.prog = true := by kernel_rfl
theorem noHandle : (Rows.snaptwoMigratesRow.laid.filter fun x => x.2.handleName?.isSome) = [] := by kernel_rfl
theorem tabUtf8T {W : World} (h : laidMetH Tryd.prog Rows.snaptwoMigratesRow.laid W) : Utf8T W := ⟨(laid_glob h noHandle (List.Mem.tail _ (List.Mem.head _)) (by kernel_rfl) (by kernel_rfl) (t := 169) (flat_array (e := 5) (n := 256) (c := 1) (by kernel_rfl) (flat_int (k := .u8) (by kernel_rfl))) (by kernel_rfl)), (laid_glob h noHandle (List.Mem.head _) (by kernel_rfl) (by kernel_rfl) (t := 172) (flat_array (e := 171) (n := 16) (c := 2) (by kernel_rfl) (flat_struct [(5, 0, 1), (5, 1, 1)] (by kernel_rfl) ⟨(flat_int (k := .u8) (by kernel_rfl)), (flat_int (k := .u8) (by kernel_rfl)), trivial⟩)) (cs := (flatD (H := Unit) Rows.laid_unicode_utf8_acceptRanges).getD []) (by kernel_rfl)).take 10 (by kernel_rfl)⟩

theorem law : LawTrueL Tryd.checked 11 Tryd.f11 Rows.snaptwoMigratesSpec Rows.snaptwoMigratesRow.laid := by
  intro H enc W base args ds p hval0 hA0 hlt hL
  have hUtf8T := tabUtf8T hL
  have hval : ∀ (j : Nat) t v, Tryd.f11.params[j]? = some t → args[j]? = some v → Value.okWide Tryd.prog W .any base t v := hval0
  have hA : DataW.TrodAll enc Tryd.prog W 0 (fun _ => true) true Tryd.f11.params.toList args.toList ds p := hA0
  rw [Tryd.params11] at hA hval
  obtain ⟨v0, vs0, d0, ds0, p0, q0, ha0, rfl, rfl, h0, r0⟩ := trodAll_cons hA
  obtain ⟨v1, vs1, d1, ds1, p1, q1, ha1, rfl, rfl, h1, r1⟩ := trodAll_cons r0
  obtain ⟨rfl, rfl, rfl⟩ := trodAll_nil r1
  subst ha1
  obtain rfl : args = #[v0, v1] := Array.toList_inj.1 ha0
  obtain ⟨c0, rfl, x0, l0Pairs, l0Sessions, rfl, wf0Schema, hs0Pairs, wf0Pairs, hs0Sessions, wf0Sessions⟩ := open_deep (by kernel_rfl) ApiState.deep (hval 0 48 v0 rfl rfl) h0
  obtain ⟨s1, l1, rfl, hs1, wf1, hd1⟩ := open_list (E := eB) (e := 5) (by kernel_rfl) (rd_u8 (by kernel_rfl)) (hval 1 39 v1 rfl rfl) h1
  exact law27_SnaptwoMigrates_calls (law27_SnaptwoMigrates_spec hUtf8T ⟨hs0Pairs, hs0Sessions⟩ hs1 fun w' hx => ⟨rfl, hx⟩)

/-- A world in which the variables hold what they should. -/
noncomputable def laidWorld (os : Os) : World := { World.holding Tryd.prog os ⟨#[], #[], []⟩ with heap := (((World.holding Tryd.prog os ⟨#[], #[], []⟩).heap.modify 1 fun | .cells _ t frozen => .cells ((flatD (H := Unit) Rows.laid_unicode_utf8_acceptRanges).getD []).toArray t frozen | o => o).modify 0 fun | .cells _ t frozen => .cells ((flatD (H := Unit) Rows.laid_unicode_utf8_first).getD []).toArray t frozen | o => o) }
theorem laid_met (os : Os) : laidMet Tryd.prog Rows.snaptwoMigratesRow.laid ((laidWorld os).forCall (fun _ _ => 0) ⟨#[], #[.agg ⟨[.int .i64 0, .slice none 0 0, .slice none 0 0]⟩, .slice none 0 0], []⟩).memory := laidMet_of_run' 8 (by kernel_rfl) (by kernel_rfl)
theorem reads (os : Os) {H : Type} (enc : TypeId × Value → H) : ∃ places, DataW.whole enc Tryd.prog ((laidWorld os).forCall (fun _ _ => 0) ⟨#[], #[.agg ⟨[.int .i64 0, .slice none 0 0, .slice none 0 0]⟩, .slice none 0 0], []⟩).memory Tryd.f11.params.toList Rows.snaptwoMigratesSpec.vars false (#[.agg ⟨[.int .i64 0, .slice none 0 0, .slice none 0 0]⟩, .slice none 0 0] : Array Value).toList 8 = some ([.agg [.lit (.int .i64 0), .nil, .nil], .nil], [], places) := ⟨[], by kernel_rfl⟩
set_option maxRecDepth 100000 in
theorem lifted (os : Os) (started : os.Started) (H : Type) (enc : TypeId × Value → H) (F : Stop.Interp) :
    ReturnsInHanded {} Tryd.checked os 11 .any ((OpenSpec.ofChange Rows.snaptwoMigratesSpec).preRow enc Tryd.prog Tryd.f11 Rows.snaptwoMigratesRow.domain false Rows.snaptwoMigratesRow.laid) (((OpenSpec.ofChange Rows.snaptwoMigratesSpec).at F).post enc Tryd.prog Tryd.f11 false true false false) := by
  obtain ⟨places, hx⟩ := reads os enc
  exact lifted_laid (C := Tryd.checked) (tb := 4) own started (by kernel_rfl) Tryd.func11
    (witness_row_at (enc := enc) (C := Tryd.checked) false (laidWorld os) #[.agg ⟨[.int .i64 0, .slice none 0 0, .slice none 0 0]⟩, .slice none 0 0] rfl (by kernel_rfl) (by kernel_rfl) (by kernel_rfl) (OpenSpec.preRow_of_cond 8 hx (by kernel_rfl) (fun k hk => by cases hk) (by kernel_rfl) (laid_met os)))
    laidOut (by kernel_rfl) (by kernel_rfl) Tryd.underlying4 rfl (fun ds hd => by
      match ds, hd with
      | [e0, e1], _ => rfl) law

theorem said : Rows.SnaptwoMigratesSaid :=
  OpenClaim.holds_of_cond 11 Tryd.f11 rfl rfl rfl rfl rfl rfl rfl ⟨rfl, rfl, rfl, rfl, rfl⟩ rfl rfl rfl rfl rfl (by kernel_rfl) Tryd.func11 (by kernel_rfl)
    (of_decide_eq_true (by kernel_rfl)) (by unfold Func.isWrapper; first | (rw [if_pos (by decide +kernel)]; kernel_rfl) | (rw [if_neg (by decide +kernel)]; exact ⟨rfl, rfl⟩))
    (fun os started H enc _ F => by rw [OpenClaim.pre_eq_preRow]; exact lifted os started H enc F)
theorem plain (f : FuncId) (fn : Func) (hf : Tryd.pinned.checked.prog.funcNamed "changeover/changeoverlaw27.SnaptwoMigrates" = some f) (hfn : Tryd.pinned.checked.prog.funcs[f]? = some fn) :
    true = Tryd.pinned.checked.prog.looks [] ∧ ∀ (j : Nat) t, fn.params[j]? = some t → Tryd.pinned.checked.prog.wantsStandIn t = false := by
  obtain rfl : f = 11 := Option.some.inj ((show Tryd.prog.funcNamed "changeover/changeoverlaw27.SnaptwoMigrates" = some 11 by kernel_rfl).symm.trans hf) |>.symm
  obtain rfl : fn = Tryd.f11 := (Option.some.inj (Tryd.func11.symm.trans hfn)).symm
  refine ⟨by kernel_rfl, fun j t ht => ?_⟩
  rw [Tryd.params11] at ht
  have hm : t = 48 ∨ t = 39 := by simpa using Array.mem_of_getElem? ht
  rcases hm with rfl | rfl
  · exact (show Tryd.prog.wantsStandIn 48 = false by kernel_rfl)
  · exact (show Tryd.prog.wantsStandIn 39 = false by kernel_rfl)
theorem card : Rows.SnaptwoMigratesCardSaid :=
  Claim7.holds_tied_plain_at .later [] _ _ _ _ said (fun _ h => by cases h) (by kernel_rfl) (fun _ h => by cases h) snaptwoMigrates_row_tie rfl ⟨rfl, rfl⟩ (by kernel_rfl) rfl plain (by kernel_rfl)
end Go.Proofs.YtahfcnaalleldaaDoor.snaptwoMigrates
