/-
  Chapter 9: the bytes of any answer.
-/
import Derived.Test.YtlapfdcocakloaaDoorSpAnsC
set_option maxRecDepth 20000
set_option linter.unusedVariables false
namespace Go.Chg
open Go.Vc
variable {w : World} {l : List UInt8} {v p no : Int} {a : ApiAnswer}
/-- The bytes of any answer in any version, which lead back to it, or why there are none. -/
theorem law09_AnswerEncodes_spec {K : Bool → World → Prop} (ht : Utf8T w) (hc : ConvT w) (hK : ∀ w', Ext w w' → K true w') : law09_AnswerEncodes v a K w := by
  unfold law09_AnswerEncodes
  refine new_x (Ext.rfl' w) fun b1 w2 hb1 hl1 hx _ => ?_
  have awake : ∀ {u : World}, Ext w u → callV Pr Value.bool fid_law09_awake #[] u fun t v => kp b1 u v (K t v) := fun hx => law09_awake_calls (law09_awake_spec (ht.ext hx) (hc.ext hx) fun v hx' => kp_ext hx' (hK _ (hx.trans' hx')))
  refine ifD (fun _ => awake hx) (fun h300 => ?_)
  refine ref09_Check_calls (a := a) (ref09_Check_eq fun w6 hx' => kp_ext hx' ?_)
  have z26 := hx'.size
  have hx := hx.trans' hx'
  refine answer_Check_calls (a := a) (answer_Check_eq (ht.ext hx) fun w8 hx' => kp_ext hx' ?_)
  have z68 := hx'.size
  have hx := hx.trans' hx'
  refine ifNe (fun h => absurd rfl h) (fun _ => ?_)
  refine ⟨fun n w' => w8 = w' ∧ n = wantA v a, ?_, ?_⟩
  · refine ifD (fun h => ⟨rfl, by unfold wantA; rw [if_pos (.inl h)]⟩) (fun h1 => ifD (fun h => ⟨rfl, by unfold wantA; rw [if_pos (.inr h)]⟩) (fun h2 => ?_))
    refine ifEq (fun h3 => ?_) (fun h3 => ⟨rfl, by unfold wantA; rw [if_neg (by omega), if_pos h3]⟩)
    refine ifEq (fun h4 => ?_) (fun h4 => ⟨rfl, by unfold wantA; rw [if_neg (by omega), if_neg (by omega), if_neg (fun h => h4 h.1)]; exact h3⟩)
    exact ifNe (fun h5 => ⟨rfl, by unfold wantA; rw [if_neg (by omega), if_neg (by omega), if_pos ⟨h4, h5⟩]⟩) (fun h5 => ⟨rfl, by unfold wantA; rw [if_neg (by omega), if_neg (by omega), if_neg (fun h => h.2 h5)]; exact h3⟩)
  rintro n _ ⟨rfl, rfl⟩
  refine answer_Encode_calls (a := a) (answer_Encode_spec (ht.ext hx) fun r w13 hr hx13 => kp_ext hx13 ?_)
  have z8 := hx.size
  have hx := hx.trans' hx13
  have z813 := hx13.size
  refine ifNe (fun h0 => ?_) (fun h0 => ?_)
  · rcases hr with ⟨_, hr⟩ | ⟨h, _⟩
    · have e1 : (r.1.len : Int) = 0 := by rw [hr]; rfl
      have e2 : r.2 = wantA v a := by rw [hr]
      exact ifEq (fun _ => ifEq (fun _ => awake hx) (fun h => absurd e2 h)) (fun h => absurd e1 h)
    · exact absurd h h0
  rcases hr with ⟨h, _⟩ | ⟨_, r0, ho⟩
  · exact absurd h0 h
  obtain ⟨hv, hE, hrev⟩ := wantA_0 h0
  obtain ⟨hnum, h48⟩ := ans_num hE
  have hlen := ansB_len (v := v) hnum (by omega)
  refine box_ty fun c w17 ha hx' hob => kp_ext hx' ?_
  have z13 := hx.size
  have z17 := hx'.size
  have hx := hx.trans' hx'
  have hlt := ho.lt
  have ho := ho.ext hx'
  have hcn : w.heap.size ≤ c.block := by omega
  have hne : some b1 ≠ some c.block := fun e => by have := Option.some.inj e; omega
  refine answer_Put_calls (a := a) (answer_Put_spec (l := []) ⟨Sl.nil, .nilSl _ _, hob, fun e => by cases e⟩ hnum (by simp only [List.length_nil]; omega) fun w19 hw hg => kp_grown hg hne ?_)
  rw [List.nil_append] at hw
  have ho := ho.grownB hg (fun k hk e => by have := hlt k hk; have := Option.some.inj e; omega)
  have hx := Ext.grown' hx hg hcn
  refine held_x fun w20 hx20 => ?_
  have hx := hx.trans' hx20
  have ho := ho.ext hx20
  have hw := hw.ext hx20
  have b20 : b1 < w20.heap.size := by have := hg.size; have := hx20.size; omega
  refine pack_NewReader_calls (pack_NewReader_spec ho.is (by omega) fun d w23 hd hr hx23 => kp_ext hx23 ⟨trivial, ?_⟩)
  refine answer_Get_calls (answer_Get_spec hr (by omega) fun w25 _ hg25 => kp_grown hg25 (fun e => by have := Option.some.inj e; omega) ⟨trivial, ?_⟩)
  have hy := Ext.grown' hx23 hg25 hd
  have ht1 := rdAns_took (Took.all (ansB v a)) (ans_fit hE) hrev
  rw [ht1]
  dsimp only
  refine neSt_S (by kernel_rfl) (ApiAnswer.eqv a a) (ifB_f (by rw [ApiAnswer.eqs_iff.2 rfl]; rfl) ?_)
  refine pack_Writer_Bytes_calls (pack_Writer_Bytes_spec (hw.ext hy) (by omega) fun s27 w28 h27 hx' => kp_ext hx' ⟨trivial, ?_⟩)
  have hy := hy.trans' hx'
  refine ref01_Same_calls (ref01_Same_spec h27.is (ho.ext hy).is fun w30 hx' => kp_ext hx' ⟨trivial, ifNot (ifB_t (by simp) ?_)⟩)
  have hy := hy.trans' hx'
  refine answer_Decode_calls (answer_Decode_spec (ht.ext (hx.trans' hy)) (ho.ext hy).is (by omega) fun w32 hx' => kp_ext hx' ?_)
  have hy := hy.trans' hx'
  rw [decA_took hv hE hrev]
  refine new_x hy fun b33 w34 hb33 hl33 hy hn34 => wr_x hy hb33 fun w35 hy _ => ?_
  refine ifEq (fun _ => ?_) (fun h => absurd r0 h)
  refine ref09_Bytes_calls (a := a) (ref09_Bytes_spec hv hnum (by omega) fun s36 w37 h36 hx' => kp_ext hx' (kp_ext hx' ?_))
  have hy := hy.trans' hx'
  refine ref01_Same_calls (ref01_Same_spec (ho.ext hy).is h36.is fun w39 hx' => kp_ext hx' (kp_ext hx' (ifB_t (by simp) ?_)))
  have hy := hy.trans' hx'
  refine eqSt (by kernel_rfl) (ApiAnswer.eqv a a) (ifB_t (ApiAnswer.eqs_iff.2 rfl) (ifEq (fun _ => ?_) (fun h => absurd rfl h)))
  exact law09_awake_calls (law09_awake_spec (ht.ext (hx.trans' hy)) (hc.ext (hx.trans' hy)) fun v hx' => kp_ext hx' (kp_ext hx' (hK _ ((hx.trans' hy).trans' hx'))))
end Go.Chg
