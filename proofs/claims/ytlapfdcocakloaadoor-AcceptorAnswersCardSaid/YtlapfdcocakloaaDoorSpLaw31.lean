/-
  The law of chapter 31: AcceptorAnswers.
-/
import Derived.Test.YtlapfdcocakloaaDoorSpAcc4
set_option maxRecDepth 20000
set_option linter.unusedVariables false
namespace Go.Chg
open Go.Vc
open Go.RowKit (Below)
variable {w : World} {s : Sl} {acc chs xs : List ApiEntry} {img mg : List UInt8} {h_ : ApiHard} {m : ApiMsg} {commit kind : Int} {il ml : Nat}
theorem ref19_Heavy_spec {K : Bool → World → Prop} (hh : HardAt w h_ img acc chs) (hK : ∀ t w', (t = false → acc.length ≤ 40 ∧ chs.length ≤ 40 ∧ img.length ≤ 300) → Ext w w' → K t w') : ref19_Heavy h_ K w := by
  unfold ref19_Heavy
  have hil := hh.im.len
  refine new_x (Ext.rfl' w) fun b1 w2 _ _ hx _ => ?_
  refine ifD (fun _ => hK _ _ (fun e => by cases e) hx) (fun h0 => ?_)
  refine ref12_Large_calls (ref12_Large_spec (hh.ac.ext hx) fun t h3 => kp_same ?_)
  refine ifB_of (fun _ => hK _ _ (fun e => by cases e) hx) (fun h' => ?_)
  refine ref12_Large_calls (ref12_Large_spec (hh.ch.ext hx) fun t h5 => kp_same (hK _ _ (fun e => ⟨(h3 h').1, (h5 e).1, by omega⟩) hx))
theorem ref16_Same_refl {r : ApiRecord} {K : Bool → World → Prop} (him : IsSl eB w r.Image []) (hK : ∀ w', Ext w w' → K true w') : ref16_Same r r K w := by
  unfold ref16_Same
  refine new_x (Ext.rfl' w) fun b1 w2 _ _ hx _ => new_x hx fun b3 w4 _ _ hx _ => ?_
  refine ifEq (fun _ => ?_) (fun h => absurd rfl h)
  refine eqSt (by kernel_rfl) (ApiBallot.eqv r.Ballot r.Ballot) (ifB_of (fun _ => ?_) (fun h => by rw [ApiBallot.eqs_iff.2 rfl] at h; cases h))
  refine ifEq (fun _ => ?_) (fun h => absurd rfl h)
  refine eqSt (by kernel_rfl) (ApiCmd.eqv r.Cmd r.Cmd) (ifB_of (fun _ => ?_) (fun h => by rw [ApiCmd.eqs_iff.2 rfl] at h; cases h))
  exact ref01_Same_calls (ref01_Same_spec (him.ext hx) (him.ext hx) fun w8 hx' => kp_ext hx' (kp_ext hx' (hK _ (hx.trans' hx'))))
theorem Ans.image {r : ApiRecord} {a : ApiMsg} {e : List ApiEntry} (h : Ans h_ commit m acc xs r a e) : r.Image = Sl.nil := by
  rcases h with ⟨_, h2, _⟩ | ⟨_, _, ⟨_, h2⟩ | ⟨_, h2⟩, _⟩ | ⟨_, _, x, _, ⟨_, h2⟩ | ⟨_, h2⟩, _⟩ <;> rw [h2] <;> rfl

/-! ### Awake -/
def exHard : ApiHard := ⟨⟨3, 1⟩, 0, Sl.nil, Sl.nil, Sl.nil⟩
def exAsk : ApiMsg := ⟨3, 2, 1, ⟨2, 2⟩, 1, 0, 0, Sl.nil, Sl.nil⟩
theorem exAsk_ok : MsgOk exAsk [] 0 := by
  refine ⟨⟨by decide, by decide⟩, ⟨⟨⟨by decide, by decide⟩, ⟨by decide, by decide⟩, by decide⟩, fun _ => ⟨.inr ⟨by decide, by decide, ⟨by decide, by decide⟩⟩, fun e => absurd (congrArg ApiBallot.Round e) (by decide)⟩, fun _ => ⟨by decide, by decide⟩, fun h => (by cases h), fun h => (by cases h)⟩, fun h => ?_, fun h => (by cases h), fun h => (by cases h), fun h => (by cases h), fun _ => rfl, fun _ => rfl, fun _ => rfl, ⟨fun h => (by cases h), fun h => absurd h (Nat.lt_irrefl _)⟩, fun h => (by cases h)⟩
  rcases h with ⟨h, _⟩ | ⟨h, _⟩ <;> cases h
theorem exHard_ok : HardOk exHard 0 [] [] :=
  ⟨.inr ⟨by decide, by decide, ⟨by decide, by decide⟩⟩, ⟨by decide, by decide⟩, ⟨by decide, ⟨fun h => absurd h (by decide), fun h => absurd h (by decide)⟩⟩, rfl, rfl, fun x hx => (by cases hx), fun x hx => (by cases hx)⟩
theorem law31_awake_spec {K : Bool → World → Prop} (ht : Utf8T w) (hK : ∀ w', Ext w w' → K true w') : law31_awake K w := by
  unfold law31_awake
  have h0 : chkA exHard 0 [] [] 0 exAsk [] 0 3 = 0 := chk_0 (msgE_ok.2 exAsk_ok) rfl exHard_ok (by decide)
  refine new_x (Ext.rfl' w) fun b1 w2 hb1 _ hx _ => wr_x hx hb1 fun w3 hx _ => ?_
  refine acceptor_Prepare_calls (h_ := exHard) (m := exAsk) (acceptor_Prepare_spec (img := []) (acc := []) (chs := []) (xs := []) (mg := []) (ht.ext hx) ⟨.nilSl _ _, .nilSl _ _, .nilSl _ _⟩ ⟨.nilSl _ _, .nilSl _ _⟩ (by decide) (fun w5 h _ => absurd h0 h) fun o r a e w5 _ ha hat hx' => kp_ext hx' ?_)
  have hx := hx.trans' hx'
  refine new_x hx fun b6 w7 hb6 _ hx _ => wr_x hx hb6 fun w8 hx _ => ?_
  have hless : BLess exAsk.Ballot exHard.Promised := .inl (by decide)
  rcases ha with ⟨_, h2, h3, _⟩ | ⟨h1, _⟩ | ⟨h1, _⟩
  · have hl := hat.o.len
    rw [h2] at hl
    refine ifEq (fun _ => ?_) (fun h => absurd rfl h)
    refine ifEq (fun _ => ?_) (fun h => absurd (by rw [hl]; rfl) h)
    refine ifEq (fun _ => ?_) (fun h => absurd h3.1 h)
    refine eqSt (by kernel_rfl) (ApiBallot.eqv a.Ballot ⟨3, 1⟩) ?_
    rw [ApiBallot.eqs_iff.2 (show a.Ballot = ⟨3, 1⟩ from h3.2.2.2.1)]
    exact hK _ hx
  · exact absurd hless h1
  · exact absurd hless h1

/-! ### The law -/
def AskR (c : Int) (h_ : ApiHard) (commit : Int) (m : ApiMsg) (acc xs : List ApiEntry) (B : Nat) (u : World) (o : Sl) (a : ApiMsg) (e' : Int) : Prop :=
  (c ≠ 0 ∧ o = Sl.nil ∧ a = noMsg ∧ e' = c) ∨ (c = 0 ∧ e' = 0 ∧ ∃ r e, Ans h_ commit m acc xs r a e ∧ AnsAt B u o r a e)
theorem AskR.ext {c e' : Int} {B : Nat} {u u' : World} {o : Sl} {a : ApiMsg} (h : AskR c h_ commit m acc xs B u o a e') (hx : Ext u u') : AskR c h_ commit m acc xs B u' o a e' := by
  rcases h with h | ⟨h1, h2, r, e, h3, h4⟩
  · exact .inl h
  · exact .inr ⟨h1, h2, r, e, h3, h4.ext hx⟩
theorem law31_AcceptorAnswers_spec {K : Bool → World → Prop} (ht : Utf8T w) (hh : HardAt w h_ img acc chs) (hm : MsgAt w m xs mg) (hK : ∀ w', Ext w w' → K true w') : law31_AcceptorAnswers h_ commit m K w := by
  unfold law31_AcceptorAnswers
  refine new_x (Ext.rfl' w) fun b1 w2 hb1 hl1 hx n1 => new_x hx fun b3 w4 hb3 hl3 hx n3 => ?_
  refine ref19_Heavy_calls (h_ := h_) (ref19_Heavy_spec (hh.ext hx) fun t w6 h5 hx' => kp_ext hx' (kp_ext hx' ?_))
  have hx := hx.trans' hx'
  refine ifB_of (fun _ => law31_awake_calls (law31_awake_spec (ht.ext hx) fun v hx' => kp_ext hx' (kp_ext hx' (hK _ (hx.trans' hx'))))) (fun h => ?_)
  have hal := (h5 h).1
  refine ref13_Large_calls (m := m) (ref13_Large_spec (hm.ext hx) fun t w10 _ hx' => kp_ext hx' (kp_ext hx' ?_))
  have hx := hx.trans' hx'
  refine ifB_of (fun _ => law31_awake_calls (law31_awake_spec (ht.ext hx) fun v hx' => kp_ext hx' (kp_ext hx' (hK _ (hx.trans' hx'))))) (fun h => ?_)
  have ask : ∀ {X : Sl × ApiMsg × Int → World → Prop}, (∀ o a e' w14, AskR (chkA h_ img.length acc chs commit m xs mg.length (kindA m)) h_ commit m acc xs w10.heap.size w14 o a e' → Ext w10 w14 → X (o, a, e') w14) → law31_ask h_ commit m X w10 := fun hX =>
    law31_ask_spec (ht.ext hx) (hh.ext hx) (hm.ext hx) (by omega) (fun w' h0 hx' => hX _ _ _ _ (.inl ⟨h0, rfl, rfl, rfl⟩) hx') (fun o r a e w' h0 ha hat hx' => hX _ _ _ _ (.inr ⟨h0, rfl, r, e, ha, hat⟩) hx')
  refine law31_ask_calls (h_ := h_) (m := m) (ask fun o a e' w14 hr hx14 => kp_ext hx14 (kp_ext hx14 ?_))
  have hx := hx.trans' hx14
  refine new_x (Ext.rfl' w14) fun b15 w16 hb15 _ hx' _ => wr_x hx' hb15 fun w17 hx' _ => ?_
  refine ⟨fun k u => k = kindA m ∧ Ext w14 u, ifEq (fun h => ⟨(if_pos h).symm, hx'⟩) (fun h => ⟨(if_neg h).symm, hx'⟩), ?_⟩
  rintro _ w20 ⟨rfl, hx'⟩
  refine ref31_Check_calls (h_ := h_) (m := m) (ref31_Check_spec (hh.ext (hx.trans' hx')) (hm.ext (hx.trans' hx')) fun w22 hx22 => kp_ext hx22 (kp_ext hx22 (kp_ext hx22 ?_)))
  have hx' := hx'.trans' hx22
  have hr := hr.ext hx'
  have hx := hx.trans' hx'
  rcases hr with ⟨h0, rfl, rfl, rfl⟩ | ⟨h0, rfl, r, e, ha, hat⟩
  · refine ifNe (fun _ => ?_) (fun h => absurd h h0)
    refine ifEq (fun _ => ifEq (fun _ => ?_) (fun h => absurd rfl h)) (fun h => absurd rfl h)
    refine ref13_Same_calls (a := noMsg) (b := noMsg) (ref13_Same_spec (msgAt_nil rfl rfl) (msgAt_nil rfl rfl) fun t w24 hs hx' => kp_ext hx' (kp_ext hx' (kp_ext hx' ?_)))
    have hx := hx.trans' hx'
    refine ifB_of (fun _ => ?_) (fun h => by rw [hs.2 ⟨MsgFld.rfl' _, rfl, rfl⟩] at h; cases h)
    exact law31_awake_calls (law31_awake_spec (ht.ext hx) fun v hx' => kp_ext hx' (kp_ext hx' (kp_ext hx' (hK _ (hx.trans' hx')))))
  · refine ifNe (fun h => absurd h0 h) (fun _ => ?_)
    have hx5 : m.Kind ≠ 3 → ∃ x, xs = [x] := fun h3 => by
      obtain ⟨hok, hk, _⟩ := chk_ok h0
      have h5 : m.Kind = 5 := by
        unfold kindA at hk
        split at hk
        · exact hk
        · exact absurd hk h3
      obtain ⟨x, hx, _⟩ := hok.form.2.2.2.2.2.2 h5
      exact ⟨x, hx⟩
    refine ref31_Answer_calls (h_ := h_) (m := m) (ref31_Answer_spec (hh.ext hx) (hm.ext hx) hx5 (by omega) fun r' a' ee w28 ha' hat' hx' => kp_ext hx' (kp_ext hx' (kp_ext hx' ?_)))
    obtain ⟨rfl, hf, rfl⟩ := ans_uniq ha ha'
    have hat := hat.ext hx'
    have hx := hx.trans' hx'
    refine new_x (Ext.rfl' w28) fun b29 w30 hb29 _ hx' _ => new_x hx' fun b31 w32 hb31 _ hx' _ => wr_x hx' hb29 fun w33 hx' _ => wr_x hx' hb31 fun w34 hx' _ => ?_
    have hat := hat.ext hx'
    have hx := hx.trans' hx'
    refine ifNe (fun h => absurd rfl h) (fun _ => ?_)
    refine ref13_Same_calls (a := a) (b := a') (ref13_Same_spec hat.msg (hat'.ext hx') fun t w36 hs hx' => kp_ext hx' (kp_ext hx' (kp_ext hx' (kp_ext hx' (kp_ext hx' ?_)))))
    have hat := hat.ext hx'
    have hx := hx.trans' hx'
    have hl := hat.o.len
    refine ifNot (ifB_of (fun _ => ?_) (fun h => by rw [hs.2 ⟨hf, rfl, rfl⟩] at h; cases h))
    refine ifEq (fun hz => ?_) (fun hz => ?_)
    · have e0 : recsOf r = [] := if_pos hz
      rw [e0] at hl
      refine ifEq (fun _ => ?_) (fun h => absurd (by rw [hl]; rfl) h)
      exact law31_awake_calls (law31_awake_spec (ht.ext hx) fun v hx' => kp_ext hx' (kp_ext hx' (kp_ext hx' (kp_ext hx' (kp_ext hx' (hK _ (hx.trans' hx')))))))
    · have e1 : recsOf r = [r] := if_neg hz
      have ho := hat.o
      rw [e1] at hl ho
      refine heldM_of (fun w' => Ext w36 w') fun w39 hx39 => ⟨hx39, ?_⟩
      refine ifEq (fun _ => ?_) (fun h => absurd (by rw [hl]; rfl) h)
      refine stH (E := eApiRecord) (val := ApiRecord.val) (k := 0) (by kernel_rfl) (by kernel_rfl) (fun w' h => ho.is.ext h) rfl (by simp) (fun _ => rfl) fun _ => ?_
      have hx := hx.trans' hx39
      refine ref16_Same_calls (a := r) (b := r) (ref16_Same_refl (by rw [ha.image]; exact .nilSl _ _) fun w44 hx' => kp_ext hx' (kp_ext hx' (kp_ext hx' (kp_ext hx' (kp_ext hx' ⟨hx39.trans' hx', ?_⟩)))))
      have hx := hx.trans' hx'
      refine ifB_of (fun _ => ?_) (fun h => by cases h)
      exact law31_awake_calls (law31_awake_spec (ht.ext hx) fun v hx'' => kp_ext hx'' (kp_ext hx'' (kp_ext hx'' (kp_ext hx'' (kp_ext hx'' ⟨(hx39.trans' hx').trans' hx'', hK _ (hx.trans' hx'')⟩)))))
end Go.Chg
