/-
  The law of chapter 31: AcceptorAnswers.
-/
import Derived.Test.YtjkknkklhnfloaaDoorSpAcc4
set_option maxRecDepth 20000
set_option linter.unusedVariables false
namespace Go.Chg
open Go.Vc
open Go.RowKit (Below)
variable {w : World} {s : Sl} {acc chs xs : List ApiEntry} {img mg : List UInt8} {h_ : ApiHard} {m : ApiMsg} {commit kind : Int} {il ml : Nat}
theorem ref19_Heavy_spec {K : Bool → World → Prop} (hh : HardAt w h_ img acc chs) (hK : ∀ t w', (t = false → acc.length ≤ 40 ∧ chs.length ≤ 40 ∧ img.length ≤ 300) → Ext w w' → K t w') : ref19_Heavy h_ K w := by
  unfold ref19_Heavy
  have hil := hh.im.len
  refine new_x (Ext.rfl' w) fun b1 w2 _ _ hx _ => ?_
  refine ifD (fun _ => hK _ _ (fun e => by cases e) hx) (fun h0 => ?_)
  refine ref12_Large_calls (ref12_Large_spec (hh.ac.ext hx) fun t h3 => kp_same ?_)
  refine ifB_of (fun _ => hK _ _ (fun e => by cases e) hx) (fun h' => ?_)
  refine ref12_Large_calls (ref12_Large_spec (hh.ch.ext hx) fun t h5 => kp_same (hK _ _ (fun e => ⟨(h3 h').1, (h5 e).1, by omega⟩) hx))
theorem Ans.image {r : ApiRecord} {a : ApiMsg} {e : List ApiEntry} (h : Ans h_ commit m acc xs r a e) : r.Image = Sl.nil := by
  rcases h with ⟨_, h2, _⟩ | ⟨_, _, ⟨_, h2⟩ | ⟨_, h2⟩, _⟩ | ⟨_, _, x, _, ⟨_, h2⟩ | ⟨_, h2⟩, _⟩ <;> rw [h2] <;> rfl

/-! ### Awake -/
def exHard : ApiHard := ⟨⟨3, 1⟩, 0, Sl.nil, Sl.nil, Sl.nil⟩
def exAsk : ApiMsg := ⟨3, 2, 1, ⟨2, 2⟩, 1, 0, 0, Sl.nil, Sl.nil⟩
theorem exAsk_ok : MsgOk exAsk [] 0 := by
  refine ⟨⟨by decide, by decide⟩, ⟨⟨⟨by decide, by decide⟩, ⟨by decide, by decide⟩, by decide⟩, fun _ => ⟨.inr ⟨by decide, by decide, ⟨by decide, by decide⟩⟩, fun e => absurd (congrArg ApiBallot.Round e) (by decide)⟩, fun _ => ⟨by decide, by decide⟩, fun h => (by cases h), fun h => (by cases h)⟩, fun h => ?_, fun h => (by cases h), fun h => (by cases h), fun h => (by cases h), fun _ => rfl, fun _ => rfl, fun _ => rfl, ⟨fun h => (by cases h), fun h => absurd h (Nat.lt_irrefl _)⟩, fun h => (by cases h)⟩
  rcases h with ⟨h, _⟩ | ⟨h, _⟩ <;> cases h
theorem exHard_ok : HardOk exHard 0 [] [] :=
  ⟨.inr ⟨by decide, by decide, ⟨by decide, by decide⟩⟩, ⟨by decide, by decide⟩, ⟨by decide, ⟨fun h => absurd h (by decide), fun h => absurd h (by decide)⟩⟩, rfl, rfl, fun x hx => (by cases hx), fun x hx => (by cases hx)⟩
theorem law31_awake_spec {K : Bool → World → Prop} (ht : Utf8T w) (hK : ∀ w', Ext w w' → K true w') : law31_awake K w := by
  unfold law31_awake
  have h0 : chkA exHard 0 [] [] 0 exAsk [] 0 3 = 0 := chk_0 (msgE_ok.2 exAsk_ok) rfl exHard_ok (by decide)
  refine new_x (Ext.rfl' w) fun b1 w2 hb1 _ hx _ => wr_x hx hb1 fun w3 hx _ => ?_
  refine acceptor_Prepare_calls (h_ := exHard) (m := exAsk) (acceptor_Prepare_spec (img := []) (acc := []) (chs := []) (xs := []) (mg := []) (ht.ext hx) ⟨.nilSl _ _, .nilSl _ _, .nilSl _ _⟩ ⟨.nilSl _ _, .nilSl _ _⟩ (by decide) (fun w5 h _ => absurd h0 h) fun o r a e w5 _ ha hat hx' => kp_ext hx' ?_)
  have hx := hx.trans' hx'
  refine new_x hx fun b6 w7 hb6 _ hx _ => wr_x hx hb6 fun w8 hx _ => ?_
  have hless : BLess exAsk.Ballot exHard.Promised := .inl (by decide)
  rcases ha with ⟨_, h2, h3, _⟩ | ⟨h1, _⟩ | ⟨h1, _⟩
  · have hl := hat.o.len
    rw [h2] at hl
    refine ifEq (fun _ => ?_) (fun h => absurd rfl h)
    refine ifEq (fun _ => ?_) (fun h => absurd (by rw [hl]; rfl) h)
    refine ifEq (fun _ => ?_) (fun h => absurd h3.1 h)
    refine eqSt (by kernel_rfl) (ApiBallot.eqv a.Ballot ⟨3, 1⟩) ?_
    rw [ApiBallot.eqs_iff.2 (show a.Ballot = ⟨3, 1⟩ from h3.2.2.2.1)]
    exact hK _ hx
  · exact absurd hless h1
  · exact absurd hless h1

/-! ### The law -/
def AskR (c : Int) (h_ : ApiHard) (commit : Int) (m : ApiMsg) (acc xs : List ApiEntry) (B : Nat) (u : World) (o : Sl) (a : ApiMsg) (e' : Int) : Prop :=
  (c ≠ 0 ∧ o = Sl.nil ∧ a = noMsg ∧ e' = c) ∨ (c = 0 ∧ e' = 0 ∧ ∃ r e, Ans h_ commit m acc xs r a e ∧ AnsAt B u o r a e)
theorem AskR.ext {c e' : Int} {B : Nat} {u u' : World} {o : Sl} {a : ApiMsg} (h : AskR c h_ commit m acc xs B u o a e') (hx : Ext u u') : AskR c h_ commit m acc xs B u' o a e' := by
  rcases h with h | ⟨h1, h2, r, e, h3, h4⟩
  · exact .inl h
  · exact .inr ⟨h1, h2, r, e, h3, h4.ext hx⟩
end Go.Chg
