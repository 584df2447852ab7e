/-
  What an acceptor answers: package 'acceptor', and the document's chapter 31: AcceptorAnswers.
-/
import Derived.Test.YtjkknkklhnfloaaDoorSpAcc2
import Derived.Test.YtjkknkklhnfloaaDoorSpRef08B
set_option maxRecDepth 20000
set_option linter.unusedVariables false
namespace Go.Chg
open Go.Vc
open Go.RowKit (Below)
variable {w : World} {s : Sl} {acc chs xs : List ApiEntry} {img mg : List UInt8} {h_ : ApiHard} {m : ApiMsg} {commit kind : Int} {il ml : Nat}
/-! ### What is wrong -/
noncomputable def chkA (h_ : ApiHard) (il : Nat) (acc chs : List ApiEntry) (commit : Int) (m : ApiMsg) (xs : List ApiEntry) (ml : Nat) (kind : Int) : Int := open Classical in
  if msgE m xs ml ≠ 0 then msgE m xs ml else if m.Kind ≠ kind then 5 else if ¬ HardOk h_ il acc chs then 3 else if commit < h_.Base ∨ 4294967296 < commit then 3 else 0
theorem chk_1 (h1 : msgE m xs ml ≠ 0) : chkA h_ il acc chs commit m xs ml kind = msgE m xs ml := by unfold chkA; rw [if_pos h1]
theorem chk_2 (h1 : msgE m xs ml = 0) (h2 : m.Kind ≠ kind) : chkA h_ il acc chs commit m xs ml kind = 5 := by unfold chkA; rw [if_neg (not_not_intro h1), if_pos h2]
theorem chk_3 (h1 : msgE m xs ml = 0) (h2 : m.Kind = kind) (h3 : ¬ HardOk h_ il acc chs) : chkA h_ il acc chs commit m xs ml kind = 3 := by unfold chkA; rw [if_neg (not_not_intro h1), if_neg (not_not_intro h2), if_pos h3]
theorem chk_4 (h1 : msgE m xs ml = 0) (h2 : m.Kind = kind) (h3 : HardOk h_ il acc chs) (h4 : commit < h_.Base ∨ 4294967296 < commit) : chkA h_ il acc chs commit m xs ml kind = 3 := by
  unfold chkA; rw [if_neg (not_not_intro h1), if_neg (not_not_intro h2), if_neg (not_not_intro h3), if_pos h4]
theorem chk_0 (h1 : msgE m xs ml = 0) (h2 : m.Kind = kind) (h3 : HardOk h_ il acc chs) (h4 : ¬ (commit < h_.Base ∨ 4294967296 < commit)) : chkA h_ il acc chs commit m xs ml kind = 0 := by
  unfold chkA; rw [if_neg (not_not_intro h1), if_neg (not_not_intro h2), if_neg (not_not_intro h3), if_neg h4]
theorem chk_ok (h : chkA h_ il acc chs commit m xs ml kind = 0) : MsgOk m xs ml ∧ m.Kind = kind ∧ HardOk h_ il acc chs := by
  by_cases h1 : msgE m xs ml = 0
  · by_cases h2 : m.Kind = kind
    · by_cases h3 : HardOk h_ il acc chs
      · exact ⟨msgE_ok.1 h1, h2, h3⟩
      · rw [chk_3 h1 h2 h3] at h; cases h
    · rw [chk_2 h1 h2] at h; cases h
  · rw [chk_1 h1] at h; exact absurd h h1
theorem acceptor_check_spec {K : Int → World → Prop} (ht : Utf8T w) (hh : HardAt w h_ img acc chs) (hm : MsgAt w m xs mg) (hK : ∀ w', Ext w w' → K (chkA h_ img.length acc chs commit m xs mg.length kind) w') : acceptor_check h_ commit m kind K w := by
  unfold acceptor_check
  have fin : ∀ {e : Int}, chkA h_ img.length acc chs commit m xs mg.length kind = e → ∀ {u : World}, Ext w u → K e u := fun h u hx => h ▸ hK u hx
  refine new_x (Ext.rfl' w) fun b1 w2 _ _ hx _ => new_x hx fun b3 w4 _ _ hx _ => ?_
  refine msgone_Check_calls (m := m) (msgone_Check_spec (ht.ext hx) (hm.ext hx) fun w6 hx' => kp_ext hx' (kp_ext hx' ?_))
  have hx := hx.trans' hx'
  refine ifNe (fun h1 => fin (chk_1 h1) hx) (fun h1 => ?_)
  refine ifNe (fun h2 => fin (chk_2 h1 h2) hx) (fun h2 => ?_)
  refine hard_Check_calls (h_ := h_) (hard_Check_spec (ht.ext hx) (hh.ext hx) fun e w8 he hx' => kp_ext hx' (kp_ext hx' ?_))
  have hx := hx.trans' hx'
  refine ifNe (fun h3 => fin (chk_3 h1 h2 fun h => h3 (he.2 h)) hx) (fun h3 => ?_)
  refine ifD (fun h4 => fin (chk_4 h1 h2 (he.1 h3) (.inl h4)) hx) (fun h4 => ?_)
  exact ifD (fun h5 => fin (chk_4 h1 h2 (he.1 h3) (.inr h5)) hx) (fun h5 => fin (chk_0 h1 h2 (he.1 h3) (by omega)) hx)
/-! ### The answer -/
def MsgFld (a b : ApiMsg) : Prop := a.Kind = b.Kind ∧ a.From = b.From ∧ a.To = b.To ∧ a.Ballot = b.Ballot ∧ a.Index = b.Index ∧ a.Commit = b.Commit ∧ a.Version = b.Version
theorem MsgFld.rfl' (a : ApiMsg) : MsgFld a a := ⟨rfl, rfl, rfl, rfl, rfl, rfl, rfl⟩
theorem MsgFld.join {a b c : ApiMsg} (h : MsgFld a c) (k : MsgFld b c) : MsgFld a b :=
  ⟨h.1.trans k.1.symm, h.2.1.trans k.2.1.symm, h.2.2.1.trans k.2.2.1.symm, h.2.2.2.1.trans k.2.2.2.1.symm, h.2.2.2.2.1.trans k.2.2.2.2.1.symm, h.2.2.2.2.2.1.trans k.2.2.2.2.2.1.symm, h.2.2.2.2.2.2.trans k.2.2.2.2.2.2.symm⟩
def noRec : ApiRecord := ⟨0, zBallot, 0, noCmd, Sl.nil⟩
def noMsg : ApiMsg := ⟨0, 0, 0, zBallot, 0, 0, 0, Sl.nil, Sl.nil⟩
def msgRef (h_ : ApiHard) (m : ApiMsg) : ApiMsg := ⟨7, m.To, m.From, h_.Promised, 0, 0, 0, Sl.nil, Sl.nil⟩
def msgPro (m : ApiMsg) (commit : Int) (es : Sl) : ApiMsg := ⟨4, m.To, m.From, m.Ballot, m.Index, commit, 0, es, Sl.nil⟩
def msgAcc (m : ApiMsg) (x : ApiEntry) : ApiMsg := ⟨6, m.To, m.From, m.Ballot, x.Index, 0, 0, Sl.nil, Sl.nil⟩
def recPro (m : ApiMsg) : ApiRecord := ⟨1, m.Ballot, 0, noCmd, Sl.nil⟩
def recAcc (x : ApiEntry) : ApiRecord := ⟨2, x.Ballot, x.Index, x.Cmd, Sl.nil⟩
def Ans (h_ : ApiHard) (commit : Int) (m : ApiMsg) (acc xs : List ApiEntry) (r : ApiRecord) (a : ApiMsg) (e : List ApiEntry) : Prop :=
  (BLess m.Ballot h_.Promised ∧ r = noRec ∧ MsgFld a (msgRef h_ m) ∧ e = []) ∨
  (¬ BLess m.Ballot h_.Promised ∧ m.Kind = 3 ∧ (h_.Promised = m.Ballot ∧ r = noRec ∨ h_.Promised ≠ m.Ballot ∧ r = recPro m) ∧ MsgFld a (msgPro m commit Sl.nil) ∧ e = aheadOf acc m.Index commit) ∨
  (¬ BLess m.Ballot h_.Promised ∧ m.Kind ≠ 3 ∧ ∃ x, xs = [x] ∧ (findOf acc x.Index = (x, true) ∧ r = noRec ∨ findOf acc x.Index ≠ (x, true) ∧ r = recAcc x) ∧ MsgFld a (msgAcc m x) ∧ e = [])
theorem ans_uniq {r r' : ApiRecord} {a a' : ApiMsg} {e e' : List ApiEntry} (h : Ans h_ commit m acc xs r a e) (k : Ans h_ commit m acc xs r' a' e') : r = r' ∧ MsgFld a a' ∧ e = e' := by
  rcases h with ⟨h1, h2, h3, h4⟩ | ⟨h1, h1', h2, h3, h4⟩ | ⟨h1, h1', x, hx, h2, h3, h4⟩ <;> rcases k with ⟨k1, k2, k3, k4⟩ | ⟨k1, k1', k2, k3, k4⟩ | ⟨k1, k1', y, hy, k2, k3, k4⟩
  · exact ⟨h2.trans k2.symm, h3.join k3, h4.trans k4.symm⟩
  · exact absurd h1 k1
  · exact absurd h1 k1
  · exact absurd k1 h1
  · refine ⟨?_, h3.join k3, h4.trans k4.symm⟩
    rcases h2 with ⟨g1, g2⟩ | ⟨g1, g2⟩ <;> rcases k2 with ⟨j1, j2⟩ | ⟨j1, j2⟩
    · exact g2.trans j2.symm
    · exact absurd g1 j1
    · exact absurd j1 g1
    · exact g2.trans j2.symm
  · exact absurd h1' k1'
  · exact absurd k1 h1
  · exact absurd k1' h1'
  · rw [hx] at hy
    cases hy
    refine ⟨?_, h3.join k3, h4.trans k4.symm⟩
    rcases h2 with ⟨g1, g2⟩ | ⟨g1, g2⟩ <;> rcases k2 with ⟨j1, j2⟩ | ⟨j1, j2⟩
    · exact g2.trans j2.symm
    · exact absurd g1 j1
    · exact absurd j1 g1
    · exact g2.trans j2.symm
def recsOf (r : ApiRecord) : List ApiRecord := if r.Kind = 0 then [] else [r]

/-! ### The document's -/
theorem filter_up {α : Type} {p : α → Bool} {l : List α} {k : Nat} (hk : k < l.length) : (l.take (k + 1)).filter p = (l.take k).filter p ++ if p l[k] = true then [l[k]] else [] := by
  rw [List.take_add_one, List.filter_append, List.getElem?_eq_getElem hk]
  show _ ++ [l[k]].filter p = _
  rw [List.filter_cons]
  rfl
end Go.Chg
