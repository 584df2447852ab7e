/-
  What an acceptor answers: package 'acceptor', and the document's chapter 31: AcceptorAnswers.
-/
import Derived.Test.YtlapfdcocakloaaDoorSpAcc2
import Derived.Test.YtlapfdcocakloaaDoorSpRef08B
set_option maxRecDepth 20000
set_option linter.unusedVariables false
namespace Go.Chg
open Go.Vc
open Go.RowKit (Below)
variable {w : World} {s : Sl} {acc chs xs : List ApiEntry} {img mg : List UInt8} {h_ : ApiHard} {m : ApiMsg} {commit kind : Int} {il ml : Nat}
/-! ### What is wrong -/
noncomputable def chkA (h_ : ApiHard) (il : Nat) (acc chs : List ApiEntry) (commit : Int) (m : ApiMsg) (xs : List ApiEntry) (ml : Nat) (kind : Int) : Int := open Classical in
  if msgE m xs ml ≠ 0 then msgE m xs ml else if m.Kind ≠ kind then 5 else if ¬ HardOk h_ il acc chs then 3 else if commit < h_.Base ∨ 4294967296 < commit then 3 else 0
theorem chk_1 (h1 : msgE m xs ml ≠ 0) : chkA h_ il acc chs commit m xs ml kind = msgE m xs ml := by unfold chkA; rw [if_pos h1]
theorem chk_2 (h1 : msgE m xs ml = 0) (h2 : m.Kind ≠ kind) : chkA h_ il acc chs commit m xs ml kind = 5 := by unfold chkA; rw [if_neg (not_not_intro h1), if_pos h2]
theorem chk_3 (h1 : msgE m xs ml = 0) (h2 : m.Kind = kind) (h3 : ¬ HardOk h_ il acc chs) : chkA h_ il acc chs commit m xs ml kind = 3 := by unfold chkA; rw [if_neg (not_not_intro h1), if_neg (not_not_intro h2), if_pos h3]
theorem chk_4 (h1 : msgE m xs ml = 0) (h2 : m.Kind = kind) (h3 : HardOk h_ il acc chs) (h4 : commit < h_.Base ∨ 4294967296 < commit) : chkA h_ il acc chs commit m xs ml kind = 3 := by
  unfold chkA; rw [if_neg (not_not_intro h1), if_neg (not_not_intro h2), if_neg (not_not_intro h3), if_pos h4]
theorem chk_0 (h1 : msgE m xs ml = 0) (h2 : m.Kind = kind) (h3 : HardOk h_ il acc chs) (h4 : ¬ (commit < h_.Base ∨ 4294967296 < commit)) : chkA h_ il acc chs commit m xs ml kind = 0 := by
  unfold chkA; rw [if_neg (not_not_intro h1), if_neg (not_not_intro h2), if_neg (not_not_intro h3), if_neg h4]
theorem chk_ok (h : chkA h_ il acc chs commit m xs ml kind = 0) : MsgOk m xs ml ∧ m.Kind = kind ∧ HardOk h_ il acc chs := by
  by_cases h1 : msgE m xs ml = 0
  · by_cases h2 : m.Kind = kind
    · by_cases h3 : HardOk h_ il acc chs
      · exact ⟨msgE_ok.1 h1, h2, h3⟩
      · rw [chk_3 h1 h2 h3] at h; cases h
    · rw [chk_2 h1 h2] at h; cases h
  · rw [chk_1 h1] at h; exact absurd h h1
theorem acceptor_check_spec {K : Int → World → Prop} (ht : Utf8T w) (hh : HardAt w h_ img acc chs) (hm : MsgAt w m xs mg) (hK : ∀ w', Ext w w' → K (chkA h_ img.length acc chs commit m xs mg.length kind) w') : acceptor_check h_ commit m kind K w := by
  unfold acceptor_check
  have fin : ∀ {e : Int}, chkA h_ img.length acc chs commit m xs mg.length kind = e → ∀ {u : World}, Ext w u → K e u := fun h u hx => h ▸ hK u hx
  refine new_x (Ext.rfl' w) fun b1 w2 _ _ hx _ => new_x hx fun b3 w4 _ _ hx _ => ?_
  refine msgone_Check_calls (m := m) (msgone_Check_spec (ht.ext hx) (hm.ext hx) fun w6 hx' => kp_ext hx' (kp_ext hx' ?_))
  have hx := hx.trans' hx'
  refine ifNe (fun h1 => fin (chk_1 h1) hx) (fun h1 => ?_)
  refine ifNe (fun h2 => fin (chk_2 h1 h2) hx) (fun h2 => ?_)
  refine hard_Check_calls (h_ := h_) (hard_Check_spec (ht.ext hx) (hh.ext hx) fun e w8 he hx' => kp_ext hx' (kp_ext hx' ?_))
  have hx := hx.trans' hx'
  refine ifNe (fun h3 => fin (chk_3 h1 h2 fun h => h3 (he.2 h)) hx) (fun h3 => ?_)
  refine ifD (fun h4 => fin (chk_4 h1 h2 (he.1 h3) (.inl h4)) hx) (fun h4 => ?_)
  exact ifD (fun h5 => fin (chk_4 h1 h2 (he.1 h3) (.inr h5)) hx) (fun h5 => fin (chk_0 h1 h2 (he.1 h3) (by omega)) hx)
theorem ref31_Check_spec {K : Int → World → Prop} (hh : HardAt w h_ img acc chs) (hm : MsgAt w m xs mg) (hK : ∀ w', Ext w w' → K (chkA h_ img.length acc chs commit m xs mg.length kind) w') : ref31_Check h_ commit m kind K w := by
  unfold ref31_Check
  have fin : ∀ {e : Int}, chkA h_ img.length acc chs commit m xs mg.length kind = e → ∀ {u : World}, Ext w u → K e u := fun h u hx => h ▸ hK u hx
  refine new_x (Ext.rfl' w) fun b1 w2 _ _ hx _ => new_x hx fun b3 w4 _ _ hx _ => ?_
  refine ref13_Check_calls (m := m) (ref13_Check_spec (hm.ext hx) fun w6 hx' => kp_ext hx' (kp_ext hx' ?_))
  have hx := hx.trans' hx'
  refine ifNe (fun h1 => fin (chk_1 h1) hx) (fun h1 => ?_)
  refine ifNe (fun h2 => fin (chk_2 h1 h2) hx) (fun h2 => ?_)
  refine ref19_Check_calls (h_ := h_) (ref19_Check_spec (hh.ext hx) fun t w8 he hx' => kp_ext hx' (kp_ext hx' ?_))
  have hx := hx.trans' hx'
  refine ifNot (ifB_of (fun h3 => ?_) (fun h3 => fin (chk_3 h1 h2 fun h => by rw [he.2 h] at h3; cases h3) hx))
  refine ifD (fun h4 => fin (chk_4 h1 h2 (he.1 h3) (.inl h4)) hx) (fun h4 => ?_)
  exact ifD (fun h5 => fin (chk_4 h1 h2 (he.1 h3) (.inr h5)) hx) (fun h5 => fin (chk_0 h1 h2 (he.1 h3) (by omega)) hx)

/-! ### The answer -/
def MsgFld (a b : ApiMsg) : Prop := a.Kind = b.Kind ∧ a.From = b.From ∧ a.To = b.To ∧ a.Ballot = b.Ballot ∧ a.Index = b.Index ∧ a.Commit = b.Commit ∧ a.Version = b.Version
theorem MsgFld.rfl' (a : ApiMsg) : MsgFld a a := ⟨rfl, rfl, rfl, rfl, rfl, rfl, rfl⟩
theorem MsgFld.join {a b c : ApiMsg} (h : MsgFld a c) (k : MsgFld b c) : MsgFld a b :=
  ⟨h.1.trans k.1.symm, h.2.1.trans k.2.1.symm, h.2.2.1.trans k.2.2.1.symm, h.2.2.2.1.trans k.2.2.2.1.symm, h.2.2.2.2.1.trans k.2.2.2.2.1.symm, h.2.2.2.2.2.1.trans k.2.2.2.2.2.1.symm, h.2.2.2.2.2.2.trans k.2.2.2.2.2.2.symm⟩
def noRec : ApiRecord := ⟨0, zBallot, 0, noCmd, Sl.nil⟩
def noMsg : ApiMsg := ⟨0, 0, 0, zBallot, 0, 0, 0, Sl.nil, Sl.nil⟩
def msgRef (h_ : ApiHard) (m : ApiMsg) : ApiMsg := ⟨7, m.To, m.From, h_.Promised, 0, 0, 0, Sl.nil, Sl.nil⟩
def msgPro (m : ApiMsg) (commit : Int) (es : Sl) : ApiMsg := ⟨4, m.To, m.From, m.Ballot, m.Index, commit, 0, es, Sl.nil⟩
def msgAcc (m : ApiMsg) (x : ApiEntry) : ApiMsg := ⟨6, m.To, m.From, m.Ballot, x.Index, 0, 0, Sl.nil, Sl.nil⟩
def recPro (m : ApiMsg) : ApiRecord := ⟨1, m.Ballot, 0, noCmd, Sl.nil⟩
def recAcc (x : ApiEntry) : ApiRecord := ⟨2, x.Ballot, x.Index, x.Cmd, Sl.nil⟩
def Ans (h_ : ApiHard) (commit : Int) (m : ApiMsg) (acc xs : List ApiEntry) (r : ApiRecord) (a : ApiMsg) (e : List ApiEntry) : Prop :=
  (BLess m.Ballot h_.Promised ∧ r = noRec ∧ MsgFld a (msgRef h_ m) ∧ e = []) ∨
  (¬ BLess m.Ballot h_.Promised ∧ m.Kind = 3 ∧ (h_.Promised = m.Ballot ∧ r = noRec ∨ h_.Promised ≠ m.Ballot ∧ r = recPro m) ∧ MsgFld a (msgPro m commit Sl.nil) ∧ e = aheadOf acc m.Index commit) ∨
  (¬ BLess m.Ballot h_.Promised ∧ m.Kind ≠ 3 ∧ ∃ x, xs = [x] ∧ (findOf acc x.Index = (x, true) ∧ r = noRec ∨ findOf acc x.Index ≠ (x, true) ∧ r = recAcc x) ∧ MsgFld a (msgAcc m x) ∧ e = [])
theorem ans_uniq {r r' : ApiRecord} {a a' : ApiMsg} {e e' : List ApiEntry} (h : Ans h_ commit m acc xs r a e) (k : Ans h_ commit m acc xs r' a' e') : r = r' ∧ MsgFld a a' ∧ e = e' := by
  rcases h with ⟨h1, h2, h3, h4⟩ | ⟨h1, h1', h2, h3, h4⟩ | ⟨h1, h1', x, hx, h2, h3, h4⟩ <;> rcases k with ⟨k1, k2, k3, k4⟩ | ⟨k1, k1', k2, k3, k4⟩ | ⟨k1, k1', y, hy, k2, k3, k4⟩
  · exact ⟨h2.trans k2.symm, h3.join k3, h4.trans k4.symm⟩
  · exact absurd h1 k1
  · exact absurd h1 k1
  · exact absurd k1 h1
  · refine ⟨?_, h3.join k3, h4.trans k4.symm⟩
    rcases h2 with ⟨g1, g2⟩ | ⟨g1, g2⟩ <;> rcases k2 with ⟨j1, j2⟩ | ⟨j1, j2⟩
    · exact g2.trans j2.symm
    · exact absurd g1 j1
    · exact absurd j1 g1
    · exact g2.trans j2.symm
  · exact absurd h1' k1'
  · exact absurd k1 h1
  · exact absurd k1' h1'
  · rw [hx] at hy
    cases hy
    refine ⟨?_, h3.join k3, h4.trans k4.symm⟩
    rcases h2 with ⟨g1, g2⟩ | ⟨g1, g2⟩ <;> rcases k2 with ⟨j1, j2⟩ | ⟨j1, j2⟩
    · exact g2.trans j2.symm
    · exact absurd g1 j1
    · exact absurd j1 g1
    · exact g2.trans j2.symm
def recsOf (r : ApiRecord) : List ApiRecord := if r.Kind = 0 then [] else [r]

/-! ### The document's -/
theorem filter_up {α : Type} {p : α → Bool} {l : List α} {k : Nat} (hk : k < l.length) : (l.take (k + 1)).filter p = (l.take k).filter p ++ if p l[k] = true then [l[k]] else [] := by
  rw [List.take_add_one, List.filter_append, List.getElem?_eq_getElem hk]
  show _ ++ [l[k]].filter p = _
  rw [List.filter_cons]
  rfl
theorem ref31_Answer_spec {K : ApiRecord × ApiMsg → World → Prop} (hh : HardAt w h_ img acc chs) (hm : MsgAt w m xs mg) (hx5 : m.Kind ≠ 3 → ∃ x, xs = [x]) (hal : acc.length ≤ 1000)
    (hK : ∀ r a e w', Ans h_ commit m acc xs r a e → MsgAt w' a e [] → Ext w w' → K (r, a) w') : ref31_Answer h_ commit m K w := by
  unfold ref31_Answer
  have hacl := hh.ac.len
  refine new_x (Ext.rfl' w) fun b1 w2 hb1 hl1 hx n1 => new_x hx fun b3 w4 hb3 hl3 hx n3 => new_x hx fun b5 w6 hb5 hl5 hx n5 => new_x hx fun b7 w8 hb7 hl7 hx n7 => new_x hx fun b9 w10 hb9 hl9 hx n9 => wr_x hx hb9 fun w11 hx hw11 => ?_
  have z4 := (Ext.new n3).size
  have z6 := (Ext.new n5).size
  have z8 := (Ext.new n7).size
  have z10 := (Ext.new n9).size
  have z11 := hw11.size
  have fin : ∀ {u : World} {r : ApiRecord} {a : ApiMsg} {e : List ApiEntry}, Ext w u → Ans h_ commit m acc xs r a e → (∀ u', Ext w u' → u.heap.size ≤ u'.heap.size → (∀ b, b5 ≠ b → b7 ≠ b → b < u.heap.size → u'.heap[b]? = u.heap[b]?) → MsgAt u' a e []) → heldM (fun S16 w16 => wrM b5 (fun w18 => (S16 w18) ∧ (wrM b7 (fun w19 => (S16 w19) ∧ (K (r, a) w19)) w18)) w16) u := fun {u r a e} hxu ha hat =>
    held_x fun w16 hx16 => wr_x (hxu.trans' hx16) hb5 fun w18 hx18 hw18 => ⟨trivial, wr_x hx18 hb7 fun w19 hx19 hw19 => ⟨trivial, hK _ _ _ _ ha (hat _ hx19 (by have := hw18.size; have := hw19.size; have := hx16.size; omega) fun b h5 h7 hb => by
      rw [hw19.block b (Ne.symm h7), hw18.block b (Ne.symm h5), hx16.block b hb]) hx19⟩⟩
  have nil : ∀ {a : ApiMsg}, a.Entries = Sl.nil → a.Image = Sl.nil → ∀ {u : World}, MsgAt u a [] [] := fun h1 h2 u => ⟨by rw [h1]; exact .nilSl _ _, by rw [h2]; exact .nilSl _ _⟩
  refine ref10_Less_calls (a := m.Ballot) (b := h_.Promised) (ref10_Less_spec fun t w13 hl hx' => kp_ext hx' (kp_ext hx' (kp_ext hx' (kp_ext hx' (kp_ext hx' ?_)))))
  have hx := hx.trans' hx'
  have z13 := hx'.size
  refine ifB_of (fun h1 => ?_) (fun h1 => ?_)
  · refine wr_x hx hb9 fun w14 hx _ => wr_x hx hb9 fun w15 hx _ => ?_
    exact fin (a := msgRef h_ m) hx (.inl ⟨hl.1 h1, rfl, MsgFld.rfl' _, rfl⟩) fun _ _ _ _ => nil rfl rfl
  have h1 : ¬ BLess m.Ballot h_.Promised := fun h => by rw [hl.2 h] at h1; cases h1
  refine ifEq (fun h3 => ?_) (fun h3 => ?_)
  · refine wr_x hx hb9 fun w20 hx hw20 => wr_x hx hb9 fun w21 hx hw21 => wr_x hx hb9 fun w22 hx hw22 => ?_
    have z20 := hw20.size
    have z21 := hw21.size
    have z22 := hw22.size
    have hB0 : w.heap.size ≤ w10.heap.size := by omega
    refine up2a (fun k x w' => ∃ es, x = msgPro m commit es ∧ OwnSl eApiEntry w' w10.heap.size es ((acc.take k).filter fun x => decide (m.Index ≤ x.Index) && decide (commit < x.Index)) ∧ Ext w w' ∧ w10.heap.size ≤ w'.heap.size) 0 acc.length rfl (by omega) (by have := hh.ac.le; omega) ⟨Sl.nil, rfl, .nil _ _ _, hx, by omega⟩ ?_
    rintro k _ w26 C _ hk ⟨es, rfl, ho, hx, hz⟩ hC
    refine ifD (fun hlt => ?_) (fun hge => ?_)
    · have hk1 : k < acc.length := by omega
      refine drew_of fun w27 hx' => ?_
      have hx := hx.trans' hx'
      have ho := ho.ext hx'
      have hz := Nat.le_trans hz hx'.size
      have skip : ¬ (m.Index ≤ acc[k].Index ∧ commit < acc[k].Index) → C (i64 ((k : Int) + 1)) (msgPro m commit es) w27 := fun hn => hC hk1 _ _ _ rfl ⟨es, rfl, by
        rw [filter_up hk1, if_neg (by simpa using hn), List.append_nil]; exact ho, hx, hz⟩
      refine fld_rd (y := acc[k].Index) (by kernel_rfl) (by kernel_rfl) (hh.ac.ext hx) rfl hk1 rfl fun _ => ?_
      refine ifD (fun h4 => ?_) (fun h4 => skip fun h => h4 h.1)
      refine fld_rd (y := acc[k].Index) (by kernel_rfl) (by kernel_rfl) (hh.ac.ext hx) rfl hk1 rfl fun _ => ?_
      refine ifD (fun h5 => ?_) (fun h5 => skip fun h => h5 h.2)
      refine heldM_of (fun w' => Ext w w') fun w32 hx32 => ⟨hx.trans' hx32, ?_⟩
      have hx := hx.trans' hx32
      have ho := ho.ext hx32
      have hz := Nat.le_trans hz hx32.size
      have hlen : ((acc.take k).filter fun x => decide (m.Index ≤ x.Index) && decide (commit < x.Index)).length ≤ 1000 := Nat.le_trans (List.length_filter_le _ _) (by rw [List.length_take]; omega)
      have more : ∀ {s' : Sl} {u : World}, OwnSl eApiEntry u w10.heap.size s' (((acc.take k).filter fun x => decide (m.Index ≤ x.Index) && decide (commit < x.Index)) ++ [acc[k]]) → Ext w u → w10.heap.size ≤ u.heap.size → wrM b9 (fun w40 => Ext w w40 ∧ C (i64 ((k : Int) + 1)) (msgPro m commit s') w40) u := fun {s' u} ho' hx' hz' =>
        wr_x hx' hb9 fun w40 hx40 hw40 => ⟨hx40, hC hk1 _ _ _ rfl ⟨s', rfl, by
          rw [filter_up hk1, if_pos (by simp only [Bool.and_eq_true, decide_eq_true_eq]; exact ⟨h4, h5⟩)]; exact ho'.wrO hw40 hl9, hx40, by have := hw40.size; omega⟩⟩
      have kp5 : ∀ {u u' : World} {X : Prop} {r : Option Nat}, u.grownBy u' r → (∀ b, r = some b → w10.heap.size ≤ b) → X → kp b9 u u' (kp b7 u u' (kp b5 u u' (kp b3 u u' (kp b1 u u' X)))) := fun hg hr X =>
        kp_grown hg (fun e => by have := hr _ e.symm; omega) (kp_grown hg (fun e => by have := hr _ e.symm; omega) (kp_grown hg (fun e => by have := hr _ e.symm; omega) (kp_grown hg (fun e => by have := hr _ e.symm; omega) (kp_grown hg (fun e => by have := hr _ e.symm; omega) X))))
      refine stH (E := eApiEntry) (val := ApiEntry.val) (by kernel_rfl) (by kernel_rfl) (fun w' h => hh.ac.ext h) rfl hk1 (fun _ => rfl) fun _ => ⟨⟨hx, ?_⟩, ?_⟩
      · refine lit1_ty (E := eApiEntry) 104 (x := acc[k]) w32.heap.size (by kernel_rfl) (by decide) (fun w => by kernel_rfl) (Nat.le_refl _) fun t36 w37 _ h36 hx37 => kp5 (grown_ext hx37 none) (fun b e => by cases e) ⟨hx.trans' hx37, ?_⟩
        refine app_ty 104 (by kernel_rfl) (by kernel_rfl) (ho.ext hx37) h36.is (by simp only [List.length_singleton]; omega) (Nat.le_trans hz hx37.size) (by decide) fun t38 w39 h38 hg39 => kp5 hg39 (fun b e => ho.ge b e) ?_
        have hx39 := Ext.own (hx.trans' hx37) (ho.ext hx37) hB0 hg39
        exact ⟨hx39, more h38 hx39 (by have := hg39.size; have := hx37.size; omega)⟩
      · refine lit1_ty (E := eApiEntry) 104 (x := acc[k]) w32.heap.size (by kernel_rfl) (by decide) (fun w => by kernel_rfl) (Nat.le_refl _) fun t36 w37 _ h36 hx37 => kp5 (grown_ext hx37 none) (fun b e => by cases e) ⟨hx.trans' hx37, hx.trans' hx37, ?_⟩
        refine app_ty 104 (by kernel_rfl) (by kernel_rfl) (ho.ext hx37) h36.is (by simp only [List.length_singleton]; omega) (Nat.le_trans hz hx37.size) (by decide) fun t38 w39 h38 hg39 => kp5 hg39 (fun b e => ho.ge b e) ?_
        have hx39 := Ext.own (hx.trans' hx37) (ho.ext hx37) hB0 hg39
        exact ⟨hx39, more h38 hx39 (by have := hg39.size; have := hx37.size; omega)⟩
    · rw [take_done (by omega)] at ho
      have at' : ∀ u', Ext w u' → w26.heap.size ≤ u'.heap.size → (∀ b, b5 ≠ b → b7 ≠ b → b < w26.heap.size → u'.heap[b]? = w26.heap[b]?) → MsgAt u' (msgPro m commit es) (aheadOf acc m.Index commit) [] := fun u' _ _ hb =>
        ⟨(ho.keep fun g hg hlt => hb g (fun e => by have := ho.ge g (by simp [Sl.blk, hg]); omega) (fun e => by have := ho.ge g (by simp [Sl.blk, hg]); omega) hlt).is, .nilSl _ _⟩
      refine eqSt (by kernel_rfl) (ApiBallot.eqv h_.Promised m.Ballot) (ifB_of (fun h6 => ?_) (fun h6 => ?_))
      · exact fin hx (.inr (.inl ⟨h1, h3, .inl ⟨ApiBallot.eqs_iff.1 h6, rfl⟩, MsgFld.rfl' _, rfl⟩)) at'
      · exact fin (r := recPro m) hx (.inr (.inl ⟨h1, h3, .inr ⟨(fun e => by rw [ApiBallot.eqs_iff.2 e] at h6; cases h6), rfl⟩, MsgFld.rfl' _, rfl⟩)) at'
  · obtain ⟨x, hxs⟩ := hx5 h3
    subst hxs
    refine st_rd (E := eApiEntry) (val := ApiEntry.val) (k := 0) (by kernel_rfl) (by kernel_rfl) (hm.es.ext hx) rfl (by simp) (fun _ => rfl) fun _ => ?_
    show newV _ _
    simp only [List.getElem_cons_zero]
    refine new_x hx fun b57 w58 hb57 _ hx _ => wr_x hx hb57 fun w59 hx _ => wr_x hx hb9 fun w60 hx _ => wr_x hx hb9 fun w61 hx _ => ?_
    have fin6 : ∀ {u : World} {r : ApiRecord}, Ext w u → (findOf acc x.Index = (x, true) ∧ r = noRec ∨ findOf acc x.Index ≠ (x, true) ∧ r = recAcc x) → heldM (fun S16 w16 => wrM b5 (fun w18 => (S16 w18) ∧ (wrM b7 (fun w19 => (S16 w19) ∧ (K (r, msgAcc m x) w19)) w18)) w16) u := fun hxu hr =>
      fin hxu (.inr (.inr ⟨h1, h3, x, rfl, hr, MsgFld.rfl' _, rfl⟩)) fun _ _ _ _ => nil rfl rfl
    refine ref12_Find_calls (ref12_Find_spec (hh.ac.ext hx) (fun hn => kp_same (kp_same (kp_same (kp_same (kp_same (kp_same ?_)))))) (fun k hk hs => kp_same (kp_same (kp_same (kp_same (kp_same (kp_same ?_)))))))
    · refine ⟨fun r a u => r = noRec ∧ Ext w u ∧ findOf acc x.Index ≠ (x, true), drew_of fun w65 hx' => ifD (fun h => absurd h (by decide)) (fun _ => ⟨rfl, hx.trans' hx', by rw [findOf_none hn]; simp⟩), ?_⟩
      rintro _ _ w75 ⟨rfl, hx, hn⟩
      exact fin6 (r := recAcc x) hx (.inr ⟨hn, rfl⟩)
    · refine ⟨fun r a u => r = noRec ∧ Ext w u ∧ findOf acc x.Index ≠ (x, true), drew_of fun w65 hx' => ifD (fun _ => ?_) (fun h => by omega), ?_⟩
      rotate_left
      · rintro _ _ w75 ⟨rfl, hx, hn⟩
        exact fin6 (r := recAcc x) hx (.inr ⟨hn, rfl⟩)
      have hx := hx.trans' hx'
      refine st_rd (E := eApiEntry) (val := ApiEntry.val) (by kernel_rfl) (by kernel_rfl) (hh.ac.ext hx) rfl hk (fun _ => rfl) fun _ => ?_
      refine eqSt (by kernel_rfl) (ApiEntry.eqv acc[k] x) (ifB_of (fun h6 => ?_) (fun h6 => ⟨rfl, hx, fun e => ?_⟩))
      · exact fin6 hx (.inl ⟨by rw [findOf_some hs, ApiEntry.eqs_iff.1 h6], rfl⟩)
      · rw [findOf_some hs] at e
        rw [ApiEntry.eqs_iff.2 (Prod.mk.inj e).1] at h6
        cases h6
end Go.Chg
