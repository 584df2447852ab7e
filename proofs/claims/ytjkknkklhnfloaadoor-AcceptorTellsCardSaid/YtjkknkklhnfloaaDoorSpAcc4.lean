/-
  The acceptor's two answers, and the law of chapter 31: AcceptorAnswers.
-/
import Derived.Test.YtjkknkklhnfloaaDoorSpAcc3
set_option maxRecDepth 20000
set_option linter.unusedVariables false
namespace Go.Chg
open Go.Vc
open Go.RowKit (Below)
variable {w : World} {s : Sl} {acc chs xs : List ApiEntry} {img mg : List UInt8} {h_ : ApiHard} {m : ApiMsg} {commit kind : Int} {il ml : Nat}
theorem acceptor_back_spec {b : ApiBallot} {K : ApiMsg → World → Prop} (hK : ∀ w', Ext w w' → K ⟨kind, m.To, m.From, b, 0, 0, 0, Sl.nil, Sl.nil⟩ w') : acceptor_back m kind b K w := by
  unfold acceptor_back
  exact new_x (Ext.rfl' w) fun b1 w2 _ _ hx _ => new_x hx fun b3 w4 _ _ hx _ => new_x hx fun b5 w6 hb5 _ hx _ => wr_x hx hb5 fun w7 hx _ => hK _ hx
theorem msgAt_nil {a : ApiMsg} (h1 : a.Entries = Sl.nil) (h2 : a.Image = Sl.nil) {u : World} : MsgAt u a [] [] := ⟨by rw [h1]; exact .nilSl _ _, by rw [h2]; exact .nilSl _ _⟩
/-- An answer that lies in rows of its own. -/
structure AnsAt (B : Nat) (u : World) (o : Sl) (r : ApiRecord) (a : ApiMsg) (e : List ApiEntry) : Prop where
  o : OwnSl eApiRecord u B o (recsOf r)
  e : OwnSl eApiEntry u B a.Entries e
  i : a.Image = Sl.nil
theorem AnsAt.ext {B : Nat} {u u' : World} {o : Sl} {r : ApiRecord} {a : ApiMsg} {e : List ApiEntry} (h : AnsAt B u o r a e) (hx : Ext u u') : AnsAt B u' o r a e := ⟨h.o.ext hx, h.e.ext hx, h.i⟩
theorem AnsAt.wrO {B b : Nat} {u u' : World} {o : Sl} {r : ApiRecord} {a : ApiMsg} {e : List ApiEntry} (h : AnsAt B u o r a e) (hw : Wr b u u') (hb : b < B) : AnsAt B u' o r a e := ⟨h.o.wrO hw hb, h.e.wrO hw hb, h.i⟩
theorem AnsAt.mono {B B' : Nat} {u : World} {o : Sl} {r : ApiRecord} {a : ApiMsg} {e : List ApiEntry} (h : AnsAt B u o r a e) (hB : B' ≤ B) : AnsAt B' u o r a e := ⟨h.o.mono hB, h.e.mono hB, h.i⟩
theorem AnsAt.msg {B : Nat} {u : World} {o : Sl} {r : ApiRecord} {a : ApiMsg} {e : List ApiEntry} (h : AnsAt B u o r a e) : MsgAt u a e [] := ⟨h.e.is, by rw [h.i]; exact .nilSl _ _⟩
theorem AnsAt.nil {B : Nat} {u : World} {a : ApiMsg} (h1 : a.Entries = Sl.nil) (h2 : a.Image = Sl.nil) : AnsAt B u Sl.nil noRec a [] := ⟨.nil _ _ _, by rw [h1]; exact .nil _ _ _, h2⟩
theorem acceptor_Prepare_spec {K : Sl × ApiMsg × Int → World → Prop} (ht : Utf8T w) (hh : HardAt w h_ img acc chs) (hm : MsgAt w m xs mg) (hal : acc.length ≤ 1000)
    (hbad : ∀ w', chkA h_ img.length acc chs commit m xs mg.length 3 ≠ 0 → Ext w w' → K (Sl.nil, noMsg, chkA h_ img.length acc chs commit m xs mg.length 3) w')
    (hK : ∀ o r a e w', chkA h_ img.length acc chs commit m xs mg.length 3 = 0 → Ans h_ commit m acc xs r a e → AnsAt w.heap.size w' o r a e → Ext w w' → K (o, a, 0) w') : acceptor_Prepare h_ commit m K w := by
  unfold acceptor_Prepare
  refine new_x (Ext.rfl' w) fun b1 w2 hb1 hl1 hx n1 => new_x hx fun b3 w4 hb3 hl3 hx n3 => new_x hx fun b5 w6 hb5 hl5 hx n5 => ?_
  have z0 := hx.size
  refine acceptor_check_calls (h_ := h_) (m := m) (acceptor_check_spec (ht.ext hx) (hh.ext hx) (hm.ext hx) fun w8 hx' => kp_ext hx' (kp_ext hx' (kp_ext hx' ?_)))
  have z6 := hx'.size
  have hx := hx.trans' hx'
  refine ifNe (fun h0 => wr_x hx hb5 fun w9 hx _ => hbad _ h0 hx) (fun h0 => ?_)
  obtain ⟨hok, hk3, hhok⟩ := chk_ok h0
  have hup := ents_up hhok.acc0
  refine ballot_Less_calls (a := m.Ballot) (b := h_.Promised) (ballot_Less_spec fun t w11 hl hx' => kp_ext hx' (kp_ext hx' (kp_ext hx' ?_)))
  have z8 := hx'.size
  have hx := hx.trans' hx'
  refine ifB_of (fun h1 => ?_) (fun h1 => ?_)
  · refine acceptor_back_calls (m := m) (b := h_.Promised) (acceptor_back_spec fun w13 hx' => kp_ext hx' (kp_ext hx' (kp_ext hx' ?_)))
    exact wr_x (hx.trans' hx') hb5 fun w14 hx _ => hK _ noRec _ [] _ h0 (.inl ⟨hl.1 h1, rfl, MsgFld.rfl' _, rfl⟩) (AnsAt.nil rfl rfl) hx
  have h1 : ¬ BLess m.Ballot h_.Promised := fun h => by rw [hl.2 h] at h1; cases h1
  refine ⟨fun o u => ∃ r, (h_.Promised = m.Ballot ∧ r = noRec ∨ h_.Promised ≠ m.Ballot ∧ r = recPro m) ∧ OwnSl eApiRecord u w6.heap.size o (recsOf r) ∧ Ext w u ∧ w6.heap.size ≤ u.heap.size, ?_, ?_⟩
  · refine ballot_Less_calls (a := h_.Promised) (b := m.Ballot) (ballot_Less_spec fun t w17 hl2 hx' => kp_ext hx' (kp_ext hx' (kp_ext hx' ?_)))
    have z17 := hx'.size
    have hx := hx.trans' hx'
    refine ifB_of (fun h2 => ?_) (fun h2 => ⟨noRec, .inl ⟨?_, rfl⟩, .nil _ _ _, hx, by omega⟩)
    · refine lit1_ty (E := eApiRecord) 136 (x := recPro m) w6.heap.size (by kernel_rfl) (by decide) (fun w => by kernel_rfl) (by omega) fun t18 w19 _ h18 hx19 => kp_ext hx19 (kp_ext hx19 (kp_ext hx19 ?_))
      have z19 := hx19.size
      refine app_ty 136 (by kernel_rfl) (by kernel_rfl) (OwnSl.nil eApiRecord w19 w6.heap.size) h18.is (by simp) (by omega) (by decide) fun t20 w21 h20 hg => ?_
      have hx21 := grown_none hg
      refine kp_ext hx21 (kp_ext hx21 (kp_ext hx21 ⟨recPro m, .inr ⟨fun e => ?_, rfl⟩, h20, (hx.trans' hx19).trans' hx21, by have := hx21.size; omega⟩))
      have := hl2.1 h2
      rw [e] at this
      unfold BLess at this
      omega
    · have n2 : ¬ BLess h_.Promised m.Ballot := fun h => by rw [hl2.2 h] at h2; cases h2
      unfold BLess at h1 n2
      exact bal_eq.2 ⟨by omega, by omega⟩
  rintro o w23 ⟨r, hr, ho, hx, hz⟩
  refine acceptor_back_calls (m := m) (b := m.Ballot) (acceptor_back_spec fun w25 hx25 => kp_ext hx25 (kp_ext hx25 (kp_ext hx25 ?_)))
  refine new_x hx25 fun b26 w27 hb26 hl26 hx' _ => wr_x hx' hb26 fun w28 hx' hw28 => wr_x hx' hb26 fun w29 hx' hw29 => wr_x hx' hb26 fun w30 hx' hw30 => ?_
  have hxb := hx.trans' hx'
  refine acceptor_Ahead_calls (h_ := h_) (acceptor_Ahead_spec (hh.ac.ext hxb) hup (by omega) fun es w32 he hx32 => kp_ext hx32 (kp_ext hx32 (kp_ext hx32 (kp_ext hx32 ?_))))
  have hx' := hx'.trans' hx32
  have z28 := hw28.size
  have z29 := hw29.size
  have z31 := hw30.size
  have z25 := hx25.size
  refine wr_x hx' hb26 fun w33 hx' hw33 => held_x fun w34 hx34 => ?_
  have hb26' : b26 < w30.heap.size := by omega
  have he := (he.wrO hw33 hb26').ext hx34
  have hx' := hx'.trans' hx34
  refine wr_x (hx.trans' hx') hb5 fun w36 hxw hw36 => ⟨trivial, ?_⟩
  exact hK _ r _ _ _ h0 (.inr (.inl ⟨h1, hk3, hr, MsgFld.rfl' _, rfl⟩)) ⟨((ho.ext hx').wrO hw36 hl5).mono z0, (he.wrO hw36 (by omega)).mono (by omega), rfl⟩ hxw
theorem acceptor_Accept_spec {K : Sl × ApiMsg × Int → World → Prop} (ht : Utf8T w) (hh : HardAt w h_ img acc chs) (hm : MsgAt w m xs mg) (hal : acc.length ≤ 1000)
    (hbad : ∀ w', chkA h_ img.length acc chs commit m xs mg.length 5 ≠ 0 → Ext w w' → K (Sl.nil, noMsg, chkA h_ img.length acc chs commit m xs mg.length 5) w')
    (hK : ∀ o r a e w', chkA h_ img.length acc chs commit m xs mg.length 5 = 0 → Ans h_ commit m acc xs r a e → AnsAt w.heap.size w' o r a e → Ext w w' → K (o, a, 0) w') : acceptor_Accept h_ commit m K w := by
  unfold acceptor_Accept
  refine new_x (Ext.rfl' w) fun b1 w2 hb1 hl1 hx n1 => new_x hx fun b3 w4 hb3 hl3 hx n3 => new_x hx fun b5 w6 hb5 hl5 hx n5 => ?_
  have z0 := hx.size
  refine acceptor_check_calls (h_ := h_) (m := m) (acceptor_check_spec (ht.ext hx) (hh.ext hx) (hm.ext hx) fun w8 hx' => kp_ext hx' (kp_ext hx' (kp_ext hx' ?_)))
  have z6 := hx'.size
  have hx := hx.trans' hx'
  refine ifNe (fun h0 => wr_x hx hb5 fun w9 hx _ => hbad _ h0 hx) (fun h0 => ?_)
  obtain ⟨hok, hk5, hhok⟩ := chk_ok h0
  have hup := ents_up hhok.acc0
  obtain ⟨x, hxs, hxb⟩ := hok.form.2.2.2.2.2.2 hk5
  subst hxs
  refine ballot_Less_calls (a := m.Ballot) (b := h_.Promised) (ballot_Less_spec fun t w11 hl hx' => kp_ext hx' (kp_ext hx' (kp_ext hx' ?_)))
  have z8 := hx'.size
  have hx := hx.trans' hx'
  refine ifB_of (fun h1 => ?_) (fun h1 => ?_)
  · refine acceptor_back_calls (m := m) (b := h_.Promised) (acceptor_back_spec fun w13 hx' => kp_ext hx' (kp_ext hx' (kp_ext hx' ?_)))
    exact wr_x (hx.trans' hx') hb5 fun w14 hx _ => hK _ noRec _ [] _ h0 (.inl ⟨hl.1 h1, rfl, MsgFld.rfl' _, rfl⟩) (AnsAt.nil rfl rfl) hx
  have h1 : ¬ BLess m.Ballot h_.Promised := fun h => by rw [hl.2 h] at h1; cases h1
  refine st_rd (E := eApiEntry) (val := ApiEntry.val) (k := 0) (by kernel_rfl) (by kernel_rfl) (hm.es.ext hx) rfl (by simp) (fun _ => rfl) fun _ => ?_
  simp only [List.getElem_cons_zero]
  refine new_x hx fun b17 w18 hb17 _ hx n17 => wr_x hx hb17 fun w19 hx hw19 => ?_
  have z18 := (Ext.new n17).size
  have z19 := hw19.size
  refine ⟨fun o u => ∃ r, (findOf acc x.Index = (x, true) ∧ r = noRec ∨ findOf acc x.Index ≠ (x, true) ∧ r = recAcc x) ∧ OwnSl eApiRecord u w6.heap.size o (recsOf r) ∧ Ext w u ∧ w6.heap.size ≤ u.heap.size, ?_, ?_⟩
  · refine entry_Find_calls (entry_Find_spec (hh.ac.ext hx) hup (by omega) fun w22 hx' => kp_ext hx' (kp_ext hx' (kp_ext hx' (kp_ext hx' ?_))))
    have z22 := hx'.size
    have hx := hx.trans' hx'
    refine new_x hx fun b23 w24 hb23 _ hx n23 => wr_x hx hb23 fun w25 hx hw25 => ?_
    have z24 := (Ext.new n23).size
    have z25 := hw25.size
    refine ifNot (ifB_of (fun h2 => ?_) (fun h2 => ?_))
    · refine neSt (by kernel_rfl) (ApiEntry.eqv (findOf acc x.Index).1 x) (ifNot (ifB_of (fun h3 => ⟨noRec, .inl ⟨Prod.ext (ApiEntry.eqs_iff.1 h3) h2, rfl⟩, .nil _ _ _, hx, by omega⟩) (fun h3 => ?_)))
      refine lit1_ty (E := eApiRecord) 136 (x := recAcc x) w6.heap.size (by kernel_rfl) (by decide) (fun w => by kernel_rfl) (by omega) fun t18 w19 _ h18 hx19 => kp_ext hx19 (kp_ext hx19 (kp_ext hx19 (kp_ext hx19 (kp_ext hx19 ?_))))
      have z19 := hx19.size
      refine app_ty 136 (by kernel_rfl) (by kernel_rfl) (OwnSl.nil eApiRecord w19 w6.heap.size) h18.is (by simp) (by omega) (by decide) fun t20 w21 h20 hg => ?_
      have hx21 := grown_none hg
      refine kp_ext hx21 (kp_ext hx21 (kp_ext hx21 (kp_ext hx21 (kp_ext hx21 ⟨recAcc x, .inr ⟨fun e => ?_, rfl⟩, h20, (hx.trans' hx19).trans' hx21, by have := hx21.size; omega⟩))))
      rw [ApiEntry.eqs_iff.2 (congrArg Prod.fst e)] at h3
      cases h3
    · refine lit1_ty (E := eApiRecord) 136 (x := recAcc x) w6.heap.size (by kernel_rfl) (by decide) (fun w => by kernel_rfl) (by omega) fun t18 w19 _ h18 hx19 => kp_ext hx19 (kp_ext hx19 (kp_ext hx19 (kp_ext hx19 (kp_ext hx19 ?_))))
      have z19 := hx19.size
      refine app_ty 136 (by kernel_rfl) (by kernel_rfl) (OwnSl.nil eApiRecord w19 w6.heap.size) h18.is (by simp) (by omega) (by decide) fun t20 w21 h20 hg => ?_
      have hx21 := grown_none hg
      refine kp_ext hx21 (kp_ext hx21 (kp_ext hx21 (kp_ext hx21 (kp_ext hx21 ⟨recAcc x, .inr ⟨fun e => ?_, rfl⟩, h20, (hx.trans' hx19).trans' hx21, by have := hx21.size; omega⟩))))
      rw [congrArg Prod.snd e] at h2
      cases h2
  rintro o w36 ⟨r, hr, ho, hx, hz⟩
  refine acceptor_back_calls (m := m) (b := m.Ballot) (acceptor_back_spec fun w38 hx38 => kp_ext hx38 (kp_ext hx38 (kp_ext hx38 (kp_ext hx38 ?_))))
  refine new_x hx38 fun b39 w40 hb39 hl39 hx' _ => wr_x hx' hb39 fun w41 hx' _ => wr_x hx' hb39 fun w42 hx' _ => held_x fun w43 hx43 => ?_
  have hx' := hx'.trans' hx43
  refine wr_x (hx.trans' hx') hb5 fun w45 hxw hw45 => ⟨trivial, ?_⟩
  exact hK _ r _ [] _ h0 (.inr (.inr ⟨h1, by omega, x, rfl, hr, MsgFld.rfl' _, rfl⟩)) ⟨((ho.ext hx').wrO hw45 hl5).mono z0, .nil _ _ _, rfl⟩ hxw

/-! ### The law -/
def kindA (m : ApiMsg) : Int := if m.Kind = 5 then 5 else 3
theorem law31_ask_spec {K : Sl × ApiMsg × Int → World → Prop} (ht : Utf8T w) (hh : HardAt w h_ img acc chs) (hm : MsgAt w m xs mg) (hal : acc.length ≤ 1000)
    (hbad : ∀ w', chkA h_ img.length acc chs commit m xs mg.length (kindA m) ≠ 0 → Ext w w' → K (Sl.nil, noMsg, chkA h_ img.length acc chs commit m xs mg.length (kindA m)) w')
    (hK : ∀ o r a e w', chkA h_ img.length acc chs commit m xs mg.length (kindA m) = 0 → Ans h_ commit m acc xs r a e → AnsAt w.heap.size w' o r a e → Ext w w' → K (o, a, 0) w') : law31_ask h_ commit m K w := by
  unfold law31_ask
  refine new_x (Ext.rfl' w) fun b1 w2 hb1 hl1 hx n1 => new_x hx fun b3 w4 hb3 hl3 hx n3 => new_x hx fun b5 w6 hb5 hl5 hx n5 => ?_
  have z0 := hx.size
  refine ifEq (fun h5 => ?_) (fun h5 => ?_)
  · have hk : kindA m = 5 := if_pos h5
    rw [hk] at hbad hK
    refine acceptor_Accept_calls (h_ := h_) (m := m) (acceptor_Accept_spec (ht.ext hx) (hh.ext hx) (hm.ext hx) hal (fun w8 h0 hx' => kp_ext hx' (kp_ext hx' (kp_ext hx' ?_))) fun o r a e w8 h0 ha hat hx' => kp_ext hx' (kp_ext hx' (kp_ext hx' ?_)))
    · exact wr_x (hx.trans' hx') hb5 fun w9 hx _ => hbad _ h0 hx
    · exact wr_x (hx.trans' hx') hb5 fun w9 hx hw => hK o r a e _ h0 ha ((hat.wrO hw hl5).mono z0) hx
  · have hk : kindA m = 3 := if_neg h5
    rw [hk] at hbad hK
    refine acceptor_Prepare_calls (h_ := h_) (m := m) (acceptor_Prepare_spec (ht.ext hx) (hh.ext hx) (hm.ext hx) hal (fun w8 h0 hx' => kp_ext hx' (kp_ext hx' (kp_ext hx' ?_))) fun o r a e w8 h0 ha hat hx' => kp_ext hx' (kp_ext hx' (kp_ext hx' ?_)))
    · exact wr_x (hx.trans' hx') hb5 fun w9 hx _ => hbad _ h0 hx
    · exact wr_x (hx.trans' hx') hb5 fun w9 hx hw => hK o r a e _ h0 ha ((hat.wrO hw hl5).mono z0) hx
end Go.Chg
