/-
  The law of chapter 31: AcceptorTells.
-/
import Derived.Test.YtjkknkklhnfloaaDoorSpLaw31K
set_option maxRecDepth 20000
set_option linter.unusedVariables false
namespace Go.Chg
open Go.Vc
open Go.RowKit (Below)
variable {w : World} {s : Sl} {acc chs xs : List ApiEntry} {img ag : List UInt8} {h_ : ApiHard} {m : ApiMsg} {commit from_ : Int}
theorem told_yes {l : List ApiEntry} {x : ApiEntry} {c : Int} (hu : EUp l) (hm : x ∈ l) (h1 : from_ ≤ x.Index) (h2 : c < x.Index) : entOf (aheadOf l from_ c) x.Index = some x :=
  (Up.get_iff ordI (hu.filter _)).2 ⟨List.mem_filter.2 ⟨hm, by rw [Bool.and_eq_true, decide_eq_true_iff, decide_eq_true_iff]; exact ⟨h1, h2⟩⟩, rfl⟩
theorem told_in {l : List ApiEntry} {x : ApiEntry} {c i : Int} (h : entOf (aheadOf l from_ c) i = some x) : x.Index = i ∧ from_ ≤ i ∧ c < i := by
  obtain ⟨h1, h2⟩ := get_some ordI h
  have := (List.mem_filter.1 h1).2
  rw [Bool.and_eq_true, decide_eq_true_iff, decide_eq_true_iff] at this
  exact ⟨h2, by omega⟩
theorem find_mem {l : List ApiEntry} {x : ApiEntry} {i : Int} (h : findOf l i = (x, true)) : x ∈ l := by
  unfold findOf at h
  split at h
  · rename_i y hy
    rw [← (Prod.mk.inj h).1]
    exact (get_some ordI hy).1
  · exact absurd (Prod.mk.inj h).2 (by decide)
theorem ans_accepted {r : ApiRecord} {a' : ApiMsg} {e : List ApiEntry} (ha : Ans h_ commit m acc xs r a' e) (h6 : a'.Kind = 6) : ∃ x, xs = [x] ∧ (x ∈ acc ∧ r = noRec ∨ r = recAcc x) := by
  rcases ha with ⟨_, _, h3, _⟩ | ⟨_, _, _, h3, _⟩ | ⟨_, _, x, hx, h2, _⟩
  · rw [h3.1] at h6; exact absurd h6 (by show ¬ (7 : Int) = 6; decide)
  · rw [h3.1] at h6; exact absurd h6 (by show ¬ (4 : Int) = 6; decide)
  · exact ⟨x, hx, h2.imp (fun h => ⟨find_mem h.1, h.2⟩) (fun h => h.2)⟩
def askN (m : ApiMsg) (R from_ : Int) : ApiMsg := ⟨3, m.From, m.To, ⟨R, m.From⟩, from_, 0, 0, Sl.nil, Sl.nil⟩
theorem askN_ok {R : Int} (hm : mRng1 m) (hr : 1 ≤ R ∧ R ≤ 4294967296) (hf : 1 ≤ from_ ∧ from_ ≤ 4294967296) : MsgOk (askN m R from_) [] 0 := by
  refine ⟨⟨by show (1 : Int) ≤ 3; decide, by show (3 : Int) ≤ 11; decide⟩, ⟨hm, fun _ => ⟨.inr ⟨hr.1, hr.2, hm.1⟩, fun e => absurd (congrArg ApiBallot.Round e) (by show R ≠ 0; omega)⟩, fun _ => hf, fun h => (by cases h), fun h => (by cases h)⟩, fun h => ?_, fun h => (by cases h), fun h => (by cases h), fun h => (by cases h), fun _ => rfl, fun _ => rfl, fun _ => rfl, ⟨fun h => (by cases h), fun h => absurd h (Nat.lt_irrefl _)⟩, fun h => absurd h (by show ¬ (3 : Int) = 5; decide)⟩
  rcases h with ⟨h, _⟩ | ⟨h, _⟩ <;> cases h
theorem law31_AcceptorTells_spec {K : Bool → World → Prop} (ht : Utf8T w) (hh : HardAt w h_ img acc chs) (hm : MsgAt w m xs ag) (hK : ∀ w', Ext w w' → K true w') : law31_AcceptorTells h_ m from_ K w := by
  unfold law31_AcceptorTells
  have awk : ∀ {u : World} {X : Bool → World → Prop}, Ext w u → (∀ v, Ext u v → X true v) → callV Pr Value.bool fid_law31_awake #[] u X := fun hx h => law31_awake_calls (law31_awake_spec (ht.ext hx) h)
  refine new_x (Ext.rfl' w) fun b1 w2 hb1 hl1 hx n1 => new_x hx fun b3 w4 hb3 hl3 hx n3 => ?_
  refine ref19_Heavy_calls (h_ := h_) (ref19_Heavy_spec (hh.ext hx) fun t w6 h5 hx' => kp_ext hx' (kp_ext hx' ?_))
  have hx := hx.trans' hx'
  have aw2 : ∀ {u : World}, Ext w u → callV Pr Value.bool fid_law31_awake #[] u (fun t v => kp b3 u v (kp b1 u v (K t v))) := fun hx => awk hx fun v hx' => kp_ext hx' (kp_ext hx' (hK _ (hx.trans' hx')))
  refine ifB_of (fun _ => aw2 hx) (fun h => ?_)
  obtain ⟨hal, hcl, _⟩ := h5 h
  refine ref13_Large_calls (m := m) (ref13_Large_spec (hm.ext hx) fun t w10 _ hx' => kp_ext hx' (kp_ext hx' ?_))
  have hx := hx.trans' hx'
  refine ifB_of (fun _ => aw2 hx) (fun h => ?_)
  refine ref19_Check_calls (h_ := h_) (ref19_Check_spec (hh.ext hx) fun t w14 hc hx' => kp_ext hx' (kp_ext hx' ?_))
  have hx := hx.trans' hx'
  refine ifNot (ifB_of (fun hct => ?_) (fun _ => aw2 hx))
  have hok := hc.1 hct
  refine ifD (fun _ => aw2 hx) (fun _ => ?_)
  refine ifNe (fun _ => aw2 hx) (fun hk5 => ?_)
  refine ifD (fun _ => aw2 hx) (fun hf1 => ?_)
  refine ifD (fun _ => aw2 hx) (fun hf2 => ?_)
  have aw3 : ∀ {b u : World} {c : Nat}, Ext w u → callV Pr Value.bool fid_law31_awake #[] u (fun t v => kp c u v (kp b3 u v (kp b1 u v (K t v)))) := fun hx => awk hx fun v hx' => kp_ext hx' (kp_ext hx' (kp_ext hx' (hK _ (hx.trans' hx'))))
  refine acceptor_Accept_calls (h_ := h_) (m := m) (acceptor_Accept_spec (ht.ext hx) (hh.ext hx) (hm.ext hx) (by omega) (fun w26 h0 hx' => kp_ext hx' (kp_ext hx' ?_)) fun o r a e w26 h0 hans hat hx26 => kp_ext hx26 (kp_ext hx26 ?_))
  · have hx := hx.trans' hx'
    refine new_x hx fun b27 w28 hb27 _ hx _ => wr_x hx hb27 fun w29 hx _ => ?_
    exact ifNe (fun _ => aw3 (b := w) hx) (fun h => absurd h h0)
  have hx := hx.trans' hx26
  refine new_x (Ext.rfl' w26) fun b27 w28 hb27 _ hx' _ => wr_x hx' hb27 fun w29 hx' _ => ?_
  have hat := hat.ext hx'
  have hx := hx.trans' hx'
  refine ifNe (fun h => absurd rfl h) (fun _ => ?_)
  refine ifNe (fun _ => aw3 (b := w) hx) (fun h6 => ?_)
  have h6 : a.Kind = 6 := h6
  obtain ⟨x, hxs, hrx⟩ := ans_accepted hans h6
  obtain ⟨hmok, _, _⟩ := chk_ok h0
  have hk : m.Kind = 3 ∨ m.Kind = 5 := .inr hk5
  have hxe : IsSl eApiEntry w m.Entries [x] := by have := hm.es; rwa [hxs] at this
  refine new_x (Ext.rfl' w29) fun b34 w35 hb34 hl34 hx' _ => wr_x hx' hb34 fun w36 hx' hw36 => ?_
  have hol := hat.o.len
  refine up2a (fun k n u => Ext w29 u ∧ w35.heap.size ≤ u.heap.size ∧ (k < (recsOf r).length → n = h_) ∧ (k = (recsOf r).length → ∃ acc', NextOk h_ m chs u n img acc' ∧ (h_.Base < x.Index → x ∈ acc'))) 0 (recsOf r).length rfl (by omega) (by unfold recsOf; split <;> simp)
    ⟨hx', Nat.le_of_eq hw36.size.symm, fun _ => rfl, fun h => ⟨acc, next_none (hh.ext (hx.trans' hx')) hok (by omega) hmok hk hans (Classical.byContradiction fun hn => by rw [show recsOf r = [r] from if_neg hn] at h; cases h), fun _ => ?_⟩⟩ ?_
  · rcases hrx with ⟨hin, _⟩ | hr
    · exact hin
    · rw [hr, show recsOf (recAcc x) = [recAcc x] from if_neg (by show ¬ (2 : Int) = 0; decide)] at h; cases h
  rintro k n w40 C _ hkl ⟨hx', hz40, hlt', hfin⟩ hC
  refine ifD (fun hlt => ?_) (fun hge => ?_)
  · have hr0 : r.Kind ≠ 0 := fun h => by rw [hol, show recsOf r = [] from if_pos h] at hlt; simp at hlt; omega
    have e1 : recsOf r = [r] := if_neg hr0
    have hk0 : k = 0 := by rw [hol, e1] at hlt; simp at hlt; omega
    subst hk0
    have hn := hlt' (by rw [e1]; exact Nat.zero_lt_one)
    subst hn
    have ho := hat.o.is
    rw [e1] at ho
    obtain ⟨g1, g2, g3⟩ := ans_rec hmok hk hans hr0
    have hrr : r = recAcc x := by
      rcases hrx with ⟨_, h⟩ | h
      · rw [h] at hr0; exact absurd rfl hr0
      · exact h
    refine heldM_of (fun w' => Ext w29 w') fun w41 hx41 => ⟨hx'.trans' hx41, ?_⟩
    have hz41 := Nat.le_trans hz40 hx41.size
    have hx' := hx'.trans' hx41
    refine stH (E := eApiRecord) (val := ApiRecord.val) (k := 0) (by kernel_rfl) (by kernel_rfl) (fun w' h => ho.ext h) rfl (by simp) (fun _ => rfl) fun _ => ⟨hx', ?_⟩
    refine ref31_Behind_calls (h_ := n) (x := r) (ref31_Behind_spec (hh.ext (hx.trans' hx')) hok g1 (by omega) (by omega) fun sa sc w46 hsa hsc hx46 => kp_ext hx46 (kp_ext hx46 (kp_ext hx46 (kp_ext hx46 ⟨hx'.trans' hx46, ?_⟩))))
    have eB : (of1 (hardL n) r).Base = n.Base := by
      rw [show of1 (hardL n) r = of0 (hardL n) r from if_neg fun h => by have := h.1; rcases g3 with g | g <;> (have := g.1; omega)]
      unfold of0; split <;> rfl
    have eF : (recL n acc chs ++ [r]).foldl (of2 n.Base) ([], []) = of2 n.Base (acc, chs) r := by rw [List.foldl_append, of2_recL hok]; rfl
    rw [eB] at hsa hsc
    dsimp only at hsa hsc
    rw [eF] at hsa hsc
    refine wr_x (hx'.trans' hx46) hb34 fun w47 hx47 hw47 => ⟨hx47, hC (by rw [e1]; exact Nat.zero_lt_one) _ _ _ rfl ⟨hx47, by have := hx46.size; have := hw47.size; omega, fun h => absurd (show 0 + 1 < 1 from by rw [e1] at h; exact h) (Nat.lt_irrefl 1), fun _ => ⟨(of2 n.Base (acc, chs) r).1, ?_, fun hb => ?_⟩⟩⟩
    · exact next_some (hh.ext (hx.trans' hx47)) hok hal (msg_bal hmok hk) g2 g3 (hsa.wrO hw47 (by omega)).is (hsc.wrO hw47 (by omega)).is
    · rw [hrr]
      have e2 : of2 n.Base (acc, chs) (recAcc x) = (entWith acc x, chs) := by
        unfold of2
        rw [if_neg (show ¬ (recAcc x).Index ≤ n.Base from by show ¬ x.Index ≤ n.Base; omega), if_pos (show (recAcc x).Kind = 2 from rfl)]
        rfl
      rw [e2]
      exact (mem_ins ordI).2 (.inl rfl)
  · have hge : ¬ (k : Int) < (o.len : Int) := hge
    obtain ⟨acc', hN, hin⟩ := hfin (by omega)
    have hx := hx.trans' hx'
    have hmay := hN.ok.prom.num
    have hbase := hok.base
    have e64 : i64 (n.Promised.Round + 1) = n.Promised.Round + 1 := i64_id (by omega) (by omega)
    rw [e64]
    refine new_x (Ext.rfl' w40) fun b48 w49 hb48 _ hx' _ => wr_x hx' hb48 fun w50 hx' _ => ?_
    have hN := hN.ext hx'
    have hx := hx.trans' hx'
    have hup := ents_up hN.ok.acc0
    refine acceptor_Prepare_calls (h_ := n) (m := askN m (n.Promised.Round + 1) from_) (acceptor_Prepare_spec (img := img) (acc := acc') (chs := chs) (xs := []) (mg := []) (ht.ext hx) hN.at' (msgAt_nil rfl rfl) hN.few (fun w52 h0 hx' => kp_ext hx' (kp_ext hx' (kp_ext hx' (kp_ext hx' (kp_ext hx' ?_))))) fun o2 r2 y e2 w52 h0 ha2 hat2 hx' => kp_ext hx' (kp_ext hx' (kp_ext hx' (kp_ext hx' (kp_ext hx' ?_)))))
    · have hx := hx.trans' hx'
      refine new_x hx fun b53 w54 hb53 _ hx _ => wr_x hx hb53 fun w55 hx _ => ?_
      refine ifNe (fun _ => ?_) (fun h => absurd h h0)
      refine ifEq (fun _ => awk hx fun v hx' => kp_ext hx' (kp_ext hx' (kp_ext hx' (kp_ext hx' (kp_ext hx' (kp_ext hx' (hK _ (hx.trans' hx')))))))) (fun hne => absurd ?_ h0)
      exact chk_0 (msgE_ok.2 (askN_ok hmok.rng.1 (by omega) (by omega))) rfl hN.ok (by rw [hN.base]; omega)
    have hN := hN.ext hx'
    have hx := hx.trans' hx'
    refine new_x (Ext.rfl' w52) fun b53 w54 hb53 _ hx' _ => wr_x hx' hb53 fun w55 hx' _ => ?_
    have hN := hN.ext hx'
    have hat2 := hat2.ext hx'
    have hx := hx.trans' hx'
    refine ifNe (fun h => absurd rfl h) (fun _ => ?_)
    have aw6 : ∀ {u v : World}, Ext w u → Ext u v → kp b53 u v (kp b48 u v (kp b34 u v (kp b27 u v (kp b3 u v (kp b1 u v (Ext w v ∧ K true v)))))) := fun hx hx' => kp_ext hx' (kp_ext hx' (kp_ext hx' (kp_ext hx' (kp_ext hx' (kp_ext hx' ⟨hx.trans' hx', hK _ (hx.trans' hx')⟩)))))
    obtain ⟨hfld, he2⟩ : MsgFld y (msgPro (askN m (n.Promised.Round + 1) from_) h_.Base Sl.nil) ∧ e2 = aheadOf acc' from_ h_.Base := by
      rcases ha2 with ⟨h1, _⟩ | ⟨_, _, _, h3, h4⟩ | ⟨_, h3, _⟩
      · have h1 : BLess (⟨n.Promised.Round + 1, m.From⟩ : ApiBallot) n.Promised := h1
        unfold BLess at h1
        dsimp only at h1
        omega
      · exact ⟨h3, h4⟩
      · exact absurd rfl h3
    refine held_x fun w58 hx' => ?_
    have hN := hN.ext hx'
    have hat2 := hat2.ext hx'
    have hx := hx.trans' hx'
    refine acceptor_Ahead_calls (h_ := n) (acceptor_Ahead_spec hN.at'.ac hup (by have := hN.few; omega) fun s60 w61 h60 hx' => kp_ext hx' (kp_ext hx' (kp_ext hx' (kp_ext hx' (kp_ext hx' (kp_ext hx' ⟨trivial, ?_⟩))))))
    have hat2 := hat2.ext hx'
    have hx := hx.trans' hx'
    refine ref12_Same_calls (ref12_Same_spec h60.is hat2.e.is fun t w63 hs hx' => kp_ext hx' (kp_ext hx' (kp_ext hx' (kp_ext hx' (kp_ext hx' (kp_ext hx' ⟨trivial, ?_⟩))))))
    have hat2 := hat2.ext hx'
    have hx := hx.trans' hx'
    refine ifNot (ifB_t (hs.2 he2.symm) ?_)
    refine heldM_of (fun w' => Ext w w') fun w64 hx' => ⟨hx.trans' hx', ?_⟩
    have hat2 := hat2.ext hx'
    have hx := hx.trans' hx'
    refine fldH (E := eApiEntry) (y := x.Index) (k := 0) (by kernel_rfl) (by kernel_rfl) (fun w' h => hxe.ext h) rfl (by simp) rfl fun _ => ?_
    have hk4 : y.Kind = 4 := hfld.1
    have hes := hat2.e.is
    rw [he2] at hes
    refine ref12_Find_calls (ref12_Find_spec hes (fun hnone => kp_same (kp_same (kp_same (kp_same (kp_same (kp_same ⟨hx, drew_of fun w70 hx' => ?_⟩)))))) fun k hk hsome => kp_same (kp_same (kp_same (kp_same (kp_same (kp_same ⟨hx, drew_of fun w70 hx' => ?_⟩))))))
    · have hx := hx.trans' hx'
      refine ifD (fun h => absurd h (by decide)) (fun _ => ?_)
      refine heldM_of (fun w' => Ext w w') fun w86 hx' => ⟨hx.trans' hx', ?_⟩
      have hx := hx.trans' hx'
      refine ifEq (fun _ => ?_) (fun h => absurd hk4 h)
      refine fldH (E := eApiEntry) (y := x.Index) (k := 0) (by kernel_rfl) (by kernel_rfl) (fun w' h => hxe.ext h) rfl (by simp) rfl fun _ => ?_
      refine ifD (fun hge1 => ?_) (fun _ => ifB_t rfl (awk hx fun v hx' => aw6 hx hx'))
      refine fldH (E := eApiEntry) (y := x.Index) (k := 0) (by kernel_rfl) (by kernel_rfl) (fun w' h => hxe.ext h) rfl (by simp) rfl fun _ => ?_
      refine ifB_t ?_ (awk hx fun v hx' => aw6 hx hx')
      rw [decide_eq_false (fun hb => ?_)]
      · rfl
      · have hb : h_.Base < x.Index := hb
        rw [told_yes hup (hin hb) hge1 hb] at hnone
        cases hnone
    · have hx := hx.trans' hx'
      have hes := hes.ext hx'
      obtain ⟨hi, hfr, hbx⟩ := told_in hsome
      have hkx : (aheadOf acc' from_ h_.Base)[k] = x := by
        have := told_yes hup (hin hbx) hfr hbx
        rw [this] at hsome
        exact (Option.some.inj hsome).symm
      refine ifD (fun _ => ?_) (fun h => absurd (Int.natCast_nonneg k) h)
      refine st_rd (E := eApiEntry) (val := ApiEntry.val) (by kernel_rfl) (by kernel_rfl) hes rfl hk (fun _ => rfl) fun _ => ?_
      refine st_rd (E := eApiEntry) (val := ApiEntry.val) (k := 0) (by kernel_rfl) (by kernel_rfl) (hxe.ext hx) rfl (by simp) (fun _ => rfl) fun _ => ?_
      rw [hkx]
      refine eqSt (by kernel_rfl) (ApiEntry.eqv x x) ?_
      rw [ApiEntry.eqs_iff.2 rfl]
      refine heldM_of (fun w' => Ext w w') fun w76 hx' => ⟨hx.trans' hx', ?_⟩
      have hx := hx.trans' hx'
      refine ifEq (fun _ => ?_) (fun h => absurd hk4 h)
      refine fldH (E := eApiEntry) (y := x.Index) (k := 0) (by kernel_rfl) (by kernel_rfl) (fun w' h => hxe.ext h) rfl (by simp) rfl fun _ => ?_
      refine ifD (fun _ => ?_) (fun h => absurd hfr h)
      refine fldH (E := eApiEntry) (y := x.Index) (k := 0) (by kernel_rfl) (by kernel_rfl) (fun w' h => hxe.ext h) rfl (by simp) rfl fun _ => ?_
      refine ifB_t ?_ (awk hx fun v hx' => aw6 hx hx')
      rw [decide_eq_true (show x.Index > h_.Base from hbx)]
      rfl
end Go.Chg
