/-
  The law of chapter 31: AcceptorKeeps.
-/
import Derived.Test.YtjkknkklhnfloaaDoorSpAcc7
import Derived.Test.YtjkknkklhnfloaaDoorSpLaw31
set_option maxRecDepth 20000
set_option linter.unusedVariables false
namespace Go.Chg
open Go.Vc
open Go.RowKit (Below)
variable {w : World} {s : Sl} {acc chs xs ys : List ApiEntry} {img ag bg : List UInt8} {h_ : ApiHard} {a b m : ApiMsg} {commit kind : Int} {il ml : Nat}
theorem entsEF_of : ∀ {xs : List ApiEntry} {prev : Int}, (∀ x ∈ xs, EIdx x ∧ CmdOk x.Cmd) → xs.Pairwise (fun a b => a.Index < b.Index) → (∀ x ∈ xs, prev < x.Index) → entsEF xs prev = 0
  | [], _, _, _, _ => rfl
  | x :: r, prev, h1, h2, h3 => by
    have hx := oneE_ok.2 (h1 x (List.mem_cons_self ..))
    have hp := h3 x (List.mem_cons_self ..)
    obtain ⟨p1, p2⟩ := List.pairwise_cons.1 h2
    simp only [entsEF]
    rw [if_neg (by omega), if_neg (by omega)]
    exact entsEF_of (fun y hy => h1 y (List.mem_cons_of_mem _ hy)) p2 p1
theorem entsE_of {xs : List ApiEntry} (h1 : ∀ x ∈ xs, EIdx x ∧ CmdOk x.Cmd) (h2 : EUp xs) : entsE xs = 0 :=
  entsEF_of h1 (h2.imp fun h => cmpI_neg.1 h) fun x hx => by have := (h1 x hx).1.1; omega
/-- The hard state behind the answer's record. -/
structure NextOk (h_ : ApiHard) (m : ApiMsg) (chs : List ApiEntry) (u : World) (n : ApiHard) (img : List UInt8) (acc' : List ApiEntry) : Prop where
  at' : HardAt u n img acc' chs
  ok : HardOk n img.length acc' chs
  few : acc'.length ≤ 1000
  up : ¬ BLess n.Promised h_.Promised
  upm : ¬ BLess m.Ballot h_.Promised → ¬ BLess n.Promised m.Ballot
  base : n.Base = h_.Base
theorem NextOk.ext {u u' : World} {n : ApiHard} {acc' : List ApiEntry} (h : NextOk h_ m chs u n img acc') (hx : Ext u u') : NextOk h_ m chs u' n img acc' := ⟨h.at'.ext hx, h.ok, h.few, h.up, h.upm, h.base⟩
theorem msg_bal (hok : MsgOk m xs ml) (hk : m.Kind = 3 ∨ m.Kind = 5) : BMay m.Ballot ∧ m.Ballot ≠ zBallot := hok.rng.2.1 (by
  unfold mB; rcases hk with h | h <;> rw [h] <;> rfl)
theorem next_none {r : ApiRecord} {a' : ApiMsg} {e : List ApiEntry} {u : World} (hh : HardAt u h_ img acc chs) (hok : HardOk h_ img.length acc chs) (hal : acc.length ≤ 40) (hm : MsgOk m xs ml) (hk : m.Kind = 3 ∨ m.Kind = 5) (ha : Ans h_ commit m acc xs r a' e) (h0 : r.Kind = 0) : NextOk h_ m chs u h_ img acc := by
  refine ⟨hh, hok, by omega, by unfold BLess; omega, fun hn => ?_, rfl⟩
  rcases ha with ⟨h1, _⟩ | ⟨_, _, ⟨h2, _⟩ | ⟨_, h2⟩, _⟩ | ⟨_, h3, x, hx, ⟨h2, _⟩ | ⟨_, h2⟩, _⟩
  · exact absurd h1 hn
  · rw [h2]; unfold BLess; omega
  · rw [h2] at h0; exact absurd h0 (by show ¬ (1 : Int) = 0; decide)
  · have hmem : x ∈ acc := by
      unfold findOf at h2
      split at h2
      · rename_i y hy
        rw [← (Prod.mk.inj h2).1]
        exact (get_some ordI hy).1
      · exact absurd (Prod.mk.inj h2).2 (by decide)
    obtain ⟨y, hy, hb⟩ := hm.form.2.2.2.2.2.2 (by omega)
    rw [hx] at hy
    cases hy
    rw [← hb]
    exact (hok.acc1 x hmem).2.2
  · rw [h2] at h0; exact absurd h0 (by show ¬ (2 : Int) = 0; decide)
theorem next_some {r : ApiRecord} {u : World} {sa sc : Sl} (hh : HardAt u h_ img acc chs) (hok : HardOk h_ img.length acc chs) (hal : acc.length ≤ 40) (hbal : BMay m.Ballot ∧ m.Ballot ≠ zBallot) (hr : r.Ballot = m.Ballot) (hk : r.Kind = 1 ∧ r.Index = 0 ∨ r.Kind = 2 ∧ EIdx (entR r) ∧ CmdOk r.Cmd)
    (ha : IsSl eApiEntry u sa (of2 h_.Base (acc, chs) r).1) (hc : IsSl eApiEntry u sc (of2 h_.Base (acc, chs) r).2) : NextOk h_ m chs u ⟨(of1 (hardL h_) r).Promised, (of1 (hardL h_) r).Base, (of1 (hardL h_) r).Image, sa, sc⟩ img (of2 h_.Base (acc, chs) r).1 := by
  have hk12 : r.Kind = 1 ∨ r.Kind = 2 := by rcases hk with h | h; exact .inl h.1; exact .inr h.1
  have e1 : of1 (hardL h_) r = of0 (hardL h_) r := if_neg fun h => by have := h.1; omega
  have e2 : (of2 h_.Base (acc, chs) r).2 = chs := by
    unfold of2
    split
    · rfl
    split
    · rfl
    rw [if_neg fun h => by have := h.1; omega]
  rw [e2] at hc
  have eb : (of0 (hardL h_) r).Base = h_.Base := by unfold of0; split <;> rfl
  have ei : (of0 (hardL h_) r).Image = if 0 < h_.Base then h_.Image else Sl.nil := by unfold of0; split <;> rfl
  have ep : (of0 (hardL h_) r).Promised = if BLess h_.Promised m.Ballot then m.Ballot else h_.Promised := by
    unfold of0
    by_cases hb : BLess h_.Promised m.Ballot
    · rw [if_pos ⟨hk12, by rw [hr]; exact hb⟩, if_pos hb]; exact hr
    · rw [if_neg (fun h => hb (by rw [← hr]; exact h.2)), if_neg hb]; rfl
  rw [e1, eb, ei, ep]
  have hbase := hok.base
  have himg := hok.img
  have up1 : ¬ BLess (if BLess h_.Promised m.Ballot then m.Ballot else h_.Promised) h_.Promised := by
    split
    · rename_i hb; unfold BLess at hb ⊢; omega
    · unfold BLess; omega
  have up2 : ¬ BLess (if BLess h_.Promised m.Ballot then m.Ballot else h_.Promised) m.Ballot := by
    split
    · unfold BLess; omega
    · assumption
  have hE := entsE_ok hok.acc0
  have hU := ents_up hok.acc0
  have acc' : (of2 h_.Base (acc, chs) r).1 = acc ∨ (of2 h_.Base (acc, chs) r).1 = entWith acc (entR r) ∧ h_.Base < r.Index ∧ r.Kind = 2 := by
    unfold of2
    split
    · exact .inl rfl
    split
    · exact .inr ⟨rfl, by omega, by assumption⟩
    rw [if_neg fun h => by have := h.1; omega]
    exact .inl rfl
  have keep : ∀ {y : ApiEntry}, y ∈ acc → AccOk ⟨if BLess h_.Promised m.Ballot then m.Ballot else h_.Promised, h_.Base, if 0 < h_.Base then h_.Image else Sl.nil, sa, sc⟩ y := fun {y} hy => by
    obtain ⟨k1, k2, k3⟩ := hok.acc1 y hy
    refine ⟨k1, k2, ?_⟩
    show ¬ BLess (if BLess h_.Promised m.Ballot then m.Ballot else h_.Promised) y.Ballot
    split
    · rename_i hb; unfold BLess at hb k3 ⊢; omega
    · exact k3
  refine ⟨⟨?_, ha, hc⟩, ⟨?_, hbase, himg, ?_, hok.chs0, ?_, hok.chs1⟩, ?_, up1, fun _ => up2, rfl⟩
  · by_cases hb : 0 < h_.Base
    · show IsSl eB u (if 0 < h_.Base then h_.Image else Sl.nil) img
      rw [if_pos hb]; exact hh.im
    · show IsSl eB u (if 0 < h_.Base then h_.Image else Sl.nil) img
      rw [if_neg hb, List.length_eq_zero_iff.1 (show img.length = 0 by omega)]; exact .nilSl _ _
  · show BMay (if BLess h_.Promised m.Ballot then m.Ballot else h_.Promised)
    split
    · exact hbal.1
    · exact hok.prom
  · rcases acc' with h | ⟨h, hi, h2⟩
    · rw [h]; exact hok.acc0
    · rw [h]
      have h3 : EIdx (entR r) ∧ CmdOk r.Cmd := by
        rcases hk with k | k
        · have := k.1; omega
        · exact k.2
      refine entsE_of (fun y hy => ?_) (hU.ins ordI _)
      rcases (mem_ins ordI).1 hy with rfl | ⟨hy, _⟩
      · exact h3
      · exact hE y hy
  · intro y hy
    rcases acc' with h | ⟨h, hi, h2⟩
    · rw [h] at hy; exact keep hy
    · rw [h] at hy
      rcases (mem_ins ordI).1 hy with rfl | ⟨hy, _⟩
      · exact ⟨hi, by show r.Ballot ≠ zBallot; rw [hr]; exact hbal.2, by show ¬ BLess (if BLess h_.Promised m.Ballot then m.Ballot else h_.Promised) r.Ballot; rw [hr]; exact up2⟩
      · exact keep hy
  · rcases acc' with h | ⟨h, _⟩
    · rw [h]; omega
    · rw [h]; have := entWith_len acc (entR r); omega
theorem ans_rec {r : ApiRecord} {a' : ApiMsg} {e : List ApiEntry} (hm : MsgOk m xs ml) (hk : m.Kind = 3 ∨ m.Kind = 5) (ha : Ans h_ commit m acc xs r a' e) (h0 : r.Kind ≠ 0) : RecOk r ∧ r.Ballot = m.Ballot ∧ (r.Kind = 1 ∧ r.Index = 0 ∨ r.Kind = 2 ∧ EIdx (entR r) ∧ CmdOk r.Cmd) := by
  have hb := msg_bal hm hk
  rcases ha with ⟨_, h2, _⟩ | ⟨_, _, ⟨_, h2⟩ | ⟨_, h2⟩, _⟩ | ⟨_, h3, x, hx, ⟨_, h2⟩ | ⟨_, h2⟩, _⟩
  · rw [h2] at h0; exact absurd rfl h0
  · rw [h2] at h0; exact absurd rfl h0
  · rw [h2]; exact ⟨.inl ⟨rfl, hb, rfl, rfl, rfl⟩, rfl, .inl ⟨rfl, rfl⟩⟩
  · rw [h2] at h0; exact absurd rfl h0
  · obtain ⟨y, hy, hyb⟩ := hm.form.2.2.2.2.2.2 (by omega)
    rw [hx] at hy
    cases hy
    have := hm.each x (by rw [hx]; exact List.mem_singleton.2 rfl)
    rw [h2]
    exact ⟨.inr (.inl ⟨rfl, by show BMay x.Ballot ∧ x.Ballot ≠ zBallot; rw [hyb]; exact hb, this.1.1, this.2, rfl⟩), hyb, .inr ⟨rfl, this.1, this.2⟩⟩
theorem ans_kind7 {r : ApiRecord} {a' : ApiMsg} {e : List ApiEntry} (ha : Ans h_ commit m acc xs r a' e) : a'.Kind = 7 ↔ BLess m.Ballot h_.Promised := by
  rcases ha with ⟨h1, _, h3, _⟩ | ⟨h1, _, _, h3, _⟩ | ⟨h1, _, x, _, _, h3, _⟩
  · exact ⟨fun _ => h1, fun _ => h3.1⟩
  · exact ⟨fun h => by rw [h3.1] at h; exact absurd h (by show ¬ (4 : Int) = 7; decide), fun h => absurd h h1⟩
  · exact ⟨fun h => by rw [h3.1] at h; exact absurd h (by show ¬ (6 : Int) = 7; decide), fun h => absurd h h1⟩
theorem ask_any (ht : Utf8T w) (hh : HardAt w h_ img acc chs) (hm : MsgAt w m xs ag) (hal : acc.length ≤ 1000) {X : Sl × ApiMsg × Int → World → Prop}
    (hX : ∀ o a e' w', AskR (chkA h_ img.length acc chs commit m xs ag.length (kindA m)) h_ commit m acc xs w.heap.size w' o a e' → Ext w w' → X (o, a, e') w') : law31_ask h_ commit m X w :=
  law31_ask_spec ht hh hm hal (fun w' h0 hx' => hX _ _ _ _ (.inl ⟨h0, rfl, rfl, rfl⟩) hx') (fun o r a e w' h0 ha hat hx' => hX _ _ _ _ (.inr ⟨h0, rfl, r, e, ha, hat⟩) hx')
theorem law31_AcceptorKeeps_spec {K : Bool → World → Prop} (ht : Utf8T w) (hh : HardAt w h_ img acc chs) (ha : MsgAt w a xs ag) (hb : MsgAt w b ys bg) (hK : ∀ w', Ext w w' → K true w') : law31_AcceptorKeeps h_ a b K w := by
  unfold law31_AcceptorKeeps
  have awk : ∀ {u : World} {X : Bool → World → Prop}, Ext w u → (∀ v, Ext u v → X true v) → callV Pr Value.bool fid_law31_awake #[] u X := fun hx h => law31_awake_calls (law31_awake_spec (ht.ext hx) h)
  refine new_x (Ext.rfl' w) fun b1 w2 hb1 hl1 hx n1 => new_x hx fun b3 w4 hb3 hl3 hx n3 => new_x hx fun b5 w6 hb5 hl5 hx n5 => ?_
  refine ref19_Heavy_calls (h_ := h_) (ref19_Heavy_spec (hh.ext hx) fun t w8 h5 hx' => kp_ext hx' (kp_ext hx' (kp_ext hx' ?_)))
  have hx := hx.trans' hx'
  refine ifB_of (fun _ => awk hx fun v hx' => kp_ext hx' (kp_ext hx' (kp_ext hx' (hK _ (hx.trans' hx'))))) (fun h => ?_)
  obtain ⟨hal, hcl, _⟩ := h5 h
  refine ref13_Large_calls (m := a) (ref13_Large_spec (ha.ext hx) fun t w12 _ hx' => kp_ext hx' (kp_ext hx' (kp_ext hx' ?_)))
  have hx := hx.trans' hx'
  refine ifB_of (fun _ => awk hx fun v hx' => kp_ext hx' (kp_ext hx' (kp_ext hx' (hK _ (hx.trans' hx'))))) (fun h => ?_)
  refine ref13_Large_calls (m := b) (ref13_Large_spec (hb.ext hx) fun t w16 _ hx' => kp_ext hx' (kp_ext hx' (kp_ext hx' ?_)))
  have hx := hx.trans' hx'
  refine ifB_of (fun _ => awk hx fun v hx' => kp_ext hx' (kp_ext hx' (kp_ext hx' (hK _ (hx.trans' hx'))))) (fun h => ?_)
  refine ref19_Check_calls (h_ := h_) (ref19_Check_spec (hh.ext hx) fun t w20 hc hx' => kp_ext hx' (kp_ext hx' (kp_ext hx' ?_)))
  have hx := hx.trans' hx'
  refine ifNot (ifB_of (fun hct => ?_) (fun _ => awk hx fun v hx' => kp_ext hx' (kp_ext hx' (kp_ext hx' (hK _ (hx.trans' hx'))))))
  have hok := hc.1 hct
  refine law31_ask_calls (h_ := h_) (m := a) (ask_any (ht.ext hx) (hh.ext hx) (ha.ext hx) (by omega) fun o a' e' w24 hr hx24 => kp_ext hx24 (kp_ext hx24 (kp_ext hx24 ?_)))
  have hx := hx.trans' hx24
  refine new_x (Ext.rfl' w24) fun b25 w26 hb25 _ hx' _ => wr_x hx' hb25 fun w27 hx' _ => ?_
  have hr := hr.ext hx'
  have hx := hx.trans' hx'
  have z24 := hx24.size
  rcases hr with ⟨h0, rfl, rfl, rfl⟩ | ⟨h0, rfl, r, e, hans, hat⟩
  · exact ifNe (fun _ => awk hx fun v hx' => kp_ext hx' (kp_ext hx' (kp_ext hx' (kp_ext hx' (hK _ (hx.trans' hx')))))) (fun h => absurd h h0)
  obtain ⟨hmok, hkk, _⟩ := chk_ok h0
  have hk : a.Kind = 3 ∨ a.Kind = 5 := by unfold kindA at hkk; split at hkk <;> omega
  refine ifNe (fun h => absurd rfl h) (fun _ => ?_)
  refine new_x (Ext.rfl' w27) fun b30 w31 hb30 hl30 hx' _ => wr_x hx' hb30 fun w32 hx' hw32 => ?_
  have hol := hat.o.len
  refine up2a (fun k n u => Ext w27 u ∧ w31.heap.size ≤ u.heap.size ∧ (k < (recsOf r).length → n = h_) ∧ (k = (recsOf r).length → ∃ acc', NextOk h_ a chs u n img acc')) 0 (recsOf r).length rfl (by omega) (by unfold recsOf; split <;> simp)
    ⟨hx', Nat.le_of_eq hw32.size.symm, fun _ => rfl, fun h => ⟨acc, next_none (hh.ext (hx.trans' hx')) hok hal hmok hk hans (Classical.byContradiction fun hn => by rw [show recsOf r = [r] from if_neg hn] at h; cases h)⟩⟩ ?_
  rintro k n w36 C _ hkl ⟨hx', hz36, hlt', hfin⟩ hC
  refine ifD (fun hlt => ?_) (fun hge => ?_)
  · have hr0 : r.Kind ≠ 0 := fun h => by rw [hol, show recsOf r = [] from if_pos h] at hlt; simp at hlt; omega
    have e1 : recsOf r = [r] := if_neg hr0
    have hk0 : k = 0 := by rw [hol, e1] at hlt; simp at hlt; omega
    subst hk0
    have hn := hlt' (by rw [e1]; exact Nat.zero_lt_one)
    subst hn
    have ho := hat.o.is
    rw [e1] at ho
    obtain ⟨g1, g2, g3⟩ := ans_rec hmok hk hans hr0
    refine heldM_of (fun w' => Ext w27 w') fun w37 hx37 => ⟨hx'.trans' hx37, ?_⟩
    have hz37 := Nat.le_trans hz36 hx37.size
    have hx' := hx'.trans' hx37
    refine stH (E := eApiRecord) (val := ApiRecord.val) (k := 0) (by kernel_rfl) (by kernel_rfl) (fun w' h => ho.ext h) rfl (by simp) (fun _ => rfl) fun _ => ⟨hx', ?_⟩
    refine ref31_Behind_calls (h_ := n) (x := r) (ref31_Behind_spec (hh.ext (hx.trans' hx')) hok g1 (by omega) (by omega) fun sa sc w42 hsa hsc hx42 => kp_ext hx42 (kp_ext hx42 (kp_ext hx42 (kp_ext hx42 (kp_ext hx42 ⟨hx'.trans' hx42, ?_⟩)))))
    have eB : (of1 (hardL n) r).Base = n.Base := by
      rw [show of1 (hardL n) r = of0 (hardL n) r from if_neg fun h => by have := h.1; omega]
      unfold of0; split <;> rfl
    have eF : (recL n acc chs ++ [r]).foldl (of2 n.Base) ([], []) = of2 n.Base (acc, chs) r := by rw [List.foldl_append, of2_recL hok]; rfl
    rw [eB] at hsa hsc
    dsimp only at hsa hsc
    rw [eF] at hsa hsc
    refine wr_x (hx'.trans' hx42) hb30 fun w43 hx43 hw43 => ⟨hx43, hC (by rw [e1]; exact Nat.zero_lt_one) _ _ _ rfl ⟨hx43, by have := hx42.size; have := hw43.size; omega, fun h => absurd (show 0 + 1 < 1 from by rw [e1] at h; exact h) (Nat.lt_irrefl 1), fun _ => ⟨(of2 n.Base (acc, chs) r).1, ?_⟩⟩⟩
    exact next_some (hh.ext (hx.trans' hx43)) hok hal (msg_bal hmok hk) g2 g3 (hsa.wrO hw43 (by omega)).is (hsc.wrO hw43 (by omega)).is
  · have hge : ¬ (k : Int) < (o.len : Int) := hge
    obtain ⟨acc', hN⟩ := hfin (by omega)
    have hx := hx.trans' hx'
    refine ref10_Less_calls (a := n.Promised) (b := h_.Promised) (ref10_Less_spec fun t w45 hl hx' => kp_ext hx' (kp_ext hx' (kp_ext hx' (kp_ext hx' (kp_ext hx' ?_)))))
    have hN := hN.ext hx'
    have hx := hx.trans' hx'
    refine ifB_of (fun h => absurd (hl.1 h) hN.up) (fun _ => ?_)
    refine ref19_Check_calls (h_ := n) (ref19_Check_spec hN.at' fun t w47 hc hx' => kp_ext hx' (kp_ext hx' (kp_ext hx' (kp_ext hx' (kp_ext hx' ?_)))))
    have hN := hN.ext hx'
    have hx := hx.trans' hx'
    refine ifNot (ifB_of (fun _ => ?_) (fun h => by rw [hc.2 hN.ok] at h; cases h))
    refine law31_ask_calls (h_ := n) (m := b) (ask_any (ht.ext hx) hN.at' (hb.ext hx) hN.few fun o2 b' e2 w49 hr2 hx49 => kp_ext hx49 (kp_ext hx49 (kp_ext hx49 (kp_ext hx49 (kp_ext hx49 ?_)))))
    have hx := hx.trans' hx49
    refine new_x (Ext.rfl' w49) fun b50 w51 hb50 _ hx' _ => wr_x hx' hb50 fun w52 hx' _ => ?_
    have hr2 := hr2.ext hx'
    have hx := hx.trans' hx'
    have aw6 : ∀ {u v : World}, Ext w u → Ext u v → kp b50 u v (kp b30 u v (kp b25 u v (kp b5 u v (kp b3 u v (kp b1 u v (K true v)))))) := fun hx hx' => kp_ext hx' (kp_ext hx' (kp_ext hx' (kp_ext hx' (kp_ext hx' (kp_ext hx' (hK _ (hx.trans' hx')))))))
    rcases hr2 with ⟨k0, rfl, rfl, rfl⟩ | ⟨k0, rfl, r2, ee2, hans2, hat2⟩
    · exact ifNe (fun _ => awk hx fun v hx' => aw6 hx hx') (fun h => absurd h k0)
    refine ifNe (fun h => absurd rfl h) (fun _ => ?_)
    refine ifEq (fun _ => awk hx fun v hx' => aw6 hx hx') (fun h7 => ?_)
    have hnl : ¬ BLess a.Ballot h_.Promised := fun h => h7 ((ans_kind7 hans).2 h)
    refine held_x fun w57 hx' => ?_
    have hx := hx.trans' hx'
    refine ref10_Less_calls (a := b.Ballot) (b := n.Promised) (ref10_Less_spec fun t w60 hl2 hx' => kp_ext hx' (kp_ext hx' (kp_ext hx' (kp_ext hx' (kp_ext hx' (kp_ext hx' ⟨trivial, ?_⟩))))))
    have hx := hx.trans' hx'
    have hk7 := ans_kind7 hans2
    have e7 : ((b'.Kind == 7) == t) = true := by
      rw [beq_iff_eq, Bool.eq_iff_iff, beq_iff_eq, hk7, hl2]
    refine ifB_of (fun _ => ?_) (fun h => by rw [show (((o2, b', (0 : Int)).snd.fst.Kind == 7) == t) = true from e7] at h; cases h)
    refine ref10_Less_calls (a := b.Ballot) (b := a.Ballot) (ref10_Less_spec fun t w62 hl3 hx' => kp_ext hx' (kp_ext hx' (kp_ext hx' (kp_ext hx' (kp_ext hx' (kp_ext hx' ⟨trivial, ?_⟩))))))
    have hx := hx.trans' hx'
    refine ifNot (ifB_of (fun hlt => ?_) (fun _ => awk hx fun v hx' => kp_ext hx' (kp_ext hx' (kp_ext hx' (kp_ext hx' (kp_ext hx' (kp_ext hx' ⟨trivial, hK _ (hx.trans' hx')⟩)))))))
    refine ifEq (fun _ => awk hx fun v hx' => kp_ext hx' (kp_ext hx' (kp_ext hx' (kp_ext hx' (kp_ext hx' (kp_ext hx' ⟨trivial, hK _ (hx.trans' hx')⟩)))))) (fun hn7 => absurd (hk7.2 ?_) hn7)
    have g1 := hl3.1 hlt
    have g2 := hN.upm hnl
    unfold BLess at g1 g2 ⊢
    omega
end Go.Chg
