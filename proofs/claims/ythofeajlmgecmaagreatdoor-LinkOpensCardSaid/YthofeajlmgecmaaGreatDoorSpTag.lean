/-
  Packages 'tag' and 'changeoverref15'.
-/
import Derived.Test.YthofeajlmgecmaaGreatDoorSpFrm
import Derived.Test.YthofeajlmgecmaaGreatDoorSpTagL
import Derived.Test.YthofeajlmgecmaaGreatDoorMF
import Derived.Test.YthofeajlmgecmaaGreatDoorSpLaw14
set_option maxRecDepth 20000
set_option linter.unusedVariables false
namespace Go.Chg
open Go.Vc
variable {w w' : World} {m : ApiMsg} {xs : List ApiEntry} {img l : List UInt8} {v u : Int} {s b : Sl} {B : Nat}
/-- The bytes of a message are those of whatever message is the same. -/
theorem MsgEq.letter {a b : ApiMsg} {xs ys : List ApiEntry} {i j : List UInt8} (h : MsgEq a b xs ys i j) : letterB v a xs i = letterB v b ys j := by
  obtain ⟨⟨h1, h2, h3, h4, h5, h6, h7⟩, rfl, rfl⟩ := h
  obtain ⟨a1, a2, a3, a4, a5, a6, a7, a8, a9⟩ := a
  obtain ⟨b1, b2, b3, b4, b5, b6, b7, b8, b9⟩ := b
  dsimp only at h1 h2 h3 h4 h5 h6 h7
  subst h1 h2 h3 h4 h5 h6 h7
  rfl
theorem MsgEq.msgE_ {a b : ApiMsg} {xs ys : List ApiEntry} {i j : List UInt8} (h : MsgEq a b xs ys i j) : msgE a xs i.length = msgE b ys j.length := by
  obtain ⟨⟨h1, h2, h3, h4, h5, h6, h7⟩, rfl, rfl⟩ := h
  obtain ⟨a1, a2, a3, a4, a5, a6, a7, a8, a9⟩ := a
  obtain ⟨b1, b2, b3, b4, b5, b6, b7, b8, b9⟩ := b
  dsimp only at h1 h2 h3 h4 h5 h6 h7
  subst h1 h2 h3 h4 h5 h6 h7
  rfl
theorem MsgEq.ok {a b : ApiMsg} {xs ys : List ApiEntry} {i j : List UInt8} (h : MsgEq a b xs ys i j) (hk : MsgOk b ys j.length) : MsgOk a xs i.length := msgE_ok.1 (h.msgE_.trans (msgE_ok.2 hk))
theorem MsgEq.old {a b : ApiMsg} {xs ys : List ApiEntry} {i j : List UInt8} (h : MsgEq a b xs ys i j) : Old a xs ↔ Old b ys := by
  obtain ⟨⟨_, _, _, _, _, _, h7⟩, rfl, rfl⟩ := h
  unfold Old
  rw [h7]
theorem MsgEq.symm {a b : ApiMsg} {xs ys : List ApiEntry} {i j : List UInt8} (h : MsgEq a b xs ys i j) : MsgEq b a ys xs j i := by
  obtain ⟨⟨h1, h2, h3, h4, h5, h6, h7⟩, h8, h9⟩ := h
  exact ⟨⟨h1.symm, h2.symm, h3.symm, h4.symm, h5.symm, h6.symm, h7.symm⟩, h8.symm, h9.symm⟩
theorem MsgEq.olderE {a b : ApiMsg} {xs ys : List ApiEntry} {i j : List UInt8} {e : Int} (h : MsgEq a b xs ys i j) (k : OlderE a xs i.length e) : OlderE b ys j.length e := by
  unfold OlderE at k ⊢
  rw [← h.msgE_, ← h.old]
  rcases k with k | ⟨k1, k2⟩ | ⟨k1, k2⟩
  · exact .inl k
  · exact .inr (.inl ⟨h.symm.ok k1, k2⟩)
  · exact .inr (.inr ⟨h.symm.ok k1, k2⟩)
theorem MsgEq.tagE {a b : ApiMsg} {xs ys : List ApiEntry} {i j : List UInt8} {e : Int} (h : MsgEq a b xs ys i j) (k : TagE v a xs i.length e) : TagE v b ys j.length e := by
  rcases k with k | ⟨k1, k2⟩ | ⟨k1, k2⟩
  · exact .inl k
  · exact .inr (.inl ⟨k1, h.olderE k2⟩)
  · exact .inr (.inr ⟨k1, k2.trans h.msgE_⟩)
/-- What is wrong, or the bytes. -/
def EncV (B : Nat) (w' : World) (v : Int) (m : ApiMsg) (xs : List ApiEntry) (img bs : List UInt8) (r : Sl × Int) : Prop :=
  ∃ e, TagE v m xs img.length e ∧ (e ≠ 0 ∧ r = (Sl.nil, e) ∨ e = 0 ∧ r.2 = 0 ∧ OwnSl eB w' B r.1 bs)
abbrev WrapR (B : Nat) (w' : World) (v : Int) (m : ApiMsg) (xs : List ApiEntry) (img : List UInt8) (r : Sl × Int) : Prop := EncV B w' v m xs img (letterB v m xs img) r
theorem tag_encode_spec {K : Sl × Int → World → Prop} (ht : Utf8T w) (h : MsgAt w m xs img) (hv : v = 1 ∨ v = 2) (hK : ∀ r w', EncV w.heap.size w' v m xs img (msgVB v m xs img) r → Ext w w' → K r w') : tag_encode v m K w := by
  unfold tag_encode
  refine new_x (Ext.rfl' w) fun b1 w2 hb1 hl1 hx hn2 => ?_
  have z2 := hx.size
  refine ifEq (fun h1 => ?_) (fun h1 => ?_)
  · refine msgone_Encode_calls (m := m) (msgone_Encode_spec (ht.ext hx) (h.ext hx) fun r w4 hr hx' => kp_ext hx' (hK r w4 ?_ (hx.trans' hx')))
    obtain ⟨e, he, hr⟩ := hr
    refine ⟨e, .inr (.inl ⟨h1, he⟩), hr.imp id fun ⟨h2, h3, h4⟩ => ⟨h2, h3, ?_⟩⟩
    unfold msgVB
    rw [if_pos h1]
    exact h4.mono z2
  · refine msgtwo_Encode_calls (m := m) (msgtwo_Encode_spec (ht.ext hx) (h.ext hx) fun r w4 hr hx' => kp_ext hx' (hK r w4 ?_ (hx.trans' hx')))
    have hv2 : v = 2 := by omega
    rcases hr with ⟨h2, h3⟩ | ⟨h2, h3, h4⟩
    · exact ⟨_, .inr (.inr ⟨hv2, rfl⟩), .inl ⟨h2, h3⟩⟩
    · refine ⟨0, .inr (.inr ⟨hv2, (msgE_ok.2 h2).symm⟩), .inr ⟨rfl, h3, ?_⟩⟩
      unfold msgVB
      rw [if_neg h1]
      exact h4.mono z2
theorem tag_Wrap_spec {K : Sl × Int → World → Prop} (ht : Utf8T w) (hc : CrcT w) (h : MsgAt w m xs img) (h40 : xs.length ≤ 40) (hK : ∀ r w', WrapR w.heap.size w' v m xs img r → Ext w w' → K r w') : tag_Wrap v m K w := by
  unfold tag_Wrap
  refine new_x (Ext.rfl' w) fun b1 w2 hb1 hl1 hx hn2 => ?_
  have z2 := hx.size
  refine vers_May_calls (vers_May_eq fun t hv => kp_same ?_)
  refine ifNot (ifB_of (fun htt => ?_) (fun htt => hK _ _ ⟨8, .inl ⟨?_, rfl⟩, .inl ⟨by decide, rfl⟩⟩ hx))
  rotate_left
  · have : ¬ (v = 1 ∨ v = 2) := fun k => by rw [hv.2 k] at htt; cases htt
    omega
  have hv := hv.1 htt
  refine tag_encode_calls (m := m) (tag_encode_spec (ht.ext hx) (h.ext hx) hv fun r w6 hr hx' => kp_ext hx' ?_)
  have hx := hx.trans' hx'
  have z6 := hx'.size
  obtain ⟨e, he, hr⟩ := hr
  refine ifNe (fun h0 => ?_) (fun h0 => ?_)
  · rcases hr with ⟨_, rfl⟩ | ⟨_, h2, _⟩
    · exact hK _ _ ⟨e, he, .inl ⟨h0, rfl⟩⟩ hx
    · exact absurd h2 h0
  obtain ⟨rfl, h2, ho⟩ : e = 0 ∧ r.2 = 0 ∧ OwnSl eB w6 w2.heap.size r.1 (msgVB v m xs img) := hr.resolve_left (fun ⟨h1, h2⟩ => by rw [h2] at h0; exact h1 h0)
  obtain ⟨_, hok, hold⟩ := he.ok rfl
  obtain ⟨l1, l2⟩ := body_small (v := v) hok h40
  have ev : IntKind.u8.wrap v = ((b8 v.toNat).toNat : Int) := by rcases hv with rfl | rfl <;> rfl
  rw [ev]
  refine lit_ty 1 (E := eB) (xs := [b8 v.toNat]) w2.heap.size (by kernel_rfl) rfl (by decide) (fun w => by kernel_rfl) z6 fun o7 w8 _ ho7 hx8 => kp_ext hx8 ?_
  have hx := hx.trans' hx8
  have z8 := hx8.size
  unfold bodyB at l1 l2
  rw [List.length_cons] at l1 l2
  refine app_ty 1 (by kernel_rfl) (by kernel_rfl) ho7 (ho.ext hx8).is (by simp only [List.length_singleton]; omega) (by omega) (by decide) fun o9 w10 ho9 hg => kp_O ho7 (by omega) hg ?_
  have hx := Ext.own hx ho7 (by omega) hg
  have z10 := hg.size
  refine frame_Add_calls (frame_Add_spec (pre := []) (hc.ext hx) (.nilSl _ _) ho9.is (by decide) fun r2 w12 hr2 hx' => kp_ext hx' (hK r2 w12 ?_ (hx.trans' hx')))
  have el : ([b8 v.toNat] ++ msgVB v m xs img) = bodyB v m xs img := rfl
  rw [el] at hr2
  rcases hr2 with ⟨k, _⟩ | ⟨k, _⟩ | ⟨_, _, k1, k2⟩
  · unfold bodyB at k; rw [List.length_cons] at k; omega
  · unfold bodyB at k; rw [List.length_cons] at k; omega
  · exact ⟨0, he, .inr ⟨rfl, k1, k2.mono (by omega)⟩⟩
theorem ref15_Check_spec {K : Int → World → Prop} (h : MsgAt w m xs img) (hK : ∀ e w', TagE v m xs img.length e → Ext w w' → K e w') : ref15_Check v m K w := by
  unfold ref15_Check
  refine new_x (Ext.rfl' w) fun b1 w2 hb1 hl1 hx hn2 => ?_
  refine ifD (fun h1 => hK _ _ (.inl ⟨.inl h1, rfl⟩) hx) (fun h1 => ?_)
  refine ifD (fun h2 => hK _ _ (.inl ⟨.inr h2, rfl⟩) hx) (fun h2 => ?_)
  refine ifEq (fun h3 => ?_) (fun h3 => ?_)
  · exact ref13_Older_calls (m := m) (ref13_Older_spec (h.ext hx) fun e w4 he hx' => kp_ext hx' (hK _ _ (.inr (.inl ⟨h3, he⟩)) (hx.trans' hx')))
  · exact ref13_Check_calls (m := m) (ref13_Check_spec (h.ext hx) fun w4 hx' => kp_ext hx' (hK _ _ (.inr (.inr ⟨by omega, rfl⟩)) (hx.trans' hx')))
theorem ref15_Letter_spec {K : Sl → World → Prop} (h : MsgAt w m xs img) (hv : v = 1 ∨ v = 2) (hok : MsgOk m xs img.length) (hB : (bodyB v m xs img).length ≤ 65536) (hK : ∀ o w', OwnSl eB w' w.heap.size o (letterB v m xs img) → Ext w w' → K o w') : ref15_Letter v m K w := by
  unfold ref15_Letter
  refine new_x (Ext.rfl' w) fun b1 w2 hb1 hl1 hx hn2 => ?_
  have z2 := hx.size
  have ev : IntKind.u8.wrap v = ((b8 v.toNat).toNat : Int) := by rcases hv with rfl | rfl <;> rfl
  have l2 := hB
  unfold bodyB at l2
  rw [List.length_cons] at l2
  rw [ev]
  refine lit_ty 1 (E := eB) (xs := [b8 v.toNat]) w2.heap.size (by kernel_rfl) rfl (by decide) (fun w => by kernel_rfl) (Nat.le_refl _) fun o3 w4 _ ho3 hx4 => kp_ext hx4 ?_
  have hx := hx.trans' hx4
  have z4 := hx4.size
  have fin : ∀ {o5 : Sl} {w6 : World} {bs : List UInt8}, bs = msgVB v m xs img → OwnSl eB w6 w4.heap.size o5 bs → Ext w4 w6 → opTy Pr (Builtin.append_ #[22, 22] 22 #[o3.val, o5.val]) Sl.val (fun b7 w8 => kp b1 w6 w8 <| callV Pr Sl.val fid_ref03_Frame #[b7.val] w8 fun t9 w10 => kp b1 w8 w10 <| K t9 w10) w6 := by
    rintro o5 w6 _ rfl ho5 hx6
    have z6 := hx6.size
    refine app_ty 1 (by kernel_rfl) (by kernel_rfl) (ho3.ext hx6) ho5.is (by simp only [List.length_singleton]; omega) (by omega) (by decide) fun o7 w8 ho7 hg => kp_O (ho3.ext hx6) (by omega) hg ?_
    have hx := Ext.own (hx.trans' hx6) (ho3.ext hx6) (by omega) hg
    have z8 := hx.size
    refine ref03_Frame_calls (ref03_Frame_spec ho7.is (by simp only [List.length_append, List.length_singleton]; omega) fun o9 w10 ho9 hx' => kp_ext hx' (hK _ _ (ho9.mono z8) (hx.trans' hx')))
  refine ifEq (fun h1 => ?_) (fun h1 => ?_)
  · refine ref13_Bytes_calls (m := m) (ref13_Bytes_spec (h.ext hx) hok fun o5 w6 ho5 hx' => kp_ext hx' (fin ?_ ho5 hx'))
    unfold msgVB
    rw [if_pos h1]
  · refine ref14_Bytes_calls (m := m) (ref14_Bytes_spec (h.ext hx) hok fun o5 w6 ho5 hx' => kp_ext hx' (fin ?_ ho5 hx'))
    unfold msgVB
    rw [if_neg h1]
/-! ### Reading -/
def DecV (B : Nat) (w' : World) (v : Int) (l : List UInt8) (d : ApiMsg × Int) : Prop := (v = 1 ∧ DecM B w' l d) ∨ (v = 2 ∧ DecM2 B w' l d)
theorem DecV.turn {C : Nat} {w'' : World} {d : ApiMsg × Int} (h : DecV B w' v l d) (h1 : ∀ s xs, OwnSl eApiEntry w' B s xs → OwnSl eApiEntry w'' C s xs) (h2 : ∀ s xs, OwnSl eB w' B s xs → OwnSl eB w'' C s xs) : DecV C w'' v l d := by
  rcases h with ⟨hv, h⟩ | ⟨hv, h⟩
  · refine .inl ⟨hv, h.bad, fun h0 => ?_, h.whole⟩
    obtain ⟨es, im, xs, img, k1, k2, k3, k4, k5, k6⟩ := h.good h0
    exact ⟨es, im, xs, img, k1, k2, k3, h1 _ _ k4, h2 _ _ k5, k6⟩
  · refine .inr ⟨hv, h.bad, fun h0 => ?_, h.whole⟩
    obtain ⟨es, im, k1, k4, k5, k6⟩ := h.good h0
    exact ⟨es, im, k1, h1 _ _ k4, h2 _ _ k5, k6⟩
theorem DecV.wrO {b1 : Nat} {w'' : World} {d : ApiMsg × Int} (h : DecV B w' v l d) (hw : Wr b1 w' w'') (hb : b1 < B) : DecV B w'' v l d := h.turn (fun _ _ k => k.wrO hw hb) fun _ _ k => k.wrO hw hb
theorem DecV.mono {C : Nat} {d : ApiMsg × Int} (h : DecV B w' v l d) (hB : C ≤ B) : DecV C w' v l d := h.turn (fun _ _ k => k.mono hB) fun _ _ k => k.mono hB
theorem DecV.nw {b1 : Nat} {w1 w2 : World} {d : ApiMsg × Int} (h : DecV B w' v l d) (hn : New b1 w' w1) (hw : Wr b1 w1 w2) : DecV B w2 v l d :=
  h.turn (fun _ _ k => (k.ext (Ext.new hn)).wrN hw k.lt (by rw [hn.1]; exact Nat.le_refl _)) fun _ _ k => (k.ext (Ext.new hn)).wrN hw k.lt (by rw [hn.1]; exact Nat.le_refl _)
theorem tag_decode_spec {K : ApiMsg × Int → World → Prop} (ht : Utf8T w) (hb : IsSl eB w b l) (hl : l.length ≤ 140737488355328) (hv : v = 1 ∨ v = 2) (hK : ∀ r w', DecV w.heap.size w' v l r → Ext w w' → K r w') : tag_decode v b K w := by
  unfold tag_decode
  refine new_x (Ext.rfl' w) fun b1 w2 hb1 hl1 hx hn2 => ?_
  have z2 := hx.size
  have fin : ∀ {r : ApiMsg × Int} {w4 : World}, DecV w2.heap.size w4 v l r → Ext w2 w4 → wrM b1 (fun w5 => K r w5) w4 := fun hr hx4 => wr_x (hx.trans' hx4) hb1 fun w5 hx5 hw5 => hK _ _ ((hr.wrO hw5 (by omega)).mono z2) hx5
  refine ifEq (fun h1 => ?_) (fun h1 => ?_)
  · exact msgone_Decode_calls (msgone_Decode_spec (ht.ext hx) (hb.ext hx) hl fun r w4 hr hx' => kp_ext hx' (fin (.inl ⟨h1, hr⟩) hx'))
  · exact msgtwo_Decode_calls (msgtwo_Decode_spec (ht.ext hx) (hb.ext hx) hl fun r w4 hr hx' => kp_ext hx' (fin (.inr ⟨by omega, hr⟩) hx'))
/-- What a letter is opened as. -/
def OpenR (B : Nat) (w' : World) (v : Int) (l : List UInt8) (r : ApiMsg × Int × Int) : Prop :=
  (¬ (v = 1 ∨ v = 2) ∧ r = (zMsg, 0, 8)) ∨
  ((v = 1 ∨ v = 2) ∧ (nextF l 0).2.2 ≠ 0 ∧ r = (zMsg, 0, (nextF l 0).2.2)) ∨
  ((v = 1 ∨ v = 2) ∧ (nextF l 0).2.2 = 0 ∧ (nextF l 0).2.1 < l.length ∧ r = (zMsg, 0, 3)) ∨
  ((v = 1 ∨ v = 2) ∧ (nextF l 0).2.2 = 0 ∧ ¬ (nextF l 0).2.1 < l.length ∧ ∃ (c : UInt8) (cs : List UInt8), (nextF l 0).1 = c :: cs ∧
    ((¬ (1 ≤ (c.toNat : Int) ∧ (c.toNat : Int) ≤ v) ∧ r = (zMsg, 0, 8)) ∨
     ((1 ≤ (c.toNat : Int) ∧ (c.toNat : Int) ≤ v) ∧ ∃ d, DecV B w' c.toNat cs d ∧ ((d.2 ≠ 0 ∧ r = (zMsg, 0, d.2)) ∨ (d.2 = 0 ∧ r = (d.1, (c.toNat : Int), 0))))))
theorem tag_Open_1_spec {e : Int} {K : ApiMsg × Int × Int → World → Prop} (hK : ∀ w', Ext w w' → K (zMsg, 0, e) w') : tag_Open_1 e K w := by
  unfold tag_Open_1
  exact new_x (Ext.rfl' w) fun b1 w2 hb1 hl1 hx hn2 => wr_x hx hb1 fun w3 hx _ => hK _ hx
theorem tag_Open_spec {K : ApiMsg × Int × Int → World → Prop} (ht : Utf8T w) (hc : CrcT w) (hb : IsSl eB w b l) (hl : l.length ≤ 140737488355328) (hK : ∀ r w', OpenR w.heap.size w' v l r → Ext w w' → K r w') : tag_Open v b K w := by
  unfold tag_Open
  refine new_x (Ext.rfl' w) fun b1 w2 hb1 hl1 hx hn2 => ?_
  have z2 := hx.size
  have hlen := hb.len
  have none_ : ∀ {e : Int} {w4 : World}, (∀ w', OpenR w.heap.size w' v l (zMsg, 0, e)) → Ext w w4 → callV Pr (tval3 ApiMsg.val (Value.int .i64) (Value.int .i64)) fid_tag_Open_1 #[(.int .i64 e)] w4 fun t5 w6 => kp b1 w4 w6 <| wrM b1 (fun w7 => K t5 w7) w6 := fun h hx =>
    tag_Open_1_calls (tag_Open_1_spec fun w6 hx' => kp_ext hx' (wr_x (hx.trans' hx') hb1 fun w7 hx7 _ => hK _ _ (h _) hx7))
  refine vers_May_calls (vers_May_eq fun t hv => kp_same ?_)
  refine ifNot (ifB_of (fun htt => ?_) (fun htt => none_ (fun w' => .inl ⟨fun k => (by rw [hv.2 k] at htt; cases htt), rfl⟩) hx))
  have hv := hv.1 htt
  refine frame_Next_calls (frame_Next_spec (hc.ext hx) (hb.ext hx) hl fun o8 w9 ho8 hx' => kp_ext hx' ?_)
  have hx := hx.trans' hx'
  have z9 := hx'.size
  refine ifNe (fun h0 => none_ (fun w' => .inr (.inl ⟨hv, h0, rfl⟩)) hx) (fun h0 => ?_)
  rw [hlen]
  refine ifD (fun h1 => none_ (fun w' => .inr (.inr (.inl ⟨hv, h0, h1, rfl⟩))) hx) (fun h1 => ?_)
  obtain ⟨n, hn1, hn2', hn3, _⟩ := nextF_ok h0
  obtain ⟨c, cs, hcs⟩ : ∃ c cs, (nextF l 0).1 = c :: cs := by
    cases hh : (nextF l 0).1 with
    | nil => rw [hh, List.length_nil] at hn1; omega
    | cons c cs => exact ⟨c, cs, rfl⟩
  rw [hcs] at ho8 hn1
  rw [List.length_cons] at hn1
  have hcl := c.toNat_lt
  refine el_rd (E := eB) (y := (c.toNat : Int)) (k := 0) (by kernel_rfl) (by kernel_rfl) ho8.is rfl (by simp) rfl fun _ => ?_
  have ew : IntKind.i64.wrap (c.toNat : Int) = (c.toNat : Int) := i64_id (n := (c.toNat : Int)) (by omega) (by omega)
  rw [ew]
  have no : ∀ {w4 : World}, ¬ (1 ≤ (c.toNat : Int) ∧ (c.toNat : Int) ≤ v) → Ext w w4 → _ := fun h hx => none_ (fun w' => .inr (.inr (.inr ⟨hv, h0, h1, c, cs, hcs, .inl ⟨h, rfl⟩⟩))) hx
  refine vers_May_calls (vers_May_eq fun t hof => kp_same ?_)
  refine ifNot (ifB_of (fun htt => ?_) (fun htt => no (fun k => ?_) hx))
  rotate_left
  · have : ¬ ((c.toNat : Int) = 1 ∨ (c.toNat : Int) = 2) := fun k => by rw [hof.2 k] at htt; cases htt
    omega
  have hof := hof.1 htt
  refine ifD (fun h2 => no (fun k => by omega) hx) (fun h2 => ?_)
  refine sub_l (m := 1) (by kernel_rfl) ho8.is rfl (by simp) fun o26 hs26 _ => ?_
  refine tag_decode_calls (tag_decode_spec (ht.ext hx) hs26 (by simp; omega) hof fun d w28 hd hx' => kp_ext hx' ?_)
  have hx := hx.trans' hx'
  have z28 := hx'.size
  refine new_x hx fun b29 w30 hb29 hl29 hx hn30 => wr_x hx hb29 fun w31 hx hw31 => ?_
  have hd := (hd.nw hn30 hw31)
  have hd1 : List.drop 1 (c :: cs) = cs := rfl
  rw [hd1] at hd
  have e30 := hn30.1
  refine ifNe (fun hd0 => ?_) (fun hd0 => ?_)
  · refine tag_Open_1_calls (tag_Open_1_spec fun w33 hx' => kp_ext hx' (kp_ext hx' (wr_x (hx.trans' hx') hb1 fun w34 hx34 hw34 => hK _ _ (.inr (.inr (.inr ⟨hv, h0, h1, c, cs, hcs, .inr ⟨by omega, d, ?_, .inl ⟨hd0, rfl⟩⟩⟩))) hx34)))
    exact ((hd.turn (fun _ _ k => k.ext hx') fun _ _ k => k.ext hx').wrO hw34 (by omega)).mono (by omega)
  · refine wr_x hx hb1 fun w34 hx34 hw34 => hK _ _ (.inr (.inr (.inr ⟨hv, h0, h1, c, cs, hcs, .inr ⟨by omega, d, ?_, .inr ⟨hd0, rfl⟩⟩⟩))) hx34
    exact (hd.wrO hw34 (by omega)).mono (by omega)
theorem OpenR.bad {r : ApiMsg × Int × Int} (h : OpenR B w' v l r) (h0 : r.2.2 ≠ 0) : r.1 = zMsg ∧ r.2.1 = 0 := by
  rcases h with ⟨_, rfl⟩ | ⟨_, _, rfl⟩ | ⟨_, _, _, rfl⟩ | ⟨_, _, _, c, cs, _, ⟨_, rfl⟩ | ⟨_, d, _, ⟨_, rfl⟩ | ⟨_, rfl⟩⟩⟩
  all_goals first | exact ⟨rfl, rfl⟩ | exact absurd rfl h0
/-- What was opened has just that letter. -/
theorem OpenR.inv {r : ApiMsg × Int × Int} (h : OpenR B w' v l r) (h0 : r.2.2 = 0) : ∃ xs img, OwnSl eApiEntry w' B r.1.Entries xs ∧ OwnSl eB w' B r.1.Image img ∧ MsgOk r.1 xs img.length ∧ (r.2.1 = 1 ∨ r.2.1 = 2) ∧ r.2.1 ≤ v ∧ (r.2.1 = 1 → Old r.1 xs) ∧ l = letterB r.2.1 r.1 xs img := by
  rcases h with ⟨_, rfl⟩ | ⟨_, k, rfl⟩ | ⟨_, _, _, rfl⟩ | ⟨hv, hf, hq, c, cs, hcs, ⟨_, rfl⟩ | ⟨hcv, d, hd, ⟨k, rfl⟩ | ⟨k, rfl⟩⟩⟩
  · cases h0
  · exact absurd h0 k
  · cases h0
  · cases h0
  · exact absurd h0 k
  have hl := nextF_whole hf hq
  rw [hcs] at hl
  have hc8 : b8 ((c.toNat : Int)).toNat = c := by simp [b8]
  rcases hd with ⟨h1, hd⟩ | ⟨h1, hd⟩
  · obtain ⟨xs, img, k1, k2, k3, k4, k5⟩ := hd.inv k
    refine ⟨xs, img, k1, k2, k3, .inl h1, hcv.2, fun _ => k4, ?_⟩
    rw [hl, k5]
    unfold letterB bodyB msgVB
    dsimp only
    rw [if_pos h1, hc8]
  · obtain ⟨xs, img, k1, k2, k3, k5⟩ := hd.inv k
    refine ⟨xs, img, k1, k2, k3, .inr h1, hcv.2, fun e => by dsimp only at e; omega, ?_⟩
    rw [hl, k5]
    unfold letterB bodyB msgVB
    dsimp only
    rw [if_neg (by omega), hc8]
theorem letter_next (hok : MsgOk m xs img.length) (h40 : xs.length ≤ 40) : (nextF (letterB u m xs img) 0) = (bodyB u m xs img, ((letterB u m xs img).length : Int), 0) := nextF_frame (body_small hok h40).1 (body_small hok h40).2
/-- A letter is opened as what it is of, by a reader that is new enough. -/
theorem OpenR.took {r : ApiMsg × Int × Int} (h : OpenR B w' v (letterB u m xs img) r) (hu : u = 1 ∨ u = 2) (hok : MsgOk m xs img.length) (hold : u = 1 → Old m xs) (h40 : xs.length ≤ 40) (hv : u ≤ v ∧ v ≤ 2) :
    r.2.2 = 0 ∧ r.2.1 = u ∧ ∃ ys jmg, OwnSl eApiEntry w' B r.1.Entries ys ∧ OwnSl eB w' B r.1.Image jmg ∧ MsgEq r.1 m ys xs jmg img := by
  have hn := letter_next (u := u) hok h40
  have e8 : ((b8 u.toNat).toNat : Int) = u := by rcases hu with rfl | rfl <;> rfl
  unfold OpenR at h
  rw [hn] at h
  rcases h with ⟨k, _⟩ | ⟨_, k, _⟩ | ⟨_, _, k, _⟩ | ⟨_, hf, hq, c, cs, hcs, ⟨k, _⟩ | ⟨hcv, d, hd, hk⟩⟩
  · omega
  · exact absurd rfl k
  · exact absurd k (Int.lt_irrefl _)
  · cases hcs
    rw [e8] at k
    omega
  cases hcs
  rw [e8] at hd hk
  have key : d.2 = 0 ∧ ∃ ys jmg, OwnSl eApiEntry w' B d.1.Entries ys ∧ OwnSl eB w' B d.1.Image jmg ∧ MsgEq d.1 m ys xs jmg img := by
    rcases hd with ⟨h1, hd⟩ | ⟨h1, hd⟩
    · unfold msgVB at hd
      rw [if_pos h1] at hd
      exact hd.took hok (hold h1)
    · unfold msgVB at hd
      rw [if_neg (by omega)] at hd
      exact hd.took hok
  obtain ⟨d0, ys, jmg, k1, k2, k3⟩ := key
  rcases hk with ⟨k, _⟩ | ⟨_, rfl⟩
  · exact absurd d0 k
  · exact ⟨rfl, rfl, ys, jmg, k1, k2, k3⟩
/-- No other reader opens it. -/
theorem OpenR.newer {r : ApiMsg × Int × Int} (h : OpenR B w' v (letterB u m xs img) r) (hu : u = 1 ∨ u = 2) (hok : MsgOk m xs img.length) (h40 : xs.length ≤ 40) (hv : v < u ∨ 2 < v) : r = (zMsg, 0, 8) := by
  have hn := letter_next (u := u) hok h40
  have e8 : ((b8 u.toNat).toNat : Int) = u := by rcases hu with rfl | rfl <;> rfl
  unfold OpenR at h
  rw [hn] at h
  rcases h with ⟨k, h⟩ | ⟨_, k, _⟩ | ⟨_, _, k, _⟩ | ⟨_, hf, hq, c, cs, hcs, ⟨k, h⟩ | ⟨hcv, d, hd, hk⟩⟩
  · exact h
  · exact absurd rfl k
  · exact absurd k (Int.lt_irrefl _)
  · exact h
  · cases hcs
    rw [e8] at hcv
    omega
end Go.Chg
