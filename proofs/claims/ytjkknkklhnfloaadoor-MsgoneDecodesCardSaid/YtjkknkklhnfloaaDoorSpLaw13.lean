/-
  The laws of chapter 13.
-/
import Derived.Test.YtjkknkklhnfloaaDoorSpMsg4
import Derived.Test.YtjkknkklhnfloaaDoorMZ
set_option maxRecDepth 20000
set_option linter.unusedVariables false
namespace Go.Chg
open Go.Vc
variable {w : World} {m : ApiMsg} {xs : List ApiEntry} {img l : List UInt8} {v p q no k : Int} {s : Sl}
theorem ref13_Bytes_spec {K : Sl → World → Prop} (h : MsgAt w m xs img) (hok : MsgOk m xs img.length) (hK : ∀ o w', OwnSl eB w' w.heap.size o (msg1B m xs img) → Ext w w' → K o w') : ref13_Bytes m K w := by
  unfold ref13_Bytes
  have hnum := nums_le hok
  have h7 : (numsL m).length = 7 := rfl
  have hent := fun x hx => entOk_num (hok.each x hx)
  have himg := hok.img
  have hlen := msg1B_len hok
  refine new_x (Ext.rfl' w) fun b1 w2 hb1 hl1 hx _ => ?_
  have hB0 : w.heap.size ≤ w2.heap.size := by omega
  refine lit_ty 8 (E := eK .i64) (xs := numsL m) w2.heap.size (by kernel_rfl) rfl (by decide) (fun w => by kernel_rfl) (Nat.le_refl _) fun t w4 ha ht hx4 => kp_ext hx4 ?_
  have hx := hx.trans' hx4
  have z4 := hx4.size
  have tge := ht.ge
  have tlt := ht.lt
  have tlen := ht.len
  have put : ∀ {ta tx ty : TypeId} {u : World} {out y : Sl} {L M : List UInt8} {X : Sl → World → Prop}, appOk Pr ta (elemT Pr ta) 1 1 = true → isSlT Pr tx = true → OwnSl eB u w4.heap.size out L → IsSl eB u y M → Ext w4 u → L.length + M.length ≤ 140737488355328 →
      (∀ s u', OwnSl eB u' w4.heap.size s (L ++ M) → Ext w4 u' → X s u') → opTy Pr (Builtin.append_ #[ta, tx] ty #[out.val, y.val]) Sl.val (fun o u' => kp b1 u u' <| X o u') u := fun h1 h2 ho hy hx hlen hX =>
    app_ty 1 h1 h2 ho hy (by omega) hx.size (by decide) fun s u' hs hg => kp_O ho (by omega) hg (hX _ _ hs (Ext.own hx ho (Nat.le_refl _) hg))
  refine up2b (fun k o u => OwnSl eB u w4.heap.size o (((numsL m).take k).flatMap encI) ∧ Ext w4 u) 0 7 rfl (by decide) (by decide) ⟨.nil _ _ _, Ext.rfl' _⟩ ?_
  rintro k o w7 C _ hk ⟨ho, hy⟩ hC
  have hsm := take_flat_le (xs := numsL m) (B := encI) (m := 9) (fun n hn => encI_len (hnum n hn).2) k
  rw [h7] at hsm
  refine ifD (fun hlt => ?_) (fun hge => ?_)
  · have hk7 : k < 7 := by omega
    have hk1 : k < (numsL m).length := hk7
    have hm := hnum _ (List.getElem_mem hk1)
    have e1 : (enc (numsL m)[k].toNat).length ≤ 9 := encI_len hm.2
    refine el_rd (E := eK .i64) (y := (numsL m)[k]) (by kernel_rfl) (by kernel_rfl) (ht.is.ext hy) rfl hk1 rfl fun _ => ?_
    refine ref01_Bytes_calls (ref01_Bytes_spec hm.2 fun t9 w10 h9 hx' => kp_ext hx' ?_)
    refine put (by kernel_rfl) (by kernel_rfl) (ho.ext hx') h9.is (hy.trans' hx') (by omega) fun s u' hs hy' => hC hk7 _ _ _ rfl ⟨?_, hy'⟩
    rw [flatMap_up hk1]
    exact hs
  obtain rfl : k = 7 := by omega
  have ewhole : (numsL m).take 7 = numsL m := rfl
  rw [ewhole] at ho hsm
  have he : (entsB 1 xs).length ≤ 10000000000 := by
    unfold msg1B at hlen
    simp only [List.length_append] at hlen
    omega
  have e2 := enc_len9 (n := (img.length : Int)) (by omega)
  rw [Int.toNat_natCast] at e2
  refine ref12_Bytes_calls (ref12_Bytes_spec (h.es.ext (hx.trans' hy)) hent (by have := hok.few; omega) fun o2 u2 h4 hx2 => kp_ext hx2 ?_)
  refine put (by kernel_rfl) (by kernel_rfl) (ho.ext hx2) h4.is (hy.trans' hx2) (by omega) fun o3 u3 ho3 hy => ?_
  have hil := h.im.len
  rw [hil]
  refine ref01_Bytes_calls (ref01_Bytes_spec (by omega) fun o4 u4 h5 hx3 => kp_ext hx3 ?_)
  rw [Int.toNat_natCast] at h5
  refine put (by kernel_rfl) (by kernel_rfl) (ho3.ext hx3) h5.is (hy.trans' hx3) (by simp only [List.length_append]; omega) fun o5 u5 ho5 hy => ?_
  refine put (by kernel_rfl) (by kernel_rfl) ho5 (h.im.ext (hx.trans' hy)) hy (by simp only [List.length_append]; omega) fun o6 u6 ho6 hy => hK _ _ ?_ (hx.trans' hy)
  unfold msg1B
  rw [List.append_assoc, List.append_assoc] at ho6
  rw [List.append_assoc]
  exact ho6.mono (by omega)

/-! ### The laws -/
def exMsg1 : ApiMsg := ⟨9, 1, 2, ⟨0, 0⟩, 3, 0, 0, Sl.nil, Sl.nil⟩
theorem exMsg1_ok : MsgOk exMsg1 [] 0 ∧ Old exMsg1 [] := by
  refine ⟨⟨⟨by decide, by decide⟩, ⟨⟨⟨by decide, by decide⟩, ⟨by decide, by decide⟩, by decide⟩, fun h => (by cases h), fun _ => ⟨by decide, by decide⟩, fun h => (by cases h), fun h => (by cases h)⟩, fun h => ?_, fun h => (by cases h), fun _ => rfl, fun h => (by cases h), fun _ => rfl, fun _ => rfl, fun _ => rfl, ⟨fun h => (by cases h), fun h => absurd h (Nat.lt_irrefl _)⟩, fun h => (by cases h)⟩, fun x hx => (by cases hx), by decide⟩
  rcases h with ⟨h, _⟩ | ⟨h, _⟩ <;> cases h
theorem exMsg1_bytes : msg1B exMsg1 [] [] = [9, 1, 2, 0, 0, 3, 0, 0, 0] := by
  have e : ∀ n : Nat, n < 128 → enc n = [b8 n] := fun n h => enc_small h
  show enc 9 ++ (enc 1 ++ (enc 2 ++ (enc 0 ++ (enc 0 ++ (enc 3 ++ (enc 0 ++ [])))))) ++ (enc 0 ++ []) ++ (enc 0 ++ []) = _
  rw [e 9 (by decide), e 1 (by decide), e 2 (by decide), e 3 (by decide), e 0 (by decide)]
  rfl
theorem law13_awake_spec {K : Bool → World → Prop} (ht : Utf8T w) (hK : ∀ w', Ext w w' → K true w') : law13_awake K w := by
  unfold law13_awake
  refine msgone_Encode_calls (m := exMsg1) (msgone_Encode_spec (xs := []) (img := []) ht ⟨.nilSl _ _, .nilSl _ _⟩ fun r w2 hr hx => ?_)
  obtain ⟨e, he, ⟨h1, _⟩ | ⟨_, h0, ho⟩⟩ := hr
  · exact absurd (he.uniq (.inr (.inr ⟨exMsg1_ok.1, exMsg1_ok.2, rfl⟩))) h1
  rw [exMsg1_bytes] at ho
  have hl := ho.len
  refine ifEq (fun _ => ?_) (fun h => absurd h0 h)
  refine ifEq (fun _ => ?_) (fun h => absurd (by rw [hl]; rfl) h)
  refine el_rd (E := eB) (y := (9 : Int)) (k := 0) (by kernel_rfl) (by kernel_rfl) ho.is rfl (by decide) (by kernel_rfl) fun _ => ?_
  refine ifEq (fun _ => ?_) (fun h => absurd rfl h)
  refine el_rd (E := eB) (y := (3 : Int)) (k := 5) (by kernel_rfl) (by kernel_rfl) ho.is rfl (by decide) (by kernel_rfl) fun _ => ?_
  exact hK _ hx
theorem MsgEq.rfl1 (m : ApiMsg) (xs : List ApiEntry) (img : List UInt8) : MsgEq m m xs xs img img := ⟨⟨rfl, rfl, rfl, rfl, rfl, rfl, rfl⟩, rfl, rfl⟩
/-- What any bytes are decoded as may be, V1 has it, and it has these bytes. -/
theorem law13_MsgoneDecodes_spec {K : Bool → World → Prop} (ht : Utf8T w) (hs : IsSl eB w s l) (hK : ∀ w', Ext w w' → K true w') : law13_MsgoneDecodes s K w := by
  unfold law13_MsgoneDecodes
  have hsl := hs.len
  refine ifD (fun _ => law13_awake_calls (law13_awake_spec ht hK)) (fun h2000 => ?_)
  refine msgone_Decode_calls (msgone_Decode_spec ht hs (by omega) fun r w4 hr hx => ?_)
  refine new_x hx fun b5 w6 hb5 _ hx hn6 => wr_x hx hb5 fun w7 hx hw7 => ?_
  have e6 := hn6.1
  have awake : ∀ {u : World}, Ext w u → callV Pr Value.bool fid_law13_awake #[] u fun t v => kp b5 u v (K t v) := fun hx => law13_awake_calls (law13_awake_spec (ht.ext hx) fun v hx' => kp_ext hx' (hK _ (hx.trans' hx')))
  refine ifNe (fun h0 => ?_) (fun h0 => ?_)
  · have hz := hr.bad h0
    refine ref13_Same_calls (a := r.1) (b := zMsg) (ref13_Same_spec (xs := []) (img := []) (ys := []) (jmg := []) (by rw [hz]; exact ⟨.nilSl _ _, .nilSl _ _⟩) ⟨.nilSl _ _, .nilSl _ _⟩ fun t w9 ht hx' => kp_ext hx' (ifB_t (ht.2 (by rw [hz]; exact MsgEq.rfl1 _ _ _)) (awake (hx.trans' hx'))))
  obtain ⟨xs, img, hes, him, hok, hold, hbytes⟩ := hr.inv h0
  have le := hes.lt
  have li := him.lt
  have hes := (hes.ext (Ext.new hn6)).wrN hw7 le (by omega)
  have him := (him.ext (Ext.new hn6)).wrN hw7 li (by omega)
  refine ref13_Older_calls (m := r.1) (ref13_Older_spec ⟨hes.is, him.is⟩ fun e w13 he hx' => kp_ext hx' ?_)
  have hx := hx.trans' hx'
  refine ifEq (fun _ => ?_) (fun h => absurd (he.uniq (.inr (.inr ⟨hok, hold, rfl⟩))) h)
  refine ref13_Bytes_calls (m := r.1) (ref13_Bytes_spec ⟨(hes.ext hx').is, (him.ext hx').is⟩ hok fun s14 w15 h14 hx'' => kp_ext hx'' ?_)
  have hx := hx.trans' hx''
  refine ref01_Same_calls (ref01_Same_spec h14.is (hs.ext hx) fun w17 hx' => kp_ext hx' (ifB_t (by rw [← hbytes]; simp) (awake (hx.trans' hx'))))

/-! ### Checks -/
def num8 (m : ApiMsg) : List Int := [m.Kind, m.From, m.To, m.Ballot.Round, m.Ballot.Node, m.Index, m.Commit, m.Version]
theorem msgone_Same_1_spec {K : List Value → World → Prop} (hK : ∀ w', Ext w w' → K ((num8 m).map fun n => .int .i64 n) w') : msgone_Same_1 m K w := by
  unfold msgone_Same_1
  exact new_x (Ext.rfl' w) fun b1 w2 _ _ hx _ => new_x hx fun b3 w4 hb3 _ hx _ => wr_x hx hb3 fun w5 hx _ => hK _ hx
theorem equal_ent_spec {a b : Sl} {la lb : List ApiEntry} {K : Bool → World → Prop} (ha : IsSl eApiEntry w a la) (hb : IsSl eApiEntry w b lb) (hK : ∀ t w', (t = true ↔ la = lb) → Ext w w' → K t w') : slices_Equal_api_Entry_api_Entry a b K w := by
  unfold slices_Equal_api_Entry_api_Entry
  exact same_vc (E := eApiEntry) (r := fun x y => (ApiEntry.eqs x y).all id) (by kernel_rfl) (by kernel_rfl) (by kernel_rfl) (fun _ => rfl) (by kernel_rfl) (fun x y => ApiEntry.eqv x y) (fun x y => ApiEntry.eqs_iff) ha hb hK
theorem equal_byte_spec {a b : Sl} {la lb : List UInt8} {K : Bool → World → Prop} (ha : IsSl eB w a la) (hb : IsSl eB w b lb) (hK : ∀ w', Ext w w' → K (decide (la = lb)) w') : slices_Equal_byte_byte a b K w := by
  unfold slices_Equal_byte_byte
  have h1 := ha.len
  have h2 := hb.len
  refine ifNe (fun hne => ?_) (fun heq => ?_)
  · have := hK w (Ext.rfl' _)
    rwa [decide_eq_false] at this
    rintro rfl
    omega
  have hll : la.length = lb.length := by omega
  refine up1 (fun k w' => Ext w w' ∧ la.take k = lb.take k) 0 la.length rfl (by omega) ha.le ⟨Ext.rfl' _, rfl⟩ ?_
  rintro k w1 C _ hk ⟨hx, ht⟩ hC
  refine ifD (fun hlt => ?_) (fun hge => ?_)
  · have hk1 : k < la.length := by omega
    have hk2 : k < lb.length := by omega
    refine drew_of fun w2 hx2 => ?_
    have hx3 := hx.trans' hx2
    refine el_rd (by kernel_rfl) (by kernel_rfl) (ha.ext hx3) rfl hk1 rfl fun _ => ?_
    refine el_rd (by kernel_rfl) (by kernel_rfl) (hb.ext hx3) rfl hk2 rfl fun _ => ?_
    refine ifNe (fun hne => ?_) (fun heq => hC hk1 _ _ rfl ⟨hx3, ?_⟩)
    · have := hK w2 hx3
      rwa [decide_eq_false] at this
      rintro rfl
      exact hne rfl
    · rw [List.take_succ_eq_append_getElem hk1, List.take_succ_eq_append_getElem hk2, ht]
      congr 2
      exact UInt8.toNat_inj.1 (by omega)
  · rw [List.take_of_length_le (by omega), List.take_of_length_le (by omega)] at ht
    have := hK w1 hx
    rwa [decide_eq_true ht] at this
theorem num8_eq {a b : ApiMsg} : num8 a = num8 b ↔ (a.Kind = b.Kind ∧ a.From = b.From ∧ a.To = b.To ∧ a.Ballot = b.Ballot ∧ a.Index = b.Index ∧ a.Commit = b.Commit ∧ a.Version = b.Version) := by
  unfold num8
  constructor
  · intro h
    injection h with h1 h; injection h with h2 h; injection h with h3 h; injection h with h4 h; injection h with h5 h; injection h with h6 h; injection h with h7 h; injection h with h8 _
    refine ⟨h1, h2, h3, ?_, h6, h7, h8⟩
    cases ha : a.Ballot
    cases hb : b.Ballot
    rw [ha, hb] at h4 h5
    cases h4; cases h5; rfl
  · rintro ⟨h1, h2, h3, h4, h5, h6, h7⟩
    rw [h1, h2, h3, h4, h5, h6, h7]
theorem msgone_Same_spec {a b : ApiMsg} {ys : List ApiEntry} {jmg : List UInt8} {K : Bool → World → Prop} (ha : MsgAt w a xs img) (hb : MsgAt w b ys jmg) (hK : ∀ t w', (t = true ↔ MsgEq a b xs ys img jmg) → Ext w w' → K t w') : msgone_Same a b K w := by
  unfold msgone_Same
  refine new_x (Ext.rfl' w) fun b1 w2 _ _ hx _ => new_x hx fun b3 w4 _ _ hx _ => ?_
  have no : ∀ {u : World}, Ext w u → ¬ MsgEq a b xs ys img jmg → K false u := fun hx h => hK _ _ ⟨fun e => (by cases e), fun e => absurd e h⟩ hx
  refine heldM_of (fun w' => Ext w w') fun w5 hx' => ?_
  have hx := hx.trans' hx'
  refine ⟨hx, ?_⟩
  refine msgone_Same_1_calls (m := a) (msgone_Same_1_spec fun w8 hx' => kp_ext hx' (kp_ext hx' ⟨hx.trans' hx', ?_⟩))
  have hx := hx.trans' hx'
  refine msgone_Same_1_calls (m := b) (msgone_Same_1_spec fun w10 hx' => kp_ext hx' (kp_ext hx' ⟨hx.trans' hx', ?_⟩))
  have hx := hx.trans' hx'
  refine eqSt_S (by kernel_rfl) (eqV_arr (k := .i64) 8 (by kernel_rfl) rfl rfl) (ifD (fun h => ?_) (fun h => no hx fun e => h (num8_eq.2 e.1)))
  refine slices_Equal_api_Entry_api_Entry_calls (equal_ent_spec (ha.es.ext hx) (hb.es.ext hx) fun t w13 ht hx' => kp_ext hx' (kp_ext hx' ⟨hx.trans' hx', ?_⟩))
  have hx := hx.trans' hx'
  refine ifB_of (fun h2 => ?_) (fun h2 => no hx fun e => by rw [ht.2 e.2.1] at h2; cases h2)
  refine slices_Equal_byte_byte_calls (equal_byte_spec (ha.im.ext hx) (hb.im.ext hx) fun w15 hx' => kp_ext hx' (kp_ext hx' ⟨hx.trans' hx', hK _ _ ?_ (hx.trans' hx')⟩))
  rw [decide_eq_true_iff]
  exact ⟨fun h3 => ⟨num8_eq.1 h, ht.1 h2, h3⟩, fun e => e.2.2⟩
/-- What is wrong with any message; which two are the same. -/
theorem law13_MsgoneChecks_spec {o : ApiMsg} {ys : List ApiEntry} {jmg : List UInt8} {K : Bool → World → Prop} (ht : Utf8T w) (h : MsgAt w m xs img) (ho : MsgAt w o ys jmg) (hK : ∀ w', Ext w w' → K true w') : law13_MsgoneChecks m o K w := by
  unfold law13_MsgoneChecks
  refine new_x (Ext.rfl' w) fun b1 w2 _ _ hx _ => new_x hx fun b3 w4 _ _ hx _ => ?_
  have awake : ∀ {u : World} {X : Bool → World → Prop}, Ext w u → (∀ v, Ext u v → X true v) → callV Pr Value.bool fid_law13_awake #[] u X := fun hx h => law13_awake_calls (law13_awake_spec (ht.ext hx) h)
  refine ref13_Large_calls (m := m) (ref13_Large_spec (h.ext hx) fun t w6 _ hx' => kp_ext hx' (kp_ext hx' ?_))
  have hx := hx.trans' hx'
  refine ifB_of (fun _ => awake hx fun v hx' => kp_ext hx' (kp_ext hx' (hK _ (hx.trans' hx')))) (fun _ => ?_)
  refine ref13_Large_calls (m := o) (ref13_Large_spec (ho.ext hx) fun t w10 _ hx' => kp_ext hx' (kp_ext hx' ?_))
  have hx := hx.trans' hx'
  refine ifB_of (fun _ => awake hx fun v hx' => kp_ext hx' (kp_ext hx' (hK _ (hx.trans' hx')))) (fun _ => ?_)
  refine held_x fun w13 hx' => ?_
  have hx := hx.trans' hx'
  refine msgone_Check_calls (m := m) (msgone_Check_spec (ht.ext hx) (h.ext hx) fun w16 hx' => kp_ext hx' (kp_ext hx' ⟨trivial, ?_⟩))
  have hx := hx.trans' hx'
  refine ref13_Check_calls (m := m) (ref13_Check_spec (h.ext hx) fun w18 hx' => kp_ext hx' (kp_ext hx' ⟨trivial, ?_⟩))
  have hx := hx.trans' hx'
  refine ifEq (fun _ => ?_) (fun h => absurd rfl h)
  refine msgone_Same_calls (a := m) (b := o) (msgone_Same_spec (h.ext hx) (ho.ext hx) fun t w20 h1 hx' => kp_ext hx' (kp_ext hx' ⟨trivial, ?_⟩))
  have hx := hx.trans' hx'
  refine ref13_Same_calls (a := m) (b := o) (ref13_Same_spec (h.ext hx) (ho.ext hx) fun t' w22 h2 hx' => kp_ext hx' (kp_ext hx' ⟨trivial, ?_⟩))
  have hx := hx.trans' hx'
  refine ifB_t (by rw [beq_iff_eq, Bool.eq_iff_iff, h1, h2]) ?_
  refine msgone_Same_calls (a := m) (b := m) (msgone_Same_spec (h.ext hx) (h.ext hx) fun t w24 h3 hx' => kp_ext hx' (kp_ext hx' ⟨trivial, ?_⟩))
  have hx := hx.trans' hx'
  exact ifB_t (h3.2 (MsgEq.rfl1 _ _ _)) (awake hx fun v hx' => kp_ext hx' (kp_ext hx' ⟨trivial, hK _ (hx.trans' hx')⟩))
end Go.Chg
