/-
  The laws of chapter 15.
-/
import Derived.Test.YthofeajlmgecmaaGreatDoorSpTag
set_option maxRecDepth 20000
set_option linter.unusedVariables false
namespace Go.Chg
open Go.Vc
variable {w : World} {m : ApiMsg} {xs : List ApiEntry} {img l : List UInt8} {v u : Int} {s b : Sl} {B : Nat}
/-- A greeting. -/
def greetM (k f t v : Int) : ApiMsg := ⟨k, f, t, ⟨0, 0⟩, 0, 0, v, Sl.nil, Sl.nil⟩
theorem greet_ok {k f t v : Int} (hk : k = 1 ∨ k = 2) (hf : NodeOk f) (ht : NodeOk t) (hne : f ≠ t) (hv : v = 1 ∨ v = 2) : MsgOk (greetM k f t v) [] 0 := by
  refine ⟨?_, ⟨⟨hf, ht, hne⟩, ?_, ?_, ?_, fun _ => hv⟩, fun h => ?_, fun _ => rfl, fun _ => rfl, fun _ => rfl, fun _ => rfl, fun h => ?_, fun _ => rfl, ⟨fun h => ?_, fun h => absurd h (Nat.lt_irrefl _)⟩, fun h => ?_⟩
  · show 1 ≤ k ∧ k ≤ 11
    omega
  · intro h; rcases hk with rfl | rfl <;> cases h
  · intro h; rcases hk with rfl | rfl <;> cases h
  · intro h; rcases hk with rfl | rfl <;> cases h
  · rcases h with ⟨_, h⟩ | ⟨_, h⟩ <;> exact absurd h (by simp)
  · rcases hk with rfl | rfl <;> cases h
  · rcases hk with rfl | rfl <;> cases h
  · rcases hk with rfl | rfl <;> cases h
theorem law15_awake_spec {K : Bool → World → Prop} (ht : Utf8T w) (hc : CrcT w) (hK : ∀ w', Ext w w' → K true w') : law15_awake K w := by
  unfold law15_awake
  have hok : MsgOk (greetM 1 1 2 2) [] ([] : List UInt8).length := greet_ok (.inl rfl) ⟨by decide, by decide⟩ ⟨by decide, by decide⟩ (by decide) (.inr rfl)
  refine tag_Wrap_calls (m := greetM 1 1 2 2) (tag_Wrap_spec (xs := []) (img := []) ht hc ⟨.nilSl _ _, .nilSl _ _⟩ (Nat.zero_le _) fun r w2 hr hx => ?_)
  obtain ⟨e, he, hr⟩ := hr
  have e0 : e = 0 := he.uniq (tagE_of (.inr rfl) hok (fun h => by cases h))
  obtain ⟨_, r0, ho⟩ := hr.resolve_left (fun h => h.1 e0)
  have hlen : (letterB 2 (greetM 1 1 2 2) [] []).length ≤ 140737488355328 := by
    obtain ⟨l1, l2⟩ := body_small (v := 2) hok (Nat.zero_le _)
    have h9 := enc_len9 (n := ((bodyB 2 (greetM 1 1 2 2) [] []).length : Int)) (by omega)
    rw [Int.toNat_natCast] at h9
    unfold letterB frameB
    simp only [List.length_append, le4_len]
    omega
  refine tag_Open_calls (tag_Open_spec (ht.ext hx) (hc.ext hx) ho.is hlen fun q w4 hq hx' => ?_)
  have hx := hx.trans' hx'
  obtain ⟨q0, q1, ys, jmg, _, _, q3⟩ := hq.took (.inr rfl) hok (fun h => by cases h) (Nat.zero_le _) ⟨Int.le_refl _, Int.le_refl _⟩
  refine new_x hx fun b5 w6 hb5 hl5 hx hn6 => wr_x hx hb5 fun w7 hx hw7 => ?_
  refine ifEq (fun _ => ?_) (fun h => absurd r0 h)
  refine ifEq (fun _ => ?_) (fun h => absurd q0 h)
  refine ifEq (fun _ => ?_) (fun h => absurd q1 h)
  have : q.1.Version = 2 := q3.1.2.2.2.2.2.2
  rw [this]
  exact hK _ hx
theorem letter_len (hok : MsgOk m xs img.length) (h40 : xs.length ≤ 40) : (letterB v m xs img).length ≤ 140737488355328 := by
  obtain ⟨l1, l2⟩ := body_small (v := v) hok h40
  have h9 := enc_len9 (n := ((bodyB v m xs img).length : Int)) (by omega)
  rw [Int.toNat_natCast] at h9
  unfold letterB frameB
  simp only [List.length_append, le4_len]
  omega
/-- The letter of any message in any version, and who can open it. -/
theorem law15_TagWraps_spec {reader : Int} {K : Bool → World → Prop} (ht : Utf8T w) (hc : CrcT w) (h : MsgAt w m xs img) (hK : ∀ w', Ext w w' → K true w') : law15_TagWraps v m reader K w := by
  unfold law15_TagWraps
  refine new_x (Ext.rfl' w) fun b1 w2 hb1 hl1 hx _ => ?_
  have awake : ∀ {u : World}, Ext w u → callV Pr Value.bool fid_law15_awake #[] u fun t v => kp b1 u v (K t v) := fun hx => law15_awake_calls (law15_awake_spec (ht.ext hx) (hc.ext hx) fun v hx' => kp_ext hx' (hK _ (hx.trans' hx')))
  refine ref13_Large_calls (m := m) (ref13_Large_spec (h.ext hx) fun t w4 hlg hx' => kp_ext hx' ?_)
  have hx := hx.trans' hx'
  refine ifB_of (fun _ => awake hx) (fun hlt => ?_)
  obtain ⟨⟨h40, _⟩, _⟩ := hlg hlt
  refine tag_Wrap_calls (m := m) (tag_Wrap_spec (ht.ext hx) (hc.ext hx) (h.ext hx) h40 fun r w8 hr hx' => kp_ext hx' ?_)
  have hx := hx.trans' hx'
  refine ref15_Check_calls (m := m) (ref15_Check_spec (h.ext hx) fun want w10 hwant hx'' => kp_ext hx'' ?_)
  have hx := hx.trans' hx''
  obtain ⟨e, he, hr⟩ := hr
  have ew : e = want := he.uniq hwant
  subst ew
  refine ifNe (fun h0 => ?_) (fun h0 => ?_)
  · obtain ⟨_, rfl⟩ := hr.resolve_right (fun k => h0 k.1)
    exact ifEq (fun _ => ifEq (fun _ => awake hx) (fun h => absurd rfl h)) (fun h => absurd rfl h)
  subst h0
  obtain ⟨_, r0, ho⟩ := hr.resolve_left (fun k => k.1 rfl)
  obtain ⟨hv, hok, hold⟩ := he.ok rfl
  have ho := ho.ext hx''
  refine tag_Open_calls (tag_Open_spec (ht.ext hx) (hc.ext hx) ho.is (letter_len hok h40) fun q w14 hq hx' => kp_ext hx' ?_)
  have hx := hx.trans' hx'
  have ho := ho.ext hx'
  have z10 := hx'.size
  have lo := ho.lt
  refine new_x hx fun b15 w16 hb15 hl15 hx hn16 => wr_x hx hb15 fun w17 hx hw17 => ?_
  have e16 := hn16.1
  have ho := (ho.ext (Ext.new hn16)).wrN hw17 lo (by omega)
  have awake2 : ∀ {u : World}, Ext w u → callV Pr Value.bool fid_law15_awake #[] u fun t v => kp b15 u v (kp b1 u v (K t v)) := fun hx => law15_awake_calls (law15_awake_spec (ht.ext hx) (hc.ext hx) fun v hx' => kp_ext hx' (kp_ext hx' (hK _ (hx.trans' hx'))))
  refine ref15_Letter_calls (m := m) (ref15_Letter_spec (h.ext hx) hv hok (body_small hok h40).2 fun o18 w19 ho18 hx' => kp_ext hx' (kp_ext hx' ?_))
  have hx1 := hx.trans' hx'
  refine ref01_Same_calls (ref01_Same_spec (ho.ext hx').is ho18.is fun w21 hx'' => kp_ext hx'' (kp_ext hx'' ?_))
  have hx2 := hx1.trans' hx''
  have hx3 := hx'.trans' hx''
  rw [decide_eq_true rfl]
  refine ifNot (ifB_t rfl ?_)
  refine ifNe (fun h => absurd r0 h) (fun _ => ?_)
  have zero : ∀ {X : Prop}, q = (zMsg, 0, 8) → (q.2.2 = 8 → q.2.1 = 0 → q.1 = zMsg → X) → X := fun h k => k (by rw [h]) (by rw [h]) (by rw [h])
  have same : q.1 = zMsg → callV Pr Value.bool fid_ref13_Same #[(.agg ⟨q.1.cs⟩), (.agg ⟨zMsg.cs⟩)] w21 (fun t22 w23 => kp b15 w21 w23 <| kp b1 w21 w23 <| ifB t22 (callV Pr Value.bool fid_law15_awake #[] w23 fun t24 w25 => kp b15 w23 w25 <| kp b1 w23 w25 <| K t24 w25) (K false w23)) := fun hz =>
    ref13_Same_calls (a := q.1) (b := zMsg) (ref13_Same_spec (xs := []) (img := []) (ys := []) (jmg := []) (by rw [hz]; exact ⟨.nilSl _ _, .nilSl _ _⟩) ⟨.nilSl _ _, .nilSl _ _⟩ fun t w23 hs hx' => kp_ext hx' (kp_ext hx' (ifB_t (hs.2 (by rw [hz]; exact MsgEq.rfl1 _ _ _)) (awake2 (hx2.trans' hx')))))
  refine ifD (fun h1 => ?_) (fun h1 => ?_)
  · exact zero (hq.newer hv hok h40 (.inl h1)) fun a b c => ifEq (fun _ => ifEq (fun _ => same c) (fun h => absurd b h)) (fun h => absurd a h)
  refine ifD (fun h2 => ?_) (fun h2 => ?_)
  · exact zero (hq.newer hv hok h40 (.inr h2)) fun a b c => ifEq (fun _ => ifEq (fun _ => same c) (fun h => absurd b h)) (fun h => absurd a h)
  obtain ⟨q0, q1, ys, jmg, k1, k2, k3⟩ := hq.took hv hok hold h40 (by omega)
  refine ifEq (fun _ => ?_) (fun h => absurd q0 h)
  refine ifEq (fun _ => ?_) (fun h => absurd q1 h)
  have k1' := ((k1.ext (Ext.new hn16)).wrN hw17 k1.lt (by omega)).ext hx3
  have k2' := ((k2.ext (Ext.new hn16)).wrN hw17 k2.lt (by omega)).ext hx3
  refine ref13_Same_calls (a := q.1) (b := m) (ref13_Same_spec ⟨k1'.is, k2'.is⟩ (h.ext hx2) fun t w31 hs hx' => kp_ext hx' (kp_ext hx' (ifB_t (hs.2 k3) (awake2 (hx2.trans' hx')))))
/-- What any bytes are opened as, by any reader, has just that letter; or what is wrong with the frame. -/
theorem law15_TagOpens_spec {reader : Int} {K : Bool → World → Prop} (ht : Utf8T w) (hc : CrcT w) (hb : IsSl eB w b l) (hK : ∀ w', Ext w w' → K true w') : law15_TagOpens reader b K w := by
  unfold law15_TagOpens
  have hlen := hb.len
  refine ifD (fun _ => law15_awake_calls (law15_awake_spec ht hc hK)) (fun h2000 => ?_)
  refine tag_Open_calls (tag_Open_spec ht hc hb (by omega) fun r w4 hr hx => ?_)
  refine new_x hx fun b5 w6 hb5 hl5 hx hn6 => wr_x hx hb5 fun w7 hx hw7 => ?_
  have e6 := hn6.1
  have awake : ∀ {u : World}, Ext w u → callV Pr Value.bool fid_law15_awake #[] u fun t v => kp b5 u v (K t v) := fun hx => law15_awake_calls (law15_awake_spec (ht.ext hx) (hc.ext hx) fun v hx' => kp_ext hx' (hK _ (hx.trans' hx')))
  have tell : ∀ {u : World} {e : Int}, r = (zMsg, 0, e) → Ext w u → ifB (r.2.2 == e) (ifB (r.2.1 == 0) (callV Pr Value.bool fid_law15_awake #[] u fun t v => kp b5 u v (K t v)) (K false u)) (K false u) := fun h hx => by
    subst h
    exact ifEq (fun _ => ifEq (fun _ => awake hx) (fun h => absurd rfl h)) (fun h => absurd rfl h)
  have no8 : ¬ (reader = 1 ∨ reader = 2) → r = (zMsg, 0, 8) := fun h => by
    rcases hr with ⟨_, k⟩ | ⟨k, _⟩ | ⟨k, _⟩ | ⟨k, _⟩
    · exact k
    all_goals exact absurd k h
  refine ifD (fun h1 => tell (no8 (by omega)) hx) (fun h1 => ?_)
  refine ifD (fun h2 => tell (no8 (by omega)) hx) (fun h2 => ?_)
  have hv : reader = 1 ∨ reader = 2 := by omega
  refine ref03_Next_calls (ref03_Next_spec (hb.ext hx) (by omega) fun o12 w13 ho12 hblk hx' => kp_ext hx' ?_)
  have hx := hx.trans' hx'
  refine ifNe (fun h0 => ?_) (fun h0 => ?_)
  · refine tell ?_ hx
    rcases hr with ⟨k, _⟩ | ⟨_, _, k⟩ | ⟨_, k, _⟩ | ⟨_, k, _⟩
    · exact absurd hv k
    · exact k
    · exact absurd k h0
    · exact absurd k h0
  have h0 : (nextF l 0).2.2 = 0 := h0
  rw [hlen]
  refine ifD (fun h3 => ?_) (fun h3 => ?_)
  · refine tell ?_ hx
    rcases hr with ⟨k, _⟩ | ⟨_, k, _⟩ | ⟨_, _, _, k⟩ | ⟨_, _, k, _⟩
    · exact absurd hv k
    · exact absurd h0 k
    · exact k
    · exact absurd h3 k
  have hr2 := hr
  obtain ⟨_, _, _, c, cs, hcs, hrr⟩ := ((hr.resolve_left (fun k => k.1 hv)).resolve_left (fun k => k.2.1 h0)).resolve_left (fun k => h3 k.2.2.1)
  have ho12 : IsSl eB w13 o12 (c :: cs) := hcs ▸ ho12
  have hcl := c.toNat_lt
  have ew : IntKind.i64.wrap (c.toNat : Int) = (c.toNat : Int) := i64_id (n := (c.toNat : Int)) (by omega) (by omega)
  refine el_rd (E := eB) (y := (c.toNat : Int)) (k := 0) (by kernel_rfl) (by kernel_rfl) ho12 rfl (by simp) rfl fun _ => ?_
  refine ifD (fun h4 => tell ?_ hx) (fun h4 => ?_)
  · rcases hrr with ⟨_, k⟩ | ⟨k, _⟩
    · exact k
    · omega
  refine el_rd (E := eB) (y := (c.toNat : Int)) (k := 0) (by kernel_rfl) (by kernel_rfl) ho12 rfl (by simp) rfl fun _ => ?_
  rw [ew]
  refine ifD (fun h5 => tell ?_ hx) (fun h5 => ?_)
  · rcases hrr with ⟨_, k⟩ | ⟨k, _⟩
    · exact k
    · omega
  refine ifNe (fun h6 => ?_) (fun h6 => ?_)
  · obtain ⟨hz, hz2⟩ := hr2.bad h6
    refine ifEq (fun _ => ?_) (fun h => absurd hz2 h)
    refine ref13_Same_calls (a := r.1) (b := zMsg) (ref13_Same_spec (xs := []) (img := []) (ys := []) (jmg := []) (by rw [hz]; exact ⟨.nilSl _ _, .nilSl _ _⟩) ⟨.nilSl _ _, .nilSl _ _⟩ fun t w27 hs hx' => kp_ext hx' (ifB_t (hs.2 (by rw [hz]; exact MsgEq.rfl1 _ _ _)) (awake (hx.trans' hx'))))
  obtain ⟨xs, img, k1, k2, hok, hof, _, hold, hbytes⟩ := hr2.inv h6
  have hof1 : r.2.1 = (c.toNat : Int) := by
    rcases hrr with ⟨_, k⟩ | ⟨_, d, _, ⟨k, kk⟩ | ⟨_, k⟩⟩
    · rw [k] at h6; cases h6
    · rw [kk] at h6; exact absurd h6 k
    · rw [k]
  have k1' := ((k1.ext (Ext.new hn6)).wrN hw7 k1.lt (by omega)).ext hx'
  have k2' := ((k2.ext (Ext.new hn6)).wrN hw7 k2.lt (by omega)).ext hx'
  refine el_rd (E := eB) (y := (c.toNat : Int)) (k := 0) (by kernel_rfl) (by kernel_rfl) ho12 rfl (by simp) rfl fun _ => ?_
  rw [ew]
  refine ifEq (fun _ => ?_) (fun h => absurd hof1 h)
  refine ref15_Check_calls (m := r.1) (ref15_Check_spec ⟨k1'.is, k2'.is⟩ fun e w33 he hx'' => kp_ext hx'' ?_)
  have hx := hx.trans' hx''
  refine ifEq (fun _ => ?_) (fun h => absurd (he.uniq (tagE_of hof hok hold)) h)
  have hB : (bodyB r.2.1 r.1 xs img).length ≤ 65536 := by
    have := congrArg List.length hbytes
    unfold letterB frameB at this
    simp only [List.length_append, le4_len] at this
    omega
  refine ref15_Letter_calls (m := r.1) (ref15_Letter_spec ⟨(k1'.ext hx'').is, (k2'.ext hx'').is⟩ hof hok hB fun o34 w35 ho34 hx' => kp_ext hx' ?_)
  have hx := hx.trans' hx'
  refine ref01_Same_calls (ref01_Same_spec ho34.is (hb.ext hx) fun w37 hx' => kp_ext hx' (ifB_t (by rw [hbytes]; simp) (awake (hx.trans' hx'))))
/-- Any letter in the other version; there and back it is as it was. -/
theorem law15_TagTranslates_spec {to : Int} {K : Bool → World → Prop} (ht : Utf8T w) (hc : CrcT w) (h : MsgAt w m xs img) (hK : ∀ w', Ext w w' → K true w') : law15_TagTranslates v to m K w := by
  unfold law15_TagTranslates
  refine new_x (Ext.rfl' w) fun b1 w2 hb1 hl1 hx _ => ?_
  have awake : ∀ {u : World}, Ext w u → callV Pr Value.bool fid_law15_awake #[] u fun t v => kp b1 u v (K t v) := fun hx => law15_awake_calls (law15_awake_spec (ht.ext hx) (hc.ext hx) fun v hx' => kp_ext hx' (hK _ (hx.trans' hx')))
  refine ref13_Large_calls (m := m) (ref13_Large_spec (h.ext hx) fun t w4 hlg hx' => kp_ext hx' ?_)
  have hx := hx.trans' hx'
  refine ifB_of (fun _ => awake hx) (fun hlt => ?_)
  obtain ⟨⟨h40, _⟩, _⟩ := hlg hlt
  refine ref15_Check_calls (m := m) (ref15_Check_spec (h.ext hx) fun e w8 he hx' => kp_ext hx' ?_)
  have hx := hx.trans' hx'
  refine ifNe (fun _ => awake hx) (fun h0 => ?_)
  obtain ⟨hv, hok, hold⟩ := he.ok h0
  refine ref15_Letter_calls (m := m) (ref15_Letter_spec (h.ext hx) hv hok (body_small hok h40).2 fun a11 w12 ha hx' => kp_ext hx' ?_)
  have hx := hx.trans' hx'
  refine tag_Translate_calls (tag_Translate_spec (v := to) (ht.ext hx) (hc.ext hx) ha.is hv hok hold h40 fun r w14 hr hx' => kp_ext hx' ?_)
  have hx := hx.trans' hx'
  have ha := ha.ext hx'
  refine ref15_Check_calls (m := m) (ref15_Check_spec (h.ext hx) fun want w16 hwant hx' => kp_ext hx' ?_)
  have hx := hx.trans' hx'
  have ha := ha.ext hx'
  obtain ⟨e, he, hr⟩ := hr
  have ew : e = want := he.uniq hwant
  subst ew
  refine ifNe (fun h0 => ?_) (fun h0 => ?_)
  · obtain ⟨_, rfl⟩ := hr.resolve_right (fun k => h0 k.1)
    exact ifEq (fun _ => ifEq (fun _ => awake hx) (fun h => absurd rfl h)) (fun h => absurd rfl h)
  subst h0
  obtain ⟨_, r0, hb⟩ := hr.resolve_left (fun k => k.1 rfl)
  obtain ⟨hto, _, hold2⟩ := he.ok rfl
  have hb := hb.ext hx'
  refine tag_Translate_calls (tag_Translate_spec (v := v) (ht.ext hx) (hc.ext hx) hb.is hto hok hold2 h40 fun q w20 hq hx' => kp_ext hx' ?_)
  have hx := hx.trans' hx'
  have ha := ha.ext hx'
  have hb := hb.ext hx'
  obtain ⟨f, hf, hq⟩ := hq
  have f0 : f = 0 := hf.uniq (tagE_of hv hok hold)
  obtain ⟨_, q0, hcq⟩ := hq.resolve_left (fun k => k.1 f0)
  refine ifEq (fun _ => ?_) (fun h => absurd r0 h)
  refine ref15_Letter_calls (m := m) (ref15_Letter_spec (h.ext hx) hto hok (body_small hok h40).2 fun o21 w22 ho21 hx' => kp_ext hx' ?_)
  have hx := hx.trans' hx'
  refine ref01_Same_calls (ref01_Same_spec (hb.ext hx').is ho21.is fun w24 hx'' => kp_ext hx'' (ifB_t (by simp) ?_))
  have hx := hx.trans' hx''
  refine ifEq (fun _ => ?_) (fun h => absurd q0 h)
  refine ref01_Same_calls (ref01_Same_spec ((hcq.ext hx').ext hx'').is ((ha.ext hx').ext hx'').is fun w26 hx' => kp_ext hx' (ifB_t (by simp) (awake (hx.trans' hx'))))
end Go.Chg
