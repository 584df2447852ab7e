/-
  The laws of chapter 15.
-/
import Derived.Test.YthofeajlmgecmaaGreatDoorSpTag
set_option maxRecDepth 20000
set_option linter.unusedVariables false
namespace Go.Chg
open Go.Vc
variable {w : World} {m : ApiMsg} {xs : List ApiEntry} {img l : List UInt8} {v u : Int} {s b : Sl} {B : Nat}
/-- A greeting. -/
def greetM (k f t v : Int) : ApiMsg := ⟨k, f, t, ⟨0, 0⟩, 0, 0, v, Sl.nil, Sl.nil⟩
theorem greet_ok {k f t v : Int} (hk : k = 1 ∨ k = 2) (hf : NodeOk f) (ht : NodeOk t) (hne : f ≠ t) (hv : v = 1 ∨ v = 2) : MsgOk (greetM k f t v) [] 0 := by
  refine ⟨?_, ⟨⟨hf, ht, hne⟩, ?_, ?_, ?_, fun _ => hv⟩, fun h => ?_, fun _ => rfl, fun _ => rfl, fun _ => rfl, fun _ => rfl, fun h => ?_, fun _ => rfl, ⟨fun h => ?_, fun h => absurd h (Nat.lt_irrefl _)⟩, fun h => ?_⟩
  · show 1 ≤ k ∧ k ≤ 11
    omega
  · intro h; rcases hk with rfl | rfl <;> cases h
  · intro h; rcases hk with rfl | rfl <;> cases h
  · intro h; rcases hk with rfl | rfl <;> cases h
  · rcases h with ⟨_, h⟩ | ⟨_, h⟩ <;> exact absurd h (by simp)
  · rcases hk with rfl | rfl <;> cases h
  · rcases hk with rfl | rfl <;> cases h
  · rcases hk with rfl | rfl <;> cases h
theorem law15_awake_spec {K : Bool → World → Prop} (ht : Utf8T w) (hc : CrcT w) (hK : ∀ w', Ext w w' → K true w') : law15_awake K w := by
  unfold law15_awake
  have hok : MsgOk (greetM 1 1 2 2) [] ([] : List UInt8).length := greet_ok (.inl rfl) ⟨by decide, by decide⟩ ⟨by decide, by decide⟩ (by decide) (.inr rfl)
  refine tag_Wrap_calls (m := greetM 1 1 2 2) (tag_Wrap_spec (xs := []) (img := []) ht hc ⟨.nilSl _ _, .nilSl _ _⟩ (Nat.zero_le _) fun r w2 hr hx => ?_)
  obtain ⟨e, he, hr⟩ := hr
  have e0 : e = 0 := he.uniq (tagE_of (.inr rfl) hok (fun h => by cases h))
  obtain ⟨_, r0, ho⟩ := hr.resolve_left (fun h => h.1 e0)
  have hlen : (letterB 2 (greetM 1 1 2 2) [] []).length ≤ 140737488355328 := by
    obtain ⟨l1, l2⟩ := body_small (v := 2) hok (Nat.zero_le _)
    have h9 := enc_len9 (n := ((bodyB 2 (greetM 1 1 2 2) [] []).length : Int)) (by omega)
    rw [Int.toNat_natCast] at h9
    unfold letterB frameB
    simp only [List.length_append, le4_len]
    omega
  refine tag_Open_calls (tag_Open_spec (ht.ext hx) (hc.ext hx) ho.is hlen fun q w4 hq hx' => ?_)
  have hx := hx.trans' hx'
  obtain ⟨q0, q1, ys, jmg, _, _, q3⟩ := hq.took (.inr rfl) hok (fun h => by cases h) (Nat.zero_le _) ⟨Int.le_refl _, Int.le_refl _⟩
  refine new_x hx fun b5 w6 hb5 hl5 hx hn6 => wr_x hx hb5 fun w7 hx hw7 => ?_
  refine ifEq (fun _ => ?_) (fun h => absurd r0 h)
  refine ifEq (fun _ => ?_) (fun h => absurd q0 h)
  refine ifEq (fun _ => ?_) (fun h => absurd q1 h)
  have : q.1.Version = 2 := q3.1.2.2.2.2.2.2
  rw [this]
  exact hK _ hx
theorem letter_len (hok : MsgOk m xs img.length) (h40 : xs.length ≤ 40) : (letterB v m xs img).length ≤ 140737488355328 := by
  obtain ⟨l1, l2⟩ := body_small (v := v) hok h40
  have h9 := enc_len9 (n := ((bodyB v m xs img).length : Int)) (by omega)
  rw [Int.toNat_natCast] at h9
  unfold letterB frameB
  simp only [List.length_append, le4_len]
  omega
/-- The letter of any message in any version, and who can open it. -/
theorem law15_TagWraps_spec {reader : Int} {K : Bool → World → Prop} (ht : Utf8T w) (hc : CrcT w) (h : MsgAt w m xs img) (hK : ∀ w', Ext w w' → K true w') : law15_TagWraps v m reader K w := by
  unfold law15_TagWraps
  refine new_x (Ext.rfl' w) fun b1 w2 hb1 hl1 hx _ => ?_
  have awake : ∀ {u : World}, Ext w u → callV Pr Value.bool fid_law15_awake #[] u fun t v => kp b1 u v (K t v) := fun hx => law15_awake_calls (law15_awake_spec (ht.ext hx) (hc.ext hx) fun v hx' => kp_ext hx' (hK _ (hx.trans' hx')))
  refine ref13_Large_calls (m := m) (ref13_Large_spec (h.ext hx) fun t w4 hlg hx' => kp_ext hx' ?_)
  have hx := hx.trans' hx'
  refine ifB_of (fun _ => awake hx) (fun hlt => ?_)
  obtain ⟨⟨h40, _⟩, _⟩ := hlg hlt
  refine tag_Wrap_calls (m := m) (tag_Wrap_spec (ht.ext hx) (hc.ext hx) (h.ext hx) h40 fun r w8 hr hx' => kp_ext hx' ?_)
  have hx := hx.trans' hx'
  refine ref15_Check_calls (m := m) (ref15_Check_spec (h.ext hx) fun want w10 hwant hx'' => kp_ext hx'' ?_)
  have hx := hx.trans' hx''
  obtain ⟨e, he, hr⟩ := hr
  have ew : e = want := he.uniq hwant
  subst ew
  refine ifNe (fun h0 => ?_) (fun h0 => ?_)
  · obtain ⟨_, rfl⟩ := hr.resolve_right (fun k => h0 k.1)
    exact ifEq (fun _ => ifEq (fun _ => awake hx) (fun h => absurd rfl h)) (fun h => absurd rfl h)
  subst h0
  obtain ⟨_, r0, ho⟩ := hr.resolve_left (fun k => k.1 rfl)
  obtain ⟨hv, hok, hold⟩ := he.ok rfl
  have ho := ho.ext hx''
  refine tag_Open_calls (tag_Open_spec (ht.ext hx) (hc.ext hx) ho.is (letter_len hok h40) fun q w14 hq hx' => kp_ext hx' ?_)
  have hx := hx.trans' hx'
  have ho := ho.ext hx'
  have z10 := hx'.size
  have lo := ho.lt
  refine new_x hx fun b15 w16 hb15 hl15 hx hn16 => wr_x hx hb15 fun w17 hx hw17 => ?_
  have e16 := hn16.1
  have ho := (ho.ext (Ext.new hn16)).wrN hw17 lo (by omega)
  have awake2 : ∀ {u : World}, Ext w u → callV Pr Value.bool fid_law15_awake #[] u fun t v => kp b15 u v (kp b1 u v (K t v)) := fun hx => law15_awake_calls (law15_awake_spec (ht.ext hx) (hc.ext hx) fun v hx' => kp_ext hx' (kp_ext hx' (hK _ (hx.trans' hx'))))
  refine ref15_Letter_calls (m := m) (ref15_Letter_spec (h.ext hx) hv hok (body_small hok h40).2 fun o18 w19 ho18 hx' => kp_ext hx' (kp_ext hx' ?_))
  have hx1 := hx.trans' hx'
  refine ref01_Same_calls (ref01_Same_spec (ho.ext hx').is ho18.is fun w21 hx'' => kp_ext hx'' (kp_ext hx'' ?_))
  have hx2 := hx1.trans' hx''
  have hx3 := hx'.trans' hx''
  rw [decide_eq_true rfl]
  refine ifNot (ifB_t rfl ?_)
  refine ifNe (fun h => absurd r0 h) (fun _ => ?_)
  have zero : ∀ {X : Prop}, q = (zMsg, 0, 8) → (q.2.2 = 8 → q.2.1 = 0 → q.1 = zMsg → X) → X := fun h k => k (by rw [h]) (by rw [h]) (by rw [h])
  have same : q.1 = zMsg → callV Pr Value.bool fid_ref13_Same #[(.agg ⟨q.1.cs⟩), (.agg ⟨zMsg.cs⟩)] w21 (fun t22 w23 => kp b15 w21 w23 <| kp b1 w21 w23 <| ifB t22 (callV Pr Value.bool fid_law15_awake #[] w23 fun t24 w25 => kp b15 w23 w25 <| kp b1 w23 w25 <| K t24 w25) (K false w23)) := fun hz =>
    ref13_Same_calls (a := q.1) (b := zMsg) (ref13_Same_spec (xs := []) (img := []) (ys := []) (jmg := []) (by rw [hz]; exact ⟨.nilSl _ _, .nilSl _ _⟩) ⟨.nilSl _ _, .nilSl _ _⟩ fun t w23 hs hx' => kp_ext hx' (kp_ext hx' (ifB_t (hs.2 (by rw [hz]; exact MsgEq.rfl1 _ _ _)) (awake2 (hx2.trans' hx')))))
  refine ifD (fun h1 => ?_) (fun h1 => ?_)
  · exact zero (hq.newer hv hok h40 (.inl h1)) fun a b c => ifEq (fun _ => ifEq (fun _ => same c) (fun h => absurd b h)) (fun h => absurd a h)
  refine ifD (fun h2 => ?_) (fun h2 => ?_)
  · exact zero (hq.newer hv hok h40 (.inr h2)) fun a b c => ifEq (fun _ => ifEq (fun _ => same c) (fun h => absurd b h)) (fun h => absurd a h)
  obtain ⟨q0, q1, ys, jmg, k1, k2, k3⟩ := hq.took hv hok hold h40 (by omega)
  refine ifEq (fun _ => ?_) (fun h => absurd q0 h)
  refine ifEq (fun _ => ?_) (fun h => absurd q1 h)
  have k1' := ((k1.ext (Ext.new hn16)).wrN hw17 k1.lt (by omega)).ext hx3
  have k2' := ((k2.ext (Ext.new hn16)).wrN hw17 k2.lt (by omega)).ext hx3
  refine ref13_Same_calls (a := q.1) (b := m) (ref13_Same_spec ⟨k1'.is, k2'.is⟩ (h.ext hx2) fun t w31 hs hx' => kp_ext hx' (kp_ext hx' (ifB_t (hs.2 k3) (awake2 (hx2.trans' hx')))))
end Go.Chg
