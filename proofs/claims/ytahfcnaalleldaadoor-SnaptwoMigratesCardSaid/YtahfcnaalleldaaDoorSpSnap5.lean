/-
  More laws of chapter 27.
-/
import Derived.Test.YtahfcnaalleldaaDoorSpSnap4
set_option maxRecDepth 20000
set_option linter.unusedVariables false
namespace Go.Chg
open Go.Vc
variable {w : World} {l : List UInt8} {v p no most : Int} {x : ApiState} {ps : List ApiPair} {ss : List ApiSession}
theorem bytes_len {B : Nat} {s : Sl} (hok : StateOk v ps ss) (ho : OwnSl eB w B s (stateB v ps ss)) : (stateB v ps ss).length ≤ 140737488355328 := by
  have := stateB_len hok
  omega
/-- The bytes of any state, in its schema, which lead back to it, or why there are none. -/
theorem law27_SnaptwoPuts_spec {K : Bool → World → Prop} (ht : Utf8T w) (h : StAt w x ps ss) (hK : ∀ w', Ext w w' → K true w') : law27_SnaptwoPuts x K w := by
  unfold law27_SnaptwoPuts
  refine new_x (Ext.rfl' w) fun b1 w2 hb1 hl1 hx _ => ?_
  have awake : ∀ {u : World}, Ext w u → callV Pr Value.bool fid_law27_awake #[] u fun t v => kp b1 u v (K t v) := fun hx => law27_awake_calls (law27_awake_spec (ht.ext hx) fun v hx' => kp_ext hx' (hK _ (hx.trans' hx')))
  refine ref25_Large_calls (s := x) (ref25_Large_spec (h.ext hx) fun t3 w4 hlg hx' => kp_ext hx' ?_)
  have hx := hx.trans' hx'
  refine ifB_of (fun _ => awake hx) (fun h1 => ?_)
  obtain ⟨⟨p80, _⟩, ⟨s40, _⟩⟩ := hlg h1
  have hx0 := hx
  refine snaptwo_Put_calls (s := x) (snaptwo_Put_spec (ht.ext hx) (h.ext hx) (by omega) fun r w8 hr hx8 => kp_ext hx8 ?_)
  have hx := hx.trans' hx8
  refine snaptwo_Encode_calls (s := x) (snaptwo_Encode_or (ht.ext hx) (h.ext hx) (by omega) fun r2 w10 hr2 hx10 => kp_ext hx10 ?_)
  have hx := hx.trans' hx10
  refine ref25_Check_calls (s := x) (ref25_Check_spec (h.ext hx) fun t11 w12 h11 hx12 => kp_ext hx12 ?_)
  have hx := hx.trans' hx12
  have nil : ∀ {r : Sl × Int} (n : Int), r = (Sl.nil, n) → (r.1.len : Int) = 0 ∧ r.2 = n := fun n e => by subst e; exact ⟨rfl, rfl⟩
  rcases hr with ⟨hno, hr⟩ | ⟨hok, h0, ho⟩
  · refine ifNot (ifB_of (fun h => absurd (h11.1 h) hno) (fun _ => ?_))
    obtain ⟨e1, e2⟩ := nil _ hr
    have hr2 : r2 = (Sl.nil, 3) := by
      rcases hr2 with ⟨_, h⟩ | ⟨h, _⟩ | ⟨h, h2, _⟩
      · exact h
      · exact absurd h hno
      · rw [← h2] at h
        exact absurd h hno
    obtain ⟨e3, e4⟩ := nil _ hr2
    exact ifEq (fun _ => ifEq (fun _ => ifEq (fun _ => ifEq (fun _ => awake hx) (fun h => absurd e4 h)) (fun h => absurd e3 h)) (fun h => absurd e2 h)) (fun h => absurd e1 h)
  refine ifNot (ifB_of (fun _ => ?_) (fun h => by rw [h11.2 hok] at h; cases h))
  have hlen := bytes_len hok ho
  have ho := ho.ext hx10
  have h10 := (hx0.trans' hx8).trans' hx10
  have hy := hx12
  refine snaptwo_Get_calls (snaptwo_Get_spec (ht.ext hx) (ho.ext hy).is hlen ⟨fun e w' he n1 n2 hx' => ?_, fun v ps' ss' a b w16 hv hd ha hb hx' => kp_ext hx' ?_⟩)
  · have d := decSt_took hok
    rcases hok.1 with e1 | e1
    · rw [e1] at d n1
      exact absurd (by rw [d]) n1
    · rw [e1] at d n2
      exact absurd (by rw [d]) n2
  obtain ⟨rfl, rfl, rfl⟩ := get_eq hok hv hd
  have hy := hy.trans' hx'
  refine new_x hy fun b17 w18 hb17 hl17 hy hn18 => wr_x hy hb17 fun w19 hy hw19 => ?_
  have ha := ha.nw hn18 hw19
  have hb := hb.nw hn18 hw19
  refine ref26_Bytes_calls (s := x) (ref26_Bytes_spec (h.ext (h10.trans' hy)) hok fun s20 w21 h20 hz => kp_ext hz (kp_ext hz ?_))
  refine ref01_Same_calls (ref01_Same_spec (ho.ext (hy.trans' hz)).is h20.is fun w23 hx' => kp_ext hx' (kp_ext hx' (ifNot (ifB_t (by simp) ?_))))
  have hz := hz.trans' hx'
  refine ifNe (fun h => absurd h0 h) (fun _ => ?_)
  refine ifNe (fun h => absurd rfl h) (fun _ => ?_)
  refine ref25_Same_calls (a := ⟨x.Schema, a, b⟩) (b := x) (ref25_Same_spec (x := ⟨x.Schema, a, b⟩) ⟨(ha.ext hz).is, (hb.ext hz).is⟩ (h.ext (h10.trans' (hy.trans' hz))) fun t24 w25 h24 hx' => kp_ext hx' (kp_ext hx' (ifNot (ifB_t (h24.2 ⟨rfl, rfl, rfl⟩) ?_))))
  have hy := hy.trans' (hz.trans' hx')
  refine ifEq (fun h1 => ?_) (fun h1 => ?_)
  · have hr2 : r2 = (Sl.nil, 8) := by
      rcases hr2 with ⟨h, _⟩ | ⟨_, _, h⟩ | ⟨_, h2, _⟩
      · exact absurd hok h
      · exact h
      · exact absurd h1 (by omega)
    obtain ⟨e3, e4⟩ := nil _ hr2
    exact ifEq (fun _ => ifEq (fun _ => law27_awake_calls (law27_awake_spec (ht.ext (h10.trans' hy)) fun v hx' => kp_ext hx' (kp_ext hx' (hK _ (h10.trans' (hy.trans' hx')))))) (fun h => absurd e4 h)) (fun h => absurd e3 h)
  have h2 : x.Schema = 2 := by have := hok.1; omega
  rcases hr2 with ⟨h, _⟩ | ⟨_, h, _⟩ | ⟨ok2, _, g0, go⟩
  · exact absurd hok h
  · exact absurd h2 h
  rw [h2] at ho hlen
  have hd2 := decSt_took ok2
  refine snaptwo_Decode_calls (snaptwo_Decode_spec (ht.ext (h10.trans' hy)) (ho.ext hy).is hlen ⟨fun h => absurd (by rw [hd2]) h, fun _ a2 b2 w29 ha2 hb2 hx' => kp_ext hx' (kp_ext hx' ?_)⟩)
  rw [hd2] at ha2 hb2
  have hy := hy.trans' hx'
  refine new_x hy fun b30 w31 hb30 hl30 hy hn31 => wr_x hy hb30 fun w32 hy hw32 => ?_
  have ha2 := ha2.nw hn31 hw32
  have hb2 := hb2.nw hn31 hw32
  refine ifEq (fun _ => ?_) (fun h => absurd g0 h)
  refine ifEq (fun _ => ?_) (fun h => absurd rfl h)
  refine ref01_Same_calls (ref01_Same_spec (go.ext hy).is (ho.ext hy).is fun w34 hx34 => kp_ext hx34 (kp_ext hx34 (kp_ext hx34 (ifB_t (by simp) ?_))))
  have hy := hy.trans' hx34
  refine ref25_Same_calls (a := ⟨2, a2, b2⟩) (b := x) (ref25_Same_spec (x := ⟨2, a2, b2⟩) ⟨(ha2.ext hx34).is, (hb2.ext hx34).is⟩ (h.ext (h10.trans' hy)) fun t35 w36 h35 hx' => kp_ext hx' (kp_ext hx' (kp_ext hx' (ifB_t (h35.2 ⟨h2.symm, rfl, rfl⟩) ?_))))
  have hy := hy.trans' hx'
  exact law27_awake_calls (law27_awake_spec (ht.ext (h10.trans' hy)) fun v hx' => kp_ext hx' (kp_ext hx' (kp_ext hx' (hK _ (h10.trans' (hy.trans' hx'))))))
/-- What a migration tells. -/
def MigR (B : Nat) (w' : World) (l : List UInt8) (r : Sl × Int) : Prop :=
  ((decSt 1 l).1 ≠ 0 ∧ r = (Sl.nil, (decSt 1 l).1)) ∨ ∃ ps ss, decSt 1 l = (0, ps, ss) ∧ StateOk 1 ps ss ∧ r.2 = 0 ∧ OwnSl eB w' B r.1 (stateB 2 (ps.map first) ss)
theorem snaptwo_Migrate_or {s : Sl} {K : Sl × Int → World → Prop} (ht : Utf8T w) (hb : IsSl eB w s l) (hl : l.length ≤ 140737488355328) (hK : ∀ r w', MigR w.heap.size w' l r → Ext w w' → K r w') : snaptwo_Migrate s K w :=
  snaptwo_Migrate_spec ht hb hl (fun h w' hx => hK _ _ (.inl ⟨h, rfl⟩) hx) fun ps ss hd hok s w' ho hx => hK _ _ (.inr ⟨ps, ss, hd, hok, rfl, ho⟩) hx
theorem snapone_Decode_or {s : Sl} {K : ApiState × Int → World → Prop} (ht : Utf8T w) (hb : IsSl eB w s l) (hl : l.length ≤ 140737488355328) (hK : ∀ r w', r.2 = (decSt 1 l).1 → Ext w w' → K r w') : snapone_Decode s K w :=
  snapone_Decode_spec ht hb hl ⟨fun h w' hx => hK _ _ rfl hx, fun h a b w' _ _ hx => hK _ _ h.symm hx⟩
/-- The bytes of any state of the older schema, migrated; bytes that are none's are refused as ever. -/
theorem law27_SnaptwoMigrates_spec {b : Sl} {K : Bool → World → Prop} (ht : Utf8T w) (h : StAt w x ps ss) (hb : IsSl eB w b l) (hK : ∀ w', Ext w w' → K true w') : law27_SnaptwoMigrates x b K w := by
  unfold law27_SnaptwoMigrates
  have hbl := hb.len
  refine new_x (Ext.rfl' w) fun b1 w2 hb1 hl1 hx _ => ?_
  have awake : ∀ {u : World}, Ext w u → callV Pr Value.bool fid_law27_awake #[] u fun t v => kp b1 u v (K t v) := fun hx => law27_awake_calls (law27_awake_spec (ht.ext hx) fun v hx' => kp_ext hx' (hK _ (hx.trans' hx')))
  refine ref25_Large_calls (s := x) (ref25_Large_spec (h.ext hx) fun t3 w4 hlg hx' => kp_ext hx' ?_)
  have hx := hx.trans' hx'
  refine ifB_of (fun _ => awake hx) (fun h1 => ?_)
  obtain ⟨⟨p80, _⟩, ⟨s40, _⟩⟩ := hlg h1
  refine ifD (fun _ => awake hx) (fun h3000 => ?_)
  have hlen : l.length ≤ 140737488355328 := by omega
  refine snaptwo_Migrate_calls (snaptwo_Migrate_or (ht.ext hx) (hb.ext hx) hlen fun r w10 hr hx' => kp_ext hx' ?_)
  have hx := hx.trans' hx'
  refine snapone_Decode_calls (snapone_Decode_or (ht.ext hx) (hb.ext hx) hlen fun t11 w12 h11 hx' => kp_ext hx' ?_)
  have hx := hx.trans' hx'
  refine new_x hx fun b13 w14 hb13 hl13 hx _ => wr_x hx hb13 fun w15 hx _ => ?_
  refine ⟨fun w' => Ext w w', ?_, ?_⟩
  · rcases hr with ⟨e0, hr⟩ | ⟨_, _, hd, _, r0, _⟩
    · have e1 : t11.2 ≠ 0 := by rw [h11]; exact e0
      have e2 : r.2 = t11.2 := by rw [hr, h11]
      have e3 : (r.1.len : Int) = 0 := by rw [hr]; rfl
      exact ifNe (fun _ => ifNe (fun h => absurd e2 h) (fun _ => ifD (fun h => absurd h (by omega)) (fun _ => ifEq (fun h => absurd h e1) (fun _ => hx)))) (fun h => absurd h e1)
    · have e1 : t11.2 = 0 := by rw [h11, hd]
      exact ifNe (fun h => absurd e1 h) (fun _ => ifEq (fun _ => ifNe (fun h => absurd r0 h) (fun _ => hx)) (fun h => absurd e1 h))
  intro w17 hx
  have awake2 : ∀ {u : World}, Ext w u → callV Pr Value.bool fid_law27_awake #[] u fun t v => kp b13 u v (kp b1 u v (K t v)) := fun hx => law27_awake_calls (law27_awake_spec (ht.ext hx) fun v hx' => kp_ext hx' (kp_ext hx' (hK _ (hx.trans' hx'))))
  refine ref25_Check_calls (s := x) (ref25_Check_spec (h.ext hx) fun t18 w19 h18 hx' => kp_ext hx' (kp_ext hx' ?_))
  have hx := hx.trans' hx'
  refine ifNot (ifB_of (fun hc => ?_) (fun _ => awake2 hx))
  have hok := h18.1 hc
  refine ifNe (fun _ => awake2 hx) (fun h1 => ?_)
  rw [h1] at hok
  refine ref26_Bytes_calls (s := x) (ref26_Bytes_spec (h.ext hx) (by rw [h1]; exact hok) fun s24 w25 h24 hx' => kp_ext hx' (kp_ext hx' ?_))
  have hx := hx.trans' hx'
  rw [h1] at h24
  refine snaptwo_Migrate_calls (snaptwo_Migrate_or (ht.ext hx) h24.is (bytes_len hok h24) fun r2 w27 hr2 hx' => kp_ext hx' (kp_ext hx' ?_))
  have hx := hx.trans' hx'
  have hd := decSt_took hok
  rcases hr2 with ⟨e0, _⟩ | ⟨ps', ss', hd', ok', g0, go⟩
  · exact absurd (by rw [hd]) e0
  rw [hd] at hd'
  obtain ⟨_, hd'⟩ := Prod.mk.inj hd'
  obtain ⟨rfl, rfl⟩ := Prod.mk.inj hd'
  have ok2 := stateOk_first hok
  refine snaptwo_Get_calls (snaptwo_Get_spec (ht.ext hx) go.is (bytes_len ok2 go) ⟨fun e w' he n1 n2 hx' => absurd (by rw [decSt_took ok2]) n2, fun v ps' ss' a2 b2 w29 hv hd2 ha hb hx' => kp_ext hx' (kp_ext hx' ?_)⟩)
  obtain ⟨rfl, rfl, rfl⟩ := get_eq ok2 hv hd2
  have hx := hx.trans' hx'
  refine new_x hx fun b30 w31 hb30 hl30 hx hn31 => wr_x hx hb30 fun w32 hx hw32 => ?_
  have ha := ha.nw hn31 hw32
  have hb := hb.nw hn31 hw32
  refine held_x fun w33 hx33 => ?_
  have hx := hx.trans' hx33
  refine ifEq (fun _ => ?_) (fun h => absurd g0 h)
  refine ifEq (fun _ => ?_) (fun h => absurd rfl h)
  refine ref25_Revs_calls (s := x) (ref25_Revs_spec (sch := 2) (rev := 1) (h.ext hx) (by omega) fun a3 w36 ha3 hs3 hx36 => kp_ext hx36 (kp_ext hx36 (kp_ext hx36 ⟨trivial, ?_⟩)))
  have hx := hx.trans' hx36
  have hz := hx33.trans' hx36
  refine ref25_Same_calls (a := ⟨2, a2, b2⟩) (b := ⟨2, a3, x.Sessions⟩) (ref25_Same_spec (x := ⟨2, a2, b2⟩) (y := ⟨2, a3, x.Sessions⟩) ⟨(ha.ext hz).is, (hb.ext hz).is⟩ ⟨ha3.is, hs3⟩ fun t37 w38 h37 hx' => kp_ext hx' (kp_ext hx' (kp_ext hx' ⟨trivial, ?_⟩)))
  refine ifB_t (h37.2 ⟨rfl, rfl, rfl⟩) ?_
  have hx := hx.trans' hx'
  exact law27_awake_calls (law27_awake_spec (ht.ext hx) fun v hx' => kp_ext hx' (kp_ext hx' (kp_ext hx' ⟨trivial, hK _ (hx.trans' hx')⟩)))
end Go.Chg
