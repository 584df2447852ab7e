/-
  'changeoverref26'; the laws of chapter 26.
-/
import Derived.Test.YtahfcnaalleldaaDoorSpSnap1
set_option maxRecDepth 20000
set_option linter.unusedVariables false
namespace Go.Chg
open Go.Vc
variable {w : World} {l : List UInt8} {v p no most : Int} {x : ApiState} {ps : List ApiPair} {ss : List ApiSession}
/-- What a call made, put behind, in a region that draws its order. -/
theorem cat_mkH {w w0 : World} {S : World → Prop} {fid : Nat} {args : Array Value} {t ty : TypeId} {b B : Nat} {out : Sl} {l m : List UInt8} {K : Sl → World → Prop} (ht : appOk Pr t (elemT Pr t) 1 1 = true) (hs : isSlT Pr t = true) (hm : Mk fid args m) (hx : Ext w0 w) (hS : ∀ w', Ext w0 w' → S w') (ho : OwnSl eB w B out l) (hb : b < B) (hB : B ≤ w.heap.size)
    (h0 : w0.heap.size ≤ B) (hlen : l.length + m.length ≤ 140737488355328) (hK : ∀ s w', OwnSl eB w' B s (l ++ m) → Ext w0 w' → B ≤ w'.heap.size → K s w') :
    callV Pr Sl.val fid args w fun x w2 => kp b w w2 <| S w2 ∧ opTy Pr (Builtin.append_ #[t, t] ty #[out.val, x.val]) Sl.val (fun s w3 => kp b w2 w3 <| S w3 ∧ K s w3) w2 :=
  hm w _ fun x w2 hx2 hx' => kp_ext hx' ⟨hS _ (hx.trans' hx'), cat_kp ht hs (ho.ext hx') hx2.is hlen (Nat.le_trans hB hx'.size) hb fun s w3 h hg =>
    ⟨hS _ (Ext.own (hx.trans' hx') (ho.ext hx') h0 hg), hK s w3 h (Ext.own (hx.trans' hx') (ho.ext hx') h0 hg) (Nat.le_trans hB (Nat.le_trans hx'.size hg.size))⟩⟩
theorem ref26_Bytes_spec {K : Sl → World → Prop} (h : StAt w x ps ss) (hok : StateOk x.Schema ps ss) (hK : ∀ s w', OwnSl eB w' w.heap.size s (stateB x.Schema ps ss) → Ext w w' → K s w') : ref26_Bytes x K w := by
  unfold ref26_Bytes
  have hv := hok.1
  obtain ⟨fp, fs, f64, f8⟩ := ok_small hok
  have hpl := h.ps.len
  have hsl := h.ss.len
  have bp := take_le (B := pairB x.Schema) (fun y hy => pairB_len (v := x.Schema) (fp y hy)) f64
  have bs := take_le (B := sessB x.Schema) (fun y hy => sessB_len (v := x.Schema) (fs y hy)) f8
  have ep := enc_len9 (n := (ps.length : Int)) (by omega)
  have es := enc_len9 (n := (ss.length : Int)) (by omega)
  rw [Int.toNat_natCast] at ep es
  have e1 : (enc x.Schema.toNat).length ≤ 9 := enc_len9 (by omega)
  refine new_x (Ext.rfl' w) fun b1 w2 hb1 hl1 hx _ => ?_
  refine ref01_Bytes_calls (ref01_Bytes_spec (by omega) fun s3 w4 ho hx' => kp_ext hx' ?_)
  have hx := hx.trans' hx'
  have hz := hx'.size
  have hB : w.heap.size ≤ w2.heap.size := by omega
  refine cat_mk (by kernel_rfl) (by kernel_rfl) (mk_num (n := (x.Pairs.len : Int)) (by omega)) hx ho hl1 hz hB (by rw [hpl, Int.toNat_natCast]; omega) fun s7 w8 ho hx hz => ?_
  rw [hpl, Int.toNat_natCast] at ho
  refine up2b (fun k out w' => Ext w w' ∧ w2.heap.size ≤ w'.heap.size ∧ OwnSl eB w' w2.heap.size out (enc x.Schema.toNat ++ enc ps.length ++ (ps.take k).flatMap (pairB x.Schema))) 0 ps.length rfl (by omega) (by omega) ⟨hx, hz, by simpa using ho⟩ ?_
  rintro k out w12 C _ hk ⟨hx, hz, ho⟩ hC
  have bk := bp k
  refine ifD (fun hlt => ?_) (fun hge => ?_)
  · have hk1 : k < ps.length := by omega
    obtain ⟨g1, g2, g3⟩ := fp _ (List.getElem_mem hk1)
    have e3 := enc_len9 g3
    have ek := enc_len9 (n := (ps[k].Key.length : Int)) (by omega)
    have ev := enc_len9 (n := (ps[k].Val.length : Int)) (by omega)
    rw [Int.toNat_natCast] at ek ev
    refine fld_rd (y := ps[k].Key) (by kernel_rfl) (by kernel_rfl) (h.ps.ext hx) rfl hk1 rfl fun _ => ?_
    refine cat_mk (by kernel_rfl) (by kernel_rfl) (mk_text (x := ps[k].Key) (by omega)) hx ho hl1 hz hB (by simp only [List.length_append]; omega) fun s17 w18 ho hx hz => ?_
    refine ⟨fun out w' => Ext w w' ∧ w2.heap.size ≤ w'.heap.size ∧ OwnSl eB w' w2.heap.size out (enc x.Schema.toNat ++ enc ps.length ++ (ps.take k).flatMap (pairB x.Schema) ++ (enc ps[k].Key.length ++ ps[k].Key) ++ (if x.Schema = 1 then [] else enc ps[k].Rev.toNat)), ?_, ?_⟩
    · refine ifEq (fun h2 => ?_) (fun h2 => ⟨hx, hz, ?_⟩)
      · refine fld_rd (y := ps[k].Rev) (by kernel_rfl) (by kernel_rfl) (h.ps.ext hx) rfl hk1 rfl fun _ => ?_
        refine cat_mk (by kernel_rfl) (by kernel_rfl) (mk_num g3) hx ho hl1 hz hB (by simp only [List.length_append]; omega) fun s24 w25 ho hx hz => ⟨hx, hz, ?_⟩
        rw [if_neg (by omega)]
        exact ho
      · rw [if_pos (by omega), List.append_nil]
        exact ho
    rintro out26 w27 ⟨hx, hz, ho⟩
    have e4 : (if x.Schema = 1 then [] else enc ps[k].Rev.toNat).length ≤ 9 := by
      split
      · exact Nat.zero_le _
      · exact e3
    refine fld_rd (y := ps[k].Val) (by kernel_rfl) (by kernel_rfl) (h.ps.ext hx) rfl hk1 rfl fun _ => ?_
    refine cat_mk (by kernel_rfl) (by kernel_rfl) (mk_text (x := ps[k].Val) (by omega)) hx ho hl1 hz hB (by simp only [List.length_append] at e4 ⊢; omega) fun s32 w33 ho hx hz => hC hk1 _ _ _ rfl ⟨hx, hz, ?_⟩
    rw [flat_up hk1]
    unfold pairB at ho ⊢
    simpa only [List.append_assoc] using ho
  rw [flat_all (by omega)] at ho
  have bk' := bp ps.length
  rw [List.take_length] at bk'
  refine cat_mk (by kernel_rfl) (by kernel_rfl) (mk_num (n := (x.Sessions.len : Int)) (by omega)) hx ho hl1 hz hB (by simp only [List.length_append, hsl, Int.toNat_natCast]; omega) fun s36 w37 ho hx hz => ?_
  rw [hsl, Int.toNat_natCast] at ho
  refine up2b (fun k out w' => Ext w w' ∧ w2.heap.size ≤ w'.heap.size ∧ OwnSl eB w' w2.heap.size out (enc x.Schema.toNat ++ enc ps.length ++ ps.flatMap (pairB x.Schema) ++ enc ss.length ++ (ss.take k).flatMap (sessB x.Schema))) 0 ss.length rfl (by omega) (by omega) ⟨hx, hz, by simpa using ho⟩ ?_
  rintro k out w41 C _ hk ⟨hx, hz, ho⟩ hC
  have bk := bs k
  refine ifD (fun hlt => ?_) (fun hge => ?_)
  · have hk1 : k < ss.length := by omega
    have hf := fs _ (List.getElem_mem hk1)
    have hbl := sessB_len (v := x.Schema) hf
    refine heldM_of (fun w' => IsSl eApiSession w' x.Sessions ss) fun w42 hx42 => ⟨h.ss.ext (hx.trans' hx42), ?_⟩
    have hx := hx.trans' hx42
    refine partH (E := eApiSession) (n := 6) (y := ss[k].Last) (xs := ss[k].Last.cs) (by kernel_rfl) (by kernel_rfl) (fun w' h => h) rfl hk1 rfl rfl (fun j v hv => by rw [Nat.add_comm]; exact hv) fun _ => ?_
    refine cat_mkH (by kernel_rfl) (by kernel_rfl) (mk_ans (v := x.Schema) hv hf.1 (by have := hf.2; omega)) hx (fun w' hx' => h.ss.ext hx') (ho.ext hx42) hl1 (Nat.le_trans hz hx42.size) hB (by simp only [List.length_append]; have : (ansB x.Schema ss[k].Last).length ≤ 100 := hbl; omega) fun s48 w49 ho hx hz => hC hk1 _ _ _ rfl ⟨hx, hz, ?_⟩
    rw [flat_up hk1, ← List.append_assoc]
    exact ho
  rw [flat_all (by omega)] at ho
  exact hK _ _ (ho.mono hB) hx

/-! ### The laws -/
/-- What encode tells. -/
def EncR (B : Nat) (v : Int) (w' : World) (sch : Int) (ps : List ApiPair) (ss : List ApiSession) (r : Sl × Int) : Prop :=
  (¬ StateOk sch ps ss ∧ r = (Sl.nil, 3)) ∨ (StateOk sch ps ss ∧ sch ≠ v ∧ r = (Sl.nil, 8)) ∨ (StateOk v ps ss ∧ sch = v ∧ r.2 = 0 ∧ OwnSl eB w' B r.1 (stateB v ps ss))
theorem snapone_Encode_or {K : Sl × Int → World → Prop} (ht : Utf8T w) (h : StAt w x ps ss) (hle : ps.length ≤ 100000) (hK : ∀ r w', EncR w.heap.size 1 w' x.Schema ps ss r → Ext w w' → K r w') : snapone_Encode x K w :=
  snapone_Encode_spec ht h hle (fun h w' hx => hK _ _ (.inl ⟨h, rfl⟩) hx) (fun h h2 w' hx => hK _ _ (.inr (.inl ⟨h, h2, rfl⟩)) hx) (fun h h2 s w' ho hx => hK _ _ (.inr (.inr ⟨h, h2, rfl, ho⟩)) hx)
theorem ok_none (h : v = 1 ∨ v = 2) : StateOk v [] [] := ⟨h, ⟨by simp, by decide, List.Pairwise.nil⟩, ⟨by simp, List.Pairwise.nil⟩, by simp⟩
theorem bytes_none (h : v = 1 ∨ v = 2) : stateB v [] [] = [b8 v.toNat, 0, 0] := by
  unfold stateB
  have e0 : enc 0 = [0] := enc_small (by decide)
  have e1 : enc v.toNat = [b8 v.toNat] := enc_small (by omega)
  simp only [List.length_nil, List.flatMap_nil, List.append_nil, e0, e1]
  rfl
theorem law26_awake_spec {K : Bool → World → Prop} (ht : Utf8T w) (hK : ∀ w', Ext w w' → K true w') : law26_awake K w := by
  unfold law26_awake
  refine snapone_Encode_calls (s := ⟨1, Sl.nil, Sl.nil⟩) (snapone_Encode_or (x := ⟨1, Sl.nil, Sl.nil⟩) (ps := []) (ss := []) ht ⟨.nilSl _ _, .nilSl _ _⟩ (by decide) fun r w2 hr hx => ?_)
  rcases hr with ⟨h, _⟩ | ⟨_, h, _⟩ | ⟨_, _, h, ho⟩
  · exact absurd (ok_none (.inl rfl)) h
  · exact absurd rfl h
  rw [bytes_none (.inl rfl)] at ho
  refine ifEq (fun _ => ?_) (fun h' => absurd h h')
  have hl := ho.len
  refine ifEq (fun _ => ?_) (fun h' => absurd (by rw [hl]; rfl) h')
  refine el_rd (E := eB) (y := (1 : Int)) (k := 0) (by kernel_rfl) (by kernel_rfl) ho.is rfl (by decide) (by kernel_rfl) fun _ => ?_
  exact hK _ hx
/-- The bytes of any state of the older schema, which lead back to it, or why there are none. -/
theorem law26_SnaponeEncodes_spec {K : Bool → World → Prop} (ht : Utf8T w) (h : StAt w x ps ss) (hK : ∀ w', Ext w w' → K true w') : law26_SnaponeEncodes x K w := by
  unfold law26_SnaponeEncodes
  refine new_x (Ext.rfl' w) fun b1 w2 hb1 hl1 hx _ => ?_
  have awake : ∀ {u : World}, Ext w u → callV Pr Value.bool fid_law26_awake #[] u fun t v => kp b1 u v (K t v) := fun hx => law26_awake_calls (law26_awake_spec (ht.ext hx) fun v hx' => kp_ext hx' (hK _ (hx.trans' hx')))
  refine ref25_Large_calls (s := x) (ref25_Large_spec (h.ext hx) fun t3 w4 hb hx' => kp_ext hx' ?_)
  have hx := hx.trans' hx'
  refine ifB_of (fun _ => awake hx) (fun h1 => ?_)
  obtain ⟨⟨p80, _⟩, ⟨s40, _⟩⟩ := hb h1
  refine snapone_Encode_calls (s := x) (snapone_Encode_or (ht.ext hx) (h.ext hx) (by omega) fun r w8 hr hx' => kp_ext hx' ?_)
  have z8 := hx'.size
  have hx := hx.trans' hx'
  refine ref25_Check_calls (s := x) (ref25_Check_spec (h.ext hx) fun t9 w10 h9 hx' => kp_ext hx' ?_)
  have hx := hx.trans' hx'
  have nil : ∀ (n : Int), r = (Sl.nil, n) → (r.1.len : Int) = 0 ∧ r.2 = n := fun n e => by subst e; exact ⟨rfl, rfl⟩
  rcases hr with ⟨hno, hr⟩ | ⟨hok, hne, hr⟩ | ⟨hok, h1, h0, ho⟩
  · refine ifNot (ifB_of (fun h => absurd (h9.1 h) hno) (fun _ => ?_))
    obtain ⟨e1, e2⟩ := nil _ hr
    exact ifEq (fun _ => ifEq (fun _ => awake hx) (fun h => absurd e2 h)) (fun h => absurd e1 h)
  · refine ifNot (ifB_of (fun _ => ?_) (fun h => by rw [h9.2 hok] at h; cases h))
    obtain ⟨e1, e2⟩ := nil _ hr
    exact ifNe (fun _ => ifEq (fun _ => ifEq (fun _ => awake hx) (fun h => absurd e2 h)) (fun h => absurd e1 h)) (fun h => absurd h hne)
  have hok' : StateOk x.Schema ps ss := by rw [h1]; exact hok
  refine ifNot (ifB_of (fun _ => ?_) (fun h => by rw [h9.2 hok'] at h; cases h))
  refine ifNe (fun h => absurd h1 h) (fun _ => ?_)
  have ho := ho.ext hx'
  have hlen : (stateB 1 ps ss).length ≤ 140737488355328 := by
    have := ho.len
    have := stateB_len hok
    omega
  refine snapone_Decode_calls (snapone_Decode_spec (ht.ext hx) ho.is hlen ⟨fun h => absurd (by rw [decSt_took hok]) h, fun _ a b w16 ha hb hx' => kp_ext hx' ?_⟩)
  rw [decSt_took hok] at ha hb
  have hx := hx.trans' hx'
  have ho := ho.ext hx'
  refine new_x hx fun b17 w18 hb17 hl17 hx hn18 => wr_x hx hb17 fun w19 hx hw19 => ?_
  have hlta := ha.lt
  have hltb := hb.lt
  have hlto := ho.lt
  have e17 := hn18.1
  have ha := (ha.ext (Ext.new hn18)).wrN hw19 hlta (by omega)
  have hb := (hb.ext (Ext.new hn18)).wrN hw19 hltb (by omega)
  have ho := (ho.ext (Ext.new hn18)).wrN hw19 hlto (by omega)
  refine ifEq (fun _ => ?_) (fun h => absurd h0 h)
  refine ref26_Bytes_calls (s := x) (ref26_Bytes_spec (h.ext hx) hok' fun s20 w21 h20 hx' => kp_ext hx' (kp_ext hx' ?_))
  have hx := hx.trans' hx'
  rw [h1] at h20
  refine ref01_Same_calls (ref01_Same_spec (ho.ext hx').is h20.is fun w23 hx'' => kp_ext hx'' (kp_ext hx'' (ifB_t (by simp) ?_)))
  have hx := hx.trans' hx''
  refine ref25_Same_calls (a := ⟨1, a, b⟩) (b := x) (ref25_Same_spec (x := ⟨1, a, b⟩) ⟨((ha.ext hx').ext hx'').is, ((hb.ext hx').ext hx'').is⟩ (h.ext hx) fun t24 w25 h24 hx' => kp_ext hx' (kp_ext hx' (ifB_t (h24.2 ⟨h1.symm, rfl, rfl⟩) ?_)))
  have hx := hx.trans' hx'
  refine ifEq (fun _ => ?_) (fun h => absurd rfl h)
  exact law26_awake_calls (law26_awake_spec (ht.ext hx) fun v hx' => kp_ext hx' (kp_ext hx' (hK _ (hx.trans' hx'))))
/-- What any bytes are decoded as may be, is of the older schema, and has these bytes; else nothing is told but why. -/
theorem law26_SnaponeDecodes_spec {s : Sl} {K : Bool → World → Prop} (ht : Utf8T w) (hs : IsSl eB w s l) (hK : ∀ w', Ext w w' → K true w') : law26_SnaponeDecodes s K w := by
  unfold law26_SnaponeDecodes
  have hsl := hs.len
  refine ifD (fun _ => law26_awake_calls (law26_awake_spec ht hK)) (fun h3000 => ?_)
  have awake : ∀ {u : World} {b5 : Nat}, Ext w u → callV Pr Value.bool fid_law26_awake #[] u fun t v => kp b5 u v (K t v) := fun hx => law26_awake_calls (law26_awake_spec (ht.ext hx) fun v hx' => kp_ext hx' (hK _ (hx.trans' hx')))
  refine snapone_Decode_calls (snapone_Decode_spec ht hs (by omega) ⟨fun h0 w4 hx => ?_, fun h0 a b w4 ha hb hx => ?_⟩)
  · refine new_x hx fun b5 w6 hb5 hl5 hx _ => wr_x hx hb5 fun w7 hx _ => ?_
    refine ifNe (fun _ => ?_) (fun h => absurd h h0)
    refine ref25_Same_calls (a := zState) (b := ⟨0, Sl.nil, Sl.nil⟩) (ref25_Same_spec (x := zState) (y := ⟨0, Sl.nil, Sl.nil⟩) (StAt.zero _) (StAt.zero _) fun t w9 h hx' => kp_ext hx' (ifB_t (h.2 ⟨rfl, rfl, rfl⟩) ?_))
    exact awake (hx.trans' hx')
  obtain ⟨hok, hbytes⟩ := decSt_inv (v := 1) (l := l) (ps := (decSt 1 l).2.1) (ss := (decSt 1 l).2.2) (by rw [← h0])
  generalize (decSt 1 l).2.1 = ps at ha hok hbytes
  generalize (decSt 1 l).2.2 = ss at hb hok hbytes
  refine new_x hx fun b5 w6 hb5 hl5 hx hn6 => wr_x hx hb5 fun w7 hx hw7 => ?_
  have e5 := hn6.1
  have hlta := ha.lt
  have hltb := hb.lt
  have ha := (ha.ext (Ext.new hn6)).wrN hw7 hlta (by omega)
  have hb := (hb.ext (Ext.new hn6)).wrN hw7 hltb (by omega)
  refine ifNe (fun h => absurd rfl h) (fun _ => ?_)
  refine ref25_Check_calls (s := ⟨1, a, b⟩) (ref25_Check_spec (x := ⟨1, a, b⟩) ⟨ha.is, hb.is⟩ fun t12 w13 h12 hx' => kp_ext hx' (ifB_t (h12.2 hok) ?_))
  have hx := hx.trans' hx'
  refine ifEq (fun _ => ?_) (fun h => absurd rfl h)
  refine ref26_Bytes_calls (s := ⟨1, a, b⟩) (ref26_Bytes_spec (x := ⟨1, a, b⟩) ⟨(ha.ext hx').is, (hb.ext hx').is⟩ hok fun s14 w15 h14 hx'' => kp_ext hx'' ?_)
  have hx := hx.trans' hx''
  refine ref01_Same_calls (ref01_Same_spec h14.is (hs.ext hx) fun w17 hx' => kp_ext hx' (ifB_t (by rw [hbytes]; simp) ?_))
  exact awake (hx.trans' hx')
end Go.Chg
