/-
  Package 'snaptwo': encode, put, get, migrate; the laws of chapter 27.
-/
import Derived.Test.YtahfcnaalleldaaDoorSpSnap3
set_option maxRecDepth 20000
set_option linter.unusedVariables false
namespace Go.Vc
theorem OwnSl.nw {α : Type} {E : Enc α} {w w1 w2 : World} {B b : Nat} {s : Sl} {l : List α} (ho : OwnSl E w B s l) (hn : New b w w1) (hw : Wr b w1 w2) : OwnSl E w2 B s l :=
  (ho.ext (Ext.new hn)).wrN hw ho.lt (Nat.le_of_eq hn.1.symm)
end Go.Vc
namespace Go.Chg
open Go.Vc
variable {w : World} {l : List UInt8} {v p no most : Int} {x : ApiState} {ps : List ApiPair} {ss : List ApiSession}
theorem snaptwo_Encode_spec {K : Sl × Int → World → Prop} (ht : Utf8T w) (h : StAt w x ps ss) (hle : ps.length ≤ 100000) (h3 : ¬ StateOk x.Schema ps ss → ∀ w', Ext w w' → K (Sl.nil, 3) w') (h8 : StateOk x.Schema ps ss → x.Schema ≠ 2 → ∀ w', Ext w w' → K (Sl.nil, 8) w')
    (hK : StateOk 2 ps ss → x.Schema = 2 → ∀ s w', OwnSl eB w' w.heap.size s (stateB 2 ps ss) → Ext w w' → K (s, 0) w') : snaptwo_Encode x K w := by
  unfold snaptwo_Encode
  refine new_x (Ext.rfl' w) fun b1 w2 hb1 hl1 hx hn2 => ?_
  refine migr_Check_calls (s := x) (migr_Check_spec (ht.ext hx) (h.ext hx) hle fun e w4 he hx' => kp_ext hx' ?_)
  have z4 := hx'.size
  have hx := hx.trans' hx'
  rcases he with ⟨rfl, he⟩ | ⟨rfl, he⟩
  rotate_left
  · exact ifNe (fun _ => h3 he _ hx) (fun h => absurd h (by decide))
  refine ifNe (fun h => absurd rfl h) (fun _ => ?_)
  refine ifNe (fun h1 => h8 he h1 _ hx) (fun h1 => ?_)
  rw [h1] at he
  obtain ⟨fp, fs, f64, f8⟩ := ok_small he
  have hpl := h.ps.len
  have hsl := h.ss.len
  have bp := take_le (B := pairB 2) (fun y hy => pairB_len (v := 2) (fp y hy)) f64
  have bs := take_le (B := sessB 2) (fun y hy => sessB_len (v := 2) (fs y hy)) f8
  have ep := enc_len9 (n := (ps.length : Int)) (by omega)
  have es := enc_len9 (n := (ss.length : Int)) (by omega)
  rw [Int.toNat_natCast] at ep es
  have e1 : (enc (2 : Int).toNat).length ≤ 9 := enc_len9 (by decide)
  refine box_ty fun a w6 ha hx' ho => kp_ext hx' ?_
  have hx := hx.trans' hx'
  have hne : some b1 ≠ some a.block := fun e => by cases e; omega
  have hwa : w.heap.size ≤ a.block := by omega
  refine pack_Writer_Number_calls (pack_Writer_Number_spec (Wt.zero ho) (by decide) (by decide) fun w8 hw hg => kp_grown hg hne ?_)
  have hx := Ext.grown' hx hg hwa
  refine pack_Writer_Number_calls (pack_Writer_Number_spec hw (by omega) (by rw [List.nil_append]; omega) fun w10 hw hg => kp_grown hg hne ?_)
  have hx := Ext.grown' hx hg hwa
  rw [hpl, Int.toNat_natCast, List.nil_append] at hw
  refine up1 (fun k w' => Ext w w' ∧ Wt w' a (enc (2 : Int).toNat ++ enc ps.length ++ (ps.take k).flatMap (pairB 2))) 0 ps.length rfl (by omega) (by omega) ⟨hx, by simpa using hw⟩ ?_
  rintro k w13 C _ hk ⟨hx, hw⟩ hC
  have := hw.lt
  have bk := bp k
  refine ifD (fun hlt => ?_) (fun hge => ?_)
  · have hk1 : k < ps.length := by omega
    obtain ⟨g1, g2, g3⟩ := fp _ (List.getElem_mem hk1)
    refine st_rd (val := ApiPair.val) (by kernel_rfl) (by kernel_rfl) (h.ps.ext hx) rfl hk1 (fun _ => rfl) fun _ => ?_
    refine new_x (Ext.rfl' w13) fun b16 w17 hb16 hl16 hx13 _ => wr_x hx13 hb16 fun w18 hx13 _ => ?_
    have hx := hx.trans' hx13
    have hne2 : some b16 ≠ some a.block := fun e => by cases e; omega
    have ek := enc_len9 (n := (ps[k].Key.length : Int)) (by omega)
    rw [Int.toNat_natCast] at ek
    refine pack_Writer_Text_calls (pack_Writer_Text_spec (hw.ext hx13) (by simp only [List.length_append]; omega) fun w20 hw hg => kp_grown hg hne2 (kp_grown hg hne ?_))
    have hx := Ext.grown' hx hg hwa
    have er := enc_len9 g3
    refine pack_Writer_Number_calls (pack_Writer_Number_spec hw g3 (by simp only [List.length_append]; omega) fun w21 hw hg => kp_grown hg hne2 (kp_grown hg hne ?_))
    have hx := Ext.grown' hx hg hwa
    refine pack_Writer_Text_calls (pack_Writer_Text_spec hw (by simp only [List.length_append]; omega) fun w22 hw hg => kp_grown hg hne2 (kp_grown hg hne ?_))
    have hx := Ext.grown' hx hg hwa
    refine hC hk1 _ _ rfl ⟨hx, ?_⟩
    rw [flat_up hk1, pairB_2]
    simpa using hw
  rw [flat_all (by omega)] at hw
  have bk' := bp ps.length
  rw [List.take_length] at bk'
  refine pack_Writer_Number_calls (pack_Writer_Number_spec hw (by omega) (by simp only [List.length_append]; omega) fun w24 hw hg => kp_grown hg hne ?_)
  have hx := Ext.grown' hx hg hwa
  rw [hsl, Int.toNat_natCast] at hw
  refine up1 (fun k w' => Ext w w' ∧ Wt w' a (enc (2 : Int).toNat ++ enc ps.length ++ ps.flatMap (pairB 2) ++ enc ss.length ++ (ss.take k).flatMap (sessB 2))) 0 ss.length rfl (by omega) (by omega) ⟨hx, by simpa using hw⟩ ?_
  rintro k w27 C _ hk ⟨hx, hw⟩ hC
  have := hw.lt
  have bk := bs k
  refine ifD (fun hlt => ?_) (fun hge => ?_)
  · have hk1 : k < ss.length := by omega
    obtain ⟨g1, g2⟩ := fs _ (List.getElem_mem hk1)
    refine st_rd (val := ApiSession.val) (by kernel_rfl) (by kernel_rfl) (h.ss.ext hx) rfl hk1 (fun _ => rfl) fun _ => ?_
    refine new_x (Ext.rfl' w27) fun b30 w31 hb30 hl30 hx27 _ => wr_x hx27 hb30 fun w32 hx27 _ => ?_
    have hx := hx.trans' hx27
    have hne2 : some b30 ≠ some a.block := fun e => by cases e; omega
    refine answer_Put_calls (a := ss[k].Last) (answer_Put_spec (hw.ext hx27) g1 (by simp only [List.length_append]; omega) fun w34 hw hg => kp_grown hg hne2 (kp_grown hg hne ?_))
    have hx := Ext.grown' hx hg hwa
    refine hC hk1 _ _ rfl ⟨hx, ?_⟩
    rw [flat_up hk1]
    simpa [sessB] using hw
  rw [flat_all (by omega)] at hw
  have bk' := bs ss.length
  rw [List.take_length] at bk'
  refine pack_Writer_Bytes_calls (pack_Writer_Bytes_spec hw (by simp only [List.length_append]; omega) fun s36 w36 ho hx' => kp_ext hx' (hK he h1 _ _ (ho.mono (by have := hx.size; omega)) (hx.trans' hx')))
theorem snaptwo_Encode_or {K : Sl × Int → World → Prop} (ht : Utf8T w) (h : StAt w x ps ss) (hle : ps.length ≤ 100000) (hK : ∀ r w', EncR w.heap.size 2 w' x.Schema ps ss r → Ext w w' → K r w') : snaptwo_Encode x K w :=
  snaptwo_Encode_spec ht h hle (fun h w' hx => hK _ _ (.inl ⟨h, rfl⟩) hx) (fun h h2 w' hx => hK _ _ (.inr (.inl ⟨h, h2, rfl⟩)) hx) (fun h h2 s w' ho hx => hK _ _ (.inr (.inr ⟨h, h2, rfl, ho⟩)) hx)
def PutR (B : Nat) (w' : World) (sch : Int) (ps : List ApiPair) (ss : List ApiSession) (r : Sl × Int) : Prop :=
  (¬ StateOk sch ps ss ∧ r = (Sl.nil, 3)) ∨ (StateOk sch ps ss ∧ r.2 = 0 ∧ OwnSl eB w' B r.1 (stateB sch ps ss))
theorem snaptwo_Put_spec {K : Sl × Int → World → Prop} (ht : Utf8T w) (h : StAt w x ps ss) (hle : ps.length ≤ 100000) (hK : ∀ r w', PutR w.heap.size w' x.Schema ps ss r → Ext w w' → K r w') : snaptwo_Put x K w := by
  unfold snaptwo_Put
  refine new_x (Ext.rfl' w) fun b1 w2 hb1 hl1 hx hn2 => ?_
  have z2 := hx.size
  refine ifEq (fun h1 => ?_) (fun h1 => ?_)
  · refine snapone_Encode_calls (s := x) (snapone_Encode_or (ht.ext hx) (h.ext hx) hle fun r w4 hr hx' => kp_ext hx' (hK _ _ ?_ (hx.trans' hx')))
    rcases hr with hr | ⟨_, h2, _⟩ | ⟨ok, h2, h3, h4⟩
    · exact .inl hr
    · exact absurd h1 h2
    · rw [← h2] at ok h4
      exact .inr ⟨ok, h3, h4.mono z2⟩
  · refine snaptwo_Encode_calls (s := x) (snaptwo_Encode_or (ht.ext hx) (h.ext hx) hle fun r w4 hr hx' => kp_ext hx' (hK _ _ ?_ (hx.trans' hx')))
    rcases hr with hr | ⟨ok, h2, _⟩ | ⟨ok, h2, h3, h4⟩
    · exact .inl hr
    · exact absurd ok.1 (by omega)
    · rw [← h2] at ok h4
      exact .inr ⟨ok, h3, h4.mono z2⟩
theorem dec_excl (h : (decSt 1 l).1 = 0) : (decSt 2 l).1 ≠ 0 := by
  by_cases h1 : (rdNumber l 2 0 0).2.2 = 0
  · by_cases h2 : (rdNumber l 2 0 0).1 = 1
    · rw [decSt_2 h1 (by omega)]
      decide
    · rw [decSt_2 h1 h2] at h
      exact absurd h (by decide)
  · rw [decSt_1 h1]
    exact h1
theorem get_eq {ps' : List ApiPair} {ss' : List ApiSession} {sch : Int} (hok : StateOk sch ps ss) (hv : v = 1 ∨ v = 2) (h : decSt v (stateB sch ps ss) = (0, ps', ss')) : v = sch ∧ ps' = ps ∧ ss' = ss := by
  have h2 := decSt_took hok
  have hs := hok.1
  have key : v = sch := by
    rcases hv with rfl | rfl <;> rcases hs with rfl | rfl
    · rfl
    · exact absurd (by rw [h2]) (dec_excl (l := stateB 2 ps ss) (by rw [h]))
    · exact absurd (by rw [h]) (dec_excl (l := stateB 1 ps ss) (by rw [h2]))
    · rfl
  subst key
  rw [h2] at h
  obtain ⟨_, h⟩ := Prod.mk.inj h
  obtain ⟨h3, h4⟩ := Prod.mk.inj h
  exact ⟨rfl, h3.symm, h4.symm⟩
def GetK (w : World) (l : List UInt8) (K : ApiState × Int → World → Prop) : Prop :=
  (∀ e w', e ≠ 0 → (decSt 1 l).1 ≠ 0 → (decSt 2 l).1 ≠ 0 → Ext w w' → K (zState, e) w') ∧
  (∀ v ps ss a b w', v = 1 ∨ v = 2 → decSt v l = (0, ps, ss) → OwnSl eApiPair w' w.heap.size a ps → OwnSl eApiSession w' w.heap.size b ss → Ext w w' → K (⟨v, a, b⟩, 0) w')
theorem snaptwo_Get_spec {s : Sl} {K : ApiState × Int → World → Prop} (ht : Utf8T w) (hb : IsSl eB w s l) (hl : l.length ≤ 140737488355328) (hG : GetK w l K) : snaptwo_Get s K w := by
  unfold snaptwo_Get
  refine new_x (Ext.rfl' w) fun b1 w2 hb1 hl1 hx hn2 => ?_
  refine snaptwo_first_calls (snaptwo_first_spec (hb.ext hx) hl fun a w4 ha hr hx4 => kp_ext hx4 ?_)
  have hx := hx.trans' hx4
  have z4 := hx4.size
  have z0 := hx.size
  refine ifNe (fun h1 => wr_x hx hb1 fun w5 hx _ => hG.1 _ _ h1 (by rw [decSt_1 h1]; exact h1) (by rw [decSt_1 h1]; exact h1) hx) (fun h1 => ?_)
  have fin : ∀ {a b : Sl} {w7 : World} {ps ss}, OwnSl eApiPair w7 w4.heap.size a ps → OwnSl eApiSession w7 w4.heap.size b ss → ∀ w8, Wr b1 w7 w8 → OwnSl eApiPair w8 w.heap.size a ps ∧ OwnSl eApiSession w8 w.heap.size b ss :=
    fun ha hb w8 hw => ⟨(ha.wrO hw (by omega)).mono (by omega), (hb.wrO hw (by omega)).mono (by omega)⟩
  refine ifEq (fun h2 => ?_) (fun h2 => ?_)
  · have n2 : (decSt 2 l).1 ≠ 0 := by rw [decSt_2 (v := 2) h1 (by rw [show (rdNumber l 2 0 0).1 = 1 from h2]; decide)]; decide
    refine snapone_Decode_calls (snapone_Decode_spec (ht.ext hx) (hb.ext hx) hl ⟨fun h0 w7 hx' => kp_ext hx' ?_, fun h0 a b w7 ha hb hx' => kp_ext hx' ?_⟩)
    · exact wr_x (hx.trans' hx') hb1 fun w8 hx _ => hG.1 _ _ h0 h0 n2 hx
    · refine wr_x (hx.trans' hx') hb1 fun w8 hx hw => ?_
      obtain ⟨ha, hb⟩ := fin ha hb w8 hw
      exact hG.2 1 _ _ _ _ _ (.inl rfl) (by rw [← h0]) ha hb hx
  · have n1 : (decSt 1 l).1 ≠ 0 := by rw [decSt_2 h1 h2]; decide
    refine snaptwo_Decode_calls (snaptwo_Decode_spec (ht.ext hx) (hb.ext hx) hl ⟨fun h0 w7 hx' => kp_ext hx' ?_, fun h0 a b w7 ha hb hx' => kp_ext hx' ?_⟩)
    · exact wr_x (hx.trans' hx') hb1 fun w8 hx _ => hG.1 _ _ h0 n1 h0 hx
    · refine wr_x (hx.trans' hx') hb1 fun w8 hx hw => ?_
      obtain ⟨ha, hb⟩ := fin ha hb w8 hw
      exact hG.2 2 _ _ _ _ _ (.inr rfl) (by rw [← h0]) ha hb hx
theorem snaptwo_Migrate_spec {s : Sl} {K : Sl × Int → World → Prop} (ht : Utf8T w) (hb : IsSl eB w s l) (hl : l.length ≤ 140737488355328) (h1 : (decSt 1 l).1 ≠ 0 → ∀ w', Ext w w' → K (Sl.nil, (decSt 1 l).1) w')
    (h2 : ∀ ps ss, decSt 1 l = (0, ps, ss) → StateOk 1 ps ss → ∀ s w', OwnSl eB w' w.heap.size s (stateB 2 (ps.map first) ss) → Ext w w' → K (s, 0) w') : snaptwo_Migrate s K w := by
  unfold snaptwo_Migrate
  refine snapone_Decode_calls (snapone_Decode_spec ht hb hl ⟨fun h0 w2 hx => ?_, fun h0 a b w2 ha hb hx => ?_⟩)
  · refine new_x hx fun b3 w4 hb3 hl3 hx _ => wr_x hx hb3 fun w5 hx _ => ?_
    exact ifNe (fun _ => h1 h0 _ hx) (fun h => absurd h h0)
  have hd : decSt 1 l = (0, (decSt 1 l).2.1, (decSt 1 l).2.2) := by rw [← h0]
  obtain ⟨hok, _⟩ := decSt_inv hd
  have h2 := h2 _ _ hd hok
  generalize (decSt 1 l).2.1 = ps at *
  generalize (decSt 1 l).2.2 = ss at *
  refine new_x hx fun b3 w4 hb3 hl3 hx hn4 => wr_x hx hb3 fun w5 hx hw5 => ?_
  have z5 := hw5.size
  have ha := ha.nw hn4 hw5
  have hb := hb.nw hn4 hw5
  have f64 := hok.2.1.2.1
  have f8 := sess8 hok.2.2.1
  refine ifNe (fun h => absurd rfl h) (fun _ => ?_)
  refine migr_Up_calls (s := ⟨1, a, b⟩) (migr_Up_spec (x := ⟨1, a, b⟩) (ht.ext hx) ⟨ha.is, hb.is⟩ (by omega) (by omega) (fun h => absurd hok h) (fun _ h => absurd (show (1 : Int) = 2 from h) (by decide)) fun _ _ a' b' w7 ha' hb' hx' => kp_ext hx' ?_)
  have hx := hx.trans' hx'
  have z7 := hx'.size
  refine new_x hx fun b8 w9 hb8 hl8 hx hn9 => wr_x hx hb8 fun w10 hx hw10 => ?_
  have e8 := hn9.1
  have z10 := hw10.size
  have ha' := ha'.nw hn9 hw10
  have hb' := hb'.nw hn9 hw10
  refine ifNe (fun h => absurd rfl h) (fun _ => ?_)
  refine snaptwo_Encode_calls (s := ⟨2, a', b'⟩) (snaptwo_Encode_or (x := ⟨2, a', b'⟩) (ht.ext hx) ⟨ha'.is, hb'.is⟩ (by rw [List.length_map]; omega) fun r w12 hr hx' => kp_ext hx' (kp_ext hx' ?_))
  have hx := hx.trans' hx'
  rcases hr with ⟨h, _⟩ | ⟨_, h, _⟩ | ⟨_, _, h, ho⟩
  · exact absurd (stateOk_first hok) h
  · exact absurd rfl h
  · have := h2 r.1 w12 (ho.mono (by have := hn9.lt; omega)) hx
    rw [← h] at this
    exact this

/-! ### The laws -/
theorem law27_awake_spec {K : Bool → World → Prop} (ht : Utf8T w) (hK : ∀ w', Ext w w' → K true w') : law27_awake K w := by
  unfold law27_awake
  refine snaptwo_Encode_calls (s := ⟨2, Sl.nil, Sl.nil⟩) (snaptwo_Encode_or (x := ⟨2, Sl.nil, Sl.nil⟩) (ps := []) (ss := []) ht ⟨.nilSl _ _, .nilSl _ _⟩ (by decide) fun r w2 hr hx => ?_)
  rcases hr with ⟨h, _⟩ | ⟨_, h, _⟩ | ⟨_, _, h0, ho⟩
  · exact absurd (ok_none (.inr rfl)) h
  · exact absurd rfl h
  refine lit_ty 1 (E := eB) (xs := [1, 0, 0]) w2.heap.size (by kernel_rfl) rfl (by decide) (fun w => by kernel_rfl) (Nat.le_refl _) fun s3 w4 _ h3 hx' => ?_
  have hx := hx.trans' hx'
  have ho := ho.ext hx'
  have e : decSt 1 [1, 0, 0] = (0, [], []) := by
    have := decSt_took (ok_none (v := 1) (.inl rfl))
    rw [bytes_none (.inl rfl)] at this
    exact this
  refine snaptwo_Migrate_calls (snaptwo_Migrate_spec (ht.ext hx) h3.is (by decide) (fun h => absurd (by rw [e]) h) fun ps ss h hok s5 w6 h5 hx' => ?_)
  rw [e] at h
  obtain ⟨_, h⟩ := Prod.mk.inj h
  obtain ⟨rfl, rfl⟩ := Prod.mk.inj h
  have hx := hx.trans' hx'
  have ho := ho.ext hx'
  refine ifEq (fun _ => ?_) (fun h => absurd h0 h)
  refine ifEq (fun _ => ?_) (fun h => absurd rfl h)
  have hl := ho.len
  rw [bytes_none (.inr rfl)] at hl
  refine ifEq (fun _ => ?_) (fun h' => absurd (by rw [hl]; rfl) h')
  refine ref01_Same_calls (ref01_Same_spec ho.is h5.is fun w8 hx' => ?_)
  have : decide (stateB 2 [] [] = stateB 2 (([] : List ApiPair).map first) []) = true := by simp
  rw [this]
  exact hK _ (hx.trans' hx')
/-- What any bytes are read as may be, and has these bytes. -/
theorem law27_SnaptwoGets_spec {s : Sl} {K : Bool → World → Prop} (ht : Utf8T w) (hs : IsSl eB w s l) (hK : ∀ w', Ext w w' → K true w') : law27_SnaptwoGets s K w := by
  unfold law27_SnaptwoGets
  have hsl := hs.len
  refine ifD (fun _ => law27_awake_calls (law27_awake_spec ht hK)) (fun h3000 => ?_)
  have awake : ∀ {u : World} {b5 b10 : Nat}, Ext w u → callV Pr Value.bool fid_law27_awake #[] u fun t v => kp b10 u v (kp b5 u v (K t v)) := fun hx => law27_awake_calls (law27_awake_spec (ht.ext hx) fun v hx' => kp_ext hx' (kp_ext hx' (hK _ (hx.trans' hx'))))
  refine snaptwo_Get_calls (snaptwo_Get_spec ht hs (by omega) ⟨fun e w4 he n1 n2 hx => ?_, fun v ps ss a b w4 hv hd ha hb hx => ?_⟩)
  · refine new_x hx fun b5 w6 hb5 hl5 hx _ => wr_x hx hb5 fun w7 hx _ => ?_
    refine snaptwo_Decode_calls (snaptwo_Decode_spec (ht.ext hx) (hs.ext hx) (by omega) ⟨fun h0 w9 hx' => kp_ext hx' ?_, fun h0 => absurd h0 n2⟩)
    have hx := hx.trans' hx'
    refine new_x hx fun b10 w11 hb10 hl10 hx _ => wr_x hx hb10 fun w12 hx _ => ?_
    refine ifNe (fun _ => ?_) (fun h => absurd h he)
    refine ref25_Same_calls (a := zState) (b := ⟨0, Sl.nil, Sl.nil⟩) (ref25_Same_spec (x := zState) (y := ⟨0, Sl.nil, Sl.nil⟩) (StAt.zero _) (StAt.zero _) fun t w9 h hx' => kp_ext hx' (kp_ext hx' (ifB_t (h.2 ⟨rfl, rfl, rfl⟩) ?_)))
    refine ifNe (fun _ => ?_) (fun h => absurd h h0)
    exact awake (hx.trans' hx')
  obtain ⟨hok, hbytes⟩ := decSt_inv hd
  refine new_x hx fun b5 w6 hb5 hl5 hx hn6 => wr_x hx hb5 fun w7 hx hw7 => ?_
  have ha := ha.nw hn6 hw7
  have hb := hb.nw hn6 hw7
  have rest : ∀ (t8 : ApiState × Int) (w9 : World), (t8.2 = 0 ↔ v = 2) → Ext w7 w9 → newV (fun b10 w11 => wrM b10 (fun w12 => ifB ((0 : Int) != 0) (callV Pr Value.bool fid_ref25_Same #[(.agg ⟨[(.int .i64 v), a.val, b.val]⟩), (.agg ⟨[(.int .i64 0), Sl.nil.val, Sl.nil.val]⟩)] w12 fun t13 w14 => kp b10 w12 w14 <| kp b5 w12 w14 <| ifB t13 (ifB (t8.2 != 0) (callV Pr Value.bool fid_law27_awake #[] w14 fun t15 w16 => kp b10 w14 w16 <| kp b5 w14 w16 <| K t15 w16) (K false w14)) (K false w14))
      (callV Pr Value.bool fid_ref25_Check #[(.agg ⟨[(.int .i64 v), a.val, b.val]⟩)] w12 fun t17 w18 => kp b10 w12 w18 <| kp b5 w12 w18 <| ifB t17 (callV Pr Sl.val fid_ref26_Bytes #[(.agg ⟨[(.int .i64 v), a.val, b.val]⟩)] w18 fun t19 w20 => kp b10 w18 w20 <| kp b5 w18 w20 <| callV Pr Value.bool fid_ref01_Same #[t19.val, s.val] w20 fun t21 w22 => kp b10 w20 w22 <| kp b5 w20 w22 <| ifB t21 (ifB ((t8.2 == 0) == (v == 2)) (callV Pr Value.bool fid_law27_awake #[] w22 fun t23 w24 => kp b10 w22 w24 <| kp b5 w22 w24 <| K t23 w24) (K false w22)) (K false w22)) (K false w18))) w11) w9 := by
    intro t8 w9 h8 hx9
    have hx := hx.trans' hx9
    have ha := ha.ext hx9
    have hb := hb.ext hx9
    refine new_x hx fun b10 w11 hb10 hl10 hx hn11 => wr_x hx hb10 fun w12 hx hw12 => ?_
    have ha := ha.nw hn11 hw12
    have hb := hb.nw hn11 hw12
    refine ifNe (fun h => absurd rfl h) (fun _ => ?_)
    refine ref25_Check_calls (s := ⟨v, a, b⟩) (ref25_Check_spec (x := ⟨v, a, b⟩) ⟨ha.is, hb.is⟩ fun t17 w18 h17 hx' => kp_ext hx' (kp_ext hx' (ifB_t (h17.2 hok) ?_)))
    have hx := hx.trans' hx'
    refine ref26_Bytes_calls (s := ⟨v, a, b⟩) (ref26_Bytes_spec (x := ⟨v, a, b⟩) ⟨(ha.ext hx').is, (hb.ext hx').is⟩ hok fun s19 w20 h19 hx'' => kp_ext hx'' (kp_ext hx'' ?_))
    have hx := hx.trans' hx''
    refine ref01_Same_calls (ref01_Same_spec h19.is (hs.ext hx) fun w22 hx' => kp_ext hx' (kp_ext hx' (ifB_t (by rw [hbytes]; simp) ?_)))
    refine ifB_t ?_ (awake (hx.trans' hx'))
    by_cases h : v = 2
    · rw [h8.2 h, h]
      rfl
    · have h' : t8.2 ≠ 0 := fun h' => h (h8.1 h')
      rw [show (t8.2 == (0 : Int)) = false from beq_eq_false_iff_ne.2 h', show (v == (2 : Int)) = false from beq_eq_false_iff_ne.2 h]
      rfl
  refine snaptwo_Decode_calls (snaptwo_Decode_spec (ht.ext hx) (hs.ext hx) (by omega) ⟨fun h0 w9 hx' => kp_ext hx' (rest (zState, (decSt 2 l).1) w9 ⟨fun h => absurd h h0, fun h => ?_⟩ hx'), fun h0 a2 b2 w9 _ _ hx' => kp_ext hx' (rest (⟨2, a2, b2⟩, 0) w9 ⟨fun _ => ?_, fun _ => rfl⟩ hx')⟩)
  · subst h
    rw [hd] at h0
    exact absurd rfl h0
  · rcases hv with rfl | rfl
    · exact absurd h0 (dec_excl (by rw [hd]))
    · rfl
end Go.Chg
