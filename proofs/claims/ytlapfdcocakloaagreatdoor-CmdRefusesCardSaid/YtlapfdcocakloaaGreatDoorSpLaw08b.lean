/-
  The laws of chapter 8: CmdEncodes, CmdRefuses.
-/
import Derived.Test.YtlapfdcocakloaaGreatDoorSpLaw08
set_option maxRecDepth 20000
set_option linter.unusedVariables false
namespace Go.Chg
open Go.Vc
variable {w : World} {l : List UInt8} {v p no : Int} {c : ApiCmd}
theorem HasErr.uniq {e f : Int} (h : HasErr v c e) (k : HasErr v c f) : e = f := by
  rcases h with ⟨h1, h2⟩ | ⟨h1, h2, h3⟩ | ⟨h1, h2, h3⟩ <;> rcases k with ⟨k1, k2⟩ | ⟨k1, k2, k3⟩ | ⟨k1, k2, k3⟩
  · exact h2.uniq k2
  · exact absurd (h2.ok.2 k2) h1
  · exact absurd (h2.ok.2 k2) h1
  · exact absurd (k2.ok.2 h2) k1
  · rw [h1, k1]
  · exact absurd k3 h3
  · exact absurd (k2.ok.2 h2) k1
  · exact absurd h3 k3
  · rw [h1, k1]
/-- What the document says of a command in a version. -/
def RefHas (v : Int) (c : ApiCmd) (e : Int) : Prop := (¬ (v = 1 ∨ v = 2) ∧ e = 8) ∨ ((v = 1 ∨ v = 2) ∧ HasErr v c e)
theorem ref08_Has_spec {K : Int → World → Prop} (hK : ∀ e w', RefHas v c e → Ext w w' → K e w') : ref08_Has v c K w := by
  unfold ref08_Has
  refine new_x (Ext.rfl' w) fun b1 w2 hb1 _ hx _ => ?_
  refine ifD (fun h => hK _ _ (.inl ⟨by omega, rfl⟩) hx) (fun h1 => ?_)
  refine ifD (fun h => hK _ _ (.inl ⟨by omega, rfl⟩) hx) (fun h2 => ?_)
  have hv : v = 1 ∨ v = 2 := by omega
  refine ref08_Check_calls (c := c) (ref08_Check_spec fun e w4 he hx' => kp_ext hx' ?_)
  have hx := hx.trans' hx'
  refine ifNe (fun h => hK _ _ (.inr ⟨hv, .inl ⟨h, he⟩⟩) hx) (fun h => ?_)
  have hok := he.ok.1 h
  refine ref07_Has_calls (ref07_Has_spec fun b hb => kp_same ?_)
  exact ifNot (ifB_of (fun h => hK _ _ (.inr ⟨hv, .inr (.inr ⟨rfl, hok, hb.1 h⟩)⟩) hx) (fun h => hK _ _ (.inr ⟨hv, .inr (.inl ⟨rfl, hok, fun h' => by rw [hb.2 h'] at h; cases h⟩)⟩) hx))
theorem RefHas.ok {e : Int} (h : RefHas v c e) : e = 0 ↔ (v = 1 ∨ v = 2) ∧ CmdOk c ∧ versHas v c.Kind := by
  rcases h with ⟨h1, h2⟩ | ⟨h1, h2⟩
  · subst h2; exact ⟨fun h => (by cases h), fun h => absurd h.1 h1⟩
  · exact h2.ok.trans ⟨fun h => ⟨h1, h⟩, fun h => h.2⟩
theorem done_all (l : List UInt8) : doneN l (l.length : Int) 0 = 0 := by
  unfold doneN
  rw [if_neg (by decide), if_neg (Int.lt_irrefl _)]
theorem DecC.took {r : ApiCmd × Int} (hv : v = 1 ∨ v = 2) (hok : CmdOk c) (hh : versHas v c.Kind) (h : DecC v (cmdB v c) r) : r = (c, 0) := by
  have hrd : rdCmd (cmdB v c) v 0 0 = (c, ((cmdB v c).length : Int), 0) := rdCmd_took (cmdOk_fit hok v) (fun i hi hw => cmdOk_z hok (fun h1 h5 => by have := hh.2.2 h5; omega) i hi hw) (Took.all _)
  rcases h with ⟨h1, _⟩ | ⟨_, h1, _⟩ | ⟨_, h1, e, he, ⟨h2, rfl⟩ | ⟨h2, rfl⟩⟩
  · exact absurd hv h1
  · rw [hrd] at h1; exact absurd (done_all _) h1
  · rw [hrd] at he; exact absurd (he.ok.2 ⟨hok, hh⟩) h2
  · rw [hrd]
/-- The bytes of any command in any version, which lead back to it, or why there are none. -/
theorem law08_CmdEncodes_spec {K : Bool → World → Prop} (ht : Utf8T w) (hc : ConvT w) (hK : ∀ w', Ext w w' → K true w') : law08_CmdEncodes v c K w := by
  unfold law08_CmdEncodes
  refine new_x (Ext.rfl' w) fun b1 w2 hb1 hl1 hx _ => ?_
  have awake : ∀ {u : World}, Ext w u → callV Pr Value.bool fid_law08_awake #[] u fun t v => kp b1 u v (K t v) := fun hx => law08_awake_calls (law08_awake_spec (ht.ext hx) (hc.ext hx) fun v hx' => kp_ext hx' (hK _ (hx.trans' hx')))
  refine law08_large_calls (c := c) (law08_large_spec fun t w4 _ hx' => kp_ext hx' ?_)
  have hx := hx.trans' hx'
  refine ifB_of (fun _ => awake hx) (fun _ => ?_)
  refine cmd_Encode_calls (c := c) (cmd_Encode_spec (ht.ext hx) fun r w8 hr hx' => kp_ext hx' ?_)
  have hx := hx.trans' hx'
  refine ref08_Has_calls (c := c) (ref08_Has_spec fun want w10 hwant hx'' => kp_ext hx'' ?_)
  have hx := hx.trans' hx''
  have bad : r.2 = want → want ≠ 0 → r.1 = Sl.nil → ifB (r.2 != want) (K false w10) (ifB (want != 0) (ifB ((r.1.len : Int) == 0) (callV Pr Value.bool fid_law08_awake #[] w10 fun t11 w12 => kp b1 w10 w12 <| K t11 w12) (K false w10)) (False)) := fun h1 h2 h3 =>
    ifNe (fun h => absurd h1 h) (fun _ => ifNe (fun _ => ifEq (fun _ => awake hx) (fun h => absurd (by rw [h3]; rfl) h)) (fun h => absurd h h2))
  have same : r.2 = want := by
    rcases hr with ⟨h, rfl⟩ | ⟨hv, e, he, h⟩
    · rcases hwant with ⟨_, h2⟩ | ⟨h2, _⟩
      · exact h2.symm
      · exact absurd h2 h
    · rcases hwant with ⟨h2, _⟩ | ⟨_, h2⟩
      · exact absurd hv h2
      · have := he.uniq h2
        rcases h with ⟨_, rfl⟩ | ⟨h3, h4, _⟩
        · exact this
        · rw [h4, ← h3]; exact this
  refine ifNe (fun h => absurd same h) (fun _ => ?_)
  refine ifNe (fun h0 => ?_) (fun h0 => ?_)
  · have : r.1 = Sl.nil := by
      rcases hr with ⟨h, rfl⟩ | ⟨hv, e, he, ⟨_, rfl⟩ | ⟨h3, h4, _⟩⟩
      · rfl
      · rfl
      · exact absurd (same.symm.trans h4) h0
    exact ifEq (fun _ => awake hx) (fun h => absurd (by rw [this]; rfl) h)
  obtain ⟨hv, hok, hh⟩ := hwant.ok.1 h0
  have ho : OwnSl eB w8 w4.heap.size r.1 (cmdB v c) := by
    rcases hr with ⟨h, _⟩ | ⟨hv, e, he, ⟨h, _⟩ | ⟨_, _, h⟩⟩
    · exact absurd hv h
    · exact absurd (he.ok.2 ⟨hok, hh⟩) h
    · exact h
  have ho := ho.ext hx''
  obtain ⟨hnum, hsh⟩ := cmdOk_sizes hok
  have hlen : (cmdB v c).length ≤ 140737488355328 := by
    have := cmdT_len (v := v) hnum hsh 6
    unfold cmdB
    omega
  refine cmd_Decode_calls (cmd_Decode_spec (ht.ext hx) ho.is hlen fun x w14 hxx hx' => kp_ext hx' ?_)
  have hx := hx.trans' hx'
  have ho := ho.ext hx'
  obtain rfl := hxx.took hv hok hh
  have lo := ho.lt
  refine new_x hx fun b15 w16 hb15 hl15 hx hn16 => wr_x hx hb15 fun w17 hx hw17 => ?_
  have ho := (ho.ext (Ext.new hn16)).wrN hw17 lo (by have := hn16.1; omega)
  refine ref08_Bytes_calls (c := c) (ref08_Bytes_spec hnum hsh fun s19 w19 h19 hx' => kp_ext hx' (kp_ext hx' ?_))
  have hx := hx.trans' hx'
  refine ref01_Same_calls (ref01_Same_spec (ho.ext hx').is h19.is fun w21 hx' => kp_ext hx' (kp_ext hx' (ifB_t (by simp) ?_)))
  have hx := hx.trans' hx'
  refine eqSt (by kernel_rfl) (ApiCmd.eqv c c) (ifB_t (ApiCmd.eqs_iff.2 rfl) (ifEq (fun _ => ?_) (fun h => absurd rfl h)))
  exact law08_awake_calls (law08_awake_spec (ht.ext hx) (hc.ext hx) fun v hx' => kp_ext hx' (kp_ext hx' (hK _ (hx.trans' hx'))))
/-- A command of which only what its kind has is kept: what is wrong with it, ahead of its form, is as it was. -/
theorem trI_err {e : Int} (hk : kOk c.Kind) (h : CmdErr c e) (he : e = 6 ∨ e = 7) : CmdErr (trI 2 c 6) e := by
  have k0 := trI_kind (v := 2) c 6 (Nat.le_refl _)
  have f : ∀ i, i < 6 → need c.Kind i = true → numI (trI 2 c 6) i = numI c i ∧ txtI (trI 2 c 6) i = txtI c i := fun i hi hn =>
    (trI_fld c 6 (Nat.le_refl _) i hi).1 ⟨hi, by rw [want2 (by decide)]; exact hn⟩
  have ec : kOwn c.Kind = true → (trI 2 c 6).Client = c.Client ∧ (trI 2 c 6).Seq = c.Seq ∧ (trI 2 c 6).Key = c.Key := fun h =>
    ⟨Option.some.inj (f 0 (by decide) h).1, Option.some.inj (f 1 (by decide) h).1, (f 2 (by decide) h).2⟩
  have eo : kOld c.Kind = true → (trI 2 c 6).Old = c.Old := fun h => (f 3 (by decide) h).2
  have ev : kVal c.Kind = true → (trI 2 c 6).Val = c.Val := fun h => (f 4 (by decide) h).2
  have en : kNode c.Kind = true → (trI 2 c 6).Node = c.Node := fun h => Option.some.inj (f 5 (by decide) h).1
  have r : cRng (trI 2 c 6) ↔ cRng c := by
    unfold cRng
    rw [k0]
    constructor
    · rintro ⟨h1, h2⟩
      exact ⟨fun h => by obtain ⟨a, b, _⟩ := ec h; rw [← a, ← b]; exact h1 h, fun h => by rw [← en h]; exact h2 h⟩
    · rintro ⟨h1, h2⟩
      exact ⟨fun h => by obtain ⟨a, b, _⟩ := ec h; rw [a, b]; exact h1 h, fun h => by rw [en h]; exact h2 h⟩
  have t : cTxt (trI 2 c 6) ↔ cTxt c := by
    unfold cTxt
    rw [k0]
    constructor
    · rintro ⟨h1, h2, h3⟩
      exact ⟨fun h => by rw [← (ec h).2.2]; exact h1 h, fun h => by rw [← ev h]; exact h2 h, fun h => by rw [← eo h]; exact h3 h⟩
    · rintro ⟨h1, h2, h3⟩
      exact ⟨fun h => by rw [(ec h).2.2]; exact h1 h, fun h => by rw [ev h]; exact h2 h, fun h => by rw [eo h]; exact h3 h⟩
  rcases h with ⟨h, _⟩ | ⟨h, h1, h2⟩ | ⟨h, h1, h2, h3⟩ | ⟨h, _⟩ | ⟨h, _⟩
  · omega
  · exact .inr (.inl ⟨h, by rw [k0]; exact h1, fun h' => h2 (r.1 h')⟩)
  · exact .inr (.inr (.inl ⟨h, by rw [k0]; exact h1, r.2 h2, fun h' => h3 (t.1 h')⟩))
  · omega
  · omega
/-- What a command's bytes in a version are read as. -/
theorem rd_back (hf : CmdFit v c) : rdCmd (cmdB v c) v 0 0 = (trI v c 6, ((cmdB v c).length : Int), 0) := rdT_took hf 6 _ (Nat.le_refl _) (Took.all _)
/-- Bytes of a command that may not be, or has not that version, are refused as it is. -/
theorem law08_CmdRefuses_spec {K : Bool → World → Prop} (ht : Utf8T w) (hc : ConvT w) (hnum : CmdNum c) (hK : ∀ w', Ext w w' → K true w') : law08_CmdRefuses v c K w := by
  unfold law08_CmdRefuses
  refine new_x (Ext.rfl' w) fun b1 w2 hb1 hl1 hx _ => ?_
  have awake : ∀ {u : World}, Ext w u → callV Pr Value.bool fid_law08_awake #[] u fun t v => kp b1 u v (K t v) := fun hx => law08_awake_calls (law08_awake_spec (ht.ext hx) (hc.ext hx) fun v hx' => kp_ext hx' (hK _ (hx.trans' hx')))
  refine law08_large_calls (c := c) (law08_large_spec fun t w4 hsmall hx' => kp_ext hx' ?_)
  have hx := hx.trans' hx'
  refine ifB_of (fun _ => awake hx) (fun h0 => ?_)
  obtain ⟨s1, s2, s3⟩ := hsmall h0
  refine ifD (fun _ => awake hx) (fun v1 => ifD (fun _ => awake hx) (fun v2 => ifD (fun _ => awake hx) (fun k0 => ifD (fun _ => awake hx) (fun c0 => ifD (fun _ => awake hx) (fun q0 => ifD (fun _ => awake hx) (fun n0 => ?_))))))
  have l1 : b1 < w4.heap.size := by have := hx'.size; omega
  refine ⟨fun w' => (Ext w w' ∧ b1 < w'.heap.size) ∧ (v = 1 → c.Old = []) ∧ (v = 2 → ¬ CmdErr c 3) ∧ kOk c.Kind, ?_, ?_⟩
  · have tail : (v = 1 → c.Old = []) → (v = 2 → ¬ CmdErr c 3) → ∀ {u : World}, Ext w u → b1 < u.heap.size → ifB (decide (c.Kind < 1)) (callV Pr Value.bool fid_law08_awake #[] u fun t26 w27 => kp b1 u w27 <| K t26 w27)
        (ifB (decide (c.Kind > 8)) (callV Pr Value.bool fid_law08_awake #[] u fun t28 w29 => kp b1 u w29 <| K t28 w29) ((Ext w u ∧ b1 < u.heap.size) ∧ (v = 1 → c.Old = []) ∧ (v = 2 → ¬ CmdErr c 3) ∧ kOk c.Kind)) := fun g1 g2 u hx hz =>
      ifD (fun _ => awake hx) (fun h1 => ifD (fun _ => awake hx) (fun h2 => ⟨⟨hx, hz⟩, g1, g2, by unfold kOk; omega⟩))
    have mid : (v = 1 → c.Old = []) → ifB (v == 2) (callV Pr (Value.int .i64) fid_ref08_Check #[(.agg ⟨[(.int .i64 c.Kind), (.int .i64 c.Client), (.int .i64 c.Seq), (sval c.Key), (sval c.Val), (sval c.Old), (.int .i64 c.Node)]⟩)] w4 fun t22 w23 => kp b1 w4 w23 <|
        ifB (t22 == 3) (callV Pr Value.bool fid_law08_awake #[] w23 fun t24 w25 => kp b1 w23 w25 <| K t24 w25)
        (ifB (decide (c.Kind < 1)) (callV Pr Value.bool fid_law08_awake #[] w23 fun t26 w27 => kp b1 w23 w27 <| K t26 w27)
        (ifB (decide (c.Kind > 8)) (callV Pr Value.bool fid_law08_awake #[] w23 fun t28 w29 => kp b1 w23 w29 <| K t28 w29) ((Ext w w23 ∧ b1 < w23.heap.size) ∧ (v = 1 → c.Old = []) ∧ (v = 2 → ¬ CmdErr c 3) ∧ kOk c.Kind))))
        (ifB (decide (c.Kind < 1)) (callV Pr Value.bool fid_law08_awake #[] w4 fun t30 w31 => kp b1 w4 w31 <| K t30 w31)
        (ifB (decide (c.Kind > 8)) (callV Pr Value.bool fid_law08_awake #[] w4 fun t32 w33 => kp b1 w4 w33 <| K t32 w33) ((Ext w w4 ∧ b1 < w4.heap.size) ∧ (v = 1 → c.Old = []) ∧ (v = 2 → ¬ CmdErr c 3) ∧ kOk c.Kind))) := fun g1 => by
      refine ifEq (fun h2 => ?_) (fun h2 => tail g1 (fun h => absurd h h2) hx l1)
      refine ref08_Check_calls (c := c) (ref08_Check_spec fun e w23 he hx' => kp_ext hx' ?_)
      have hx := hx.trans' hx'
      exact ifEq (fun _ => awake hx) (fun h3 => tail g1 (fun _ h' => h3 (he.uniq h')) hx (Nat.lt_of_lt_of_le l1 hx'.size))
    refine ifEq (fun h1 => ?_) (fun h1 => mid fun h => absurd h h1)
    exact ifNot (ifStr (fun h => mid fun _ => h) (fun _ => awake hx))
  rintro w46 ⟨⟨hx, l46⟩, g1, g2, hk⟩
  have hv : v = 1 ∨ v = 2 := by omega
  have hsh : CmdShort c := ⟨by omega, by omega, by omega⟩
  have hf : CmdFit v c := by
    obtain ⟨m1, m2, m3, m4⟩ := hnum
    refine ⟨by omega, fun i hi _ n hn => ?_, fun i hi _ => ?_⟩
    · rcases six hi with rfl | rfl | rfl | rfl | rfl | rfl <;> simp only [numI, Option.some.injEq, reduceCtorEq] at hn <;> omega
    · rcases six hi with rfl | rfl | rfl | rfl | rfl | rfl <;> simp only [txtI, List.length_nil] <;> omega
  have hlen : (cmdB v c).length ≤ 140737488355328 := by
    have := cmdT_len (v := v) hnum hsh 6
    unfold cmdB
    omega
  have back := rd_back hf
  have one : v = 1 → trI v c 6 = c := fun h => trI_six fun i hi hw => by
    subst h
    have : i = 3 := by
      unfold wantI at hw
      simpa using hw
    subst this
    exact g1 rfl
  refine box_ty fun a w48 ha hx' ho => kp_ext hx' ?_
  have hx := hx.trans' hx'
  have z46 := hx'.size
  have hne : some b1 ≠ some a.block := fun e => by have := Option.some.inj e; omega
  refine cmd_Put_calls (c := c) (cmd_Put_spec (l := []) ⟨Sl.nil, .nilSl _ _, ho, fun e => by cases e⟩ hnum hsh (by simp) fun w50 hw50 hg => kp_grown hg hne ?_)
  have z48 : w.heap.size ≤ a.block := by have := hx.size; have := (Ext.rfl' w46).size; omega
  have hx := Ext.grown' hx hg (by omega)
  rw [List.nil_append] at hw50
  refine pack_Writer_Bytes_calls (pack_Writer_Bytes_spec hw50 hlen fun s52 w52 h52 hx' => kp_ext hx' ?_)
  have hx52 := hx.trans' hx'
  have hw52 := hw50.ext hx'
  have l52 : b1 < w52.heap.size := by have := hg.size; have := hx'.size; omega
  refine pack_NewReader_calls (pack_NewReader_spec h52.is hlen fun d w54 hd hr hx' => kp_ext hx' ?_)
  refine cmd_Get_calls (cmd_Get_spec hr hlen fun w56 hr56 hg56 => kp_grown hg56 (fun e => by have := Option.some.inj e; omega) ?_)
  rw [back]
  have hy := hx'.grown hg56 hd
  refine new_x hy fun b57 w58 hb57 hl57 hy _ => wr_x hy hb57 fun w59 hy _ => ?_
  refine ref08_Bytes_calls (c := c) (ref08_Bytes_spec hnum hsh fun s60 w61 h60 hx' => kp_ext hx' (kp_ext hx' ?_))
  have hy := hy.trans' hx'
  refine cmd_Decode_calls (cmd_Decode_spec (ht.ext (hx52.trans' hy)) h60.is hlen fun r w63 hdr hx' => kp_ext hx' (kp_ext hx' ?_))
  have hy := hy.trans' hx'
  refine new_x hy fun b64 w65 hb64 hl64 hy _ => wr_x hy hb64 fun w66 hy _ => ?_
  have hr2 : HasErr v (trI v c 6) r.2 := by
    rcases hdr with ⟨h1, _⟩ | ⟨_, h1, _⟩ | ⟨_, h1, e, he, ⟨h2, rfl⟩ | ⟨h2, rfl⟩⟩
    · exact absurd hv h1
    · rw [back] at h1; exact absurd (done_all _) h1
    · rw [back] at he; exact he
    · rw [back] at he; subst h2; exact he
  have rA : v = 2 → ∀ e, CmdErr c e → e ≠ 0 → r.2 ≠ 0 := fun h2 e he h0 hr0 => by
    subst h2
    have h67 : e = 6 ∨ e = 7 := by
      rcases he with ⟨h, h'⟩ | ⟨h, _⟩ | ⟨h, _⟩ | ⟨h, h'⟩ | ⟨h, _⟩
      · exact absurd hk h'
      · exact .inl h
      · exact .inr h
      · exact absurd (.inr (.inr (.inr (.inl ⟨rfl, h'⟩)))) (g2 rfl)
      · exact absurd h h0
    have := trI_err hk he h67
    exact h0 (this.ok.2 (hr2.ok.1 hr0).1)
  have rB : (v = 1 ∨ CmdOk c) → ∀ e, RefHas v c e → r.2 = e := fun h e he => by
    have et : trI v c 6 = c := by
      rcases hv with h1 | h1
      · exact one h1
      · rcases h with h | h
        · exact one h
        · exact trI_six fun i hi hw => cmdOk_z h (fun h' => by omega) i hi hw
    rw [et] at hr2
    rcases he with ⟨h1, _⟩ | ⟨_, h1⟩
    · exact absurd hv h1
    · exact hr2.uniq h1
  refine ⟨fun u => Ext w52 u, ?_, ?_⟩
  · refine held_x fun w68 hx' => ?_
    have hy := hy.trans' hx'
    refine pack_Writer_Bytes_calls (pack_Writer_Bytes_spec (hw52.ext hy) hlen fun s70 w71 h70 hx' => kp_ext hx' (kp_ext hx' (kp_ext hx' ⟨trivial, ?_⟩)))
    have hy := hy.trans' hx'
    refine ref08_Bytes_calls (c := c) (ref08_Bytes_spec hnum hsh fun s72 w73 h72 hx' => kp_ext hx' (kp_ext hx' (kp_ext hx' ⟨trivial, ?_⟩)))
    have hy := hy.trans' hx'
    refine ref01_Same_calls (ref01_Same_spec (h70.ext hx').is h72.is fun w75 hx' => kp_ext hx' (kp_ext hx' (kp_ext hx' ⟨trivial, ?_⟩)))
    have hy := hy.trans' hx'
    refine ifNot (ifB_t (by simp) (ifEq (fun h1 => ?_) (fun _ => hy)))
    refine neSt_S (by kernel_rfl) (ApiCmd.eqv (trI v c 6) c) ?_
    rw [one h1]
    exact ifB_f (by rw [ApiCmd.eqs_iff.2 rfl]; rfl) hy
  rintro w77 hy
  have wake : ∀ {u : World}, Ext w52 u → callV Pr Value.bool fid_law08_awake #[] u fun t v => kp b64 u v <| kp b57 u v <| kp b1 u v (K t v) := fun hy => law08_awake_calls (law08_awake_spec (ht.ext (hx52.trans' hy)) (hc.ext (hx52.trans' hy)) fun v hx' => kp_ext hx' (kp_ext hx' (kp_ext hx' (hK _ ((hx52.trans' hy).trans' hx')))))
  have last : (v = 1 ∨ CmdOk c) → ∀ {u : World}, Ext w52 u → callV Pr (Value.int .i64) fid_ref08_Has #[(.int .i64 v), (.agg ⟨[(.int .i64 c.Kind), (.int .i64 c.Client), (.int .i64 c.Seq), (sval c.Key), (sval c.Val), (sval c.Old), (.int .i64 c.Node)]⟩)] u fun t90 w91 =>
      kp b64 u w91 <| kp b57 u w91 <| kp b1 u w91 <| ifB (r.2 == t90) (callV Pr Value.bool fid_law08_awake #[] w91 fun t92 w93 => kp b64 w91 w93 <| kp b57 w91 w93 <| kp b1 w91 w93 <| K t92 w93) (K false w91) := fun h u hy => by
    refine ref08_Has_calls (c := c) (ref08_Has_spec fun e w91 he hx' => kp_ext hx' (kp_ext hx' (kp_ext hx' ?_)))
    exact ifEq (fun _ => wake (hy.trans' hx')) (fun h' => absurd (rB h e he) h')
  refine ifEq (fun h2 => ?_) (fun h2 => last (.inl (by omega)) hy)
  refine ref08_Check_calls (c := c) (ref08_Check_spec fun e w79 he hx' => kp_ext hx' (kp_ext hx' (kp_ext hx' ?_)))
  have hy := hy.trans' hx'
  refine ifNe (fun h0 => ?_) (fun h0 => last (.inr (he.ok.1 h0)) hy)
  exact ifNe (fun _ => wake hy) (fun h => absurd h (rA h2 e he h0))
theorem wfI_le {n : Int} (h : wfI .i64 n) : n ≤ 9223372036854775807 := by
  have : -9223372036854775808 ≤ n ∧ n ≤ 9223372036854775807 := by simpa [wfI, Lit.wf, IntKind.min, IntKind.max, IntKind.signed, IntKind.bits] using h
  exact this.2
theorem cmdNum_wf {c : ApiCmd} (h : ApiCmd.wf c) : CmdNum c := ⟨wfI_le h.1, wfI_le h.2.1, wfI_le h.2.2.1, wfI_le h.2.2.2.2.2.2⟩
end Go.Chg
