/-
  Package 'snapone': decode, encode; 'changeoverref26'.
-/
import Derived.Test.YtahfcnaalleldaaDoorSpSnap
set_option maxRecDepth 20000
set_option linter.unusedVariables false
namespace Go.Chg
open Go.Vc
variable {w : World} {l : List UInt8} {v p no most : Int} {x : ApiState} {ps : List ApiPair} {ss : List ApiSession}
/-- What a state's bytes lead to. -/
def DecK (w0 : World) (v : Int) (l : List UInt8) (K : ApiState × Int → World → Prop) : Prop :=
  ((decSt v l).1 ≠ 0 → ∀ w', Ext w0 w' → K (zState, (decSt v l).1) w') ∧
  ((decSt v l).1 = 0 → ∀ a b w', OwnSl eApiPair w' w0.heap.size a (decSt v l).2.1 → OwnSl eApiSession w' w0.heap.size b (decSt v l).2.2 → Ext w0 w' → K (⟨v, a, b⟩, 0) w')
theorem done_spec {a : Addr} {e : Int} {K : Int → World → Prop} (h : Rd w a l p no) (he : (if no ≠ 0 then no else if p < l.length then 3 else 0) = e) (hK : ∀ w', Ext w w' → K e w') : pack_Reader_Done (some a) K w := by
  subst he
  exact pack_Reader_Done_spec h hK
theorem pairB_1 (x : ApiPair) : pairB 1 x = enc x.Key.length ++ x.Key ++ (enc x.Val.length ++ x.Val) := by
  unfold pairB
  rw [if_pos rfl, List.append_nil]
theorem pairB_2 (x : ApiPair) : pairB 2 x = enc x.Key.length ++ x.Key ++ enc x.Rev.toNat ++ (enc x.Val.length ++ x.Val) := by
  unfold pairB
  rw [if_neg (by decide)]
theorem snapone_Decode_spec {s : Sl} {K : ApiState × Int → World → Prop} (ht : Utf8T w) (hb : IsSl eB w s l) (hl : l.length ≤ 140737488355328) (hD : DecK w 1 l K) : snapone_Decode s K w := by
  unfold snapone_Decode
  refine new_x (Ext.rfl' w) fun b1 w2 hb1 hl1 hx hn2 => ?_
  refine pack_NewReader_calls (pack_NewReader_spec (hb.ext hx) hl fun a w4 ha hr hx4 => kp_ext hx4 ?_)
  have hx := hx.trans' hx4
  have a4 := hr.lt
  have z4 := hx4.size
  have z2 := (Ext.new hn2).size
  refine alloc_ty (z := .pointer none) (by kernel_rfl) fun r5 w6 h5 hx6 ho6 => kp_ext hx6 ?_
  have hx := hx.trans' hx6
  have r6 := ho6.lt
  have hr := hr.ext hx6
  refine st_obj0 (by kernel_rfl) ho6 rfl (by decide) fun w7 hw7 ho7 => kp_wr hw7 (by omega) ?_
  have hx := Ext.grown' hx (grown_wr hw7) (by omega)
  have hr := hr.wr hw7 (by omega)
  have z7 := hw7.size
  have ho : Vc.Obj w7 r5 [.pointer (some a)] := ho7
  have hca : r5.block ≠ a.block := by omega
  refine ld_obj0 (by kernel_rfl) ho rfl ?_
  refine pack_Reader_Number_calls (pack_Reader_Number_spec hr fun w10 hr hg10 => kp_grown hg10 (fun e => by cases e; omega) ?_)
  have hx := Ext.grown' hx hg10 (by omega)
  have ho := ho.other hg10 (fun e => hca (Option.some.inj e))
  have z10 := hg10.size
  refine ld_obj0 (by kernel_rfl) ho rfl ?_
  refine pack_Reader_Err_calls (pack_Reader_Err_spec' hr (kp_same ?_))
  refine ifNe (fun h1 => wr_x hx hb1 fun w14 hx _ => ?_) (fun h1 => ?_)
  · have := hD.1
    rw [decSt_1 h1] at this
    exact this h1 _ hx
  refine ifNe (fun h2 => wr_x hx hb1 fun w15 hx _ => ?_) (fun h2 => ?_)
  · have := hD.1
    rw [decSt_2 h1 h2] at this
    exact this (by decide) _ hx
  have d3 := decSt_3 (v := 1) h1 h2
  have d4 := decSt_4 (v := 1) h1 h2
  have d5 := decSt_5 (v := 1) h1 h2
  rw [h1] at hr
  rw [h2]
  generalize rdNumber l 2 0 0 = num at *
  refine new_x hx fun b16 w17 hb16 hl16 hx hn17 => wr_x hx hb16 fun w18 hx hw18 => ?_
  have e16 := hn17.1
  have z18 := hw18.size
  have hr := (hr.ext (Ext.new hn17)).wr hw18 (by omega)
  have ho := (ho.ext (Ext.new hn17)).other (grown_wr hw18) (fun e => by have := Option.some.inj e; omega)
  refine ld_obj0 (by kernel_rfl) ho rfl ?_
  refine snapone_list_api_Pair_1_calls (snapone_list_pair_spec (by decide) (by decide) ho hr hca hl fun t20 w21 hp hr hg21 => kp_grown hg21 (fun e => by cases e; omega) (kp_grown hg21 (fun e => by cases e; omega) ?_))
  have hx := Ext.grown' hx hg21 (by omega)
  have z21 := hg21.size
  have ho := ho.other hg21 (fun e => hca (Option.some.inj e))
  refine wr_x hx hb16 fun w22 hx hw22 => ?_
  have z22 := hw22.size
  have hr := hr.wr hw22 (by omega)
  have ho := ho.other (grown_wr hw22) (fun e => by have := Option.some.inj e; omega)
  have hp := hp.wrO hw22 (by omega)
  refine ld_obj0 (by kernel_rfl) ho rfl ?_
  refine snapone_list_api_Session_2_calls (snapone_list_sess_spec (by decide) (by decide) ho hr hca hl fun t24 w25 hs hr hg25 => kp_grown hg25 (fun e => by cases e; omega) (kp_grown hg25 (fun e => by cases e; omega) ?_))
  have hx := Ext.grown' hx hg25 (by omega)
  have z25 := hg25.size
  have ho := ho.other hg25 (fun e => hca (Option.some.inj e))
  have hp := hp.grownB hg25 (fun c hc e => by have := hp.ge c hc; have := Option.some.inj e; omega)
  refine wr_x hx hb16 fun w26 hx hw26 => ?_
  have z26 := hw26.size
  have hr := hr.wr hw26 (by omega)
  have ho := ho.other (grown_wr hw26) (fun e => by have := Option.some.inj e; omega)
  have hp := hp.wrO hw26 (by omega)
  have hs := hs.wrO hw26 (by omega)
  refine ld_obj0 (by kernel_rfl) ho rfl ?_
  obtain ⟨e, hX⟩ : ∃ e, doneE l (rdState l 1 num.2.1 0) = e := ⟨_, rfl⟩
  refine pack_Reader_Done_calls (done_spec hr hX fun w29 hx29 => kp_ext hx29 (kp_ext hx29 ?_))
  have hx := hx.trans' hx29
  have hp := hp.ext hx29
  have hs := hs.ext hx29
  change OwnSl eApiPair w29 w18.heap.size t20 (rdState l 1 num.2.1 0).1.1 at hp
  change OwnSl eApiSession w29 w22.heap.size t24 (rdState l 1 num.2.1 0).1.2 at hs
  have hlen : (rdState l 1 num.2.1 0).1.1.length ≤ 100000 := by
    obtain ⟨n, hn, hn2⟩ := rdCount_nat (l := l) (p := num.2.1) (no := 0) (most := 64) (by decide)
    show (rdList (rdPair l 1) (rdCount l 64 num.2.1 0).2.1 (rdCount l 64 num.2.1 0).2.2 (rdCount l 64 num.2.1 0).1.toNat).1.length ≤ 100000
    rw [rdList_len]
    omega
  have l1 : b1 < w18.heap.size := by omega
  refine ⟨fun e33 w' => Ext w w' ∧ OwnSl eApiPair w' w18.heap.size t20 (rdState l 1 num.2.1 0).1.1 ∧ OwnSl eApiSession w' w18.heap.size t24 (rdState l 1 num.2.1 0).1.2 ∧ (e33 = 0 ∧ decSt 1 l = (0, (rdState l 1 num.2.1 0).1.1, (rdState l 1 num.2.1 0).1.2) ∨ e33 ≠ 0 ∧ decSt 1 l = (e33, [], [])), ?_, ?_⟩
  · refine ifEq (fun h3 => migr_Check_calls (s := ⟨1, t20, t24⟩) (migr_Check_spec (x := ⟨1, t20, t24⟩) (ht.ext hx) ⟨hp.is, hs.is⟩ hlen fun b w32 hb hx' => kp_ext hx' (kp_ext hx' ⟨hx.trans' hx', hp.ext hx', (hs.ext hx').mono (by omega), ?_⟩))) (fun h3 => ⟨hx, hp, hs.mono (by omega), .inr ⟨h3, ?_⟩⟩)
    · rcases hb with ⟨rfl, ok⟩ | ⟨rfl, ok⟩
      · exact .inl ⟨rfl, d5 (hX.trans h3) ok⟩
      · exact .inr ⟨by decide, d4 (hX.trans h3) ok⟩
    · rw [hX] at d3
      exact d3 h3
  rintro e33 w34 ⟨hx, hp, hs, ⟨rfl, he⟩ | ⟨h0, he⟩⟩
  · refine ifNe (fun h => absurd rfl h) (fun _ => wr_x hx hb1 fun w36 hx hw => ?_)
    have := hD.2
    rw [he] at this
    exact this rfl _ _ _ ((hp.wrO hw l1).mono (by omega)) ((hs.wrO hw l1).mono (by omega)) hx
  · refine ifNe (fun h => wr_x hx hb1 fun w35 hx _ => ?_) (fun h => absurd h h0)
    have := hD.1
    rw [he] at this
    exact this h0 _ hx

/-! ### The bytes of a state that may be -/
theorem flat_le {α : Type} {B : α → List UInt8} {n : Nat} : ∀ {xs : List α}, (∀ x ∈ xs, (B x).length ≤ n) → (xs.flatMap B).length ≤ n * xs.length
  | [], _ => by simp
  | x :: xs, h => by
    have h1 := flat_le (B := B) (n := n) fun y hy => h y (List.mem_cons_of_mem _ hy)
    have h2 := h x (List.mem_cons_self ..)
    rw [List.flatMap_cons, List.length_append, List.length_cons, Nat.mul_add, Nat.mul_one]
    omega
theorem ok_small (h : StateOk v ps ss) : (∀ x ∈ ps, x.Key.length ≤ 24 ∧ x.Val.length ≤ 48 ∧ x.Rev ≤ 9223372036854775807) ∧ (∀ x ∈ ss, AnsNum x.Last ∧ x.Last.Val.length ≤ 48) ∧ ps.length ≤ 64 ∧ ss.length ≤ 8 := by
  obtain ⟨hv, hp, hs, hr⟩ := h
  refine ⟨fun x hx => ?_, fun x hx => ?_, hp.2.1, sess8 hs⟩
  · obtain ⟨k1, k2, k3, k4⟩ := hp.1 x hx
    refine ⟨keyOk_len k1, valOk_len k2, ?_⟩
    rcases hv with rfl | rfl
    · have := k3 rfl; omega
    · have := k4 rfl; omega
  · obtain ⟨k1, k2, ⟨a1, a2⟩, ⟨a3, a4⟩, ⟨a5, a6⟩, ⟨a7, a8⟩, a9⟩ := hs.1 x hx
    exact ⟨⟨by omega, by omega, by omega, by omega⟩, valOk_len a9⟩
theorem pairB_len {x : ApiPair} (h : x.Key.length ≤ 24 ∧ x.Val.length ≤ 48 ∧ x.Rev ≤ 9223372036854775807) : (pairB v x).length ≤ 100 := by
  obtain ⟨h1, h2, h3⟩ := h
  have e1 := enc_len9 (n := (x.Key.length : Int)) (by omega)
  have e2 := enc_len9 (n := (x.Val.length : Int)) (by omega)
  have e3 := enc_len9 h3
  rw [Int.toNat_natCast] at e1 e2
  unfold pairB
  simp only [List.length_append]
  split
  · simp only [List.length_nil]; omega
  · omega
theorem sessB_len {x : ApiSession} (h : AnsNum x.Last ∧ x.Last.Val.length ≤ 48) : (sessB v x).length ≤ 100 := by
  have := ansB_len (v := v) h.1 (by have := h.2; omega)
  have := h.2
  unfold sessB
  omega
theorem take_le {α : Type} {B : α → List UInt8} {n m : Nat} {xs : List α} (h : ∀ x ∈ xs, (B x).length ≤ n) (hm : xs.length ≤ m) (k : Nat) : ((xs.take k).flatMap B).length ≤ n * m := by
  refine Nat.le_trans (flat_le fun x hx => h x (List.mem_of_mem_take hx)) (Nat.mul_le_mul_left _ ?_)
  rw [List.length_take]
  omega
theorem flat_up {α : Type} {B : α → List UInt8} {xs : List α} {k : Nat} (hk : k < xs.length) : (xs.take (k + 1)).flatMap B = (xs.take k).flatMap B ++ B xs[k] := by
  rw [List.take_succ_eq_append_getElem hk, List.flatMap_append, List.flatMap_cons, List.flatMap_nil, List.append_nil]
theorem flat_all {α : Type} {B : α → List UInt8} {xs : List α} {k : Nat} (hk : ¬ k < xs.length) : (xs.take k).flatMap B = xs.flatMap B := by
  rw [List.take_of_length_le (by omega)]
theorem stateB_len (h : StateOk v ps ss) : (stateB v ps ss).length ≤ 100000 := by
  have hv := h.1
  obtain ⟨fp, fs, f64, f8⟩ := ok_small h
  have bp := take_le (B := pairB v) (fun y hy => pairB_len (v := v) (fp y hy)) f64 ps.length
  have bs := take_le (B := sessB v) (fun y hy => sessB_len (v := v) (fs y hy)) f8 ss.length
  have ep := enc_len9 (n := (ps.length : Int)) (by omega)
  have es := enc_len9 (n := (ss.length : Int)) (by omega)
  have ev : (enc v.toNat).length ≤ 9 := enc_len9 (by omega)
  rw [Int.toNat_natCast] at ep es
  rw [List.take_length] at bp bs
  unfold stateB
  simp only [List.length_append]
  omega
theorem Wt.zero {w' : World} {a : Addr} (ho : Vc.Obj w' a [Sl.nil.val]) : Wt w' a [] := ⟨Sl.nil, .nilSl _ _, ho, fun e => by cases e⟩
theorem snapone_Encode_spec {K : Sl × Int → World → Prop} (ht : Utf8T w) (h : StAt w x ps ss) (hle : ps.length ≤ 100000) (h3 : ¬ StateOk x.Schema ps ss → ∀ w', Ext w w' → K (Sl.nil, 3) w') (h8 : StateOk x.Schema ps ss → x.Schema ≠ 1 → ∀ w', Ext w w' → K (Sl.nil, 8) w')
    (hK : StateOk 1 ps ss → x.Schema = 1 → ∀ s w', OwnSl eB w' w.heap.size s (stateB 1 ps ss) → Ext w w' → K (s, 0) w') : snapone_Encode x K w := by
  unfold snapone_Encode
  refine new_x (Ext.rfl' w) fun b1 w2 hb1 hl1 hx hn2 => ?_
  refine migr_Check_calls (s := x) (migr_Check_spec (ht.ext hx) (h.ext hx) hle fun e w4 he hx' => kp_ext hx' ?_)
  have z4 := hx'.size
  have hx := hx.trans' hx'
  rcases he with ⟨rfl, he⟩ | ⟨rfl, he⟩
  rotate_left
  · exact ifNe (fun _ => h3 he _ hx) (fun h => absurd h (by decide))
  refine ifNe (fun h => absurd rfl h) (fun _ => ?_)
  refine ifNe (fun h1 => h8 he h1 _ hx) (fun h1 => ?_)
  rw [h1] at he
  obtain ⟨fp, fs, f64, f8⟩ := ok_small he
  have hpl := h.ps.len
  have hsl := h.ss.len
  have bp := take_le (B := pairB 1) (fun y hy => pairB_len (v := 1) (fp y hy)) f64
  have bs := take_le (B := sessB 1) (fun y hy => sessB_len (v := 1) (fs y hy)) f8
  have ep := enc_len9 (n := (ps.length : Int)) (by omega)
  have es := enc_len9 (n := (ss.length : Int)) (by omega)
  rw [Int.toNat_natCast] at ep es
  have e1 : (enc (1 : Int).toNat).length ≤ 9 := enc_len9 (by decide)
  refine box_ty fun a w6 ha hx' ho => kp_ext hx' ?_
  have hx := hx.trans' hx'
  have hne : some b1 ≠ some a.block := fun e => by cases e; omega
  have hwa : w.heap.size ≤ a.block := by omega
  refine pack_Writer_Number_calls (pack_Writer_Number_spec (Wt.zero ho) (by decide) (by decide) fun w8 hw hg => kp_grown hg hne ?_)
  have hx := Ext.grown' hx hg hwa
  refine pack_Writer_Number_calls (pack_Writer_Number_spec hw (by omega) (by rw [List.nil_append]; omega) fun w10 hw hg => kp_grown hg hne ?_)
  have hx := Ext.grown' hx hg hwa
  rw [hpl, Int.toNat_natCast, List.nil_append] at hw
  refine up1 (fun k w' => Ext w w' ∧ Wt w' a (enc (1 : Int).toNat ++ enc ps.length ++ (ps.take k).flatMap (pairB 1))) 0 ps.length rfl (by omega) (by omega) ⟨hx, by simpa using hw⟩ ?_
  rintro k w13 C _ hk ⟨hx, hw⟩ hC
  have := hw.lt
  have bk := bp k
  refine ifD (fun hlt => ?_) (fun hge => ?_)
  · have hk1 : k < ps.length := by omega
    obtain ⟨g1, g2, g3⟩ := fp _ (List.getElem_mem hk1)
    refine st_rd (val := ApiPair.val) (by kernel_rfl) (by kernel_rfl) (h.ps.ext hx) rfl hk1 (fun _ => rfl) fun _ => ?_
    refine new_x (Ext.rfl' w13) fun b16 w17 hb16 hl16 hx13 _ => wr_x hx13 hb16 fun w18 hx13 _ => ?_
    have hx := hx.trans' hx13
    have hne2 : some b16 ≠ some a.block := fun e => by cases e; omega
    have ek := enc_len9 (n := (ps[k].Key.length : Int)) (by omega)
    rw [Int.toNat_natCast] at ek
    refine pack_Writer_Text_calls (pack_Writer_Text_spec (hw.ext hx13) (by simp only [List.length_append]; omega) fun w20 hw hg => kp_grown hg hne2 (kp_grown hg hne ?_))
    have hx := Ext.grown' hx hg hwa
    refine pack_Writer_Text_calls (pack_Writer_Text_spec hw (by simp only [List.length_append]; omega) fun w22 hw hg => kp_grown hg hne2 (kp_grown hg hne ?_))
    have hx := Ext.grown' hx hg hwa
    refine hC hk1 _ _ rfl ⟨hx, ?_⟩
    rw [flat_up hk1, pairB_1]
    simpa using hw
  rw [flat_all (by omega)] at hw
  have bk' := bp ps.length
  rw [List.take_length] at bk'
  refine pack_Writer_Number_calls (pack_Writer_Number_spec hw (by omega) (by simp only [List.length_append]; omega) fun w24 hw hg => kp_grown hg hne ?_)
  have hx := Ext.grown' hx hg hwa
  rw [hsl, Int.toNat_natCast] at hw
  refine up1 (fun k w' => Ext w w' ∧ Wt w' a (enc (1 : Int).toNat ++ enc ps.length ++ ps.flatMap (pairB 1) ++ enc ss.length ++ (ss.take k).flatMap (sessB 1))) 0 ss.length rfl (by omega) (by omega) ⟨hx, by simpa using hw⟩ ?_
  rintro k w27 C _ hk ⟨hx, hw⟩ hC
  have := hw.lt
  have bk := bs k
  refine ifD (fun hlt => ?_) (fun hge => ?_)
  · have hk1 : k < ss.length := by omega
    obtain ⟨g1, g2⟩ := fs _ (List.getElem_mem hk1)
    refine st_rd (val := ApiSession.val) (by kernel_rfl) (by kernel_rfl) (h.ss.ext hx) rfl hk1 (fun _ => rfl) fun _ => ?_
    refine new_x (Ext.rfl' w27) fun b30 w31 hb30 hl30 hx27 _ => wr_x hx27 hb30 fun w32 hx27 _ => ?_
    have hx := hx.trans' hx27
    have hne2 : some b30 ≠ some a.block := fun e => by cases e; omega
    refine answer_Put_calls (a := ss[k].Last) (answer_Put_spec (hw.ext hx27) g1 (by simp only [List.length_append]; omega) fun w34 hw hg => kp_grown hg hne2 (kp_grown hg hne ?_))
    have hx := Ext.grown' hx hg hwa
    refine hC hk1 _ _ rfl ⟨hx, ?_⟩
    rw [flat_up hk1]
    simpa [sessB] using hw
  rw [flat_all (by omega)] at hw
  have bk' := bs ss.length
  rw [List.take_length] at bk'
  refine pack_Writer_Bytes_calls (pack_Writer_Bytes_spec hw (by simp only [List.length_append]; omega) fun s36 w36 ho hx' => kp_ext hx' (hK he h1 _ _ (ho.mono (by have := hx.size; omega)) (hx.trans' hx')))
end Go.Chg
