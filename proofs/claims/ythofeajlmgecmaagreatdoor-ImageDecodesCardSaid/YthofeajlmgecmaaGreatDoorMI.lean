import Derived.Test.YthofeajlmgecmaaGreatDoorMH
/-
  Package 'snaptwo'.
-/
set_option maxRecDepth 20000
set_option linter.unusedVariables false
namespace Go.Chg
open Go.Vc
variable {w : World} {l : List UInt8} {v p no most : Int} {x : ApiState} {ps : List ApiPair} {ss : List ApiSession} {B : Nat} {a c d : Addr}
/-- The reader's cell, the reader, the state. -/
structure At3 (B : Nat) (a c d : Addr) : Prop where
  ha : a.block < B
  hc : c.block < B
  hd : d.block < B
  ac : c.block ≠ a.block
  cd : c.block ≠ d.block
  ad : a.block < d.block
theorem snaptwo_Decode_1_spec {xs : List ApiPair} {s t : Sl} {sch : Int} {K : Unit → World → Prop} (h3 : At3 B a c d) (hc : Vc.Obj w c [.pointer (some a)]) (hr : Rd w a l p no) (hd : Vc.Obj w d [.int .i64 sch, s.val, t.val]) (ho : OwnSl eApiPair w B s xs) (hB : B ≤ w.heap.size) (hn : xs.length ≤ 1000) (hl : l.length ≤ 140737488355328)
    (hK : ∀ s' w', Fr B a.block d.block w w' → Rd w' a l (rdPair l 2 p no).2.1 (rdPair l 2 p no).2.2 → Vc.Obj w' d [.int .i64 sch, s'.val, t.val] → OwnSl eApiPair w' B s' (xs ++ [(rdPair l 2 p no).1]) → K () w') : snaptwo_Decode_1 c d K w := by
  unfold snaptwo_Decode_1
  obtain ⟨haB, hcB, hdB, hac, hcd, had⟩ := h3
  have own : ∀ {u u' : World} {row : Nat}, OwnSl eApiPair u B s xs → u.grownBy u' (some row) → row < B → OwnSl eApiPair u' B s xs := fun h hg hr => h.grownB hg (fun k hk e => by have := h.ge k hk; have := Option.some.inj e; omega)
  have f := Fr.refl (x := a.block) (y := d.block) hB
  refine ld_obj0 (by kernel_rfl) hc rfl ?_
  refine pack_Reader_Text_calls (pack_Reader_Text_spec hr hl fun w3 hr hg3 => ?_)
  have f := f.gr hg3 (fun r hr => by cases hr; exact .inl rfl)
  have z3 := f.size
  have ho := own ho hg3 haB
  have hlt := ho.lt
  refine new_of fun b4 w5 hn5 => wr_of fun w6 hw6 => ?_
  have e4 := hn5.1
  have f := (f.ex (Ext.new hn5)).gr (grown_wr hw6) (fun r hr => by cases hr; exact .inr (.inr (by omega)))
  have hr := (hr.ext (Ext.new hn5)).wr hw6 (by omega)
  have ho := (ho.ext (Ext.new hn5)).wrN hw6 hlt (by omega)
  refine ld_obj0 (by kernel_rfl) (hc.fr f hcB hac hcd) rfl ?_
  refine pack_Reader_Number_calls (pack_Reader_Number_spec hr fun w9 hr hg9 => kp_grown hg9 (fun e => by have := Option.some.inj e; omega) (wr_of fun w10 hw10 => ?_))
  have f := (f.gr hg9 (fun r hr => by cases hr; exact .inl rfl)).gr (grown_wr hw10) (fun r hr => by cases hr; exact .inr (.inr (by omega)))
  have hr := hr.wr hw10 (by omega)
  have ho := (own ho hg9 haB).wrN hw10 hlt (by omega)
  refine ld_obj0 (by kernel_rfl) (hc.fr f hcB hac hcd) rfl ?_
  refine pack_Reader_Text_calls (pack_Reader_Text_spec hr hl fun w13 hr hg13 => kp_grown hg13 (fun e => by have := Option.some.inj e; omega) (wr_of fun w14 hw14 => ?_))
  have f := (f.gr hg13 (fun r hr => by cases hr; exact .inl rfl)).gr (grown_wr hw14) (fun r hr => by cases hr; exact .inr (.inr (by omega)))
  have hr := hr.wr hw14 (by omega)
  have ho := (own ho hg13 haB).wrN hw14 hlt (by omega)
  have z14 := f.size
  have hd14 : Vc.Obj w14 d [.int .i64 sch, s.val, t.val] := by
    have d3 := hd.other hg3 (fun e => by have := Option.some.inj e; omega)
    have d6 := (d3.ext (Ext.new hn5)).other (grown_wr hw6) (fun e => by have := Option.some.inj e; omega)
    have d10 := (d6.other hg9 (fun e => by have := Option.some.inj e; omega)).other (grown_wr hw10) (fun e => by have := Option.some.inj e; omega)
    exact (d10.other hg13 (fun e => by have := Option.some.inj e; omega)).other (grown_wr hw14) (fun e => by have := Option.some.inj e; omega)
  refine ld_obj (y := s) (by kernel_rfl) hd14 rfl ?_
  refine lit1_ty (E := eApiPair) 40 (x := (rdPair l 2 p no).1) w14.heap.size (by kernel_rfl) (by decide) (fun w => by kernel_rfl) (Nat.le_refl _) fun s16 w17 _ hs16 hx17 => kp_ext hx17 ?_
  have f := f.ex hx17
  have z17 := f.size
  have ho := ho.ext hx17
  have b14 : b4 < w14.heap.size := by have := hn5.lt; have := hw6.size; have := hg9.size; have := hw10.size; have := hg13.size; have := hw14.size; omega
  refine app_ty 40 (by kernel_rfl) (by kernel_rfl) ho hs16.is (by simp only [List.length_singleton]; omega) (by omega) (by decide) fun s18 w19 ho19 hg19 => kp_grown hg19 (fun e => by have := hlt _ e.symm; omega) ?_
  have f := f.gr hg19 (fun r hr => .inr (.inr (ho.ge r hr)))
  have hr := (hr.ext hx17).high hg19 (fun r hr => by have := ho.ge r hr; omega)
  have hd19 := (hd14.ext hx17).other hg19 (fun e => by have := ho.ge _ e.symm; omega)
  refine st_obj (by kernel_rfl) hd19 rfl (by simp) fun w20 hw20 hd20 => kp_wr hw20 (by omega) ?_
  have f := f.gr (grown_wr hw20) (fun r hr => by cases hr; exact .inr (.inl rfl))
  exact hK s18 w20 f (hr.high (grown_wr hw20) (fun r hr => by cases hr; exact had)) hd20 (ho19.grownB (grown_wr hw20) (fun k hk e => by have := ho19.ge k hk; have := Option.some.inj e; omega))
theorem snaptwo_Decode_2_spec {xs : List ApiSession} {q : List ApiPair} {s t : Sl} {sch : Int} {K : Unit → World → Prop} (h3 : At3 B a c d) (hc : Vc.Obj w c [.pointer (some a)]) (hr : Rd w a l p no) (hd : Vc.Obj w d [.int .i64 sch, t.val, s.val]) (ho : OwnSl eApiSession w B s xs) (hq : OwnSl eApiPair w B t q) (hne : ∀ k, t.blk = some k → some k ≠ s.blk) (hB : B ≤ w.heap.size) (hn : xs.length ≤ 1000) (hl : l.length ≤ 140737488355328)
    (hK : ∀ s' w', Fr B a.block d.block w w' → OwnSl eApiPair w' B t q → (∀ k, t.blk = some k → some k ≠ s'.blk) → Rd w' a l (rdSess l 2 p no).2.1 (rdSess l 2 p no).2.2 → Vc.Obj w' d [.int .i64 sch, t.val, s'.val] → OwnSl eApiSession w' B s' (xs ++ [(rdSess l 2 p no).1]) → K () w') : snaptwo_Decode_2 c d K w := by
  unfold snaptwo_Decode_2
  obtain ⟨haB, hcB, hdB, hac, hcd, had⟩ := h3
  have own : ∀ {u u' : World} {row : Nat}, OwnSl eApiSession u B s xs → u.grownBy u' (some row) → row < B → OwnSl eApiSession u' B s xs := fun h hg hr => h.grownB hg (fun k hk e => by have := h.ge k hk; have := Option.some.inj e; omega)
  have f := Fr.refl (x := a.block) (y := d.block) hB
  refine ld_obj0 (by kernel_rfl) hc rfl ?_
  refine answer_Get_calls (answer_Get_spec hr hl fun w3 hr hg3 => ?_)
  have f := f.gr hg3 (fun r hr => by cases hr; exact .inl rfl)
  have z3 := f.size
  have ho := own ho hg3 haB
  have hlt := ho.lt
  refine new_of fun b4 w5 hn5 => wr_of fun w6 hw6 => ?_
  have e4 := hn5.1
  have f := (f.ex (Ext.new hn5)).gr (grown_wr hw6) (fun r hr => by cases hr; exact .inr (.inr (by omega)))
  have hr := (hr.ext (Ext.new hn5)).wr hw6 (by omega)
  have ho := (ho.ext (Ext.new hn5)).wrN hw6 hlt (by omega)
  have z6 := f.size
  have hd6 := ((hd.other hg3 (fun e => by have := Option.some.inj e; omega)).ext (Ext.new hn5)).other (grown_wr hw6) (fun e => by have := Option.some.inj e; omega)
  refine ld_obj (y := s) (by kernel_rfl) hd6 rfl ?_
  refine lit1_ty (E := eApiSession) 72 (x := (rdSess l 2 p no).1) w6.heap.size (by kernel_rfl) (by decide) (fun w => by kernel_rfl) (Nat.le_refl _) fun s8 w9 _ hs8 hx9 => kp_ext hx9 ?_
  have f := f.ex hx9
  have z9 := f.size
  have ho := ho.ext hx9
  have b6 : b4 < w6.heap.size := by have := hn5.lt; have := hw6.size; omega
  refine app_ty2 72 (by kernel_rfl) (by kernel_rfl) ho hs8.is (by simp only [List.length_singleton]; omega) (by omega) (by decide) fun s10 w11 ho11 hg11 hno => kp_grown hg11 (fun e => by have := hlt _ e.symm; omega) ?_
  have f := f.gr hg11 (fun r hr => .inr (.inr (ho.ge r hr)))
  have hr := (hr.ext hx9).high hg11 (fun r hr => by have := ho.ge r hr; omega)
  have hd11 := (hd6.ext hx9).other hg11 (fun e => by have := ho.ge _ e.symm; omega)
  refine st_obj (by kernel_rfl) hd11 rfl (by simp) fun w12 hw12 hd12 => kp_wr hw12 (by omega) ?_
  have f := f.gr (grown_wr hw12) (fun r hr => by cases hr; exact .inr (.inl rfl))
  have q3 := hq.grownB hg3 (fun k hk e => by have := hq.ge k hk; have := Option.some.inj e; omega)
  have qlt := q3.lt
  have q6 := (q3.ext (Ext.new hn5)).wrN hw6 qlt (by omega)
  have q11 := (q6.ext hx9).grownB hg11 hne
  refine hK s10 w12 f (q11.grownB (grown_wr hw12) (fun k hk e => by have := hq.ge k hk; have := Option.some.inj e; omega)) (fun k hk e => ?_) (hr.high (grown_wr hw12) (fun r hr => by cases hr; exact had)) hd12 (ho11.grownB (grown_wr hw12) (fun k hk e => by have := ho11.ge k hk; have := Option.some.inj e; omega))
  have := qlt k hk
  rcases hno with h | ⟨j, h1, h2⟩
  · rw [h] at e
    exact hne k hk e
  · rw [h1] at e
    have := Option.some.inj e
    have := hx9.size
    have := qlt k hk
    omega
theorem snaptwo_times_1_spec {t : Sl} {sch : Int} {K : Unit → World → Prop} (hm : 0 ≤ most) (hm2 : most ≤ 100) (h3 : At3 B a c d) (hc : Vc.Obj w c [.pointer (some a)]) (hr : Rd w a l p no) (hd : Vc.Obj w d [.int .i64 sch, Sl.nil.val, t.val]) (hB : B ≤ w.heap.size) (hl : l.length ≤ 140737488355328)
    (hK : ∀ s w', Fr B a.block d.block w w' → Rd w' a l (rdList (rdPair l 2) (rdCount l most p no).2.1 (rdCount l most p no).2.2 (rdCount l most p no).1.toNat).2.1 (rdList (rdPair l 2) (rdCount l most p no).2.1 (rdCount l most p no).2.2 (rdCount l most p no).1.toNat).2.2 → Vc.Obj w' d [.int .i64 sch, s.val, t.val] →
      OwnSl eApiPair w' B s (rdList (rdPair l 2) (rdCount l most p no).2.1 (rdCount l most p no).2.2 (rdCount l most p no).1.toNat).1 → K () w') : snaptwo_times_1 (some a) most c d K w := by
  unfold snaptwo_times_1
  refine pack_Reader_Count_calls (pack_Reader_Count_spec hr fun w2 hr hg2 => ?_)
  have f := (Fr.refl (x := a.block) (y := d.block) hB).gr hg2 (fun r hr => by cases hr; exact .inl rfl)
  have hd := hd.other hg2 (fun e => by have := h3.ad; have := Option.some.inj e; omega)
  obtain ⟨n, hn, hn2⟩ := rdCount_nat (l := l) (p := p) (no := no) hm
  rw [hn]
  rw [hn, Int.toNat_natCast] at hK
  generalize rdCount l most p no = r at *
  refine up1 (fun k w' => ∃ s, Fr B a.block d.block w w' ∧ Rd w' a l (rdList (rdPair l 2) r.2.1 r.2.2 k).2.1 (rdList (rdPair l 2) r.2.1 r.2.2 k).2.2 ∧ Vc.Obj w' d [.int .i64 sch, s.val, t.val] ∧ OwnSl eApiPair w' B s (rdList (rdPair l 2) r.2.1 r.2.2 k).1) 0 n rfl (by omega) (by omega) ⟨Sl.nil, f, hr, hd, .nil _ _ _⟩ ?_
  rintro k w5 C _ hk ⟨s, f, hr, hd, ho⟩ hC
  have z := f.size
  refine ifD (fun hlt1 => ?_) (fun hge => ?_)
  · have hk1 : k < n := by omega
    have hlen := rdList_len (p := r.2.1) (no := r.2.2) (one := rdPair l 2) k
    exact snaptwo_Decode_1_calls (snaptwo_Decode_1_spec h3 (hc.fr f h3.hc h3.ac h3.cd) hr hd ho (by omega) (by omega) hl fun s' w7 f' hr hd ho => hC hk1 _ _ rfl ⟨s', f.trans f', hr, hd, ho⟩)
  · obtain rfl : k = n := by omega
    exact hK _ _ f hr hd ho
theorem snaptwo_times_2_spec {t : Sl} {q : List ApiPair} {sch : Int} {K : Unit → World → Prop} (hm : 0 ≤ most) (hm2 : most ≤ 100) (h3 : At3 B a c d) (hc : Vc.Obj w c [.pointer (some a)]) (hr : Rd w a l p no) (hd : Vc.Obj w d [.int .i64 sch, t.val, Sl.nil.val]) (hq : OwnSl eApiPair w B t q) (hB : B ≤ w.heap.size) (hl : l.length ≤ 140737488355328)
    (hK : ∀ s w', Fr B a.block d.block w w' → Rd w' a l (rdList (rdSess l 2) (rdCount l most p no).2.1 (rdCount l most p no).2.2 (rdCount l most p no).1.toNat).2.1 (rdList (rdSess l 2) (rdCount l most p no).2.1 (rdCount l most p no).2.2 (rdCount l most p no).1.toNat).2.2 → Vc.Obj w' d [.int .i64 sch, t.val, s.val] → OwnSl eApiPair w' B t q →
      OwnSl eApiSession w' B s (rdList (rdSess l 2) (rdCount l most p no).2.1 (rdCount l most p no).2.2 (rdCount l most p no).1.toNat).1 → K () w') : snaptwo_times_2 (some a) most c d K w := by
  unfold snaptwo_times_2
  refine pack_Reader_Count_calls (pack_Reader_Count_spec hr fun w2 hr hg2 => ?_)
  have f := (Fr.refl (x := a.block) (y := d.block) hB).gr hg2 (fun r hr => by cases hr; exact .inl rfl)
  have hd := hd.other hg2 (fun e => by have := h3.ad; have := Option.some.inj e; omega)
  have hq := hq.grownB hg2 (fun k hk e => by have := hq.ge k hk; have := h3.ha; have := Option.some.inj e; omega)
  obtain ⟨n, hn, hn2⟩ := rdCount_nat (l := l) (p := p) (no := no) hm
  rw [hn]
  rw [hn, Int.toNat_natCast] at hK
  generalize rdCount l most p no = r at *
  refine up1 (fun k w' => ∃ s, Fr B a.block d.block w w' ∧ Rd w' a l (rdList (rdSess l 2) r.2.1 r.2.2 k).2.1 (rdList (rdSess l 2) r.2.1 r.2.2 k).2.2 ∧ Vc.Obj w' d [.int .i64 sch, t.val, s.val] ∧ OwnSl eApiPair w' B t q ∧ (∀ k, t.blk = some k → some k ≠ s.blk) ∧ OwnSl eApiSession w' B s (rdList (rdSess l 2) r.2.1 r.2.2 k).1) 0 n rfl (by omega) (by omega) (by exact ⟨Sl.nil, f, hr, hd, hq, fun k _ e => (by cases e), .nil _ _ _⟩) ?_
  rintro k w5 C _ hk ⟨s, f, hr, hd, hq, hne, ho⟩ hC
  have z := f.size
  refine ifD (fun hlt1 => ?_) (fun hge => ?_)
  · have hk1 : k < n := by omega
    have hlen := rdList_len (p := r.2.1) (no := r.2.2) (one := rdSess l 2) k
    exact snaptwo_Decode_2_calls (snaptwo_Decode_2_spec h3 (hc.fr f h3.hc h3.ac h3.cd) hr hd ho hq hne (by omega) (by omega) hl fun s' w7 f' hq hne hr hd ho => hC hk1 _ _ rfl ⟨s', f.trans f', hr, hd, hq, hne, ho⟩)
  · obtain rfl : k = n := by omega
    exact hK _ _ f hr hd hq ho
theorem snaptwo_first_spec {s : Sl} {K : Option Addr × Int × Int → World → Prop} (hb : IsSl eB w s l) (hl : l.length ≤ 140737488355328)
    (hK : ∀ a w', w.heap.size ≤ a.block → Rd w' a l (rdNumber l 2 0 0).2.1 (rdNumber l 2 0 0).2.2 → Ext w w' → K (some a, (rdNumber l 2 0 0).1, (rdNumber l 2 0 0).2.2) w') : snaptwo_first s K w := by
  unfold snaptwo_first
  refine pack_NewReader_calls (pack_NewReader_spec hb hl fun a w2 ha hr hx => ?_)
  refine pack_Reader_Number_calls (pack_Reader_Number_spec hr fun w4 hr hg4 => ?_)
  exact pack_Reader_Err_calls (pack_Reader_Err_spec' hr (hK a _ ha hr (Ext.grown' hx hg4 ha)))
theorem snaptwo_Decode_spec {s : Sl} {K : ApiState × Int → World → Prop} (ht : Utf8T w) (hb : IsSl eB w s l) (hl : l.length ≤ 140737488355328) (hD : DecK w 2 l K) : snaptwo_Decode s K w := by
  unfold snaptwo_Decode
  refine new_x (Ext.rfl' w) fun b1 w2 hb1 hl1 hx hn2 => ?_
  refine snaptwo_first_calls (snaptwo_first_spec (hb.ext hx) hl fun a w4 ha hr hx4 => kp_ext hx4 ?_)
  have hx := hx.trans' hx4
  have a4 := hr.lt
  have z4 := hx4.size
  have z2 := (Ext.new hn2).size
  refine alloc_ty (z := .pointer none) (by kernel_rfl) fun r5 w6 h5 hx6 ho6 => kp_ext hx6 ?_
  have hx := hx.trans' hx6
  have r6 := ho6.lt
  have hr := hr.ext hx6
  refine st_obj0 (by kernel_rfl) ho6 rfl (by decide) fun w7 hw7 ho7 => kp_wr hw7 (by omega) ?_
  have hx := Ext.grown' hx (grown_wr hw7) (by omega)
  have hr := hr.wr hw7 (by omega)
  have z7 := hw7.size
  have ho : Vc.Obj w7 r5 [.pointer (some a)] := ho7
  refine ifNe (fun h1 => wr_x hx hb1 fun w14 hx _ => ?_) (fun h1 => ?_)
  · have := hD.1
    rw [decSt_1 h1] at this
    exact this h1 _ hx
  refine ifNe (fun h2 => wr_x hx hb1 fun w15 hx _ => ?_) (fun h2 => ?_)
  · have := hD.1
    rw [decSt_2 h1 h2] at this
    exact this (by decide) _ hx
  have d3 := decSt_3 (v := 2) h1 h2
  have d4 := decSt_4 (v := 2) h1 h2
  have d5 := decSt_5 (v := 2) h1 h2
  rw [h1] at hr
  dsimp only
  rw [h2]
  generalize rdNumber l 2 0 0 = num at *
  refine alloc_ty (z := .agg ⟨[.int .i64 0, Sl.nil.val, Sl.nil.val]⟩) (by kernel_rfl) fun s10 w11 h10 hx11 hd => kp_ext hx11 ?_
  have hx := hx.trans' hx11
  have s11 := hd.lt
  have z11 := hx11.size
  have hr := hr.ext hx11
  have ho := ho.ext hx11
  refine st_whole (n := 3) (cs' := [.int .i64 2, Sl.nil.val, Sl.nil.val]) (by kernel_rfl) hd rfl (by kernel_rfl) (by kernel_rfl) fun w12 hw12 hd => kp_wr hw12 (by omega) ?_
  have hx := Ext.grown' hx (grown_wr hw12) (by omega)
  have hr := hr.wr hw12 (by omega)
  have ho := ho.other (grown_wr hw12) (fun e => by have := Option.some.inj e; omega)
  have z12 := hw12.size
  have h3 : At3 w12.heap.size a r5 s10 := ⟨by omega, by omega, by omega, by omega, by omega, by omega⟩
  refine ld_obj0 (by kernel_rfl) ho rfl ?_
  refine snaptwo_times_1_calls (snaptwo_times_1_spec (by decide) (by decide) h3 ho hr hd (Nat.le_refl _) hl fun t20 w15 f hr hd hp => kp_fr f (by omega) (by omega) (by omega) ?_)
  have hx := f.ext hx (by omega) (by omega) (by omega)
  have z15 := f.size
  have ho := ho.fr f h3.hc h3.ac h3.cd
  refine ld_obj0 (by kernel_rfl) ho rfl ?_
  refine snaptwo_times_2_calls (snaptwo_times_2_spec (by decide) (by decide) h3 ho hr hd hp z15 hl fun t24 w18 f hr hd hp hs => kp_fr f (by omega) (by omega) (by omega) ?_)
  have hx := f.ext hx (by omega) (by omega) (by omega)
  have z18 := f.size
  have ho := ho.fr f h3.hc h3.ac h3.cd
  refine ld_obj0 (by kernel_rfl) ho rfl ?_
  obtain ⟨e, hX⟩ : ∃ e, doneE l (rdState l 2 num.2.1 0) = e := ⟨_, rfl⟩
  refine pack_Reader_Done_calls (done_spec hr hX fun w21 hx21 => kp_ext hx21 ?_)
  have hx := hx.trans' hx21
  have hp := hp.ext hx21
  have hs := hs.ext hx21
  have hd := hd.ext hx21
  change OwnSl eApiPair w21 w12.heap.size t20 (rdState l 2 num.2.1 0).1.1 at hp
  change OwnSl eApiSession w21 w12.heap.size t24 (rdState l 2 num.2.1 0).1.2 at hs
  have hlen : (rdState l 2 num.2.1 0).1.1.length ≤ 100000 := by
    obtain ⟨n, hn, hn2⟩ := rdCount_nat (l := l) (p := num.2.1) (no := 0) (most := 64) (by decide)
    show (rdList (rdPair l 2) (rdCount l 64 num.2.1 0).2.1 (rdCount l 64 num.2.1 0).2.2 (rdCount l 64 num.2.1 0).1.toNat).1.length ≤ 100000
    rw [rdList_len]
    omega
  have l1 : b1 < w12.heap.size := by omega
  refine ⟨fun e33 w' => Ext w w' ∧ Vc.Obj w' s10 [.int .i64 2, t20.val, t24.val] ∧ OwnSl eApiPair w' w12.heap.size t20 (rdState l 2 num.2.1 0).1.1 ∧ OwnSl eApiSession w' w12.heap.size t24 (rdState l 2 num.2.1 0).1.2 ∧ (e33 = 0 ∧ decSt 2 l = (0, (rdState l 2 num.2.1 0).1.1, (rdState l 2 num.2.1 0).1.2) ∨ e33 ≠ 0 ∧ decSt 2 l = (e33, [], [])), ?_, ?_⟩
  · refine ifEq (fun h3 => ?_) (fun h3 => ⟨hx, hd, hp, hs, .inr ⟨h3, ?_⟩⟩)
    · refine ld_whole_obj (n := 3) (x := (⟨2, t20, t24⟩ : ApiState)) (by kernel_rfl) hd rfl rfl ?_
      refine migr_Check_calls (s := ⟨2, t20, t24⟩) (migr_Check_spec (x := ⟨2, t20, t24⟩) (ht.ext hx) ⟨hp.is, hs.is⟩ hlen fun b w32 hb hx' => kp_ext hx' ⟨hx.trans' hx', hd.ext hx', hp.ext hx', hs.ext hx', ?_⟩)
      rcases hb with ⟨rfl, ok⟩ | ⟨rfl, ok⟩
      · exact .inl ⟨rfl, d5 (hX.trans h3) ok⟩
      · exact .inr ⟨by decide, d4 (hX.trans h3) ok⟩
    · rw [hX] at d3
      exact d3 h3
  rintro e33 w34 ⟨hx, hd, hp, hs, ⟨rfl, he⟩ | ⟨h0, he⟩⟩
  · refine ifNe (fun h => absurd rfl h) (fun _ => ?_)
    refine ld_whole_obj (n := 3) (x := (⟨2, t20, t24⟩ : ApiState)) (by kernel_rfl) hd rfl rfl ?_
    refine wr_x hx hb1 fun w36 hx hw => ?_
    have := hD.2
    rw [he] at this
    exact this rfl _ _ _ ((hp.wrO hw l1).mono (by omega)) ((hs.wrO hw l1).mono (by omega)) hx
  · refine ifNe (fun h => wr_x hx hb1 fun w35 hx _ => ?_) (fun h => absurd h h0)
    have := hD.1
    rw [he] at this
    exact this h0 _ hx
end Go.Chg
/-
  Package 'snaptwo': encode, put, get, migrate; the laws of chapter 27.
-/
set_option maxRecDepth 20000
set_option linter.unusedVariables false
namespace Go.Vc
theorem OwnSl.nw {α : Type} {E : Enc α} {w w1 w2 : World} {B b : Nat} {s : Sl} {l : List α} (ho : OwnSl E w B s l) (hn : New b w w1) (hw : Wr b w1 w2) : OwnSl E w2 B s l :=
  (ho.ext (Ext.new hn)).wrN hw ho.lt (Nat.le_of_eq hn.1.symm)
end Go.Vc
namespace Go.Chg
open Go.Vc
variable {w : World} {l : List UInt8} {v p no most : Int} {x : ApiState} {ps : List ApiPair} {ss : List ApiSession}
theorem snaptwo_Encode_spec {K : Sl × Int → World → Prop} (ht : Utf8T w) (h : StAt w x ps ss) (hle : ps.length ≤ 100000) (h3 : ¬ StateOk x.Schema ps ss → ∀ w', Ext w w' → K (Sl.nil, 3) w') (h8 : StateOk x.Schema ps ss → x.Schema ≠ 2 → ∀ w', Ext w w' → K (Sl.nil, 8) w')
    (hK : StateOk 2 ps ss → x.Schema = 2 → ∀ s w', OwnSl eB w' w.heap.size s (stateB 2 ps ss) → Ext w w' → K (s, 0) w') : snaptwo_Encode x K w := by
  unfold snaptwo_Encode
  refine new_x (Ext.rfl' w) fun b1 w2 hb1 hl1 hx hn2 => ?_
  refine migr_Check_calls (s := x) (migr_Check_spec (ht.ext hx) (h.ext hx) hle fun e w4 he hx' => kp_ext hx' ?_)
  have z4 := hx'.size
  have hx := hx.trans' hx'
  rcases he with ⟨rfl, he⟩ | ⟨rfl, he⟩
  rotate_left
  · exact ifNe (fun _ => h3 he _ hx) (fun h => absurd h (by decide))
  refine ifNe (fun h => absurd rfl h) (fun _ => ?_)
  refine ifNe (fun h1 => h8 he h1 _ hx) (fun h1 => ?_)
  rw [h1] at he
  obtain ⟨fp, fs, f64, f8⟩ := ok_small he
  have hpl := h.ps.len
  have hsl := h.ss.len
  have bp := take_le (B := pairB 2) (fun y hy => pairB_len (v := 2) (fp y hy)) f64
  have bs := take_le (B := sessB 2) (fun y hy => sessB_len (v := 2) (fs y hy)) f8
  have ep := enc_len9 (n := (ps.length : Int)) (by omega)
  have es := enc_len9 (n := (ss.length : Int)) (by omega)
  rw [Int.toNat_natCast] at ep es
  have e1 : (enc (2 : Int).toNat).length ≤ 9 := enc_len9 (by decide)
  refine box_ty fun a w6 ha hx' ho => kp_ext hx' ?_
  have hx := hx.trans' hx'
  have hne : some b1 ≠ some a.block := fun e => by cases e; omega
  have hwa : w.heap.size ≤ a.block := by omega
  refine pack_Writer_Number_calls (pack_Writer_Number_spec (Wt.zero ho) (by decide) (by decide) fun w8 hw hg => kp_grown hg hne ?_)
  have hx := Ext.grown' hx hg hwa
  refine pack_Writer_Number_calls (pack_Writer_Number_spec hw (by omega) (by rw [List.nil_append]; omega) fun w10 hw hg => kp_grown hg hne ?_)
  have hx := Ext.grown' hx hg hwa
  rw [hpl, Int.toNat_natCast, List.nil_append] at hw
  refine up1 (fun k w' => Ext w w' ∧ Wt w' a (enc (2 : Int).toNat ++ enc ps.length ++ (ps.take k).flatMap (pairB 2))) 0 ps.length rfl (by omega) (by omega) ⟨hx, by simpa using hw⟩ ?_
  rintro k w13 C _ hk ⟨hx, hw⟩ hC
  have := hw.lt
  have bk := bp k
  refine ifD (fun hlt => ?_) (fun hge => ?_)
  · have hk1 : k < ps.length := by omega
    obtain ⟨g1, g2, g3⟩ := fp _ (List.getElem_mem hk1)
    refine st_rd (val := ApiPair.val) (by kernel_rfl) (by kernel_rfl) (h.ps.ext hx) rfl hk1 (fun _ => rfl) fun _ => ?_
    refine new_x (Ext.rfl' w13) fun b16 w17 hb16 hl16 hx13 _ => wr_x hx13 hb16 fun w18 hx13 _ => ?_
    have hx := hx.trans' hx13
    have hne2 : some b16 ≠ some a.block := fun e => by cases e; omega
    have ek := enc_len9 (n := (ps[k].Key.length : Int)) (by omega)
    rw [Int.toNat_natCast] at ek
    refine pack_Writer_Text_calls (pack_Writer_Text_spec (hw.ext hx13) (by simp only [List.length_append]; omega) fun w20 hw hg => kp_grown hg hne2 (kp_grown hg hne ?_))
    have hx := Ext.grown' hx hg hwa
    have er := enc_len9 g3
    refine pack_Writer_Number_calls (pack_Writer_Number_spec hw g3 (by simp only [List.length_append]; omega) fun w21 hw hg => kp_grown hg hne2 (kp_grown hg hne ?_))
    have hx := Ext.grown' hx hg hwa
    refine pack_Writer_Text_calls (pack_Writer_Text_spec hw (by simp only [List.length_append]; omega) fun w22 hw hg => kp_grown hg hne2 (kp_grown hg hne ?_))
    have hx := Ext.grown' hx hg hwa
    refine hC hk1 _ _ rfl ⟨hx, ?_⟩
    rw [flat_up hk1, pairB_2]
    simpa using hw
  rw [flat_all (by omega)] at hw
  have bk' := bp ps.length
  rw [List.take_length] at bk'
  refine pack_Writer_Number_calls (pack_Writer_Number_spec hw (by omega) (by simp only [List.length_append]; omega) fun w24 hw hg => kp_grown hg hne ?_)
  have hx := Ext.grown' hx hg hwa
  rw [hsl, Int.toNat_natCast] at hw
  refine up1 (fun k w' => Ext w w' ∧ Wt w' a (enc (2 : Int).toNat ++ enc ps.length ++ ps.flatMap (pairB 2) ++ enc ss.length ++ (ss.take k).flatMap (sessB 2))) 0 ss.length rfl (by omega) (by omega) ⟨hx, by simpa using hw⟩ ?_
  rintro k w27 C _ hk ⟨hx, hw⟩ hC
  have := hw.lt
  have bk := bs k
  refine ifD (fun hlt => ?_) (fun hge => ?_)
  · have hk1 : k < ss.length := by omega
    obtain ⟨g1, g2⟩ := fs _ (List.getElem_mem hk1)
    refine st_rd (val := ApiSession.val) (by kernel_rfl) (by kernel_rfl) (h.ss.ext hx) rfl hk1 (fun _ => rfl) fun _ => ?_
    refine new_x (Ext.rfl' w27) fun b30 w31 hb30 hl30 hx27 _ => wr_x hx27 hb30 fun w32 hx27 _ => ?_
    have hx := hx.trans' hx27
    have hne2 : some b30 ≠ some a.block := fun e => by cases e; omega
    refine answer_Put_calls (a := ss[k].Last) (answer_Put_spec (hw.ext hx27) g1 (by simp only [List.length_append]; omega) fun w34 hw hg => kp_grown hg hne2 (kp_grown hg hne ?_))
    have hx := Ext.grown' hx hg hwa
    refine hC hk1 _ _ rfl ⟨hx, ?_⟩
    rw [flat_up hk1]
    simpa [sessB] using hw
  rw [flat_all (by omega)] at hw
  have bk' := bs ss.length
  rw [List.take_length] at bk'
  refine pack_Writer_Bytes_calls (pack_Writer_Bytes_spec hw (by simp only [List.length_append]; omega) fun s36 w36 ho hx' => kp_ext hx' (hK he h1 _ _ (ho.mono (by have := hx.size; omega)) (hx.trans' hx')))
theorem snaptwo_Encode_or {K : Sl × Int → World → Prop} (ht : Utf8T w) (h : StAt w x ps ss) (hle : ps.length ≤ 100000) (hK : ∀ r w', EncR w.heap.size 2 w' x.Schema ps ss r → Ext w w' → K r w') : snaptwo_Encode x K w :=
  snaptwo_Encode_spec ht h hle (fun h w' hx => hK _ _ (.inl ⟨h, rfl⟩) hx) (fun h h2 w' hx => hK _ _ (.inr (.inl ⟨h, h2, rfl⟩)) hx) (fun h h2 s w' ho hx => hK _ _ (.inr (.inr ⟨h, h2, rfl, ho⟩)) hx)
def PutR (B : Nat) (w' : World) (sch : Int) (ps : List ApiPair) (ss : List ApiSession) (r : Sl × Int) : Prop :=
  (¬ StateOk sch ps ss ∧ r = (Sl.nil, 3)) ∨ (StateOk sch ps ss ∧ r.2 = 0 ∧ OwnSl eB w' B r.1 (stateB sch ps ss))
theorem snaptwo_Put_spec {K : Sl × Int → World → Prop} (ht : Utf8T w) (h : StAt w x ps ss) (hle : ps.length ≤ 100000) (hK : ∀ r w', PutR w.heap.size w' x.Schema ps ss r → Ext w w' → K r w') : snaptwo_Put x K w := by
  unfold snaptwo_Put
  refine new_x (Ext.rfl' w) fun b1 w2 hb1 hl1 hx hn2 => ?_
  have z2 := hx.size
  refine ifEq (fun h1 => ?_) (fun h1 => ?_)
  · refine snapone_Encode_calls (s := x) (snapone_Encode_or (ht.ext hx) (h.ext hx) hle fun r w4 hr hx' => kp_ext hx' (hK _ _ ?_ (hx.trans' hx')))
    rcases hr with hr | ⟨_, h2, _⟩ | ⟨ok, h2, h3, h4⟩
    · exact .inl hr
    · exact absurd h1 h2
    · rw [← h2] at ok h4
      exact .inr ⟨ok, h3, h4.mono z2⟩
  · refine snaptwo_Encode_calls (s := x) (snaptwo_Encode_or (ht.ext hx) (h.ext hx) hle fun r w4 hr hx' => kp_ext hx' (hK _ _ ?_ (hx.trans' hx')))
    rcases hr with hr | ⟨ok, h2, _⟩ | ⟨ok, h2, h3, h4⟩
    · exact .inl hr
    · exact absurd ok.1 (by omega)
    · rw [← h2] at ok h4
      exact .inr ⟨ok, h3, h4.mono z2⟩
theorem dec_excl (h : (decSt 1 l).1 = 0) : (decSt 2 l).1 ≠ 0 := by
  by_cases h1 : (rdNumber l 2 0 0).2.2 = 0
  · by_cases h2 : (rdNumber l 2 0 0).1 = 1
    · rw [decSt_2 h1 (by omega)]
      decide
    · rw [decSt_2 h1 h2] at h
      exact absurd h (by decide)
  · rw [decSt_1 h1]
    exact h1
theorem get_eq {ps' : List ApiPair} {ss' : List ApiSession} {sch : Int} (hok : StateOk sch ps ss) (hv : v = 1 ∨ v = 2) (h : decSt v (stateB sch ps ss) = (0, ps', ss')) : v = sch ∧ ps' = ps ∧ ss' = ss := by
  have h2 := decSt_took hok
  have hs := hok.1
  have key : v = sch := by
    rcases hv with rfl | rfl <;> rcases hs with rfl | rfl
    · rfl
    · exact absurd (by rw [h2]) (dec_excl (l := stateB 2 ps ss) (by rw [h]))
    · exact absurd (by rw [h]) (dec_excl (l := stateB 1 ps ss) (by rw [h2]))
    · rfl
  subst key
  rw [h2] at h
  obtain ⟨_, h⟩ := Prod.mk.inj h
  obtain ⟨h3, h4⟩ := Prod.mk.inj h
  exact ⟨rfl, h3.symm, h4.symm⟩
def GetK (w : World) (l : List UInt8) (K : ApiState × Int → World → Prop) : Prop :=
  (∀ e w', e ≠ 0 → (decSt 1 l).1 ≠ 0 → (decSt 2 l).1 ≠ 0 → Ext w w' → K (zState, e) w') ∧
  (∀ v ps ss a b w', v = 1 ∨ v = 2 → decSt v l = (0, ps, ss) → OwnSl eApiPair w' w.heap.size a ps → OwnSl eApiSession w' w.heap.size b ss → Ext w w' → K (⟨v, a, b⟩, 0) w')
theorem snaptwo_Get_spec {s : Sl} {K : ApiState × Int → World → Prop} (ht : Utf8T w) (hb : IsSl eB w s l) (hl : l.length ≤ 140737488355328) (hG : GetK w l K) : snaptwo_Get s K w := by
  unfold snaptwo_Get
  refine new_x (Ext.rfl' w) fun b1 w2 hb1 hl1 hx hn2 => ?_
  refine snaptwo_first_calls (snaptwo_first_spec (hb.ext hx) hl fun a w4 ha hr hx4 => kp_ext hx4 ?_)
  have hx := hx.trans' hx4
  have z4 := hx4.size
  have z0 := hx.size
  refine ifNe (fun h1 => wr_x hx hb1 fun w5 hx _ => hG.1 _ _ h1 (by rw [decSt_1 h1]; exact h1) (by rw [decSt_1 h1]; exact h1) hx) (fun h1 => ?_)
  have fin : ∀ {a b : Sl} {w7 : World} {ps ss}, OwnSl eApiPair w7 w4.heap.size a ps → OwnSl eApiSession w7 w4.heap.size b ss → ∀ w8, Wr b1 w7 w8 → OwnSl eApiPair w8 w.heap.size a ps ∧ OwnSl eApiSession w8 w.heap.size b ss :=
    fun ha hb w8 hw => ⟨(ha.wrO hw (by omega)).mono (by omega), (hb.wrO hw (by omega)).mono (by omega)⟩
  refine ifEq (fun h2 => ?_) (fun h2 => ?_)
  · have n2 : (decSt 2 l).1 ≠ 0 := by rw [decSt_2 (v := 2) h1 (by rw [show (rdNumber l 2 0 0).1 = 1 from h2]; decide)]; decide
    refine snapone_Decode_calls (snapone_Decode_spec (ht.ext hx) (hb.ext hx) hl ⟨fun h0 w7 hx' => kp_ext hx' ?_, fun h0 a b w7 ha hb hx' => kp_ext hx' ?_⟩)
    · exact wr_x (hx.trans' hx') hb1 fun w8 hx _ => hG.1 _ _ h0 h0 n2 hx
    · refine wr_x (hx.trans' hx') hb1 fun w8 hx hw => ?_
      obtain ⟨ha, hb⟩ := fin ha hb w8 hw
      exact hG.2 1 _ _ _ _ _ (.inl rfl) (by rw [← h0]) ha hb hx
  · have n1 : (decSt 1 l).1 ≠ 0 := by rw [decSt_2 h1 h2]; decide
    refine snaptwo_Decode_calls (snaptwo_Decode_spec (ht.ext hx) (hb.ext hx) hl ⟨fun h0 w7 hx' => kp_ext hx' ?_, fun h0 a b w7 ha hb hx' => kp_ext hx' ?_⟩)
    · exact wr_x (hx.trans' hx') hb1 fun w8 hx _ => hG.1 _ _ h0 n1 h0 hx
    · refine wr_x (hx.trans' hx') hb1 fun w8 hx hw => ?_
      obtain ⟨ha, hb⟩ := fin ha hb w8 hw
      exact hG.2 2 _ _ _ _ _ (.inr rfl) (by rw [← h0]) ha hb hx
/-! ### The laws -/
end Go.Chg
