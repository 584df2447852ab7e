/-
  Commands as texts: the law of chapter 8 about parsing.
-/
import Derived.Test.YtnnoalpkldpjfaaGreatDoorSpTxt
import Derived.Test.YtnnoalpkldpjfaaGreatDoorSpLaw08
set_option maxRecDepth 20000
set_option linter.unusedVariables false
namespace Go.Chg
open Go.Vc
variable {w : World} {s l : List UInt8} {c x : ApiCmd} {ws : List (List UInt8)} {a : Addr}
/-! ### The words of a command's text -/
theorem kname_word (k : Int) : wordOk (kname k) = true := by
  unfold kname
  repeat' split
  all_goals exact plain_word (by simp) (by decide)
theorem wordI_ok (c : ApiCmd) (i : Nat) : wordOk (wordI c i) = true := by
  unfold wordI
  split
  · exact digits_word _
  · exact quote_word_ok _
theorem wordsT_ok (c : ApiCmd) : ∀ n, ∀ y ∈ wordsT c n, wordOk y = true
  | 0, y, h => by
    rw [wordsT, List.mem_singleton] at h
    subst h
    exact kname_word _
  | n + 1, y, h => by
    rw [wordsT] at h
    split at h
    · rcases List.mem_append.1 h with h | h
      · exact wordsT_ok c n y h
      · rw [List.mem_singleton] at h
        subst h
        exact wordI_ok _ _
    · exact wordsT_ok c n y h
theorem textC_words (c : ApiCmd) : wordsL (textC c) = some (wordsT c 6) := wordsL_join (wordsT_ok c 6)
theorem wordsT_pre (c : ApiCmd) (k : Nat) : ∀ n, ∃ t, wordsT c (k + n) = wordsT c k ++ t
  | 0 => ⟨[], by simp⟩
  | n + 1 => by
    obtain ⟨t, h⟩ := wordsT_pre c k n
    show ∃ t, wordsT c (k + n + 1) = _
    rw [wordsT]
    split
    · exact ⟨t ++ [wordI c (k + n)], by rw [h, List.append_assoc]⟩
    · exact ⟨t, h⟩
/-- What comes behind the words that were taken. -/
theorem wordsT_next (c : ApiCmd) {k : Nat} (hk : k < 6) (hn : need c.Kind k = true) : ∃ t, (wordsT c 6).drop (wordsT c k).length = wordI c k :: t ∧ (wordsT c 6).drop (wordsT c (k + 1)).length = t := by
  obtain ⟨t, ht⟩ := wordsT_pre c (k + 1) (5 - k)
  rw [show k + 1 + (5 - k) = 6 from by omega] at ht
  have h1 : wordsT c (k + 1) = wordsT c k ++ [wordI c k] := by rw [wordsT, if_pos hn]
  refine ⟨t, ?_, ?_⟩
  · rw [ht, h1, List.append_assoc, List.drop_left]
    rfl
  · rw [ht, List.drop_left]
theorem kname_inj {j k : Int} (hj : kOk j) (hk : kOk k) (h : kname j = kname k) : j = k := by
  unfold kOk at hj hk
  have key : ∀ a b : Fin 9, 1 ≤ a.val → 1 ≤ b.val → kname (a.val : Int) = kname (b.val : Int) → a = b := by decide +kernel
  obtain ⟨m, rfl⟩ := Int.eq_ofNat_of_zero_le (show 0 ≤ j by omega)
  obtain ⟨n, rfl⟩ := Int.eq_ofNat_of_zero_le (show 0 ≤ k by omega)
  have := key ⟨m, by omega⟩ ⟨n, by omega⟩ (by show 1 ≤ m; omega) (by show 1 ≤ n; omega) h
  have := congrArg Fin.val this
  simp only at this
  omega
/-! ### A command, part by part -/
def copyI (c x : ApiCmd) (i : Nat) : ApiCmd := match numI x i with | some n => setN c i n | none => setT c i (txtI x i)
def upC (x : ApiCmd) : Nat → ApiCmd
  | 0 => ⟨x.Kind, 0, 0, [], [], [], 0⟩
  | i + 1 => if need x.Kind i = true then copyI (upC x i) x i else upC x i
theorem upC_kind (x : ApiCmd) : ∀ i, (upC x i).Kind = x.Kind
  | 0 => rfl
  | i + 1 => by
    rw [upC]
    split
    · have h := upC_kind x i
      unfold copyI
      split
      · unfold setN; split <;> exact h
      · unfold setT; split <;> exact h
    · exact upC_kind x i
theorem upC_all (h : CmdOk x) : upC x 6 = x := by
  obtain ⟨hk, hr, ht, f1, f2, f3, f4⟩ := h
  obtain ⟨kd, cl, sq, ky, vl, od, nd⟩ := x
  simp only at f1 f2 f3 f4
  simp only [upC, need, copyI, numI, txtI, setN, setT]
  cases ho : kOwn kd <;> cases hd : kOld kd <;> cases hv : kVal kd <;> cases hn : kNode kd <;> simp only [ho, hd, hv, hn, forall_const, false_implies, Bool.true_eq_false] at f1 f2 f3 f4 <;> simp_all
/-! ### A part, filled from a word -/
theorem fl_num {T x t3 fid off : Nat} {cs : List Value} {K : Unit → World → Prop} {Y : Nat → Value → Option Addr × Bool → World → Prop} (hT : concT Pr T = true) (ht : sizeT Pr t3 = some 1) (ho : Vc.Obj w a cs) (hoff : off < cs.length)
    (hcall : ∀ (w : World) (K' : Value → World → Prop), K' (.iface T (.pointer (some (a.add off)))) w → callV Pr vval fid #[.pointer (some a)] w K')
    (hE : ErrT w) (hl : s.length ≤ 1000000) (hK : ∀ n w', DigOf s n → Vc.Obj w' a (cs.set off (.int .i64 n)) → w.grownBy w' (some a.block) → K () w') :
    newV (fun b1 w2 => callV Pr vval fid #[(.pointer (some a))] w2 fun t3' w4 => kp b1 w2 w4 <|
      opRd Pr (Instr.typeAssert t3' x T true) (tval2 Value.pointer Value.bool) (fun t5 => ifB t5.2
        (callV Pr (tval2 (Value.int .i64) vval) fid_strconv_Atoi #[sval s] w4 fun t6 w7 => kp b1 w4 w7 <|
          opRd Pr (nilSem (.pointer t5.1)) pav (fun t8 => opUn Pr (Instr.storeAt t3 (.pointer (some t8)) (.int .i64 t6.1)) (fun w9 => kp b1 w7 w9 <| K () w9) w7) w7)
        (Y b1 t3' t5 w4)) w4) w := by
  have hlt := ho.lt
  refine new_x (Ext.rfl' w) fun b1 w2 hb1 _ hx _ => hcall _ _ (kp_same ?_)
  refine ta_yes hT rfl (ifB_t rfl ?_)
  refine strconv_Atoi_calls (Atoi_spec (hE.ext hx) hl fun n e w7 hx7 hd => kp_ext hx7 ?_)
  have ho7 := (ho.ext hx).ext hx7
  refine nil_rd rfl (st_obj ht ho7 rfl hoff fun w9 hw9 ho9 => kp_wr hw9 (by omega) (hK n _ hd ho9 (grown_trans (grown_ext (hx.trans' hx7) _) (grown_wr hw9))))
theorem fl_txt {T T' x t9 fid off : Nat} {cs : List Value} {K : Unit → World → Prop} {X Y : Nat → Value → Option Addr × Bool → World → Prop} (hT' : concT Pr T' = true) (hne : Nat.beq T T' = false) (hz : zeroT Pr T' = some (.pointer none)) (hT : concT Pr T = true) (ht : sizeT Pr t9 = some 1) (ho : Vc.Obj w a cs) (hoff : off < cs.length)
    (hcall : ∀ (w : World) (K' : Value → World → Prop), K' (.iface T (.pointer (some (a.add off)))) w → callV Pr vval fid #[.pointer (some a)] w K')
    (hU : Utf8T w) (hl : s.length ≤ 1000000) (hK : ∀ w', Vc.Obj w' a (cs.set off (sval (unqR s).1)) → w.grownBy w' (some a.block) → K () w') :
    newV (fun b1 w2 => callV Pr vval fid #[(.pointer (some a))] w2 fun t3' w4 => kp b1 w2 w4 <|
      opRd Pr (Instr.typeAssert t3' x T' true) (tval2 Value.pointer Value.bool) (fun t5 => ifB t5.2 (Y b1 t3' t5 w4)
        (opRd Pr (Instr.typeAssert t3' x T true) (tval2 Value.pointer Value.bool) (fun t10 => ifB t10.2
          (callV Pr (tval2 sval (Value.int .i64)) fid_quote_Unquote #[sval s] w4 fun t11 w12 => kp b1 w4 w12 <|
            opRd Pr (nilSem (.pointer t10.1)) pav (fun t13 => opUn Pr (Instr.storeAt t9 (.pointer (some t13)) (sval t11.1)) (fun w14 => kp b1 w12 w14 <| K () w14) w12) w12)
          (X b1 t3' t10 w4)) w4)) w4) w := by
  have hlt := ho.lt
  refine new_x (Ext.rfl' w) fun b1 w2 hb1 _ hx _ => hcall _ _ (kp_same ?_)
  refine ta_no hT' hne hz (ifB_f rfl ?_)
  refine ta_yes hT rfl (ifB_t rfl ?_)
  refine quote_Unquote_calls (Unquote_spec (hU.ext hx) hl fun w7 hx7 => kp_ext hx7 ?_)
  have ho7 := (ho.ext hx).ext hx7
  refine nil_rd rfl (st_obj ht ho7 rfl hoff fun w9 hw9 ho9 => kp_wr hw9 (by omega) (hK _ ho9 (grown_trans (grown_ext (hx.trans' hx7) _) (grown_wr hw9))))
/-- What a part is behind: some number, that of the digits; or the text in quotes. -/
theorem part_fill {K : Unit → World → Prop} {i : Nat} (hi : i < 6) (ho : Vc.Obj w a c.cs) (hU : Utf8T w) (hE : ErrT w) (hl : s.length ≤ 1000000)
    (hK : ∀ c' w', c'.Kind = c.Kind → (∀ x, CmdOk x → s = wordI x i → c' = copyI c x i) → Vc.Obj w' a c'.cs → w.grownBy w' (some a.block) → K () w') : callV Pr uval fid_cmd_part_fill #[.agg ⟨(prt i).cs⟩, .pointer (some a), sval s] w K := by
  have hn : ∀ {f : Int → ApiCmd}, (∀ m, (f m).Kind = c.Kind) → (∀ x m, numI x i = some m → copyI c x i = f m) → (∀ x, ∃ m, numI x i = some m) → ∀ n w', DigOf s n → Vc.Obj w' a (f n).cs → w.grownBy w' (some a.block) → K () w' := fun hk hf he n w' hd ho' hg => hK _ _ (hk n) (fun x hx hs => by
    obtain ⟨m, hm⟩ := he x
    have hb : 0 ≤ m ∧ m ≤ 4294967296 := by
      obtain ⟨⟨a1, a2⟩, ⟨b1, b2⟩, ⟨c1, c2⟩, _⟩ := cmdOk_num hx
      rcases six hi with rfl | rfl | rfl | rfl | rfl | rfl <;> simp only [numI] at hm <;> cases hm <;> omega
    rw [hf x m hm]
    unfold wordI at hs
    rw [hm] at hs
    rw [hd m.toNat (by omega) hs, Int.toNat_of_nonneg hb.1]) ho' hg
  have ht : ∀ {f : List UInt8 → ApiCmd}, (∀ m, (f m).Kind = c.Kind) → (∀ x, copyI c x i = f (txtI x i)) → (∀ x, numI x i = none) → ∀ w', Vc.Obj w' a (f (unqR s).1).cs → w.grownBy w' (some a.block) → K () w' := fun hk hf he w' ho' hg => hK _ _ (hk _) (fun x hx hs => by
    rw [hf x]
    unfold wordI at hs
    rw [he x] at hs
    rw [hs, unqR_ok (unquote_quote _)]) ho' hg
  match i, hi with
  | 0, _ => exact cmd_part_fill_0_calls (c := some a) (by unfold cmd_part_fill_0; exact fl_num (off := 1) (by kernel_rfl) (by kernel_rfl) ho (by simp [ApiCmd.cs]) (fun w K' h => cmd_parts_1_calls (c := some a) (by unfold cmd_parts_1; exact nil_rd rfl h)) hE hl (hn (f := fun n => { c with Client := n }) (fun _ => rfl) (fun x m hm => by cases hm; rfl) (fun x => ⟨_, rfl⟩)))
  | 1, _ => exact cmd_part_fill_1_calls (c := some a) (by unfold cmd_part_fill_1; exact fl_num (off := 2) (by kernel_rfl) (by kernel_rfl) ho (by simp [ApiCmd.cs]) (fun w K' h => cmd_parts_2_calls (c := some a) (by unfold cmd_parts_2; exact nil_rd rfl h)) hE hl (hn (f := fun n => { c with Seq := n }) (fun _ => rfl) (fun x m hm => by cases hm; rfl) (fun x => ⟨_, rfl⟩)))
  | 2, _ => exact cmd_part_fill_2_calls (c := some a) (by unfold cmd_part_fill_2; exact fl_txt (off := 3) (by kernel_rfl) (by kernel_rfl) (by kernel_rfl) (by kernel_rfl) (by kernel_rfl) ho (by simp [ApiCmd.cs]) (fun w K' h => cmd_parts_3_calls (c := some a) (by unfold cmd_parts_3; exact nil_rd rfl h)) hU hl (ht (f := fun n => { c with Key := n }) (fun _ => rfl) (fun x => rfl) (fun x => rfl)))
  | 3, _ => exact cmd_part_fill_3_calls (c := some a) (by unfold cmd_part_fill_3; exact fl_txt (off := 5) (by kernel_rfl) (by kernel_rfl) (by kernel_rfl) (by kernel_rfl) (by kernel_rfl) ho (by simp [ApiCmd.cs]) (fun w K' h => cmd_parts_4_calls (c := some a) (by unfold cmd_parts_4; exact nil_rd rfl h)) hU hl (ht (f := fun n => { c with Old := n }) (fun _ => rfl) (fun x => rfl) (fun x => rfl)))
  | 4, _ => exact cmd_part_fill_4_calls (c := some a) (by unfold cmd_part_fill_4; exact fl_txt (off := 4) (by kernel_rfl) (by kernel_rfl) (by kernel_rfl) (by kernel_rfl) (by kernel_rfl) ho (by simp [ApiCmd.cs]) (fun w K' h => cmd_parts_5_calls (c := some a) (by unfold cmd_parts_5; exact nil_rd rfl h)) hU hl (ht (f := fun n => { c with Val := n }) (fun _ => rfl) (fun x => rfl) (fun x => rfl)))
  | 5, _ => exact cmd_part_fill_5_calls (c := some a) (by unfold cmd_part_fill_5; exact fl_num (off := 6) (by kernel_rfl) (by kernel_rfl) ho (by simp [ApiCmd.cs]) (fun w K' h => cmd_parts_6_calls (c := some a) (by unfold cmd_parts_6; exact nil_rd rfl h)) hE hl (hn (f := fun n => { c with Node := n }) (fun _ => rfl) (fun x m hm => by cases hm; rfl) (fun x => ⟨_, rfl⟩)))
/-! ### What a text is parsed as -/
def ParC (s : List UInt8) (r : ApiCmd × Int) : Prop := (r.2 = 3 ∧ r.1 = zCmd ∧ ∀ x, CmdOk x → textC x ≠ s) ∨ (r.2 = 0 ∧ CmdOk r.1 ∧ textC r.1 = s ∧ ∀ x, CmdOk x → textC x = s → r.1 = x)
theorem cmd_Text_any {K : List UInt8 → World → Prop} (hU : Utf8T w) (hc : ConvT w) (hK : ∀ t w', (CmdOk c ∧ t = textC c ∨ ¬ CmdOk c ∧ t = []) → Ext w w' → K t w') : cmd_Text c K w :=
  cmd_Text_spec hU hc fun t w' h1 h2 hx => hK t w' (by
    by_cases h : CmdOk c
    · exact .inl ⟨h, h1 h⟩
    · exact .inr ⟨h, h2 h⟩) hx
theorem cmd_Parse_spec {K : ApiCmd × Int → World → Prop} (ht : Utf8T w) (hc : ConvT w) (hE : ErrT w) (hl : s.length ≤ 100000) (hK : ∀ r w', ParC s r → Ext w w' → K r w') : cmd_Parse s K w := by
  unfold cmd_Parse
  refine new_x (Ext.rfl' w) fun b1 w2 hb1 hl1 hx hn2 => ?_
  have bad : ∀ {u : World}, Ext w u → (∀ x, CmdOk x → textC x ≠ s) → wrM b1 (fun w8 => K (zCmd, 3) w8) u := fun hx h => wr_x hx hb1 fun w8 hx8 _ => hK _ _ (.inl ⟨rfl, rfl, h⟩) hx8
  refine quote_Words_calls (Words_or (ht.ext hx) hl fun t3 w4 hr hx' => kp_ext hx' ?_)
  have hx := hx.trans' hx'
  have z4 := hx'.size
  have zw := hx.size
  rcases hr with ⟨ws, hws, h0, hsl⟩ | ⟨hnone, rfl⟩
  rotate_left
  · exact ifNe (fun _ => bad hx fun x _ e => by rw [← e, textC_words] at hnone; cases hnone) (fun h => absurd h (show ¬ (3 : Int) = 0 by decide))
  refine ifNe (fun h => absurd h0 h) (fun _ => ?_)
  have same : ∀ x, textC x = s → ws = wordsT x 6 := fun x e => by rw [← e, textC_words] at hws; exact (Option.some.inj hws).symm
  have hlen := hsl.is.len
  refine ifEq (fun h => bad hx fun x _ e => ?_) (fun hne => ?_)
  · have := same x e
    obtain ⟨t, ht⟩ := wordsT_pre x 0 6
    rw [Nat.zero_add] at ht
    rw [this, ht, wordsT, List.length_append] at hlen
    simp at hlen
    omega
  have hpos : 0 < ws.length := by omega
  have hwl : ∀ x ∈ ws, x.length ≤ 1000000 := fun x hx => by
    have := joinL_mem ws x hx
    rw [← (wordsL_inv hws).1] at this
    omega
  have hslt := hsl.lt
  refine alloc_ty (z := zCmd.val) (by kernel_rfl) fun a w8 ha hx8 ho8 => kp_ext hx8 ?_
  refine st_whole (n := 7) (cs' := zCmd.cs) (by kernel_rfl) ho8 rfl rfl rfl fun w9 hw9 ho9 => kp_wr hw9 (by omega) ?_
  have hx9 : Ext w4 w9 := Below.wr hx8 (by omega) hw9
  have hs9 : IsSl eS w9 t3.1 ws := hsl.is.ext hx9
  have hxw : Ext w w9 := hx.trans' hx9
  have hblk : ∀ b, t3.1.blk = some b → b ≠ a.block := fun b hb e => by have := hslt b hb; omega
  have hb1a : b1 ≠ a.block := by omega
  have wa : w.heap.size ≤ a.block := by omega
  -- the kind
  refine up1 (fun k u => ∃ kd : Int, Ext w u ∧ Vc.Obj u a (ApiCmd.mk kd 0 0 [] [] [] 0).cs ∧ IsSl eS u t3.1 ws ∧ (kd = 0 ∧ (∀ j : Nat, 1 ≤ j → j < k → kname (j : Int) ≠ ws[0]) ∨ 1 ≤ kd ∧ kd < (k : Int) ∧ kname kd = ws[0])) 1 9 rfl (by omega) (by omega) ⟨0, hxw, ho9, hs9, .inl ⟨rfl, fun j h1 h2 => by omega⟩⟩ ?_
  rintro k u C hk1 hk9 ⟨kd, hxu, hou, hsu, hkd⟩ hC
  refine ifD (fun hle => ?_) (fun hgt => ?_)
  · have hk : k < 9 := by omega
    refine heldM_of (fun v => Vc.Obj v a (ApiCmd.mk kd 0 0 [] [] [] 0).cs ∧ IsSl eS v t3.1 ws) fun w13 hx13 => ⟨⟨hou.ext hx13, hsu.ext hx13⟩, ?_⟩
    refine elH (E := eS) (k := 0) (y := ws[0]) (by kernel_rfl) (by kernel_rfl) (fun u hu => hu.2) rfl hpos rfl fun _ => ?_
    refine cmd_name_calls (cmd_name_spec (by unfold kOk; omega) (kp_same ⟨⟨hou.ext hx13, hsu.ext hx13⟩, ?_⟩))
    have hx13w := hxu.trans' hx13
    rw [strEq_eq]
    refine ifD (fun he => ?_) (fun he => ?_)
    · refine st_obj (off := 0) (by kernel_rfl) (hou.ext hx13) rfl (by simp [ApiCmd.cs]) fun w19 hw19 ho19 => kp_wr hw19 hb1a ?_
      exact hC hk _ _ rfl ⟨(k : Int), Below.wr hx13w wa hw19, ho19, (hsu.ext hx13).grownB (grown_wr hw19) fun b hb e => hblk b hb (Option.some.inj e), .inr ⟨by omega, by omega, he⟩⟩
    · refine hC hk _ _ rfl ⟨kd, hx13w, hou.ext hx13, hsu.ext hx13, ?_⟩
      rcases hkd with ⟨h1, h2⟩ | ⟨h1, h2, h3⟩
      · refine .inl ⟨h1, fun j j1 j2 => ?_⟩
        by_cases hjk : j = k
        · subst hjk; exact he
        · exact h2 j j1 (by omega)
      · exact .inr ⟨h1, by omega, h3⟩
  obtain rfl : k = 9 := by omega
  have hkind : ∀ x, CmdOk x → wordsT x 6 = ws → kd = x.Kind := fun x hx e => by
    obtain ⟨t, ht⟩ := wordsT_pre x 0 6
    rw [Nat.zero_add, wordsT, e] at ht
    have h0 : ws[0] = kname x.Kind := by
      simp only [ht]
      rfl
    have hk := hx.1
    unfold kOk at hk
    rcases hkd with ⟨_, h2⟩ | ⟨h1, h2, h3⟩
    · exact absurd (by rw [h0, Int.toNat_of_nonneg (by omega)]) (h2 x.Kind.toNat (by omega) (by omega))
    · exact kname_inj (by unfold kOk; omega) hx.1 (h3.trans h0)
  refine sub_l (E := eS) (m := 1) (by kernel_rfl) hsu rfl hpos fun rest hrest hrblk => ?_
  refine cmd_parts_calls (cmd_parts_spec fun ps w22 hps hx22 => kp_ext hx22 ?_)
  have hpge := hps.ge
  have hl6 : theParts.length = 6 := rfl
  have hplen := hps.is.len
  have alt := hou.lt
  have hpb : ∀ b, ps.blk = some b → b ≠ a.block := fun b hb e => by have := hpge b hb; omega
  refine up2b (fun k r u => ∃ c rs, Ext w u ∧ Vc.Obj u a c.cs ∧ IsSl eS u r rs ∧ r.blk = t3.1.blk ∧ IsSl eCmdPart u ps theParts ∧ (∀ y ∈ rs, y.length ≤ 1000000) ∧ (∀ x, CmdOk x → wordsT x 6 = ws → c = upC x k ∧ rs = ws.drop (wordsT x k).length)) 0 6 rfl (by omega) (by omega)
    ⟨ApiCmd.mk kd 0 0 [] [] [] 0, ws.drop 1, hxu.trans' hx22, hou.ext hx22, hrest.ext hx22, hrblk, hps.is, fun y hy => hwl y (List.mem_of_mem_drop hy), fun x hx e => ⟨by rw [hkind x hx e]; rfl, rfl⟩⟩ ?_
  rintro k r u C _ hk ⟨c, rs, hxu, hou, hru, hrb, hpu, hrl, hxc⟩ hC
  refine ifD (fun hlt => ?_) (fun hge => ?_)
  · have h6 : k < 6 := by omega
    refine st_rd (E := eCmdPart) (val := CmdPart.val) (by kernel_rfl) (by kernel_rfl) hpu rfl (by omega) (fun _ => rfl) fun _ => ?_
    rw [prt_get (by omega)]
    have zu := hxu.size
    refine part_boxK (k := k) (b := b1) h6 (by kernel_rfl) (by kernel_rfl) (by have := hou.lt; omega) fun q w31 hq hx31 hop => ?_
    have hxw31 := hxu.trans' hx31
    refine ld_whole_obj (n := 4) (x := prt k) (by kernel_rfl) hop rfl rfl ?_
    refine ld_obj (off := 0) (by kernel_rfl) (hou.ext hx31) rfl ?_
    refine cmd_part_wanted_calls (p := prt k) (cmd_part_wanted_spec h6 fun w35 hx35 => kp_ext hx35 ?_)
    have hwant : wantI 2 c.Kind k = need c.Kind k := want2 (by decide) k
    rw [hwant]
    have hx35' := hx31.trans' hx35
    have hxw35 := hxu.trans' hx35'
    have stay : (∀ x, CmdOk x → wordsT x 6 = ws → need x.Kind k = false) → C r (i64 ((k : Int) + 1)) w35 := fun hno => hC (by omega) _ _ _ rfl ⟨c, rs, hxw35, hou.ext hx35', hru.ext hx35', hrb, hpu.ext hx35', hrl, fun x hx e => by
      obtain ⟨h1, h2⟩ := hxc x hx e
      have h3 := hno x hx e
      simp only [upC, wordsT, h3, Bool.false_eq_true, if_false]
      exact ⟨h1, h2⟩⟩
    have knd : ∀ x, CmdOk x → wordsT x 6 = ws → c.Kind = x.Kind := fun x hx e => by rw [(hxc x hx e).1, upC_kind]
    refine ifB_of (fun hnd => ?_) (fun hnd => stay fun x hx e => by rw [← knd x hx e]; exact hnd)
    have hrlen := hru.len
    refine ifD (fun hpos => ?_) (fun hzero => stay fun x hx e => ?_)
    · have hr0 : 0 < rs.length := by omega
      refine heldM_of (fun v => Vc.Obj v q (prt k).cs ∧ IsSl eS v r rs) fun w36 hx36 => ⟨⟨(hop.ext hx35).ext hx36, (hru.ext hx35').ext hx36⟩, ?_⟩
      have hx36' := hx35'.trans' hx36
      refine opH_of (prt k) (fun v hv => ld_whole_obj (n := 4) (x := prt k) (by kernel_rfl) hv.1 rfl rfl rfl) ?_
      refine elH (E := eS) (k := 0) (y := rs[0]) (by kernel_rfl) (by kernel_rfl) (fun u hu => hu.2) rfl hr0 rfl fun _ => ?_
      refine part_fill (i := k) (c := c) (a := a) h6 (hou.ext hx36') (ht.ext (hxu.trans' hx36')) (hE.ext (hxu.trans' hx36')) (hrl _ (List.getElem_mem hr0)) fun c' w42 hk' hc' ho42 hg42 => kp_grown hg42 (fun e => hb1a (Option.some.inj e)) ⟨⟨?_, ?_⟩, ?_⟩
      · exact ((hop.ext hx35).ext hx36).keep (hg42.block _ ((hop.ext hx35).ext hx36).lt fun e => by have := hou.lt; have := Option.some.inj e; omega)
      · exact ((hru.ext hx35').ext hx36).grownB hg42 fun b hb e => hblk b (hrb ▸ hb) (Option.some.inj e)
      · refine sub_l (E := eS) (m := 1) (by kernel_rfl) (((hru.ext hx35').ext hx36).grownB hg42 fun b hb e => hblk b (hrb ▸ hb) (Option.some.inj e)) rfl hr0 fun r' hr' hrb' => ?_
        refine hC (by omega) _ _ _ rfl ⟨c', rs.drop 1, Ext.grown' (hxu.trans' hx36') hg42 wa, ho42, hr', hrb'.trans hrb, (hpu.ext hx36').grownB hg42 fun b hb e => hpb b hb (Option.some.inj e), fun y hy => hrl y (List.mem_of_mem_drop hy), fun x hx e => ?_⟩
        obtain ⟨h1, h2⟩ := hxc x hx e
        have h3 : need x.Kind k = true := by rw [← knd x hx e]; exact hnd
        obtain ⟨t, t1, t2⟩ := wordsT_next x h6 h3
        rw [e] at t1 t2
        rw [t1] at h2
        have hw0 : rs[0] = wordI x k := by simp only [h2, List.getElem_cons_zero]
        refine ⟨?_, ?_⟩
        · rw [hc' x hx hw0, h1, upC, if_pos h3]
        · rw [t2, h2]; rfl
    · refine Bool.eq_false_iff.2 fun h3 => ?_
      obtain ⟨h1, h2⟩ := hxc x hx e
      obtain ⟨t, t1, t2⟩ := wordsT_next x h6 h3
      rw [e] at t1
      rw [t1] at h2
      rw [h2, List.length_cons] at hrlen
      omega
  · obtain rfl : k = 6 := by omega
    have fin : ∀ x, CmdOk x → textC x = s → c = x := fun x hx e => by
      rw [(hxc x hx (same x e).symm).1, upC_all hx]
    refine ld_whole_obj (n := 7) (cs := c.cs) (val := ApiCmd.val) (x := c) (by kernel_rfl) hou rfl rfl ?_
    refine cmd_Text_calls (c := c) (cmd_Text_any (ht.ext hxu) (hc.ext hxu) fun t w46 htt hx46 => kp_ext hx46 ?_)
    have hxw46 := hxu.trans' hx46
    rw [strEq_eq]
    refine ifNot (ifD (fun h => ?_) (fun h => bad hxw46 fun x hx e => h ?_))
    · refine ld_whole_obj (n := 7) (cs := c.cs) (val := ApiCmd.val) (x := c) (by kernel_rfl) (hou.ext hx46) rfl rfl ?_
      refine wr_x hxw46 hb1 fun w49 hx49 _ => hK _ _ (.inr ⟨rfl, ?_⟩) hx49
      rcases htt with ⟨h1, h2⟩ | ⟨_, h2⟩
      · exact ⟨h1, h2.symm.trans h, fin⟩
      · rw [h2] at h
        rw [← h] at hws
        have : ws = [] := (Option.some.inj hws).symm
        rw [this] at hpos
        cases hpos
    · have := fin x hx e
      subst this
      rcases htt with ⟨_, h2⟩ | ⟨h1, _⟩
      · exact h2.trans e
      · exact absurd hx h1
/-! ### The document's answer -/
def sp (x : List UInt8) : List UInt8 := 32 :: x
theorem textC_parts (c : ApiCmd) : textC c = kname c.Kind ++ (if kOwn c.Kind = true then sp (digits 10 c.Client.toNat) ++ sp (digits 10 c.Seq.toNat) ++ sp (quote c.Key) else []) ++ (if kOld c.Kind = true then sp (quote c.Old) else []) ++
    (if kVal c.Kind = true then sp (quote c.Val) else []) ++ (if kNode c.Kind = true then sp (digits 10 c.Node.toNat) else []) := by
  unfold textC
  simp only [wordsT, need, wordI, numI, txtI]
  cases kOwn c.Kind <;> cases kOld c.Kind <;> cases kVal c.Kind <;> cases kNode c.Kind <;> simp [joinL, sp]
theorem kname_at {k : Nat} (h1 : 1 ≤ k) (h2 : k ≤ 8) : ([[], [110, 111, 112], [112, 117, 116], [103, 101, 116], [100, 101, 108], [99, 97, 115], [97, 99, 116, 105, 118, 97, 116, 101], [97, 100, 100], [100, 114, 111, 112]] : List (List UInt8))[k]? = some (kname (k : Int)) := by
  have key : ∀ m : Fin 9, 1 ≤ m.val → ([[], [110, 111, 112], [112, 117, 116], [103, 101, 116], [100, 101, 108], [99, 97, 115], [97, 99, 116, 105, 118, 97, 116, 101], [97, 100, 100], [100, 114, 111, 112]] : List (List UInt8))[m.val]? = some (kname (m.val : Int)) := by decide +kernel
  exact key ⟨k, by omega⟩ h1
theorem ref08_Text_spec {K : List UInt8 → World → Prop} (hok : CmdOk c) (hK : ∀ w', Ext w w' → K (textC c) w') : ref08_Text c K w := by
  unfold ref08_Text
  rw [textC_parts] at hK
  obtain ⟨⟨a1, a2⟩, ⟨b1, b2⟩, ⟨c1, c2⟩, d, e, f⟩ := cmdOk_num hok
  obtain ⟨k1, k8⟩ := hok.1
  have q : ∀ {x : List UInt8}, x.length ≤ 48 → (quote x).length ≤ 200 := fun {x} h => by
    have := quoteL_len x
    have := quote_len x
    omega
  have qk := q (x := c.Key) (by omega)
  have qo := q f
  have qv := q e
  have dc := digits_len (n := c.Client.toNat) (by omega)
  have ds := digits_len (n := c.Seq.toNat) (by omega)
  have dn := digits_len (n := c.Node.toNat) (by omega)
  have kn := kname_len c.Kind
  obtain ⟨kk, hkk⟩ := Int.eq_ofNat_of_zero_le (show 0 ≤ c.Kind by omega)
  have num : ∀ {n : Int} {u : World} {X : List UInt8 → World → Prop}, 0 ≤ n → n ≤ 4294967296 → X (digits 10 n.toNat) u → callV Pr sval fid_ref08_Digits #[.int .i64 n] u X := fun {n u X} h0 h1 hX => by
    obtain ⟨m, rfl⟩ : ∃ m : Nat, n = (m : Int) := ⟨n.toNat, by omega⟩
    rw [Int.toNat_natCast] at hX
    exact ref08_Digits_calls (ref08_Digits_spec (by omega) hX)
  have cat : ∀ {x y : List UInt8} {t : TypeId} {o1 o2 : Operand} {X : List UInt8 → Prop}, x.length ≤ 5000 → y.length ≤ 5000 → X (x ++ y) → opH Pr (fun _ => True) (binSem .add t o1 o2 (sval x) (sval y)) sval X := fun h1 h2 hX =>
    opH_of _ (fun w' _ => cat_str (by omega) rfl) hX
  refine new_x (Ext.rfl' w) fun b1 w2 hb1 hl1 hx hn2 => ?_
  refine lit_ty 16 (E := eS) (xs := [[], [110, 111, 112], [112, 117, 116], [103, 101, 116], [100, 101, 108], [99, 97, 115], [97, 99, 116, 105, 118, 97, 116, 101], [97, 100, 100], [100, 114, 111, 112]]) w2.heap.size (by kernel_rfl) rfl (by decide) (fun w => by kernel_rfl) (Nat.le_refl _) fun t3 w4 _ ht3 hx' => kp_ext hx' ?_
  have hx := hx.trans' hx'
  have hlk : kk < ([[], [110, 111, 112], [112, 117, 116], [103, 101, 116], [100, 101, 108], [99, 97, 115], [97, 99, 116, 105, 118, 97, 116, 101], [97, 100, 100], [100, 114, 111, 112]] : List (List UInt8)).length := by show kk < 9; omega
  have hky := kname_at (k := kk) (by omega) (by omega)
  rw [List.getElem?_eq_getElem hlk] at hky
  refine el_rd (E := eS) (k := kk) (y := kname c.Kind) (by kernel_rfl) (by kernel_rfl) ht3.is hkk hlk (by rw [Option.some.inj hky, ← hkk]; rfl) fun _ => ?_
  refine ⟨fun y u => Ext w u ∧ y = kname c.Kind ++ (if kOwn c.Kind = true then sp (digits 10 c.Client.toNat) ++ sp (digits 10 c.Seq.toNat) ++ sp (quote c.Key) else []), ?_, ?_⟩
  · refine ref08_Owned_calls (ref08_Owned_spec (kp_same (ifB_of (fun ho => ?_) (fun ho => ⟨hx, by rw [ho]; simp⟩))))
    refine held_x fun w10 hx' => ?_
    have hx := hx.trans' hx'
    refine cat (by omega) (by decide) ?_
    refine num (by omega) (by omega) (kp_same ⟨trivial, ?_⟩)
    refine cat (by simp only [List.length_append, List.length_singleton]; omega) (by omega) ?_
    refine cat (by simp only [List.length_append, List.length_singleton]; omega) (by decide) ?_
    refine num (by omega) (by omega) (kp_same ⟨trivial, ?_⟩)
    refine cat (by simp only [List.length_append, List.length_singleton]; omega) (by omega) ?_
    refine cat (by simp only [List.length_append, List.length_singleton]; omega) (by decide) ?_
    refine ref06_Quote_calls (ref06_Quote_spec (by omega) fun w26 hx' => kp_ext hx' ⟨trivial, ?_⟩)
    refine cat (by simp only [List.length_append, List.length_singleton]; omega) (by omega) ?_
    refine ⟨hx.trans' hx', ?_⟩
    rw [if_pos ho]
    simp [sp]
  rintro y1 w25 ⟨hx, hy1⟩
  have l1 : y1.length ≤ 300 := by
    rw [hy1]
    split
    · simp only [sp, List.length_append, List.length_cons]; omega
    · simp only [List.length_append, List.length_nil]; omega
  rw [← hy1] at hK
  refine ⟨fun y u => Ext w u ∧ y = y1 ++ (if kOld c.Kind = true then sp (quote c.Old) else []), ?_, ?_⟩
  · refine ifEq (fun h5 => ?_) (fun h5 => ⟨hx, by rw [show kOld c.Kind = false from by unfold kOld; exact decide_eq_false h5]; simp⟩)
    refine cat_str (by simp only [List.length_singleton]; omega) ?_
    refine ref06_Quote_calls (ref06_Quote_spec (by omega) fun w29 hx' => kp_ext hx' ?_)
    refine cat_str (by simp only [List.length_append, List.length_singleton]; omega) ⟨hx.trans' hx', ?_⟩
    rw [show kOld c.Kind = true from by unfold kOld; exact decide_eq_true h5]
    simp [sp]
  rintro y2 w32 ⟨hx, hy2⟩
  have l2 : y2.length ≤ 600 := by
    rw [hy2]
    split
    · simp only [sp, List.length_append, List.length_cons]; omega
    · simp only [List.length_append, List.length_nil]; omega
  rw [← hy2] at hK
  have hval : kVal c.Kind = true → ∀ {t1 t2 : TypeId} {o1 o2 o3 o4 : Operand} {X : List UInt8 → World → Prop} {b : Nat}, (∀ w', Ext w w' → X (y2 ++ sp (quote c.Val)) w') →
      opRd Pr (binSem .add t1 o1 o2 (sval y2) (sval [32])) sval (fun t34 => callV Pr sval fid_ref06_Quote #[sval c.Val] w32 fun t35 w36 => kp b w32 w36 <| opRd Pr (binSem .add t2 o3 o4 (sval t34) (sval t35)) sval (fun s37 => X s37 w36) w36) w32 := fun _ {t1 t2 o1 o2 o3 o4 X b} hX => by
    refine cat_str (by simp only [List.length_singleton]; omega) ?_
    refine ref06_Quote_calls (ref06_Quote_spec (by omega) fun w29 hx' => kp_ext hx' ?_)
    refine cat_str (by simp only [List.length_append, List.length_singleton]; omega) ?_
    have := hX _ (hx.trans' hx')
    simpa [sp] using this
  refine ⟨fun y u => Ext w u ∧ y = y2 ++ (if kVal c.Kind = true then sp (quote c.Val) else []), ?_, ?_⟩
  · refine ifEq (fun h2 => ?_) (fun h2 => ifEq (fun h5 => ?_) (fun h5 => ⟨hx, by rw [show kVal c.Kind = false from by unfold kVal; rw [decide_eq_false h2, decide_eq_false h5]; rfl]; simp⟩))
    · have hv : kVal c.Kind = true := by unfold kVal; rw [decide_eq_true h2]; rfl
      exact hval hv fun w' hx' => ⟨hx', by rw [if_pos hv]⟩
    · have hv : kVal c.Kind = true := by unfold kVal; rw [decide_eq_true h5, Bool.or_true]
      exact hval hv fun w' hx' => ⟨hx', by rw [if_pos hv]⟩
  rintro y3 w43 ⟨hx, hy3⟩
  have l3 : y3.length ≤ 900 := by
    rw [hy3]
    split
    · simp only [sp, List.length_append, List.length_cons]; omega
    · simp only [List.length_append, List.length_nil]; omega
  rw [← hy3] at hK
  refine ref08_member_calls (ref08_member_spec (kp_same (ifB_of (fun hm => ?_) (fun hm => ?_))))
  · refine cat_str (by simp only [List.length_singleton]; omega) ?_
    refine num (by omega) (by omega) (kp_same ?_)
    refine cat_str (by simp only [List.length_append, List.length_singleton]; omega) ?_
    have := hK _ hx
    rw [if_pos hm] at this
    simpa [sp] using this
  · have := hK _ hx
    rw [hm] at this
    simpa using this
theorem textC_len (hok : CmdOk c) : (textC c).length ≤ 2000 := by
  rw [textC_parts]
  obtain ⟨⟨a1, a2⟩, ⟨b1, b2⟩, ⟨c1, c2⟩, d, e, f⟩ := cmdOk_num hok
  have q : ∀ {x : List UInt8}, x.length ≤ 48 → (quote x).length ≤ 200 := fun {x} h => by
    have := quoteL_len x
    have := quote_len x
    omega
  have qk := q (x := c.Key) (by omega)
  have qo := q f
  have qv := q e
  have dc := digits_len (n := c.Client.toNat) (by omega)
  have ds := digits_len (n := c.Seq.toNat) (by omega)
  have dn := digits_len (n := c.Node.toNat) (by omega)
  have kn := kname_len c.Kind
  cases kOwn c.Kind <;> cases kOld c.Kind <;> cases kVal c.Kind <;> cases kNode c.Kind <;> simp [sp] <;> omega
end Go.Chg
