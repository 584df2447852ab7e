/-
  Package 'script': the event of a line.
-/
import Derived.Test.YtnnoalpkldpjfaaGreatDoorMF
import Derived.Test.YtnnoalpkldpjfaaGreatDoorSpLaw06b
set_option maxRecDepth 20000
set_option linter.unusedVariables false
namespace Go.Chg
open Go.Vc
open Go.RowKit (Below)
variable {w u u' : World} {s t : Sl} {e x : ApiEvent} {ws rs rs' : List (List UInt8)} {n : Int} {c : ApiCmd} {q : Addr} {line : List UInt8}
/-- What the next word is as a number, and the words behind it. -/
def TakeN (is : Bool) (rs : List (List UInt8)) (n : Int) (rs' : List (List UInt8)) : Prop :=
  (is = false ∧ n = 0 ∧ rs' = rs) ∨ (is = true ∧ rs = [] ∧ n = 0 ∧ rs' = []) ∨ (is = true ∧ ∃ y, rs = y :: rs' ∧ DigOf y n)
def szW (rs : List (List UInt8)) : Nat := (rs.flatMap id).length + rs.length
theorem TakeN.le {is : Bool} (h : TakeN is rs n rs') : szW rs' ≤ szW rs ∧ ∀ y ∈ rs', y ∈ rs := by
  rcases h with ⟨_, _, rfl⟩ | ⟨_, rfl, _, rfl⟩ | ⟨_, y, rfl, _⟩
  · exact ⟨Nat.le_refl _, fun y h => h⟩
  · exact ⟨Nat.le_refl _, fun y h => h⟩
  · refine ⟨?_, fun z hz => List.mem_cons_of_mem _ hz⟩
    unfold szW
    simp only [List.flatMap_cons, List.length_append, List.length_cons, id]
    omega
theorem take_num {b : Bool} {m lo hi : Int} {r : List (List UInt8)} (h : TakeN b (numW b m ++ r) n rs') (hn : nOk b m lo hi) (h0 : 0 ≤ lo) (h1 : hi ≤ 4294967296) : n = m ∧ rs' = r := by
  have hin := nOk_in hn h0 h1
  cases b with
  | false =>
    have hm : m = 0 := by
      unfold nOk at hn
      rwa [if_neg (by decide)] at hn
    rcases h with ⟨_, h2, h3⟩ | ⟨h1, _⟩ | ⟨h1, _⟩
    · exact ⟨by omega, h3⟩
    · cases h1
    · cases h1
  | true =>
    have hb := hin rfl
    rcases h with ⟨h1, _⟩ | ⟨_, h2, _⟩ | ⟨_, y, h2, h3⟩
    · cases h1
    · cases h2
    · have e : digits 10 m.toNat :: r = y :: rs' := h2
      rw [List.cons.injEq] at e
      obtain ⟨e1, e2⟩ := e
      refine ⟨?_, e2.symm⟩
      rw [h3 m.toNat (by omega) e1.symm, Int.toNat_of_nonneg hb.1]
theorem words_number_spec {is : Bool} {K : Int → World → Prop} (hE : ErrT u) (ho : Vc.Obj u q [s.val]) (hs : IsSl eS u s rs) (hq : s.blk ≠ some q.block) (hl : ∀ y ∈ rs, y.length ≤ 1000000)
    (hK : ∀ n s' rs' u', TakeN is rs n rs' → Vc.Obj u' q [s'.val] → IsSl eS u' s' rs' → s'.blk = s.blk → u.grownBy u' (some q.block) → K n u') : script_words_number (some q) is K u := by
  unfold script_words_number
  refine ifNot (ifB_of (fun h => ?_) (fun h => hK 0 s rs u (.inl ⟨h, rfl, rfl⟩) ho hs rfl (grown_refl _ _)))
  have hlen := hs.len
  refine nil_rd rfl (ld_obj (off := 0) (val := Sl.val) (y := s) (by kernel_rfl) ho rfl ?_)
  refine ifEq (fun h0 => hK 0 s rs u (.inr (.inl ⟨h, List.length_eq_zero_iff.1 (by omega), rfl, List.length_eq_zero_iff.1 (by omega)⟩)) ho hs rfl (grown_refl _ _)) (fun h0 => ?_)
  have hpos : 0 < rs.length := by omega
  refine nil_rd rfl (ld_obj (off := 0) (val := Sl.val) (y := s) (by kernel_rfl) ho rfl ?_)
  refine el_rd (E := eS) (k := 0) (y := rs[0]) (by kernel_rfl) (by kernel_rfl) hs rfl hpos rfl fun _ => ?_
  refine strconv_Atoi_calls (Atoi_spec hE (hl _ (List.getElem_mem hpos)) fun n er w8 hx8 hd => ?_)
  refine nil_rd rfl (ld_obj (off := 0) (val := Sl.val) (y := s) (by kernel_rfl) (ho.ext hx8) rfl ?_)
  refine sub_l (E := eS) (m := 1) (by kernel_rfl) (hs.ext hx8) rfl hpos fun s' hs' hb' => ?_
  refine nil_rd rfl ?_
  refine st_obj (off := 0) (by kernel_rfl) (ho.ext hx8) (by rfl) (by simp) fun w13 hw13 ho13 => ?_
  refine hK n s' (rs.drop 1) w13 (.inr (.inr ⟨h, rs[0], ?_, hd⟩)) ho13 (hs'.grownB (grown_wr hw13) fun b hb e => hq (by rw [← hb', hb, e])) hb' (grown_trans (grown_ext hx8 _) (grown_wr hw13))
  rw [← List.drop_eq_getElem_cons hpos, List.drop_zero]
/-! ### The command at the end -/
def cmdR (b : Bool) (rs : List (List UInt8)) : List (List UInt8) := if b = true ∧ 2 < rs.length then rs.take 2 ++ [49] :: rs.drop 2 else rs
theorem cmdR_sz (b : Bool) (rs : List (List UInt8)) : szW (cmdR b rs) ≤ szW rs + 2 := by
  unfold cmdR
  split
  · unfold szW
    have : (rs.flatMap id).length = ((rs.take 2).flatMap id).length + ((rs.drop 2).flatMap id).length := by
      rw [← List.length_append, ← List.flatMap_append, List.take_append_drop]
    have h2 : rs.length = (rs.take 2).length + (rs.drop 2).length := by rw [← List.length_append, List.take_append_drop]
    simp only [List.flatMap_append, List.flatMap_cons, List.length_append, List.length_cons, List.length_nil, id]
    omega
  · omega
theorem joinL_sz (rs : List (List UInt8)) : (joinL [32] rs).length ≤ szW rs := (joinL_sum rs).2.2
theorem words_command_spec {has : Int} {b : Bool} {K : ApiCmd → World → Prop} (hU : Utf8T u) (hc : ConvT u) (hE : ErrT u) (ho : Vc.Obj u q [s.val]) (hs : IsSl eS u s rs) (hb : (bAnd .i64 has 8 == 0) = !b) (hsz : szW rs ≤ 90000)
    (hK : ∀ r u', ParC (joinL [32] (cmdR b rs)) r → Ext u u' → K (if b = true then { r.1 with Seq := 0 } else r.1) u') : script_words_command (some q) has K u := by
  unfold script_words_command
  have hlen := hs.len
  have hcap := hs.cap
  refine new_x (Ext.rfl' u) fun b1 w2 hb1 hl1 hx hn2 => ?_
  refine nil_rd rfl (ld_obj (off := 0) (val := Sl.val) (y := s) (by kernel_rfl) (ho.ext hx) rfl ?_)
  rw [bne_of hb]
  refine ⟨fun l v => Ext u v ∧ IsSl eS v l (cmdR b rs), ?_, ?_⟩
  · have stay : ¬ (b = true ∧ 2 < rs.length) → Ext u w2 ∧ IsSl eS w2 s (cmdR b rs) := fun h => ⟨hx, by unfold cmdR; rw [if_neg h]; exact hs.ext hx⟩
    refine ifB_of (fun h => ifD (fun h2 => ?_) (fun h2 => stay fun k => by omega)) (fun h => stay fun k => by rw [h] at k; exact absurd k.1 (by decide))
    have h2 : 2 < rs.length := by omega
    have e : cmdR b rs = rs.take 2 ++ [[49]] ++ rs.drop 2 := by
      unfold cmdR
      rw [if_pos ⟨h, h2⟩]
      simp
    refine held_x fun w6 hx' => ?_
    have hx6 := hx.trans' hx'
    have hs6 := hs.ext hx6
    refine opH_of (s.sub3 0 2 2 1) (fun v _ => ⟨_, run_sub_hm (n := 2) (c := 2) (by kernel_rfl) rfl rfl (by omega) (by omega), rfl⟩) ?_
    refine opH_of (s.sub 2 s.len 1) (fun v _ => ⟨_, run_sub_l (m := 2) (by kernel_rfl) rfl (by omega), rfl⟩) ?_
    have hd : IsSl eS w6 (s.sub 2 s.len 1) (rs.drop 2) := by
      have := hs6.sub (i := 2) (j := rs.length) (by omega) (by omega)
      rw [← hlen] at this
      rw [show (rs.drop 2).take (s.len - 2) = rs.drop 2 from List.take_of_length_le (by rw [List.length_drop]; omega)] at this
      exact this
    have hf : IsSl eS w6 (s.sub3 0 2 2 1) (rs.take 2) := hs6.full (by omega) (by omega)
    have hszl : rs.length ≤ 90000 := by unfold szW at hsz; omega
    refine lit1_ty (E := eS) 16 (x := [49]) w6.heap.size (by kernel_rfl) (by decide) (fun w => by kernel_rfl) (Nat.le_refl _) fun t10 w11 _ ht10 hx11 => kp_ext hx11 ⟨trivial, ?_⟩
    refine app_full (E := eS) 16 (by kernel_rfl) (by kernel_rfl) (hf.ext hx11) (by show 2 < _; rw [List.length_take, List.length_singleton]; omega) ht10.is (by rw [List.length_take, List.length_singleton]; omega) (by decide) (Nat.le_refl _) fun t12 w13 ht12 hx13 => kp_ext hx13 ⟨trivial, ?_⟩
    have hd13 := (hd.ext hx11).ext hx13
    have hge := ht12.ge
    have zz := hx13.size
    refine app_ty2 16 (by kernel_rfl) (by kernel_rfl) ht12 hd13 (by rw [List.length_append, List.length_take, List.length_singleton, List.length_drop]; omega) (Nat.le_trans (Nat.le_refl _) zz) (by decide) fun l14 w15 ho15 hg15 _ => ?_
    have hx15 : Ext u w15 := Ext.own (hx6.trans' (hx11.trans' hx13)) ht12 (by have := hx6.size; have := hx11.size; omega) hg15
    refine kp_grown hg15 (fun e => by have := hge _ e.symm; have := hx11.size; have := hx'.size; omega) ⟨trivial, hx15, ?_⟩
    rw [e]
    exact ho15.is
  rintro l w17 ⟨hx, hl⟩
  have hr := cmdR_sz b rs
  have hj := joinL_sz (cmdR b rs)
  have hsz' : szW (cmdR b rs) ≤ 90002 := by omega
  refine quote_Line_calls (Line_spec hl (by unfold szW at hsz'; omega) (by unfold szW at hsz'; omega) fun w19 hx' => kp_ext hx' ?_)
  have hx := hx.trans' hx'
  refine cmd_Parse_calls (cmd_Parse_spec (hU.ext hx) (hc.ext hx) (hE.ext hx) (by omega) fun r w21 hp hx' => kp_ext hx' ?_)
  have hx := hx.trans' hx'
  refine new_x hx fun b22 w23 hb22 _ hx _ => wr_x hx hb22 fun w24 hx _ => ?_
  refine ifB_of (fun h => ?_) (fun h => ?_)
  · refine wr_x hx hb22 fun w25 hx _ => wr_x hx hb1 fun w26 hx _ => ?_
    have := hK r w26 hp hx
    rwa [if_pos h] at this
  · refine wr_x hx hb1 fun w26 hx _ => ?_
    have := hK r w26 hp hx
    rwa [if_neg (by rw [h]; decide)] at this
/-! ### What a line is parsed as -/
def zEv : ApiEvent := ⟨0, 0, 0, 0, zCmd⟩
def ParE (line : List UInt8) (r : ApiEvent × Int) : Prop := (r.2 = 3 ∧ r.1 = zEv ∧ ∀ x, EvOk x → lineE x ≠ line) ∨ (r.2 = 0 ∧ EvOk r.1 ∧ lineE r.1 = line ∧ ∀ x, EvOk x → lineE x = line → r.1 = x)
theorem cmd_back {r : ApiCmd × Int} (h : ParC (textC c) r) (hok : CmdOk c) : r.1 = c := by
  rcases h with ⟨_, _, h⟩ | ⟨_, _, _, h⟩
  · exact absurd rfl (h c hok)
  · exact h c hok rfl
theorem lineE_ne (h : EvOk e) : lineE e ≠ [] := fun h0 => by
  have := lineE_words h
  rw [h0] at this
  unfold wordsE at this
  cases Option.some.inj this
theorem script_Parse_spec {K : ApiEvent × Int → World → Prop} (hU : Utf8T w) (hc : ConvT w) (hE : ErrT w) (hl : line.length ≤ 20000) (hK : ∀ r w', ParE line r → Ext w w' → K r w') : script_Parse line K w := by
  unfold script_Parse
  refine new_x (Ext.rfl' w) fun b1 w2 hb1 hl1 hx hn2 => ?_
  have bad : ∀ {v : World}, Ext w v → (∀ x, EvOk x → lineE x ≠ line) → wrM b1 (fun w8 => K (zEv, 3) w8) v := fun hx h => wr_x hx hb1 fun w8 hx8 _ => hK _ _ (.inl ⟨rfl, rfl, h⟩) hx8
  refine quote_Words_calls (Words_or (hU.ext hx) (by omega) fun t3 w4 hr hx' => kp_ext hx' ?_)
  have hx := hx.trans' hx'
  rcases hr with ⟨ws, hws, h0, hsl⟩ | ⟨hnone, rfl⟩
  rotate_left
  · exact ifNe (fun _ => bad hx fun x hx e => by rw [← e, lineE_words hx] at hnone; cases hnone) (fun h => absurd h (show ¬ (3 : Int) = 0 by decide))
  refine ifNe (fun h => absurd h0 h) (fun _ => ?_)
  have same : ∀ x, EvOk x → lineE x = line → ws = wordsE x := fun x hx e => by rw [← e, lineE_words hx] at hws; exact (Option.some.inj hws).symm
  have hlen := hsl.is.len
  refine ifEq (fun h => bad hx fun x hx e => ?_) (fun hne => ?_)
  · have := same x hx e
    rw [this] at hlen
    unfold wordsE at hlen
    rw [List.length_cons] at hlen
    omega
  have hpos : 0 < ws.length := by omega
  have hline := (wordsL_inv hws).1
  have hwsz : szW ws ≤ 50000 := by
    obtain ⟨k1, k2, _⟩ := joinL_sum ws
    rw [← hline] at k1 k2
    unfold szW
    omega
  have hwl : ∀ x ∈ ws, x.length ≤ 1000000 := fun x hx => by
    have := joinL_mem ws x hx
    rw [← hline] at this
    omega
  have hslt := hsl.lt
  have hxw4 := hx
  have zw4 := hx.size
  have hb14 : b1 < w4.heap.size := by have := hx'.size; omega
  refine new_x (Ext.rfl' w4) fun b7 w8 hb7 hl7 hx8 hn8 => ?_
  refine script_kinds_calls (script_kinds_spec fun w10 hx10 => kp_ext hx10 (kp_ext hx10 ?_))
  have hx10 := hx8.trans' hx10
  refine up2a (fun k out v => Ext w4 v ∧ ∃ kd : Int, out = (⟨kd, 0, 0, 0, zCmd⟩ : ApiEvent) ∧ (kd = 0 ∧ (∀ j : Nat, 1 ≤ j → j < k → (evAt j).name ≠ ws[0]) ∨ ∃ m : Nat, kd = (m : Int) ∧ 1 ≤ m ∧ m < k ∧ (evAt m).name = ws[0])) 0 12 rfl (by omega) (by omega) ⟨hx10, 0, rfl, .inl ⟨rfl, fun j h1 h2 => by omega⟩⟩ ?_
  rintro k out v C _ hk ⟨hxv, kd, rfl, hkd⟩ hC
  refine ifD (fun hlt => ?_) (fun hge => ?_)
  · have hk12 : k < 12 := by omega
    refine ⟨evAt k, by rcases twelve hk12 with rfl | rfl | rfl | rfl | rfl | rfl | rfl | rfl | rfl | rfl | rfl | rfl <;> kernel_rfl, ?_⟩
    refine new_x hxv fun b16 w17 hb16 _ hx17 _ => wr_x hx17 hb16 fun w18 hx18 _ => drew_of fun w19 hx' => ?_
    have hx19 := hx18.trans' hx'
    have stay : (k = 0 ∨ (evAt k).name ≠ ws[0]) → C (i64 ((k : Int) + 1)) ⟨kd, 0, 0, 0, zCmd⟩ w19 := fun hno => hC hk12 _ _ _ rfl ⟨hx19, kd, rfl, by
      rcases hkd with ⟨h1, h2⟩ | ⟨m, h1, h2, h3, h4⟩
      · refine .inl ⟨h1, fun j j1 j2 => ?_⟩
        by_cases hjk : j = k
        · subst hjk
          rcases hno with h | h
          · omega
          · exact h
        · exact h2 j j1 (by omega)
      · exact .inr ⟨m, h1, h2, by omega, h4⟩⟩
    refine ifD (fun h0 => ?_) (fun h0 => stay (.inl (by omega)))
    refine el_rd (E := eS) (k := 0) (y := ws[0]) (by kernel_rfl) (by kernel_rfl) (hsl.is.ext hx19) rfl hpos rfl fun _ => ?_
    rw [strEq_eq]
    refine ifD (fun heq => ?_) (fun hneq => stay (.inr hneq))
    exact wr_x hx19 hb7 fun w22 hx22 _ => hC hk12 _ _ _ rfl ⟨hx22, (k : Int), rfl, .inr ⟨k, rfl, by omega, by omega, heq⟩⟩
  obtain rfl : k = 12 := by omega
  have hkind : ∀ x, EvOk x → lineE x = line → kd = x.Kind := fun x hx e => by
    have hw := same x hx e
    have h0 : ws[0] = (kEv x.Kind).name := by
      simp only [hw]
      rfl
    obtain ⟨m, hm⟩ := Int.eq_ofNat_of_zero_le (show 0 ≤ x.Kind by have := hx.1; omega)
    have hin := hx.1
    rw [hm] at hin h0 ⊢
    rw [kEv_in (by omega) (by omega)] at h0
    rcases hkd with ⟨_, h2⟩ | ⟨j, h1, h2, h3, h4⟩
    · exact absurd h0.symm (h2 m (by omega) (by omega))
    · rw [h1, evAt_inj h2 (by omega) (by omega) (by omega) (h4.trans h0)]
  obtain ⟨hb1', hb2', hb4', hb8', _, hb24'⟩ := ev_bits kd
  refine script_of_calls (script_of_spec fun w24 hx24 => kp_ext hx24 (kp_ext hx24 ?_))
  have hx24 := hxv.trans' hx24
  refine new_x hx24 fun b25 w26 hb25 hl25 hx26 hn26 => wr_x hx26 hb25 fun w27 hx27 hw27 => ?_
  have z27 := hw27.size
  refine sub_l (E := eS) (m := 1) (by kernel_rfl) (hsl.is.ext hx27) rfl hpos fun rest hrest hrblk => ?_
  refine box_ty fun q w30 hq hx30 hoq => kp_ext hx30 (kp_ext hx30 (kp_ext hx30 ?_))
  have hoq : Vc.Obj w30 q [rest.val] := hoq
  have zv24 := hx24.size
  have hl7' : b7 < w27.heap.size := by have := hx26.size; have := hxv.size; have := hn8.1; have := hn8.lt; have := hn26.lt; have e7 := hn8.1; have := hx27.size; omega
  have q7 : b7 ≠ q.block := by omega
  have q25 : b25 ≠ q.block := by omega
  have q1 : b1 ≠ q.block := by have := hx27.size; omega
  have q4 : w4.heap.size ≤ q.block := by have := hx27.size; omega
  have hx30 := hx27.trans' hx30
  have blk : ∀ {s' : Sl}, s'.blk = t3.1.blk → s'.blk ≠ some q.block := fun h e => by
    rw [h] at e
    have := hslt _ e
    omega
  have hr30 : IsSl eS w30 rest (ws.drop 1) := hrest.ext (by assumption)
  rw [bne_of hb1', bne_of hb2', bne_of hb4', bne_of hb24']
  have kpq : ∀ {v v' : World} {X : Prop} {b : Nat}, v.grownBy v' (some q.block) → b ≠ q.block → X → kp b v v' X := fun hg hb x => kp_grown hg (fun e => hb (Option.some.inj e)) x
  have EX : ∀ {v v' : World}, Ext w4 v → v.grownBy v' (some q.block) → Ext w4 v' := fun h hg => Ext.grown' h hg q4
  have keep7 : ∀ {v v' : World} {s' : Sl} {rs : List (List UInt8)}, Wr b7 v v' → Vc.Obj v q [s'.val] → IsSl eS v s' rs → s'.blk = t3.1.blk → Vc.Obj v' q [s'.val] ∧ IsSl eS v' s' rs := fun hw ho hs hb => ⟨ho.keep (hw.block _ (Ne.symm q7)), hs.grownB (grown_wr hw) fun b hbb e => by rw [hb] at hbb; have := hslt b hbb; have := Option.some.inj e; omega⟩
  have m1 : ∀ y ∈ ws.drop 1, y.length ≤ 1000000 := fun y hy => hwl y (List.mem_of_mem_drop hy)
  refine script_words_number_calls (w_ := some q) (words_number_spec (hE.ext (hxw4.trans' hx30)) hoq hr30 (blk hrblk) m1 fun n1 s1 rs1 w32 ht1 ho1 hr1 hbk1 hg1 => kpq hg1 q25 (kpq hg1 q7 (kpq hg1 q1 ?_)))
  have hx32 := EX hx30 hg1
  refine wr_x hx32 hb7 fun w33 hx33 hw33 => ?_
  obtain ⟨ho1, hr1⟩ := keep7 hw33 ho1 hr1 (hbk1.trans hrblk)
  have m2 : ∀ y ∈ rs1, y.length ≤ 1000000 := fun y hy => m1 y (ht1.le.2 y hy)
  refine script_words_number_calls (w_ := some q) (words_number_spec (hE.ext (hxw4.trans' hx33)) ho1 hr1 (blk (hbk1.trans hrblk)) m2 fun n2 s2 rs2 w35 ht2 ho2 hr2 hbk2 hg2 => kpq hg2 q25 (kpq hg2 q7 (kpq hg2 q1 ?_)))
  have hbk2 := hbk2.trans (hbk1.trans hrblk)
  refine wr_x (EX hx33 hg2) hb7 fun w36 hx36 hw36 => ?_
  obtain ⟨ho2, hr2⟩ := keep7 hw36 ho2 hr2 hbk2
  have m3 : ∀ y ∈ rs2, y.length ≤ 1000000 := fun y hy => m2 y (ht2.le.2 y hy)
  refine script_words_number_calls (w_ := some q) (words_number_spec (hE.ext (hxw4.trans' hx36)) ho2 hr2 (blk hbk2) m3 fun n3 s3 rs3 w38 ht3 ho3 hr3 hbk3 hg3 => kpq hg3 q25 (kpq hg3 q7 (kpq hg3 q1 ?_)))
  have hbk3 := hbk3.trans hbk2
  refine wr_x (EX hx36 hg3) hb7 fun w39 hx39 hw39 => ?_
  obtain ⟨ho3, hr3⟩ := keep7 hw39 ho3 hr3 hbk3
  have sz3 : szW rs3 ≤ 90000 := by
    have h1 := ht1.le.1
    have h2 := ht2.le.1
    have h3 := ht3.le.1
    have h0 : szW (ws.drop 1) ≤ szW ws := by
      have := List.drop_eq_getElem_cons hpos
      rw [List.drop_zero] at this
      conv => rhs; rw [this]
      unfold szW
      simp only [List.flatMap_cons, List.length_append, List.length_cons, Nat.zero_add, id]
      omega
    omega
  have vals : ∀ x, EvOk x → lineE x = line → kd = x.Kind ∧ n1 = x.Node ∧ n2 = x.N ∧ n3 = x.M ∧ rs3 = cmdW x := fun x hx e => by
    have hk := hkind x hx e
    have hw := same x hx e
    obtain ⟨hin, g1, g2, g3, g4⟩ := hx
    have hd : ws.drop 1 = numW (kNd x.Kind) x.Node ++ (numW (kNn x.Kind) x.N ++ (numW (kMm x.Kind) x.M ++ cmdW x)) := by
      rw [hw]
      unfold wordsE numsW
      simp
    rw [hk] at ht1 ht2 ht3
    rw [hd] at ht1
    obtain ⟨a1, a2⟩ := take_num ht1 g1 (by decide) (by decide)
    rw [a2] at ht2
    obtain ⟨b1, b2⟩ := take_num ht2 g2 (by decide) (by decide)
    rw [b2] at ht3
    obtain ⟨c1, c2⟩ := take_num ht3 g3 (by decide) (by decide)
    exact ⟨hk, a1, b1, c1, c2⟩
  refine ⟨fun out v => Ext w4 v ∧ ∀ x, EvOk x → lineE x = line → out = x, ?_, ?_⟩
  · refine ifB_of (fun hc24 => ?_) (fun hc24 => ⟨hx39, fun x hx e => ?_⟩)
    · refine script_words_command_calls (w_ := some q) (words_command_spec (hU.ext (hxw4.trans' hx39)) (hc.ext (hxw4.trans' hx39)) (hE.ext (hxw4.trans' hx39)) ho3 hr3 hb8' sz3 fun r w42 hp hx42 => kp_ext hx42 (kp_ext hx42 (kp_ext hx42 ?_)))
      refine wr_x (hx39.trans' hx42) hb7 fun w43 hx43 _ => ⟨hx43, fun x hx e => ?_⟩
      obtain ⟨v0, v1, v2, v3, v4⟩ := vals x hx e
      obtain ⟨hin, g1, g2, g3, g4⟩ := hx
      have hcmd : (if kCl kd = true then { r.1 with Seq := 0 } else r.1) = x.Cmd := by
        rw [v4] at hp
        rw [v0]
        unfold cOk at g4
        by_cases hcl : kCl x.Kind = true
        · rw [if_pos hcl] at g4 ⊢
          obtain ⟨back1, back2⟩ := calW_back g4.2.1
          have e1 : joinL [32] (cmdR (kCl kd) (cmdW x)) = textC (seq1 x.Cmd) := by
            unfold cmdR cmdW
            rw [v0, if_pos hcl, if_pos ⟨hcl, back1⟩, back2]
            rfl
          rw [e1] at hp
          rw [cmd_back hp g4.2.2]
          have hs := g4.1
          unfold seq1
          generalize x.Cmd = c at hs
          cases c
          simp only at hs
          subst hs
          rfl
        · rw [if_neg hcl] at g4 ⊢
          have had : kAd x.Kind = true := by
            rw [v0] at hc24
            simpa [hcl] using hc24
          rw [if_pos had] at g4
          have e1 : joinL [32] (cmdR (kCl kd) (cmdW x)) = textC x.Cmd := by
            unfold cmdR cmdW
            rw [v0, if_neg hcl, if_pos had, if_neg (fun h => hcl h.1)]
            rfl
          rw [e1] at hp
          exact cmd_back hp g4.2
      rw [hcmd, v0, v1, v2, v3]
    · obtain ⟨v0, v1, v2, v3, v4⟩ := vals x hx e
      obtain ⟨hin, g1, g2, g3, g4⟩ := hx
      rw [v0] at hc24
      simp only [Bool.or_eq_false_iff] at hc24
      unfold cOk at g4
      rw [if_neg (by rw [hc24.1]; decide), if_neg (by rw [hc24.2]; decide)] at g4
      show (⟨kd, n1, n2, n3, zCmd⟩ : ApiEvent) = x
      rw [v0, v1, v2, v3, ← g4]
  rintro out w45 ⟨hx45, hout⟩
  have hx45w := hxw4.trans' hx45
  refine script_Print_calls (e := out) (script_Print_spec (hU.ext hx45w) (hc.ext hx45w) fun t w47 htt hx47 => kp_ext hx47 (kp_ext hx47 (kp_ext hx47 ?_)))
  have hx47 := hx45w.trans' hx47
  rw [strEq_eq, strEq_eq]
  rcases htt with ⟨hok, rfl⟩ | ⟨hno, rfl⟩
  · refine ifD (fun h => absurd h (lineE_ne hok)) (fun _ => ?_)
    refine ifNot (ifD (fun h => wr_x hx47 hb1 fun w50 hx50 _ => hK _ _ (.inr ⟨rfl, hok, h, hout⟩) hx50) (fun h => bad hx47 fun x hx e => h ?_))
    rw [hout x hx e]
    exact e
  · exact ifD (fun _ => bad hx47 fun x hx e => hno (by rw [hout x hx e]; exact hx)) (fun h => absurd rfl h)
end Go.Chg
