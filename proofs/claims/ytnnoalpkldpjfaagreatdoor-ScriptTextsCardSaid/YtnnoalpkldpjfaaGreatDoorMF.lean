import Derived.Test.YtnnoalpkldpjfaaGreatDoorSpScrL
/-
  Package 'script': kinds, what is wrong with an event, its line.
-/
set_option maxRecDepth 20000
set_option linter.unusedVariables false
namespace Go.Chg
open Go.Vc
open Go.RowKit (Below)
variable {w u : World} {s l : List UInt8} {e x : ApiEvent} {ws : List (List UInt8)} {n : Int} {c : ApiCmd} {a q : Addr}
def kindsL : List Value := evKinds.flatMap ScriptKind.cs
theorem script_kinds_spec {K : List Value → World → Prop} (hK : ∀ w', Ext w w' → K kindsL w') : script_kinds K w := by
  unfold script_kinds
  exact new_x (Ext.rfl' w) fun b1 w2 hb1 hl1 hx hn2 => wr_x hx hb1 fun w3 hx _ => hK _ hx
theorem kinds_at {k j : Nat} {v : Value} (h : k < 12) (hv : (ScriptKind.cs (evAt k))[j]? = some v) : kindsL[k * 2 + j]? = some v := by
  have hj2 : j < 2 := (List.getElem?_eq_some_iff.1 hv).1
  rcases twelve h with rfl | rfl | rfl | rfl | rfl | rfl | rfl | rfl | rfl | rfl | rfl | rfl <;> rcases (show j = 0 ∨ j = 1 by omega) with rfl | rfl <;> exact hv
theorem kinds_el {k : Nat} (h : k < 12) (ho : Vc.Obj w a kindsL) : ElAt eScriptKind w (a.add (k * 2)) (evAt k) := by
  have h1 := ho.1
  have hlt := ho.lt
  rw [addr_off a h1]
  refine ⟨rfl, hlt, fun j v hj => ?_⟩
  have := ho.cell (kinds_at h hj)
  rw [addr_off a h1] at this
  show w.cell? ⟨a.block, a.off + k * 2 + j, none⟩ = _
  rw [Nat.add_assoc]
  exact this
theorem script_of_spec {K : ScriptKind × Bool → World → Prop} (hK : ∀ w', Ext w w' → K (kEv n, decide (1 ≤ n ∧ n ≤ 11)) w') : script_of n K w := by
  unfold script_of
  refine new_x (Ext.rfl' w) fun b1 w2 hb1 hl1 hx hn2 => ?_
  refine script_kinds_calls (script_kinds_spec fun w4 hx' => kp_ext hx' ?_)
  have z4 := hx'.size
  have hx := hx.trans' hx'
  refine alloc_ty (z := .agg ⟨[sval [], .int .i64 0, sval [], .int .i64 0, sval [], .int .i64 0, sval [], .int .i64 0, sval [], .int .i64 0, sval [], .int .i64 0, sval [], .int .i64 0, sval [], .int .i64 0, sval [], .int .i64 0, sval [], .int .i64 0, sval [], .int .i64 0, sval [], .int .i64 0]⟩) (by kernel_rfl) fun l5 w6 hl5 hx6 ho6 => kp_ext hx6 ?_
  refine st_whole (n := 24) (cs' := kindsL) (by kernel_rfl) ho6 rfl (by kernel_rfl) (by kernel_rfl) fun w7 hw7 ho7 => kp_wr hw7 (by omega) ?_
  have zw := hx.size
  have hx : Ext w w7 := Below.wr (hx.trans' hx6) (by omega) hw7
  have out : ¬ (1 ≤ n ∧ n ≤ 11) → ∀ w', Ext w w' → K (⟨[], 0⟩, false) w' := fun h w' hx => by
    have := hK w' hx
    rwa [kEv_out h, decide_eq_false h] at this
  refine ifD (fun h1 => wr_x hx hb1 fun w8 hx _ => out (by omega) _ hx) (fun h1 => ?_)
  refine ifD (fun h2 => wr_x hx hb1 fun w8 hx _ => out (by omega) _ hx) (fun h2 => ?_)
  obtain ⟨m, rfl⟩ := Int.eq_ofNat_of_zero_le (show 0 ≤ n by omega)
  refine ix_ar (n := 12) (z := 2) m (by kernel_rfl) rfl (by omega) ?_
  refine ld_whole (E := eScriptKind) (x := evAt m) (by kernel_rfl) (kinds_el (by omega) ho7) rfl ?_
  refine wr_x hx hb1 fun w12 hx _ => ?_
  have := hK w12 hx
  rwa [kEv_in (by omega) (by omega), decide_eq_true (by omega)] at this
theorem Check_1_spec {bit lo hi : Int} {b : Bool} {k : ScriptKind} {K : Bool → World → Prop} (ho : Vc.Obj w a k.cs) (hb : (bAnd .i64 k.has_ bit == 0) = !b) (hK : ∀ t, (t = true ↔ nOk b n lo hi) → K t w) : script_Check_1 bit n lo hi a K w := by
  unfold script_Check_1
  refine ld_obj (off := 1) (by kernel_rfl) ho rfl ?_
  rw [hb]
  refine ifNot (ifB_of (fun h => ?_) (fun h => ?_))
  · refine ifD (fun h1 => hK _ ?_) (fun h1 => hK _ ?_)
    · rw [decide_eq_true_iff, nOk, if_pos h]
      exact ⟨fun h2 => ⟨by omega, h2⟩, fun h2 => h2.2⟩
    · rw [nOk, if_pos h]
      exact ⟨fun h => (by cases h), fun h2 => absurd h2.1 (by omega)⟩
  · refine hK _ ?_
    rw [nOk, if_neg (by rw [h]; decide), beq_iff_eq]
theorem script_numbered_spec {m : Int} {K : ApiCmd → World → Prop} (hK : ∀ w', Ext w w' → K { c with Seq := m } w') : script_numbered c m K w := by
  unfold script_numbered
  refine new_x (Ext.rfl' w) fun b1 w2 hb1 _ hx _ => new_x hx fun b3 w4 hb3 _ hx _ => wr_x hx hb1 fun w5 hx _ => wr_x hx hb3 fun w6 hx _ => hK _ hx
theorem script_command_spec {K : Bool → World → Prop} (hU : Utf8T w) (hK : ∀ t w', (t = true ↔ cOk e) → Ext w w' → K t w') : script_command e (kEv e.Kind).has_ K w := by
  unfold script_command
  obtain ⟨_, _, _, h8, h16, _⟩ := ev_bits e.Kind
  refine new_x (Ext.rfl' w) fun b1 w2 _ _ hx _ => ?_
  rw [bne_of h8, bne_of h16]
  refine ifB_of (fun hc => ?_) (fun hc => ?_)
  · have eq : cOk e ↔ e.Cmd.Seq = 0 ∧ kOwn e.Cmd.Kind = true ∧ CmdOk (seq1 e.Cmd) := by unfold cOk; rw [if_pos hc]
    refine ifEq (fun h0 => ?_) (fun h0 => hK _ _ ⟨fun h => (by cases h), fun h => absurd (eq.1 h).1 h0⟩ hx)
    refine cmd_Owned_calls (c := e.Cmd) (cmd_Owned_spec fun w4 hx' => kp_ext hx' ?_)
    have hx := hx.trans' hx'
    refine ifB_of (fun ho => ?_) (fun ho => hK _ _ ⟨fun h => (by cases h), fun h => by rw [(eq.1 h).2.1] at ho; cases ho⟩ hx)
    refine script_numbered_calls (c := e.Cmd) (script_numbered_spec fun w6 hx' => kp_ext hx' ?_)
    have hx := hx.trans' hx'
    refine cmd_Check_calls (c := seq1 e.Cmd) (cmd_Check_spec (hU.ext hx) fun f w8 hf hx' => kp_ext hx' (hK _ _ ?_ (hx.trans' hx')))
    rw [beq_iff_eq, hf.ok, eq]
    exact ⟨fun h => ⟨h0, ho, h⟩, fun h => h.2.2⟩
  refine ifB_of (fun ha => ?_) (fun ha => ?_)
  · have eq : cOk e ↔ kOwn e.Cmd.Kind = false ∧ CmdOk e.Cmd := by unfold cOk; rw [if_neg (by rw [hc]; decide), if_pos ha]
    refine cmd_Owned_calls (c := e.Cmd) (cmd_Owned_spec fun w4 hx' => kp_ext hx' ?_)
    have hx := hx.trans' hx'
    refine ifNot (ifB_of (fun ho => hK _ _ ⟨fun h => (by cases h), fun h => by rw [(eq.1 h).1] at ho; cases ho⟩ hx) (fun ho => ?_))
    refine cmd_Check_calls (c := e.Cmd) (cmd_Check_spec (hU.ext hx) fun f w8 hf hx' => kp_ext hx' (hK _ _ ?_ (hx.trans' hx')))
    rw [beq_iff_eq, hf.ok, eq]
    exact ⟨fun h => ⟨ho, h⟩, fun h => h.2⟩
  · have eq : cOk e ↔ e.Cmd = zCmd := by unfold cOk; rw [if_neg (by rw [hc]; decide), if_neg (by rw [ha]; decide)]
    refine eqSt (by kernel_rfl) (ApiCmd.eqv e.Cmd zCmd) (hK _ _ ?_ hx)
    rw [ApiCmd.eqs_iff, eq]
theorem script_Check_spec {K : Int → World → Prop} (hU : Utf8T w) (hK : ∀ f w', (f = 0 ∧ EvOk e ∨ f = 3 ∧ ¬ EvOk e) → Ext w w' → K f w') : script_Check e K w := by
  unfold script_Check
  obtain ⟨h1, h2, h4, _⟩ := ev_bits e.Kind
  refine new_x (Ext.rfl' w) fun b1 w2 hb1 hl1 hx hn2 => ?_
  refine script_of_calls (script_of_spec fun w4 hx' => kp_ext hx' ?_)
  have z4 := hx'.size
  have hx := hx.trans' hx'
  refine alloc_ty (z := .agg ⟨[sval [], .int .i64 0]⟩) (by kernel_rfl) fun k5 w6 hk5 hx6 ho6 => kp_ext hx6 ?_
  refine st_whole (n := 2) (cs' := (kEv e.Kind).cs) (by kernel_rfl) ho6 rfl rfl rfl fun w7 hw7 ho7 => kp_wr hw7 (by omega) ?_
  have zw := hx.size
  have hx : Ext w w7 := Below.wr (hx.trans' hx6) (by omega) hw7
  have no : ∀ {v : World}, Ext w v → ¬ EvOk e → K 3 v := fun hx h => hK _ _ (.inr ⟨rfl, h⟩) hx
  refine ifNot (ifD (fun hin => ?_) (fun hout => no hx fun h => hout h.1))
  refine script_Check_1_calls (Check_1_spec ho7 h1 fun t ht => kp_same (ifNot (ifB_of (fun t1 => ?_) (fun t1 => no hx fun h => by rw [ht.2 h.2.1] at t1; cases t1))))
  have g1 := ht.1 t1
  refine script_Check_1_calls (Check_1_spec ho7 h2 fun t ht => kp_same (ifNot (ifB_of (fun t1 => ?_) (fun t1 => no hx fun h => by rw [ht.2 h.2.2.1] at t1; cases t1))))
  have g2 := ht.1 t1
  refine script_Check_1_calls (Check_1_spec ho7 h4 fun t ht => kp_same (ifNot (ifB_of (fun t1 => ?_) (fun t1 => no hx fun h => by rw [ht.2 h.2.2.2.1] at t1; cases t1))))
  have g3 := ht.1 t1
  refine ld_obj (off := 1) (by kernel_rfl) ho7 rfl ?_
  refine script_command_calls (e := e) (script_command_spec (hU.ext hx) fun t w16 ht hx' => kp_ext hx' ?_)
  have hx := hx.trans' hx'
  refine ifNot (ifB_of (fun t1 => hK _ _ (.inl ⟨rfl, hin, g1, g2, g3, ht.1 t1⟩) hx) (fun t1 => no hx fun h => by rw [ht.2 h.2.2.2.2] at t1; cases t1))
/-! ### A call's words -/
theorem wordsT_small (h : CmdOk c) : (wordsT c 6).length ≤ 7 ∧ ∀ y ∈ wordsT c 6, y.length ≤ 10000 := by
  obtain ⟨h1, h2⟩ := wordsT_len h 6 (by omega)
  refine ⟨h1, fun y hy => ?_⟩
  have := joinL_mem _ y hy
  have h3 := textC_len h
  unfold textC at h3
  omega
theorem script_called_spec {K : Sl → World → Prop} (hU : Utf8T w) (hc : ConvT w) (hok : CmdOk (seq1 c)) (ho : kOwn c.Kind = true) (hK : ∀ s w', OwnSl eS w' w.heap.size s (calW c) → Ext w w' → K s w') : script_called c K w := by
  unfold script_called
  refine new_x (Ext.rfl' w) fun b1 w2 hb1 hl1 hx hn2 => ?_
  refine script_numbered_calls (c := c) (script_numbered_spec fun w4 hx' => kp_ext hx' ?_)
  have hx := hx.trans' hx'
  refine cmd_Text_calls (c := seq1 c) (cmd_Text_any (hU.ext hx) (hc.ext hx) fun t w6 ht hx' => kp_ext hx' ?_)
  have hx := hx.trans' hx'
  have ht : t = textC (seq1 c) := by
    rcases ht with ⟨_, h⟩ | ⟨h, _⟩
    · exact h
    · exact absurd hok h
  subst ht
  have hl := textC_len hok
  refine quote_Words_calls (Words_or (hU.ext hx) (by omega) fun r w8 hr hx' => kp_ext hx' ?_)
  have hx := hx.trans' hx'
  rcases hr with ⟨ws, h1, _, hs⟩ | ⟨h1, _⟩
  rotate_left
  · rw [textC_words] at h1; cases h1
  rw [textC_words] at h1
  have h1 := Option.some.inj h1
  subst h1
  obtain ⟨t, ht⟩ := wordsT_own ho
  have hlen : 4 ≤ (wordsT (seq1 c) 6).length := by rw [ht]; simp
  have hsm := wordsT_small hok
  have hsi := hs.is
  have hcap := hsi.cap
  have hslen := hsi.len
  refine held_x fun w9 hx' => ?_
  have hx := hx.trans' hx'
  have hsi := hsi.ext hx'
  refine opH_of (r.1.sub3 0 2 2 1) (fun v _ => ⟨_, run_sub_hm (n := 2) (c := 2) (by kernel_rfl) rfl rfl (by omega) (by omega), rfl⟩) ?_
  refine opH_of (r.1.sub 3 r.1.len 1) (fun v _ => ⟨_, run_sub_l (m := 3) (by kernel_rfl) rfl (by omega), rfl⟩) ?_
  have hd : IsSl eS w9 (r.1.sub 3 r.1.len 1) ((wordsT (seq1 c) 6).drop 3) := by
    have := hsi.sub (i := 3) (j := (wordsT (seq1 c) 6).length) (by omega) (by omega)
    rw [← hslen] at this
    rw [show ((wordsT (seq1 c) 6).drop 3).take (r.1.len - 3) = (wordsT (seq1 c) 6).drop 3 from List.take_of_length_le (by rw [List.length_drop]; omega)] at this
    exact this
  have hf : IsSl eS w9 (r.1.sub3 0 2 2 1) ((wordsT (seq1 c) 6).take 2) := hsi.full (by omega) (by omega)
  refine app_full (E := eS) 16 (by kernel_rfl) (by kernel_rfl) hf (by show 2 < _; rw [List.length_take, List.length_drop]; omega) hd (by rw [List.length_take, List.length_drop]; omega) (by decide) (Nat.le_refl _) fun s' w14 ho14 hx' => kp_ext hx' ⟨trivial, hK _ _ (ho14.mono hx.size) (hx.trans' hx')⟩
end Go.Chg
/-
  Package 'script': an event's line; the event of a line.
-/
set_option maxRecDepth 20000
set_option linter.unusedVariables false
namespace Go.Chg
open Go.Vc
open Go.RowKit (Below)
variable {w u u' : World} {s t : Sl} {e x : ApiEvent} {ws : List (List UInt8)} {n : Int} {c : ApiCmd} {k l : Addr} {kd : ScriptKind} {B : Nat}
/-- Words that are collected behind a pointer, and a kind behind another one. -/
structure Col (B : Nat) (u : World) (k l : Addr) (kd : ScriptKind) (s : Sl) (ws : List (List UInt8)) : Prop where
  ko : Vc.Obj u k kd.cs
  lo : Vc.Obj u l [s.val]
  own : OwnSl eS u B s ws
  kl : k.block ≠ l.block
  kb : B ≤ k.block
  lb : B ≤ l.block
  sk : s.blk ≠ some k.block
  sl : s.blk ≠ some l.block
theorem Col.ext (h : Col B u k l kd s ws) (hx : Ext u u') : Col B u' k l kd s ws := ⟨h.ko.ext hx, h.lo.ext hx, h.own.ext hx, h.kl, h.kb, h.lb, h.sk, h.sl⟩
theorem Col.size (h : Col B u k l kd s ws) : B ≤ u.heap.size := by have := h.ko.lt; have := h.kb; omega
/-- The same, of a slice that is not yet laid behind the pointer. -/
structure ColA (B : Nat) (u : World) (k l : Addr) (kd : ScriptKind) (s : Sl) (ws : List (List UInt8)) : Prop where
  ko : Vc.Obj u k kd.cs
  lo : ∃ v, Vc.Obj u l [v]
  own : OwnSl eS u B s ws
  kl : k.block ≠ l.block
  kb : B ≤ k.block
  lb : B ≤ l.block
  sk : s.blk ≠ some k.block
  sl : s.blk ≠ some l.block
theorem col_app {tb : TypeId} {ys : List (List UInt8)} {Y : Sl → World → Prop} (happ : appOk Pr tb (elemT Pr tb) 1 16 = true) (hsl : isSlT Pr tb = true) (h : Col B u k l kd s ws) (ht : IsSl eS u t ys) (hw : ws.length + ys.length ≤ 1000)
    (hX : ∀ s' u', ColA B u' k l kd s' (ws ++ ys) → Below B u u' → Y s' u') : opTy Pr (Builtin.append_ #[tb, tb] tb #[s.val, t.val]) Sl.val Y u := by
  have hB := h.size
  have hsk := h.sk
  have hsl' := h.sl
  have klt := h.ko.lt
  have llt := h.lo.lt
  refine app_ty2 16 happ hsl h.own ht (by omega) hB (by decide) fun s' w18 ho hg hn => ?_
  have hge := h.own.ge
  have hbl : Below B u w18 := below_grown (Below.refl B u) hB hg fun r hr => hge r hr
  exact hX s' w18 ⟨h.ko.keep (hg.block _ klt fun e => hsk e.symm), ⟨_, h.lo.keep (hg.block _ llt fun e => hsl' e.symm)⟩, ho, h.kl, h.kb, h.lb, hn.ne klt hsk, hn.ne llt hsl'⟩ hbl
theorem col_st {tb : TypeId} {X : World → Prop} (hsz : sizeT Pr tb = some 1) (h : ColA B u k l kd s ws) (hX : ∀ u', Col B u' k l kd s ws → Below B u u' → X u') : opUn Pr (Instr.storeAt tb (.pointer (some l)) s.val) X u := by
  obtain ⟨v, hl⟩ := h.lo
  refine st_obj0 hsz hl (by rfl) (by simp) fun w19 hw ho19 => ?_
  exact hX w19 ⟨h.ko.keep (hw.block _ h.kl), ho19, h.own.grownB (grown_wr hw) fun b hb e => h.sl (hb.trans e), h.kl, h.kb, h.lb, h.sk, h.sl⟩ (Below.wr (Below.refl B u) h.lb hw)
theorem Print_1_spec {bit : Int} {b : Bool} {K : Unit → World → Prop} (hc : ConvT u) (h : Col B u k l kd s ws) (hb : (bAnd .i64 kd.has_ bit == 0) = !b) (hn : b = true → 0 ≤ n ∧ n ≤ 4294967296) (hw : ws.length ≤ 100)
    (hK : ∀ s' u', Col B u' k l kd s' (ws ++ numW b n) → Below B u u' → K () u') : script_Print_1 bit n k l K u := by
  unfold script_Print_1
  refine ld_obj (off := 1) (by kernel_rfl) h.ko rfl ?_
  rw [bne_of hb]
  refine ifB_of (fun h1 => ?_) (fun h0 => hK s u (by rw [h0]; unfold numW; rw [if_neg (by decide), List.append_nil]; exact h) (Below.refl _ _))
  obtain ⟨n0, n1⟩ := hn h1
  have e : numW b n = [digits 10 n.toNat] := by unfold numW; rw [if_pos h1]
  rw [e] at hK
  obtain ⟨m, rfl⟩ := Int.eq_ofNat_of_zero_le n0
  rw [Int.toNat_natCast] at hK
  have hB' := h.size
  have fin : ∀ {v : World}, Ext u v → ∀ s' w18, ColA B w18 k l kd s' (ws ++ [digits 10 m]) → Below B v w18 → (fun _ => True) w18 ∧ opUn Pr (Instr.storeAt tid_sStr (.pointer (some l)) s'.val) (fun w19 => (fun _ => True) w19 ∧ K () w19) w18 := fun hx s' w18 hc hbl =>
    ⟨trivial, col_st (by kernel_rfl) hc fun u' hu hbl2 => ⟨trivial, hK s' u' hu (((below_ex hB' hx).trans hbl).trans hbl2)⟩⟩
  refine held_x fun w2 hx2 => ⟨?_, ?_⟩
  · refine ld_obj0 (val := Sl.val) (y := s) (by kernel_rfl) (h.ext hx2).lo rfl ⟨trivial, ?_⟩
    refine strconv_Itoa_calls (Itoa_spec (hc.ext hx2) (by omega) fun w6 hx6 => ⟨trivial, ?_⟩)
    refine lit1_ty (E := eS) 16 (x := digits 10 m) w6.heap.size (by kernel_rfl) (by decide) (fun w => by kernel_rfl) (Nat.le_refl _) fun t7 w8 _ ht hx8 => ⟨trivial, ?_⟩
    have hxx := hx2.trans' (hx6.trans' hx8)
    exact col_app (by kernel_rfl) (by kernel_rfl) (h.ext hxx) ht.is (by simp only [List.length_singleton]; omega) (fin hxx)
  · refine strconv_Itoa_calls (Itoa_spec (hc.ext hx2) (by omega) fun w13 hx13 => ⟨trivial, ?_, ?_⟩)
    · refine ld_obj0 (val := Sl.val) (y := s) (by kernel_rfl) (h.ext (hx2.trans' hx13)).lo rfl ⟨trivial, ?_⟩
      refine lit1_ty (E := eS) 16 (x := digits 10 m) w13.heap.size (by kernel_rfl) (by decide) (fun w => by kernel_rfl) (Nat.le_refl _) fun t7 w8 _ ht hx8 => ⟨trivial, ?_⟩
      have hxx := hx2.trans' (hx13.trans' hx8)
      exact col_app (by kernel_rfl) (by kernel_rfl) (h.ext hxx) ht.is (by simp only [List.length_singleton]; omega) (fin hxx)
    · refine lit1_ty (E := eS) 16 (x := digits 10 m) w13.heap.size (by kernel_rfl) (by decide) (fun w => by kernel_rfl) (Nat.le_refl _) fun t7 w8 _ ht hx8 => ⟨trivial, ?_⟩
      have hxx := hx2.trans' (hx13.trans' hx8)
      refine ld_obj0 (val := Sl.val) (y := s) (by kernel_rfl) (h.ext hxx).lo rfl ⟨trivial, ?_⟩
      exact col_app (by kernel_rfl) (by kernel_rfl) (h.ext hxx) ht.is (by simp only [List.length_singleton]; omega) (fin hxx)
theorem calW_small (hok : CmdOk (seq1 c)) : (calW c).length ≤ 7 ∧ ∀ y ∈ calW c, y.length ≤ 10000 := by
  obtain ⟨h1, h2⟩ := wordsT_small hok
  unfold calW
  refine ⟨by rw [List.length_append, List.length_take, List.length_drop]; omega, fun y hy => ?_⟩
  rcases List.mem_append.1 hy with h | h
  · exact h2 y (List.mem_of_mem_take h)
  · exact h2 y (List.mem_of_mem_drop h)
theorem flat_small : ∀ (ws : List (List UInt8)), (∀ y ∈ ws, y.length ≤ 10000) → (ws.flatMap id).length ≤ 10000 * ws.length
  | [], _ => by simp
  | y :: ws, h => by
    have h1 := h y (by simp)
    have h2 := flat_small ws fun z hz => h z (by simp [hz])
    simp only [List.flatMap_cons, List.length_append, List.length_cons, id]
    omega
theorem numW_small (b : Bool) (h : b = true → 0 ≤ n ∧ n ≤ 4294967296) : (numW b n).length ≤ 1 ∧ ∀ y ∈ numW b n, y.length ≤ 10000 := by
  unfold numW
  split
  · rename_i hb
    have := h hb
    refine ⟨by simp, fun y hy => ?_⟩
    rw [List.mem_singleton] at hy
    subst hy
    have := digits_len (n := n.toNat) (by omega)
    omega
  · exact ⟨by simp, fun y hy => by cases hy⟩
theorem nOk_in {b : Bool} {lo hi : Int} (h : nOk b n lo hi) (h0 : 0 ≤ lo) (h1 : hi ≤ 4294967296) : b = true → 0 ≤ n ∧ n ≤ 4294967296 := fun hb => by
  unfold nOk at h
  rw [if_pos hb] at h
  omega
theorem script_Print_spec {K : List UInt8 → World → Prop} (hU : Utf8T w) (hc : ConvT w) (hK : ∀ t w', (EvOk e ∧ t = lineE e ∨ ¬ EvOk e ∧ t = []) → Ext w w' → K t w') : script_Print e K w := by
  unfold script_Print
  obtain ⟨hb1, hb2, hb4, hb8, hb16, _⟩ := ev_bits e.Kind
  refine new_x (Ext.rfl' w) fun b1 w2 hb1' hl1 hx hn2 => ?_
  refine script_Check_calls (e := e) (script_Check_spec (hU.ext hx) fun f w4 hf hx' => kp_ext hx' ?_)
  have hx := hx.trans' hx'
  have z4 := hx'.size
  rcases hf with ⟨rfl, hok⟩ | ⟨rfl, hno⟩
  rotate_left
  · exact ifNe (fun _ => hK _ _ (.inr ⟨hno, rfl⟩) hx) (fun h => absurd h (by decide))
  refine ifNe (fun h => absurd rfl h) (fun _ => ?_)
  obtain ⟨hin, g1, g2, g3, g4⟩ := id hok
  refine script_of_calls (script_of_spec fun w6 hx' => kp_ext hx' ?_)
  have hx := hx.trans' hx'
  have z6 := hx'.size
  refine alloc_ty (z := .agg ⟨[sval [], .int .i64 0]⟩) (by kernel_rfl) fun k w8 hk8 hx8 ho8 => kp_ext hx8 ?_
  refine st_whole (n := 2) (cs' := (kEv e.Kind).cs) (by kernel_rfl) ho8 rfl rfl rfl fun w9 hw9 ho9 => kp_wr hw9 (by omega) ?_
  have zw := hx.size
  have hx : Ext w w9 := Below.wr (hx.trans' hx8) (by omega) hw9
  refine ld_obj (off := 0) (by kernel_rfl) ho9 rfl ?_
  refine lit1_ty (E := eS) 16 (x := (kEv e.Kind).name) w9.heap.size (by kernel_rfl) (by decide) (fun w => by kernel_rfl) (Nat.le_refl _) fun s0 w12 hs0 ho12 hx12 => kp_ext hx12 ?_
  have z12 := hx12.size
  have z9 : k.block < w9.heap.size := ho9.lt
  have l12 := ho12.lt
  refine alloc_ty (z := Sl.nil.val) (by kernel_rfl) fun l w14 hl14 hx14 ho14 => kp_ext hx14 ?_
  refine st_obj0 (by kernel_rfl) ho14 (by rfl) (by decide) fun w15 hw15 ho15 => kp_wr hw15 (by omega) ?_
  have hx15 : Ext w w15 := Below.wr (hx.trans' (hx12.trans' hx14)) (by have := hx.size; omega) hw15
  obtain ⟨B, hBd⟩ : ∃ B, B = w2.heap.size := ⟨_, rfl⟩
  have hbB : b1 < B := by omega
  have hwB : w.heap.size ≤ B := by have := hn2.1; omega
  have g12 := ho12.ge
  have hcol : Col B w15 k l (kEv e.Kind) s0 [(kEv e.Kind).name] := by
    refine ⟨((ho9.ext hx12).ext hx14).keep (hw15.block _ (by omega)), ho15, ((ho12.ext hx14).grownB (grown_wr hw15) fun b hb e => ?_).mono (by omega), by omega, by omega, by omega, fun e => ?_, fun e => ?_⟩
    · have := l12 b hb; have := Option.some.inj e; omega
    · have := g12 _ e; omega
    · have := l12 _ e; omega
  have EX : ∀ {v v' : World}, Ext w v → Below B v v' → Ext w v' := fun h1 h2 => Ext.below h1 h2 hwB
  have n1 := nOk_in g1 (by decide) (by decide)
  have n2 := nOk_in g2 (by decide) (by decide)
  have n3 := nOk_in g3 (by decide) (by decide)
  have sm1 := (numW_small _ n1).1
  have sm2 := (numW_small _ n2).1
  have sm3 := (numW_small _ n3).1
  refine script_Print_1_calls (Print_1_spec (n := e.Node) (hc.ext hx15) hcol hb1 n1 (by simp) fun s1 w17 hcol hbl => kp_below hbl hbB ?_)
  have hx := EX hx15 hbl
  refine script_Print_1_calls (Print_1_spec (n := e.N) (hc.ext hx) hcol hb2 n2 (by simp only [List.length_append, List.length_singleton]; omega) fun s2 w19 hcol hbl => kp_below hbl hbB ?_)
  have hx := EX hx hbl
  refine script_Print_1_calls (Print_1_spec (n := e.M) (hc.ext hx) hcol hb4 n3 (by simp only [List.length_append, List.length_singleton]; omega) fun s3 w21 hcol hbl => kp_below hbl hbB ?_)
  have hx := EX hx hbl
  have e3 : [(kEv e.Kind).name] ++ numW (kNd e.Kind) e.Node ++ numW (kNn e.Kind) e.N ++ numW (kMm e.Kind) e.M = (kEv e.Kind).name :: numsW e := by simp [numsW]
  rw [e3] at hcol
  have l3 : ((kEv e.Kind).name :: numsW e).length ≤ 4 := by unfold numsW; simp only [List.length_cons, List.length_append]; omega
  have nm : ∀ y ∈ (kEv e.Kind).name :: numsW e, y.length ≤ 10000 := by
    intro y hy
    rcases List.mem_cons.1 hy with rfl | hy
    · obtain ⟨m, hm⟩ := Int.eq_ofNat_of_zero_le (show 0 ≤ e.Kind by omega)
      rw [hm, kEv_in (by omega) (by omega)]
      have key : ∀ m : Fin 12, (evAt m.val).name.length ≤ 10000 := by decide +kernel
      exact key ⟨m, by omega⟩
    · unfold numsW at hy
      rcases List.mem_append.1 hy with hy | hy
      · rcases List.mem_append.1 hy with hy | hy
        · exact (numW_small _ n1).2 y hy
        · exact (numW_small _ n2).2 y hy
      · exact (numW_small _ n3).2 y hy
  -- the call's command
  refine ⟨fun v => Ext w v ∧ ∃ s, Col B v k l (kEv e.Kind) s ((kEv e.Kind).name :: numsW e ++ (if kCl e.Kind = true then calW e.Cmd else [])), ?_, ?_⟩
  · refine ld_obj (off := 1) (by kernel_rfl) hcol.ko rfl ?_
    rw [bne_of hb8]
    refine ifB_of (fun hcl => ?_) (fun hcl => ⟨hx, s3, by rw [hcl]; simpa using hcol⟩)
    unfold cOk at g4
    rw [if_pos hcl] at g4
    have hsm := calW_small g4.2.2
    rw [if_pos hcl]
    have fin : ∀ {v : World}, Ext w v → ∀ s' w18, ColA B w18 k l (kEv e.Kind) s' ((kEv e.Kind).name :: numsW e ++ calW e.Cmd) → Below B v w18 → (kp b1 v w18 <| (fun _ => True) w18 ∧ opUn Pr (Instr.storeAt tid_sStr (.pointer (some l)) s'.val) (fun w19 => kp b1 w18 w19 <| (fun _ => True) w19 ∧ (Ext w w19 ∧ ∃ s, Col B w19 k l (kEv e.Kind) s ((kEv e.Kind).name :: numsW e ++ calW e.Cmd))) w18) := fun hx s' w18 hc hbl =>
      kp_below hbl hbB ⟨trivial, col_st (by kernel_rfl) hc fun u' hu hbl2 => kp_below hbl2 hbB ⟨trivial, EX (EX hx hbl) hbl2, s', hu⟩⟩
    refine held_x fun w24 hx24 => ⟨?_, ?_⟩
    · refine ld_obj0 (val := Sl.val) (y := s3) (by kernel_rfl) (hcol.ext hx24).lo rfl ⟨trivial, ?_⟩
      refine script_called_calls (c := e.Cmd) (script_called_spec (hU.ext (hx.trans' hx24)) (hc.ext (hx.trans' hx24)) g4.2.2 g4.2.1 fun t27 w28 ht27 hx28 => kp_ext hx28 ⟨trivial, ?_⟩)
      exact col_app (by kernel_rfl) (by kernel_rfl) (hcol.ext (hx24.trans' hx28)) ht27.is (by omega) (fin (hx.trans' (hx24.trans' hx28)))
    · refine script_called_calls (c := e.Cmd) (script_called_spec (hU.ext (hx.trans' hx24)) (hc.ext (hx.trans' hx24)) g4.2.2 g4.2.1 fun t27 w28 ht27 hx28 => kp_ext hx28 ⟨trivial, ?_⟩)
      refine ld_obj0 (val := Sl.val) (y := s3) (by kernel_rfl) (hcol.ext (hx24.trans' hx28)).lo rfl ⟨trivial, ?_⟩
      exact col_app (by kernel_rfl) (by kernel_rfl) (hcol.ext (hx24.trans' hx28)) ht27.is (by omega) (fin (hx.trans' (hx24.trans' hx28)))
  rintro w38 ⟨hx, s4, hcol⟩
  have hcs : ∀ ws, (∀ y ∈ ws, y.length ≤ 10000) → ws.length ≤ 20 → ∀ {t : Sl} {v : World} {X : List UInt8 → World → Prop}, IsSl eS v t ws → (∀ v', Ext v v' → X (joinL [32] ws) v') → callV Pr sval fid_quote_Line #[t.val] v X := fun ws h1 h2 {t v X} ht hX => by
    have := flat_small ws h1
    exact quote_Line_calls (Line_spec ht (by omega) (by omega) hX)
  refine ld_obj (off := 1) (by kernel_rfl) hcol.ko rfl ?_
  rw [bne_of hb16]
  refine ifB_of (fun had => ?_) (fun had => ?_)
  · have hcl : kCl e.Kind = false := by unfold kAd kCl at *; simp at had; simp; omega
    unfold cOk at g4
    rw [if_neg (by rw [hcl]; decide), if_pos had] at g4
    rw [hcl] at hcol
    have hcol : Col B w38 k l (kEv e.Kind) s4 ((kEv e.Kind).name :: numsW e) := by simpa using hcol
    have htl := textC_len g4.2
    have line : joinL [32] ((kEv e.Kind).name :: (numsW e ++ [textC e.Cmd])) = lineE e := by
      unfold lineE wordsE cmdW
      rw [if_neg (by rw [hcl]; decide), if_pos had]
      exact join_nest _ _ _ fun h0 => by
        obtain ⟨t, ht⟩ := wordsT_pre e.Cmd 0 6
        rw [Nat.zero_add, wordsT, h0] at ht
        cases ht
    have fin : ∀ {v : World}, Ext w v → ∀ s' w18, ColA B w18 k l (kEv e.Kind) s' ((kEv e.Kind).name :: numsW e ++ [textC e.Cmd]) → Below B v w18 → (kp b1 v w18 <| (fun _ => True) w18 ∧ opUn Pr (Instr.storeAt tid_sStr (.pointer (some l)) s'.val) (fun w19 => kp b1 w18 w19 <| (fun _ => True) w19 ∧
        opRd Pr (Instr.loadAt tid_sStr (.pointer (some l))) Sl.val (fun t50 => callV Pr sval fid_quote_Line #[t50.val] w19 fun t51 w52 => kp b1 w19 w52 <| K t51 w52) w19) w18) := fun hx s' w18 hc hbl =>
      kp_below hbl hbB ⟨trivial, col_st (by kernel_rfl) hc fun u' hu hbl2 => kp_below hbl2 hbB ⟨trivial, ld_obj0 (val := Sl.val) (y := s') (by kernel_rfl) hu.lo rfl (hcs _ (fun y hy => by
        rcases List.mem_append.1 hy with hy | hy
        · exact nm y hy
        · rw [List.mem_singleton] at hy; subst hy; omega) (by rw [List.length_append, List.length_singleton]; omega) hu.own.is fun v' hv => kp_ext hv (hK _ _ (.inl ⟨hok, by rw [← line]; rfl⟩) ((EX (EX hx hbl) hbl2).trans' hv)))⟩⟩
    have txt : ∀ {v : World} {X : List UInt8 → World → Prop}, Ext w v → (∀ v', Ext v v' → X (textC e.Cmd) v') → callV Pr sval fid_cmd_Text #[e.Cmd.val] v X := fun hx hX => cmd_Text_calls (c := e.Cmd) (cmd_Text_any (hU.ext hx) (hc.ext hx) fun t v' ht hx' => by
      rcases ht with ⟨_, rfl⟩ | ⟨h, _⟩
      · exact hX _ hx'
      · exact absurd g4.2 h)
    refine held_x fun w40 hx40 => ⟨?_, ?_⟩
    · refine ld_obj0 (val := Sl.val) (y := s4) (by kernel_rfl) (hcol.ext hx40).lo rfl ⟨trivial, ?_⟩
      refine txt (hx.trans' hx40) fun w44 hx44 => kp_ext hx44 ⟨trivial, ?_⟩
      refine lit1_ty (E := eS) 16 (x := textC e.Cmd) w44.heap.size (by kernel_rfl) (by decide) (fun w => by kernel_rfl) (Nat.le_refl _) fun t45 w46 _ ht hx46 => kp_ext hx46 ⟨trivial, ?_⟩
      have hxx := hx40.trans' (hx44.trans' hx46)
      exact col_app (by kernel_rfl) (by kernel_rfl) (hcol.ext hxx) ht.is (by simp only [List.length_singleton]; omega) (fin (hx.trans' hxx))
    · refine txt (hx.trans' hx40) fun w44 hx44 => kp_ext hx44 ⟨trivial, ?_, ?_⟩
      · refine ld_obj0 (val := Sl.val) (y := s4) (by kernel_rfl) (hcol.ext (hx40.trans' hx44)).lo rfl ⟨trivial, ?_⟩
        refine lit1_ty (E := eS) 16 (x := textC e.Cmd) w44.heap.size (by kernel_rfl) (by decide) (fun w => by kernel_rfl) (Nat.le_refl _) fun t45 w46 _ ht hx46 => kp_ext hx46 ⟨trivial, ?_⟩
        have hxx := hx40.trans' (hx44.trans' hx46)
        exact col_app (by kernel_rfl) (by kernel_rfl) (hcol.ext hxx) ht.is (by simp only [List.length_singleton]; omega) (fin (hx.trans' hxx))
      · refine lit1_ty (E := eS) 16 (x := textC e.Cmd) w44.heap.size (by kernel_rfl) (by decide) (fun w => by kernel_rfl) (Nat.le_refl _) fun t45 w46 _ ht hx46 => kp_ext hx46 ⟨trivial, ?_⟩
        have hxx := hx40.trans' (hx44.trans' hx46)
        refine ld_obj0 (val := Sl.val) (y := s4) (by kernel_rfl) (hcol.ext hxx).lo rfl ⟨trivial, ?_⟩
        exact col_app (by kernel_rfl) (by kernel_rfl) (hcol.ext hxx) ht.is (by simp only [List.length_singleton]; omega) (fin (hx.trans' hxx))
  · have line : (kEv e.Kind).name :: numsW e ++ (if kCl e.Kind = true then calW e.Cmd else []) = wordsE e := by
      unfold wordsE cmdW
      rw [if_neg (c := kAd e.Kind = true) (by rw [had]; decide)]
      rfl
    refine ld_obj0 (val := Sl.val) (y := s4) (by kernel_rfl) hcol.lo rfl ?_
    rw [line] at hcol
    have hcw : ∀ y ∈ wordsE e, y.length ≤ 10000 := by
      rw [← line]
      intro y hy
      rcases List.mem_append.1 hy with hy | hy
      · exact nm y hy
      · split at hy
        · rename_i hcl
          unfold cOk at g4
          rw [if_pos hcl] at g4
          exact (calW_small g4.2.2).2 y hy
        · cases hy
    have hcl2 : (wordsE e).length ≤ 20 := by
      rw [← line, List.length_append]
      split
      · rename_i hcl
        unfold cOk at g4
        rw [if_pos hcl] at g4
        have := (calW_small g4.2.2).1
        omega
      · simp only [List.length_nil]; omega
    exact hcs _ hcw hcl2 hcol.own.is fun v' hv => kp_ext hv (hK _ _ (.inl ⟨hok, rfl⟩) (hx.trans' hv))
end Go.Chg
