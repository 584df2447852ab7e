/-
  Package 'script': kinds, what is wrong with an event, its line.
-/
import Derived.Test.YtnnoalpkldpjfaaGreatDoorSpScrL
set_option maxRecDepth 20000
set_option linter.unusedVariables false
namespace Go.Chg
open Go.Vc
open Go.RowKit (Below)
variable {w u : World} {s l : List UInt8} {e x : ApiEvent} {ws : List (List UInt8)} {n : Int} {c : ApiCmd} {a q : Addr}
def kindsL : List Value := evKinds.flatMap ScriptKind.cs
theorem script_kinds_spec {K : List Value → World → Prop} (hK : ∀ w', Ext w w' → K kindsL w') : script_kinds K w := by
  unfold script_kinds
  exact new_x (Ext.rfl' w) fun b1 w2 hb1 hl1 hx hn2 => wr_x hx hb1 fun w3 hx _ => hK _ hx
theorem kinds_at {k j : Nat} {v : Value} (h : k < 12) (hv : (ScriptKind.cs (evAt k))[j]? = some v) : kindsL[k * 2 + j]? = some v := by
  have hj2 : j < 2 := (List.getElem?_eq_some_iff.1 hv).1
  rcases twelve h with rfl | rfl | rfl | rfl | rfl | rfl | rfl | rfl | rfl | rfl | rfl | rfl <;> rcases (show j = 0 ∨ j = 1 by omega) with rfl | rfl <;> exact hv
theorem kinds_el {k : Nat} (h : k < 12) (ho : Vc.Obj w a kindsL) : ElAt eScriptKind w (a.add (k * 2)) (evAt k) := by
  have h1 := ho.1
  have hlt := ho.lt
  rw [addr_off a h1]
  refine ⟨rfl, hlt, fun j v hj => ?_⟩
  have := ho.cell (kinds_at h hj)
  rw [addr_off a h1] at this
  show w.cell? ⟨a.block, a.off + k * 2 + j, none⟩ = _
  rw [Nat.add_assoc]
  exact this
theorem script_of_spec {K : ScriptKind × Bool → World → Prop} (hK : ∀ w', Ext w w' → K (kEv n, decide (1 ≤ n ∧ n ≤ 11)) w') : script_of n K w := by
  unfold script_of
  refine new_x (Ext.rfl' w) fun b1 w2 hb1 hl1 hx hn2 => ?_
  refine script_kinds_calls (script_kinds_spec fun w4 hx' => kp_ext hx' ?_)
  have z4 := hx'.size
  have hx := hx.trans' hx'
  refine alloc_ty (z := .agg ⟨[sval [], .int .i64 0, sval [], .int .i64 0, sval [], .int .i64 0, sval [], .int .i64 0, sval [], .int .i64 0, sval [], .int .i64 0, sval [], .int .i64 0, sval [], .int .i64 0, sval [], .int .i64 0, sval [], .int .i64 0, sval [], .int .i64 0, sval [], .int .i64 0]⟩) (by kernel_rfl) fun l5 w6 hl5 hx6 ho6 => kp_ext hx6 ?_
  refine st_whole (n := 24) (cs' := kindsL) (by kernel_rfl) ho6 rfl (by kernel_rfl) (by kernel_rfl) fun w7 hw7 ho7 => kp_wr hw7 (by omega) ?_
  have zw := hx.size
  have hx : Ext w w7 := Below.wr (hx.trans' hx6) (by omega) hw7
  have out : ¬ (1 ≤ n ∧ n ≤ 11) → ∀ w', Ext w w' → K (⟨[], 0⟩, false) w' := fun h w' hx => by
    have := hK w' hx
    rwa [kEv_out h, decide_eq_false h] at this
  refine ifD (fun h1 => wr_x hx hb1 fun w8 hx _ => out (by omega) _ hx) (fun h1 => ?_)
  refine ifD (fun h2 => wr_x hx hb1 fun w8 hx _ => out (by omega) _ hx) (fun h2 => ?_)
  obtain ⟨m, rfl⟩ := Int.eq_ofNat_of_zero_le (show 0 ≤ n by omega)
  refine ix_ar (n := 12) (z := 2) m (by kernel_rfl) rfl (by omega) ?_
  refine ld_whole (E := eScriptKind) (x := evAt m) (by kernel_rfl) (kinds_el (by omega) ho7) rfl ?_
  refine wr_x hx hb1 fun w12 hx _ => ?_
  have := hK w12 hx
  rwa [kEv_in (by omega) (by omega), decide_eq_true (by omega)] at this
theorem Check_1_spec {bit lo hi : Int} {b : Bool} {k : ScriptKind} {K : Bool → World → Prop} (ho : Vc.Obj w a k.cs) (hb : (bAnd .i64 k.has_ bit == 0) = !b) (hK : ∀ t, (t = true ↔ nOk b n lo hi) → K t w) : script_Check_1 bit n lo hi a K w := by
  unfold script_Check_1
  refine ld_obj (off := 1) (by kernel_rfl) ho rfl ?_
  rw [hb]
  refine ifNot (ifB_of (fun h => ?_) (fun h => ?_))
  · refine ifD (fun h1 => hK _ ?_) (fun h1 => hK _ ?_)
    · rw [decide_eq_true_iff, nOk, if_pos h]
      exact ⟨fun h2 => ⟨by omega, h2⟩, fun h2 => h2.2⟩
    · rw [nOk, if_pos h]
      exact ⟨fun h => (by cases h), fun h2 => absurd h2.1 (by omega)⟩
  · refine hK _ ?_
    rw [nOk, if_neg (by rw [h]; decide), beq_iff_eq]
theorem script_numbered_spec {m : Int} {K : ApiCmd → World → Prop} (hK : ∀ w', Ext w w' → K { c with Seq := m } w') : script_numbered c m K w := by
  unfold script_numbered
  refine new_x (Ext.rfl' w) fun b1 w2 hb1 _ hx _ => new_x hx fun b3 w4 hb3 _ hx _ => wr_x hx hb1 fun w5 hx _ => wr_x hx hb3 fun w6 hx _ => hK _ hx
theorem script_command_spec {K : Bool → World → Prop} (hU : Utf8T w) (hK : ∀ t w', (t = true ↔ cOk e) → Ext w w' → K t w') : script_command e (kEv e.Kind).has_ K w := by
  unfold script_command
  obtain ⟨_, _, _, h8, h16, _⟩ := ev_bits e.Kind
  refine new_x (Ext.rfl' w) fun b1 w2 _ _ hx _ => ?_
  rw [bne_of h8, bne_of h16]
  refine ifB_of (fun hc => ?_) (fun hc => ?_)
  · have eq : cOk e ↔ e.Cmd.Seq = 0 ∧ kOwn e.Cmd.Kind = true ∧ CmdOk (seq1 e.Cmd) := by unfold cOk; rw [if_pos hc]
    refine ifEq (fun h0 => ?_) (fun h0 => hK _ _ ⟨fun h => (by cases h), fun h => absurd (eq.1 h).1 h0⟩ hx)
    refine cmd_Owned_calls (c := e.Cmd) (cmd_Owned_spec fun w4 hx' => kp_ext hx' ?_)
    have hx := hx.trans' hx'
    refine ifB_of (fun ho => ?_) (fun ho => hK _ _ ⟨fun h => (by cases h), fun h => by rw [(eq.1 h).2.1] at ho; cases ho⟩ hx)
    refine script_numbered_calls (c := e.Cmd) (script_numbered_spec fun w6 hx' => kp_ext hx' ?_)
    have hx := hx.trans' hx'
    refine cmd_Check_calls (c := seq1 e.Cmd) (cmd_Check_spec (hU.ext hx) fun f w8 hf hx' => kp_ext hx' (hK _ _ ?_ (hx.trans' hx')))
    rw [beq_iff_eq, hf.ok, eq]
    exact ⟨fun h => ⟨h0, ho, h⟩, fun h => h.2.2⟩
  refine ifB_of (fun ha => ?_) (fun ha => ?_)
  · have eq : cOk e ↔ kOwn e.Cmd.Kind = false ∧ CmdOk e.Cmd := by unfold cOk; rw [if_neg (by rw [hc]; decide), if_pos ha]
    refine cmd_Owned_calls (c := e.Cmd) (cmd_Owned_spec fun w4 hx' => kp_ext hx' ?_)
    have hx := hx.trans' hx'
    refine ifNot (ifB_of (fun ho => hK _ _ ⟨fun h => (by cases h), fun h => by rw [(eq.1 h).1] at ho; cases ho⟩ hx) (fun ho => ?_))
    refine cmd_Check_calls (c := e.Cmd) (cmd_Check_spec (hU.ext hx) fun f w8 hf hx' => kp_ext hx' (hK _ _ ?_ (hx.trans' hx')))
    rw [beq_iff_eq, hf.ok, eq]
    exact ⟨fun h => ⟨ho, h⟩, fun h => h.2⟩
  · have eq : cOk e ↔ e.Cmd = zCmd := by unfold cOk; rw [if_neg (by rw [hc]; decide), if_neg (by rw [ha]; decide)]
    refine eqSt (by kernel_rfl) (ApiCmd.eqv e.Cmd zCmd) (hK _ _ ?_ hx)
    rw [ApiCmd.eqs_iff, eq]
theorem script_Check_spec {K : Int → World → Prop} (hU : Utf8T w) (hK : ∀ f w', (f = 0 ∧ EvOk e ∨ f = 3 ∧ ¬ EvOk e) → Ext w w' → K f w') : script_Check e K w := by
  unfold script_Check
  obtain ⟨h1, h2, h4, _⟩ := ev_bits e.Kind
  refine new_x (Ext.rfl' w) fun b1 w2 hb1 hl1 hx hn2 => ?_
  refine script_of_calls (script_of_spec fun w4 hx' => kp_ext hx' ?_)
  have z4 := hx'.size
  have hx := hx.trans' hx'
  refine alloc_ty (z := .agg ⟨[sval [], .int .i64 0]⟩) (by kernel_rfl) fun k5 w6 hk5 hx6 ho6 => kp_ext hx6 ?_
  refine st_whole (n := 2) (cs' := (kEv e.Kind).cs) (by kernel_rfl) ho6 rfl rfl rfl fun w7 hw7 ho7 => kp_wr hw7 (by omega) ?_
  have zw := hx.size
  have hx : Ext w w7 := Below.wr (hx.trans' hx6) (by omega) hw7
  have no : ∀ {v : World}, Ext w v → ¬ EvOk e → K 3 v := fun hx h => hK _ _ (.inr ⟨rfl, h⟩) hx
  refine ifNot (ifD (fun hin => ?_) (fun hout => no hx fun h => hout h.1))
  refine script_Check_1_calls (Check_1_spec ho7 h1 fun t ht => kp_same (ifNot (ifB_of (fun t1 => ?_) (fun t1 => no hx fun h => by rw [ht.2 h.2.1] at t1; cases t1))))
  have g1 := ht.1 t1
  refine script_Check_1_calls (Check_1_spec ho7 h2 fun t ht => kp_same (ifNot (ifB_of (fun t1 => ?_) (fun t1 => no hx fun h => by rw [ht.2 h.2.2.1] at t1; cases t1))))
  have g2 := ht.1 t1
  refine script_Check_1_calls (Check_1_spec ho7 h4 fun t ht => kp_same (ifNot (ifB_of (fun t1 => ?_) (fun t1 => no hx fun h => by rw [ht.2 h.2.2.2.1] at t1; cases t1))))
  have g3 := ht.1 t1
  refine ld_obj (off := 1) (by kernel_rfl) ho7 rfl ?_
  refine script_command_calls (e := e) (script_command_spec (hU.ext hx) fun t w16 ht hx' => kp_ext hx' ?_)
  have hx := hx.trans' hx'
  refine ifNot (ifB_of (fun t1 => hK _ _ (.inl ⟨rfl, hin, g1, g2, g3, ht.1 t1⟩) hx) (fun t1 => no hx fun h => by rw [ht.2 h.2.2.2.2] at t1; cases t1))
/-! ### A call's words -/
theorem wordsT_small (h : CmdOk c) : (wordsT c 6).length ≤ 7 ∧ ∀ y ∈ wordsT c 6, y.length ≤ 10000 := by
  obtain ⟨h1, h2⟩ := wordsT_len h 6 (by omega)
  refine ⟨h1, fun y hy => ?_⟩
  have := joinL_mem _ y hy
  have h3 := textC_len h
  unfold textC at h3
  omega
theorem script_called_spec {K : Sl → World → Prop} (hU : Utf8T w) (hc : ConvT w) (hok : CmdOk (seq1 c)) (ho : kOwn c.Kind = true) (hK : ∀ s w', OwnSl eS w' w.heap.size s (calW c) → Ext w w' → K s w') : script_called c K w := by
  unfold script_called
  refine new_x (Ext.rfl' w) fun b1 w2 hb1 hl1 hx hn2 => ?_
  refine script_numbered_calls (c := c) (script_numbered_spec fun w4 hx' => kp_ext hx' ?_)
  have hx := hx.trans' hx'
  refine cmd_Text_calls (c := seq1 c) (cmd_Text_any (hU.ext hx) (hc.ext hx) fun t w6 ht hx' => kp_ext hx' ?_)
  have hx := hx.trans' hx'
  have ht : t = textC (seq1 c) := by
    rcases ht with ⟨_, h⟩ | ⟨h, _⟩
    · exact h
    · exact absurd hok h
  subst ht
  have hl := textC_len hok
  refine quote_Words_calls (Words_or (hU.ext hx) (by omega) fun r w8 hr hx' => kp_ext hx' ?_)
  have hx := hx.trans' hx'
  rcases hr with ⟨ws, h1, _, hs⟩ | ⟨h1, _⟩
  rotate_left
  · rw [textC_words] at h1; cases h1
  rw [textC_words] at h1
  have h1 := Option.some.inj h1
  subst h1
  obtain ⟨t, ht⟩ := wordsT_own ho
  have hlen : 4 ≤ (wordsT (seq1 c) 6).length := by rw [ht]; simp
  have hsm := wordsT_small hok
  have hsi := hs.is
  have hcap := hsi.cap
  have hslen := hsi.len
  refine held_x fun w9 hx' => ?_
  have hx := hx.trans' hx'
  have hsi := hsi.ext hx'
  refine opH_of (r.1.sub3 0 2 2 1) (fun v _ => ⟨_, run_sub_hm (n := 2) (c := 2) (by kernel_rfl) rfl rfl (by omega) (by omega), rfl⟩) ?_
  refine opH_of (r.1.sub 3 r.1.len 1) (fun v _ => ⟨_, run_sub_l (m := 3) (by kernel_rfl) rfl (by omega), rfl⟩) ?_
  have hd : IsSl eS w9 (r.1.sub 3 r.1.len 1) ((wordsT (seq1 c) 6).drop 3) := by
    have := hsi.sub (i := 3) (j := (wordsT (seq1 c) 6).length) (by omega) (by omega)
    rw [← hslen] at this
    rw [show ((wordsT (seq1 c) 6).drop 3).take (r.1.len - 3) = (wordsT (seq1 c) 6).drop 3 from List.take_of_length_le (by rw [List.length_drop]; omega)] at this
    exact this
  have hf : IsSl eS w9 (r.1.sub3 0 2 2 1) ((wordsT (seq1 c) 6).take 2) := hsi.full (by omega) (by omega)
  refine app_full (E := eS) 16 (by kernel_rfl) (by kernel_rfl) hf (by show 2 < _; rw [List.length_take, List.length_drop]; omega) hd (by rw [List.length_take, List.length_drop]; omega) (by decide) (Nat.le_refl _) fun s' w14 ho14 hx' => kp_ext hx' ⟨trivial, hK _ _ (ho14.mono hx.size) (hx.trans' hx')⟩
end Go.Chg
