/-
  Commands as bytes: what package 'cmd' puts and gets.
-/
import Derived.Test.YtnnoalpkldpjfaaGreatDoorSpCmdC
import Derived.Test.YtnnoalpkldpjfaaGreatDoorMB
set_option maxRecDepth 20000
set_option linter.unusedVariables false
namespace Go.Vc
/-- Two blocks may have turned. -/
structure Two (x y : Nat) (w w' : World) : Prop where
  os : w'.os = w.os
  tape : w'.tape = w.tape
  output : w'.output = w.output
  size : w.heap.size ≤ w'.heap.size
  block : ∀ k, k < w.heap.size → k ≠ x → k ≠ y → w'.heap[k]? = w.heap[k]?
variable {x y : Nat} {w w' w'' w0 : World}
theorem Two.refl (w : World) : Two x y w w := ⟨rfl, rfl, rfl, Nat.le_refl _, fun _ _ _ _ => rfl⟩
theorem Two.trans (h : Two x y w w') (k : Two x y w' w'') : Two x y w w'' :=
  ⟨k.os.trans h.os, k.tape.trans h.tape, k.output.trans h.output, Nat.le_trans h.size k.size, fun i hi hx hy => (k.block i (Nat.lt_of_lt_of_le hi h.size) hx hy).trans (h.block i hi hx hy)⟩
theorem Two.grown (h : w.grownBy w' (some x)) : Two x y w w' := ⟨h.os, h.tape, h.output, h.size, fun k hk hx _ => h.block k hk (fun e => hx (Option.some.inj e))⟩
theorem Two.wr (h : Wr y w w') : Two x y w w' := ⟨h.os, h.tape, h.output, Nat.le_of_eq h.size.symm, fun k _ _ hy => h.block k hy⟩
theorem Two.ext (h : Ext w w') : Two x y w w' := ⟨h.os, h.tape, h.output, h.size, fun k hk _ _ => h.block k hk⟩
theorem Two.one (h0 : w0.grownBy w (some x)) (hy : w0.heap.size ≤ y) (h : Two x y w w') : w0.grownBy w' (some x) :=
  ⟨h.os.trans h0.os, h.tape.trans h0.tape, h.output.trans h0.output, Nat.le_trans h0.size h.size, fun i hi hr => (h.block i (Nat.lt_of_lt_of_le hi h0.size) (fun e => hr (by rw [e])) (by omega)).trans (h0.block i hi hr)⟩
theorem kp_two {b : Nat} {X : Prop} (h : Two x y w w') (hx : b ≠ x) (hy : b ≠ y) (k : X) : kp b w w' X := ⟨fun hb => h.block b hb hx hy, k⟩
theorem IsSl.two {α : Type} {E : Enc α} {s : Sl} {l : List α} (hs : IsSl E w s l) (h : Two x y w w') (hx : s.blk ≠ some x) (hy : s.blk ≠ some y) : IsSl E w' s l :=
  hs.keep h.size fun b o ha hb => h.block b hb (fun e => hx (by simp [Sl.blk, ha, e])) (fun e => hy (by simp [Sl.blk, ha, e]))
end Go.Vc
namespace Go.Chg
open Go.Vc
variable {w : World}
def wantI (v k : Int) (i : Nat) : Bool := if v = 1 then decide (i ≠ 3) else need k i
theorem cmd_part_wanted_spec {v k : Int} {i : Nat} {K : Bool → World → Prop} (hi : i < 6) (hK : ∀ w', Ext w w' → K (wantI v k i) w') : cmd_part_wanted (prt i) v k K w := by
  unfold cmd_part_wanted
  refine new_x (Ext.rfl' w) fun b1 w2 _ _ hx _ => ?_
  refine cmd_fields_calls (cmd_fields_spec fun b _ => kp_same ?_)
  have := hK w2 hx
  unfold wantI at this
  rw [prt_has]
  refine ifEq (fun h => ?_) (fun h => ?_)
  · rw [if_pos h] at this
    have e : (hasI i != 4) = decide (i ≠ 3) := by
      match i, hi with
      | 0, _ => rfl
      | 1, _ => rfl
      | 2, _ => rfl
      | 3, _ => rfl
      | 4, _ => rfl
      | 5, _ => rfl
    rw [e]; exact this
  · rw [if_neg h] at this
    have e : (bAnd .i64 (fieldsOf k) (hasI i) != 0) = need k i := by
      have := need_eq k i
      rw [bne, this, Bool.not_not]
    rw [e]; exact this

/-! ### Bytes -/
def partB (c : ApiCmd) (i : Nat) : List UInt8 :=
  match numI c i with
  | some n => enc n.toNat
  | none => enc (txtI c i).length ++ txtI c i
def cmdT (v : Int) (c : ApiCmd) : Nat → List UInt8
  | 0 => enc c.Kind.toNat
  | i + 1 => cmdT v c i ++ (if wantI v c.Kind i = true then partB c i else [])
/-- A command's bytes in a version. -/
def cmdB (v : Int) (c : ApiCmd) : List UInt8 := cmdT v c 6
def CmdNum (c : ApiCmd) : Prop := c.Kind ≤ 9223372036854775807 ∧ c.Client ≤ 9223372036854775807 ∧ c.Seq ≤ 9223372036854775807 ∧ c.Node ≤ 9223372036854775807
def CmdShort (c : ApiCmd) : Prop := c.Key.length ≤ 1048576 ∧ c.Val.length ≤ 1048576 ∧ c.Old.length ≤ 1048576
theorem numI_le {c : ApiCmd} (h : CmdNum c) {i : Nat} {n : Int} (hn : numI c i = some n) : n ≤ 9223372036854775807 := by
  obtain ⟨_, h1, h2, h3⟩ := h
  match i with
  | 0 => cases hn; exact h1
  | 1 => cases hn; exact h2
  | 2 => cases hn
  | 3 => cases hn
  | 4 => cases hn
  | n + 5 => cases hn; exact h3
theorem txtI_le {c : ApiCmd} (h : CmdShort c) (i : Nat) : (txtI c i).length ≤ 1048576 := by
  obtain ⟨h1, h2, h3⟩ := h
  match i with
  | 0 => simp [txtI]
  | 1 => simp [txtI]
  | 2 => exact h1
  | 3 => exact h3
  | 4 => exact h2
  | n + 5 => simp [txtI]
theorem partB_len {c : ApiCmd} (h : CmdNum c) (hs : CmdShort c) (i : Nat) : (partB c i).length ≤ 1048585 := by
  unfold partB
  split
  · rename_i n hn
    have := enc_len9 (numI_le h hn)
    omega
  · have := txtI_le hs i
    have h9 := enc_len9 (n := ((txtI c i).length : Int)) (by omega)
    rw [Int.toNat_natCast] at h9
    rw [List.length_append]
    omega
theorem cmdT_len {v : Int} {c : ApiCmd} (h : CmdNum c) (hs : CmdShort c) : ∀ i, (cmdT v c i).length ≤ 9 + 1048585 * i
  | 0 => by have := enc_len9 h.1; simpa [cmdT] using this
  | i + 1 => by
    have := cmdT_len (v := v) h hs i
    have := partB_len h hs i
    simp only [cmdT, List.length_append]
    split
    · omega
    · simp only [List.length_nil]; omega
def offI : Nat → Nat
  | 0 => 1
  | 1 => 2
  | 2 => 3
  | 3 => 5
  | 4 => 4
  | _ => 6
theorem wr_num {T x t3 fid off : Nat} {wa a : Addr} {c : ApiCmd} {n : Int} {l : List UInt8} {K : Unit → World → Prop} {Y : Nat → Option Addr × Bool → World → Prop} (hT : concT Pr T = true) (ht : oneT Pr t3 = true) (ho : Vc.Obj w a c.cs) (hn : c.cs[off]? = some (.int .i64 n))
    (hcall : ∀ (w : World) (K' : Value → World → Prop), K' (.iface T (.pointer (some (a.add off)))) w → callV Pr vval fid #[.pointer (some a)] w K')
    (hw : Wt w wa l) (hle : n ≤ 9223372036854775807) (hl : l.length + 9 ≤ 140737488355328) (hK : ∀ w', Wt w' wa (l ++ enc n.toNat) → w.grownBy w' (some wa.block) → K () w') :
    newV (fun b1 w2 => callV Pr vval fid #[(.pointer (some a))] w2 fun t3' w4 => kp b1 w2 w4 <|
      opRd Pr (Instr.typeAssert t3' x T true) (tval2 Value.pointer Value.bool) (fun t5 => ifB t5.2
        (opRd Pr (nilSem (.pointer t5.1)) pav (fun t6 => opRd Pr (Instr.loadAt t3 (.pointer (some t6))) (Value.int .i64) (fun t7 =>
          callV Pr uval fid_pack_Writer_Number #[(.pointer (some wa)), (.int .i64 t7)] w4 fun t8 w9 => kp b1 w4 w9 <| K () w9) w4) w4)
        (Y b1 t5 w4)) w4) w := by
  have hlt := hw.lt
  refine new_x (Ext.rfl' w) fun b1 w2 hb1 _ hx _ => hcall _ _ (kp_same ?_)
  refine ta_yes hT rfl (ifB_t rfl ?_)
  refine nil_rd rfl (ld_obj ht (ho.ext hx) hn ?_)
  exact pack_Writer_Number_calls (pack_Writer_Number_spec (hw.ext hx) hle hl fun w9 hw9 hg => kp_grown hg (fun e => by cases e; omega) (hK _ hw9 (grown_trans (grown_ext hx _) hg)))
theorem wr_txt {T T' x t9 fid off : Nat} {wa a : Addr} {c : ApiCmd} {s l : List UInt8} {K : Unit → World → Prop} {Y : Nat → Option Addr × Bool → World → Prop} (hT' : concT Pr T' = true) (hne : Nat.beq T T' = false) (hz : zeroT Pr T' = some (.pointer none)) (hT : concT Pr T = true) (ht : oneT Pr t9 = true) (ho : Vc.Obj w a c.cs) (hn : c.cs[off]? = some (sval s))
    (hcall : ∀ (w : World) (K' : Value → World → Prop), K' (.iface T (.pointer (some (a.add off)))) w → callV Pr vval fid #[.pointer (some a)] w K')
    (hw : Wt w wa l) (hl : l.length + 9 + s.length ≤ 140737488355328) (hK : ∀ w', Wt w' wa (l ++ enc s.length ++ s) → w.grownBy w' (some wa.block) → K () w') :
    newV (fun b1 w2 => callV Pr vval fid #[(.pointer (some a))] w2 fun t3' w4 => kp b1 w2 w4 <|
      opRd Pr (Instr.typeAssert t3' x T' true) (tval2 Value.pointer Value.bool) (fun t5 => ifB t5.2 (Y b1 t5 w4)
        (callV Pr vval fid #[(.pointer (some a))] w4 fun t10 w11 => kp b1 w4 w11 <|
          opRd Pr (Instr.typeAssert t10 x T false) Value.pointer (fun t12 => opRd Pr (nilSem (.pointer t12)) pav (fun t13 => opRd Pr (Instr.loadAt t9 (.pointer (some t13))) sval (fun t14 =>
            callV Pr uval fid_pack_Writer_Text #[(.pointer (some wa)), (sval t14)] w11 fun t15 w16 => kp b1 w11 w16 <| K () w16) w11) w11) w11)) w4) w := by
  have hlt := hw.lt
  refine new_x (Ext.rfl' w) fun b1 w2 hb1 _ hx _ => hcall _ _ (kp_same ?_)
  refine ta_no hT' hne hz (ifB_f rfl ?_)
  refine hcall _ _ (kp_same ?_)
  refine ta_one (y := some (a.add off)) hT rfl ?_
  refine nil_rd rfl (ld_obj ht (ho.ext hx) hn ?_)
  exact pack_Writer_Text_calls (pack_Writer_Text_spec (hw.ext hx) hl fun w9 hw9 hg => kp_grown hg (fun e => by cases e; omega) (hK _ hw9 (grown_trans (grown_ext hx _) hg)))
theorem part_write {c : ApiCmd} {wa a : Addr} {l : List UInt8} {K : Unit → World → Prop} {i : Nat} (hi : i < 6) (ho : Vc.Obj w a c.cs) (hw : Wt w wa l) (hc : CmdNum c) (hs : CmdShort c) (hl : l.length + 1048600 ≤ 140737488355328)
    (hK : ∀ w', Wt w' wa (l ++ partB c i) → w.grownBy w' (some wa.block) → K () w') : callV Pr uval fid_cmd_part_write #[.agg ⟨(prt i).cs⟩, .pointer (some wa), .pointer (some a)] w K := by
  have hn : ∀ {n : Int}, numI c i = some n → n ≤ 9223372036854775807 ∧ ∀ w', Wt w' wa (l ++ enc n.toNat) → w.grownBy w' (some wa.block) → K () w' := fun h => ⟨numI_le hc h, fun w' h1 h2 => hK w' (by unfold partB; rw [h]; exact h1) h2⟩
  have ht : numI c i = none → l.length + 9 + (txtI c i).length ≤ 140737488355328 ∧ ∀ w', Wt w' wa (l ++ enc (txtI c i).length ++ txtI c i) → w.grownBy w' (some wa.block) → K () w' := fun h => ⟨by have := txtI_le hs i; omega, fun w' h1 h2 => hK w' (by unfold partB; rw [h]; simpa using h1) h2⟩
  match i, hi with
  | 0, _ => exact cmd_part_write_0_calls (w_ := some wa) (c := some a) (by unfold cmd_part_write_0; exact wr_num (off := 1) (by kernel_rfl) (by kernel_rfl) ho rfl (fun w K' h => cmd_parts_1_calls (c := some a) (by unfold cmd_parts_1; exact nil_rd rfl h)) hw (hn rfl).1 (by omega) (hn rfl).2)
  | 1, _ => exact cmd_part_write_1_calls (w_ := some wa) (c := some a) (by unfold cmd_part_write_1; exact wr_num (off := 2) (by kernel_rfl) (by kernel_rfl) ho rfl (fun w K' h => cmd_parts_2_calls (c := some a) (by unfold cmd_parts_2; exact nil_rd rfl h)) hw (hn rfl).1 (by omega) (hn rfl).2)
  | 2, _ => exact cmd_part_write_2_calls (w_ := some wa) (c := some a) (by unfold cmd_part_write_2; exact wr_txt (off := 3) (by kernel_rfl) (by kernel_rfl) (by kernel_rfl) (by kernel_rfl) (by kernel_rfl) ho rfl (fun w K' h => cmd_parts_3_calls (c := some a) (by unfold cmd_parts_3; exact nil_rd rfl h)) hw (ht rfl).1 (ht rfl).2)
  | 3, _ => exact cmd_part_write_3_calls (w_ := some wa) (c := some a) (by unfold cmd_part_write_3; exact wr_txt (off := 5) (by kernel_rfl) (by kernel_rfl) (by kernel_rfl) (by kernel_rfl) (by kernel_rfl) ho rfl (fun w K' h => cmd_parts_4_calls (c := some a) (by unfold cmd_parts_4; exact nil_rd rfl h)) hw (ht rfl).1 (ht rfl).2)
  | 4, _ => exact cmd_part_write_4_calls (w_ := some wa) (c := some a) (by unfold cmd_part_write_4; exact wr_txt (off := 4) (by kernel_rfl) (by kernel_rfl) (by kernel_rfl) (by kernel_rfl) (by kernel_rfl) ho rfl (fun w K' h => cmd_parts_5_calls (c := some a) (by unfold cmd_parts_5; exact nil_rd rfl h)) hw (ht rfl).1 (ht rfl).2)
  | 5, _ => exact cmd_part_write_5_calls (w_ := some wa) (c := some a) (by unfold cmd_part_write_5; exact wr_num (off := 6) (by kernel_rfl) (by kernel_rfl) ho rfl (fun w K' h => cmd_parts_6_calls (c := some a) (by unfold cmd_parts_6; exact nil_rd rfl h)) hw (hn rfl).1 (by omega) (hn rfl).2)
theorem cmd_Put_spec {wa : Addr} {v : Int} {c : ApiCmd} {l : List UInt8} {K : Unit → World → Prop} (hw : Wt w wa l) (hc : CmdNum c) (hs : CmdShort c) (hl : l.length + 10000000 ≤ 140737488355328)
    (hK : ∀ w', Wt w' wa (l ++ cmdB v c) → w.grownBy w' (some wa.block) → K () w') : cmd_Put (some wa) v c K w := by
  unfold cmd_Put
  have hlt := hw.lt
  refine box_ty fun a w2 ha hx ho => ?_
  refine ld_obj (off := 0) (by kernel_rfl) ho rfl ?_
  have hne : a.block ≠ wa.block := by omega
  have a2 := ho.lt
  refine pack_Writer_Number_calls (pack_Writer_Number_spec (hw.ext hx) hc.1 (by omega) fun w5 hw5 hg5 => ?_)
  have ho5 := ho.keep (hg5.block _ ho.lt (fun e => hne (Option.some.inj e)))
  have hg5' := grown_trans (grown_ext hx _) hg5
  refine cmd_parts_calls (cmd_parts_spec fun s w7 hsl hx7 => ?_)
  have hl6 : theParts.length = 6 := rfl
  have hlen := hsl.len
  have hsge := hsl.ge
  have z5 := hg5.size
  refine up1 (fun k w' => Wt w' wa (l ++ cmdT v c k) ∧ Vc.Obj w' a c.cs ∧ IsSl eCmdPart w' s theParts ∧ w.grownBy w' (some wa.block)) 0 6 rfl (by omega) (by omega) ⟨hw5.ext hx7, ho5.ext hx7, hsl.is, grown_trans hg5' (grown_ext hx7 _)⟩ ?_
  rintro k w10 C _ hk ⟨hw10, ho10, hs10, hg10⟩ hC
  refine ifD (fun hlt6 => ?_) (fun hge => ?_)
  · have hk1 : k < theParts.length := by omega
    refine st_rd (E := eCmdPart) (val := CmdPart.val) (by kernel_rfl) (by kernel_rfl) hs10 rfl hk1 (fun _ => rfl) fun _ => ?_
    rw [prt_get hk1]
    have hltw := hw10.lt
    refine part_box (k := k) (by omega) (by kernel_rfl) (by kernel_rfl) fun q w15 hq hx15 hop => ?_
    refine ld_whole_obj (n := 4) (x := prt k) (by kernel_rfl) hop rfl rfl ?_
    have hw15' := hw10.ext hx15
    have ho15 := ho10.ext hx15
    have hs15 := hs10.ext hx15
    refine ld_obj (off := 0) (by kernel_rfl) ho15 rfl ?_
    refine cmd_part_wanted_calls (p := prt k) (cmd_part_wanted_spec (by omega) fun w18 hx18 => ?_)
    have hx18' := hx15.trans' hx18
    refine ifB_of (fun hwant => ?_) (fun hwant => ?_)
    · have hlk := cmdT_len (v := v) hc hs k
      refine ld_whole_obj (n := 4) (x := prt k) (by kernel_rfl) (hop.ext hx18) rfl rfl ?_
      refine part_write (i := k) (by omega) (ho10.ext hx18') (hw10.ext hx18') hc hs (by rw [List.length_append]; omega) fun w20 hw20 hg20 => hC (by omega) _ _ rfl ⟨?_, ?_, ?_, ?_⟩
      · simp only [cmdT, hwant, if_true]
        simpa using hw20
      · exact (ho10.ext hx18').keep (hg20.block _ (ho10.ext hx18').lt (fun e => hne (Option.some.inj e)))
      · exact (hs10.ext hx18').grownB hg20 fun b hb e => by have := hsge b hb; cases e; omega
      · exact grown_trans hg10 (grown_trans (grown_ext hx18' _) hg20)
    · refine hC (by omega) _ _ rfl ⟨?_, ho10.ext hx18', hs10.ext hx18', grown_trans hg10 (grown_ext hx18' _)⟩
      simp only [cmdT, hwant]
      simpa using hw10.ext hx18'
  · obtain rfl : k = 6 := by omega
    exact hK _ hw10 hg10

/-! ### Reading -/
def setN (c : ApiCmd) : Nat → Int → ApiCmd
  | 0, n => { c with Client := n }
  | 1, n => { c with Seq := n }
  | _, n => { c with Node := n }
def setT (c : ApiCmd) : Nat → List UInt8 → ApiCmd
  | 2, s => { c with Key := s }
  | 3, s => { c with Old := s }
  | _, s => { c with Val := s }
def rdPart (l : List UInt8) (i : Nat) (c : ApiCmd) (p no : Int) : ApiCmd × Int × Int :=
  match numI c i with
  | some _ => (setN c i (rdNumber l 9223372036854775807 p no).1, (rdNumber l 9223372036854775807 p no).2)
  | none => (setT c i (rdText l 1048576 p no).1, (rdText l 1048576 p no).2)
def rdT (l : List UInt8) (v p no : Int) : Nat → ApiCmd × Int × Int
  | 0 => (⟨(rdNumber l 9223372036854775807 p no).1, 0, 0, [], [], [], 0⟩, (rdNumber l 9223372036854775807 p no).2)
  | i + 1 => if wantI v (rdT l v p no i).1.Kind i = true then rdPart l i (rdT l v p no i).1 (rdT l v p no i).2.1 (rdT l v p no i).2.2 else rdT l v p no i
def rdCmd (l : List UInt8) (v p no : Int) : ApiCmd × Int × Int := rdT l v p no 6
end Go.Chg
