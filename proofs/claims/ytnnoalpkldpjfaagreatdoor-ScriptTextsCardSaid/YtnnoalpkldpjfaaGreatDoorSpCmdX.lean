/-
  A command's text: package 'cmd'; the laws of chapter 8 but for those that parse.
-/
import Derived.Test.YtnnoalpkldpjfaaGreatDoorSpCmdE
import Derived.Test.YtnnoalpkldpjfaaGreatDoorME
import Derived.Test.YtnnoalpkldpjfaaGreatDoorME
import Derived.Test.YtnnoalpkldpjfaaGreatDoorME
set_option maxRecDepth 20000
set_option linter.unusedVariables false
namespace Go.Chg
open Go.Vc
variable {w : World} {l : List UInt8} {v p no : Int} {c : ApiCmd}
def kname (k : Int) : List UInt8 := if k = 1 then [110, 111, 112] else if k = 2 then [112, 117, 116] else if k = 3 then [103, 101, 116] else if k = 4 then [100, 101, 108] else if k = 5 then [99, 97, 115] else
  if k = 6 then [97, 99, 116, 105, 118, 97, 116, 101] else if k = 7 then [97, 100, 100] else [100, 114, 111, 112]
theorem kname_len (k : Int) : (kname k).length ≤ 8 := by
  unfold kname
  repeat' split
  all_goals decide
theorem cmd_name_spec {k : Int} {K : List UInt8 → World → Prop} (hk : kOk k) (hK : K (kname k) w) : cmd_name k K w := by
  unfold cmd_name
  have h8 : k = 1 ∨ k = 2 ∨ k = 3 ∨ k = 4 ∨ k = 5 ∨ k = 6 ∨ k = 7 ∨ k = 8 := by unfold kOk at hk; omega
  rcases h8 with rfl | rfl | rfl | rfl | rfl | rfl | rfl | rfl
  · exact ⟨kname 1, by kernel_rfl, hK⟩
  · exact ⟨kname 2, by kernel_rfl, hK⟩
  · exact ⟨kname 3, by kernel_rfl, hK⟩
  · exact ⟨kname 4, by kernel_rfl, hK⟩
  · exact ⟨kname 5, by kernel_rfl, hK⟩
  · exact ⟨kname 6, by kernel_rfl, hK⟩
  · exact ⟨kname 7, by kernel_rfl, hK⟩
  · exact ⟨kname 8, by kernel_rfl, hK⟩
def wordI (c : ApiCmd) (i : Nat) : List UInt8 := match numI c i with | some n => digits 10 n.toNat | none => quote (txtI c i)
def wordsT (c : ApiCmd) : Nat → List (List UInt8)
  | 0 => [kname c.Kind]
  | i + 1 => if need c.Kind i = true then wordsT c i ++ [wordI c i] else wordsT c i
/-- The text of a command that may be. -/
def textC (c : ApiCmd) : List UInt8 := joinL [32] (wordsT c 6)
theorem wordI_len (h : CmdOk c) {i : Nat} (hi : i < 6) : (wordI c i).length ≤ 1000 := by
  obtain ⟨⟨a1, a2⟩, ⟨b1, b2⟩, ⟨c1, c2⟩, d, e, f⟩ := cmdOk_num h
  have q : ∀ {s : List UInt8}, s.length ≤ 48 → (quote s).length ≤ 1000 := fun {s} hs => by
    have := quoteL_len s
    rw [quote_len]
    omega
  have n : ∀ {m : Int}, 0 ≤ m → m ≤ 4294967296 → (digits 10 m.toNat).length ≤ 1000 := fun h1 h2 => by
    exact Nat.le_trans (digits_len19 (by omega)) (by decide)
  unfold wordI
  rcases six hi with rfl | rfl | rfl | rfl | rfl | rfl <;> simp only [numI, txtI]
  · exact n a1 (by omega)
  · exact n b1 (by omega)
  · exact q (by omega)
  · exact q (by omega)
  · exact q (by omega)
  · exact n c1 (by omega)
theorem wordsT_len (h : CmdOk c) : ∀ n, n ≤ 6 → (wordsT c n).length ≤ n + 1 ∧ ((wordsT c n).flatMap id).length ≤ 8 + 1000 * n
  | 0, _ => by
    have := kname_len c.Kind
    simp only [wordsT, List.flatMap_cons, List.flatMap_nil, List.append_nil, List.length_singleton, id]
    omega
  | n + 1, hn => by
    obtain ⟨h1, h2⟩ := wordsT_len h n (by omega)
    simp only [wordsT]
    split
    · have := wordI_len h (i := n) (by omega)
      simp only [List.length_append, List.flatMap_append, List.flatMap_cons, List.flatMap_nil, List.length_singleton, id, List.append_nil]
      omega
    · omega
def bodyOk (P : Program) (g : Nat) : Bool := match P.funcs[g]? with | some fn => fn.body.isSome | none => false
theorem callF_ok {α : Type} {val : α → Value} {f : Value} {g : Nat} {args : Array Value} {K : α → World → Prop} (hf : f = .func (.func g) #[] #[]) (hb : bodyOk Pr g = true) (h : callV Pr val g args w K) : callF Pr val f args w K := by
  unfold bodyOk at hb
  split at hb
  · rename_i fn hg
    exact callF_of hf hg hb h
  · cases hb
/-- A word, put behind the others. -/
theorem wt_push {tb B : Nat} {out : Sl} {ws : List (List UInt8)} {y : List UInt8} {w0 : World} {K : Sl → World → Prop} (hw : OwnSl eS w B out ws) (hB : B ≤ w.heap.size) (hws : ws.length ≤ 100) (hx : Ext w0 w)
    (happ : appOk Pr tb (elemT Pr tb) 1 16 = true) (hsl : isSlT Pr tb = true)
    (hlit : ∀ (w : World), (Instr.buildSlice tb 1 #[(0, sval y)]).run Pr w = .ok (.slice (some ⟨w.heap.size, 0, none⟩) 1 1) (w.alloc (.cells ⟨[y].flatMap eS.cs⟩ (elemT Pr tb))))
    (hK : ∀ s w', OwnSl eS w' B s (ws ++ [y]) → w0.grownBy w' out.blk → NewOr w0 out s → K s w') :
    opTy Pr (Instr.buildSlice tb 1 #[(0, (sval y))]) Sl.val (fun t34 w35 => opTy Pr (Builtin.append_ #[tb, tb] tb #[out.val, t34.val]) Sl.val (fun l36 w37 => K l36 w37) w35) w := by
  refine lit1_ty (E := eS) 16 (x := y) w.heap.size happ (by decide) hlit (Nat.le_refl _) fun s7 w8 _ h7 hx8 => ?_
  refine app_ty2 16 happ hsl (hw.ext hx8) h7.is (by simp only [List.length_singleton]; omega) (Nat.le_trans hB hx8.size) (by decide) fun s9 w10 h9 hg hn => ?_
  exact hK _ _ h9 (grown_trans (grown_ext (hx.trans' hx8) _) hg) (hn.mono (hx.trans' hx8).size)
theorem wt_num {T1 t3 tb off n x B : Nat} {a : Addr} {out : Sl} {ws : List (List UInt8)} {Y : Option Addr × Bool → Prop} {K : Sl → World → Prop} (ho : Vc.Obj w a c.cs) (hc : ConvT w) (hw : OwnSl eS w B out ws) (hB : B ≤ w.heap.size) (hws : ws.length ≤ 100)
    (hT1 : concT Pr T1 = true) (ht3 : oneT Pr t3 = true) (happ : appOk Pr tb (elemT Pr tb) 1 16 = true) (hsl : isSlT Pr tb = true)
    (hlit : ∀ (y : List UInt8) (w : World), (Instr.buildSlice tb 1 #[(0, sval y)]).run Pr w = .ok (.slice (some ⟨w.heap.size, 0, none⟩) 1 1) (w.alloc (.cells ⟨[y].flatMap eS.cs⟩ (elemT Pr tb))))
    (hcell : c.cs[off]? = some (.int .i64 n)) (hn : n ≤ 4294967296)
    (hK : ∀ s w', OwnSl eS w' B s (ws ++ [digits 10 n]) → w.grownBy w' out.blk → NewOr w out s → K s w') :
    opRd Pr (Instr.typeAssert (.iface T1 (.pointer (some (a.add off)))) x T1 true) (tval2 Value.pointer Value.bool) (fun t29 => ifB t29.2
      (opRd Pr (nilSem (.pointer t29.1)) pav (fun t30 => opRd Pr (Instr.loadAt t3 (.pointer (some t30))) (Value.int .i64) (fun t31 =>
        callV Pr sval fid_strconv_Itoa #[(.int .i64 t31)] w fun t32 w33 => opTy Pr (Instr.buildSlice tb 1 #[(0, (sval t32))]) Sl.val (fun t34 w35 =>
          opTy Pr (Builtin.append_ #[tb, tb] tb #[out.val, t34.val]) Sl.val (fun l36 w37 => K l36 w37) w35) w33) w) w)
      (Y t29)) w := by
  refine ta_yes hT1 rfl (ifB_t rfl ?_)
  refine nil_rd rfl (ld_obj ht3 ho hcell ?_)
  refine strconv_Itoa_calls (Itoa_spec hc (by omega) fun w33 hx => ?_)
  exact wt_push (hw.ext hx) (Nat.le_trans hB hx.size) hws hx happ hsl (hlit _) hK
theorem wt_txt {T1 T2 t9 tb off x B : Nat} {s : List UInt8} {a : Addr} {out : Sl} {ws : List (List UInt8)} {X : Option Addr × Bool → Prop} {Y : Option Addr × Bool → Prop} {K : Sl → World → Prop} (ho : Vc.Obj w a c.cs) (hU : Utf8T w) (hw : OwnSl eS w B out ws) (hB : B ≤ w.heap.size) (hws : ws.length ≤ 100)
    (hT1 : concT Pr T1 = true) (hT2 : concT Pr T2 = true) (hne : Nat.beq T2 T1 = false) (hz : zeroT Pr T1 = some (.pointer none)) (ht9 : oneT Pr t9 = true) (happ : appOk Pr tb (elemT Pr tb) 1 16 = true) (hsl : isSlT Pr tb = true)
    (hlit : ∀ (y : List UInt8) (w : World), (Instr.buildSlice tb 1 #[(0, sval y)]).run Pr w = .ok (.slice (some ⟨w.heap.size, 0, none⟩) 1 1) (w.alloc (.cells ⟨[y].flatMap eS.cs⟩ (elemT Pr tb))))
    (hcell : c.cs[off]? = some (sval s)) (hn : s.length ≤ 48)
    (hK : ∀ s' w', OwnSl eS w' B s' (ws ++ [quote s]) → w.grownBy w' out.blk → NewOr w out s' → K s' w') :
    opRd Pr (Instr.typeAssert (.iface T2 (.pointer (some (a.add off)))) x T1 true) (tval2 Value.pointer Value.bool) (fun t29 => ifB t29.2 (X t29)
      (opRd Pr (Instr.typeAssert (.iface T2 (.pointer (some (a.add off)))) x T2 true) (tval2 Value.pointer Value.bool) (fun t38 => ifB t38.2
        (opRd Pr (nilSem (.pointer t38.1)) pav (fun t39 => opRd Pr (Instr.loadAt t9 (.pointer (some t39))) sval (fun t40 =>
          callV Pr sval fid_quote_Quote #[(sval t40)] w fun t41 w42 => opTy Pr (Instr.buildSlice tb 1 #[(0, (sval t41))]) Sl.val (fun t43 w44 =>
            opTy Pr (Builtin.append_ #[tb, tb] tb #[out.val, t43.val]) Sl.val (fun l45 w46 => K l45 w46) w44) w42) w) w)
        (Y t38)) w)) w := by
  refine ta_no hT1 hne hz (ifB_f rfl ?_)
  refine ta_yes hT2 rfl (ifB_t rfl ?_)
  refine nil_rd rfl (ld_obj ht9 ho hcell ?_)
  refine quote_Quote_calls (quote_Quote_spec hU (by omega) fun w33 hx => ?_)
  exact wt_push (hw.ext hx) (Nat.le_trans hB hx.size) hws hx happ hsl (hlit _) hK
theorem cmd_Text_spec {K : List UInt8 → World → Prop} (hU : Utf8T w) (hc : ConvT w) (hK : ∀ t w', (CmdOk c → t = textC c) → (¬ CmdOk c → t = []) → Ext w w' → K t w') : cmd_Text c K w := by
  unfold cmd_Text
  refine box_ty fun a w2 ha hx ho => ?_
  refine ld_whole_obj (n := 7) (cs := c.cs) (val := ApiCmd.val) (by kernel_rfl) ho rfl rfl ?_
  refine cmd_Check_calls (c := c) (cmd_Check_spec (hU.ext hx) fun e w5 he hx' => ?_)
  have hx := hx.trans' hx'
  have ho := ho.ext hx'
  have z0 := hx.size
  refine ifNe (fun h => hK [] _ (fun hok => absurd (he.ok.2 hok) h) (fun _ => rfl) hx) (fun h => ?_)
  have hok := he.ok.1 h
  obtain ⟨⟨a1, a2⟩, ⟨b1, b2⟩, ⟨c1, c2⟩, d, e, f⟩ := cmdOk_num hok
  refine ld_obj (off := 0) (by kernel_rfl) ho rfl ?_
  refine cmd_name_calls (cmd_name_spec hok.1 ?_)
  refine lit1_ty (E := eS) 16 (x := kname c.Kind) w5.heap.size (by kernel_rfl) (by decide) (fun w => by kernel_rfl) (Nat.le_refl _) fun out w10 ha10 hout hx' => ?_
  have z10 := hx'.size
  have hx := hx.trans' hx'
  have ho5 := ho.lt
  have ho := ho.ext hx'
  have l10 := hout.lt
  refine cmd_parts_calls (cmd_parts_spec fun s w12 hs hx' => ?_)
  have hx := hx.trans' hx'
  have ho := ho.ext hx'
  have hlen := hs.len
  have hsge := hs.ge
  have hslt := hs.lt
  have hl6 : theParts.length = 6 := rfl
  have hout := hout.ext hx'
  have z5 : w5.heap.size ≤ w12.heap.size := Nat.le_trans z10 hx'.size
  refine up2b (fun k out w' => Ext w w' ∧ Vc.Obj w' a c.cs ∧ IsSl eCmdPart w' s theParts ∧ OwnSl eS w' w5.heap.size out (wordsT c k) ∧ w12.heap.size ≤ w'.heap.size ∧ ∀ b, s.blk = some b → out.blk ≠ some b) 0 6 rfl (by omega) (by omega)
    ⟨hx, ho, hs.is, hout, Nat.le_refl _, fun b hb e => by have := hsge b hb; have := l10 b e; omega⟩ ?_
  rintro k out w16 C _ hk ⟨hx, ho, hs, hout, z12, hap⟩ hC
  obtain ⟨wl1, wl2⟩ := wordsT_len hok k hk
  refine ifD (fun hlt6 => ?_) (fun hge => ?_)
  · have hk1 : k < theParts.length := by omega
    have h6 : k < 6 := by omega
    refine st_rd (E := eCmdPart) (val := CmdPart.val) (by kernel_rfl) (by kernel_rfl) hs rfl hk1 (fun _ => rfl) fun _ => ?_
    rw [prt_get hk1]
    refine part_box (k := k) h6 (by kernel_rfl) (by kernel_rfl) fun q w15 hq hx15 hop => ?_
    refine ld_whole_obj (n := 4) (x := prt k) (by kernel_rfl) hop rfl rfl ?_
    refine ld_obj (off := 0) (by kernel_rfl) (ho.ext hx15) rfl ?_
    refine cmd_part_wanted_calls (p := prt k) (cmd_part_wanted_spec h6 fun w18 hx18 => ?_)
    have hx15 := hx15.trans' hx18
    have hop := hop.ext hx18
    have hx := hx.trans' hx15
    have ho := ho.ext hx15
    have hs := hs.ext hx15
    have hout := hout.ext hx15
    have z12 := Nat.le_trans z12 hx15.size
    have hwant : wantI 2 c.Kind k = need c.Kind k := want2 (by decide) k
    rw [hwant]
    refine ifNot (ifB_of (fun hn => ?_) (fun hn => hC (by omega) _ _ _ rfl ⟨hx, ho, hs, by simp only [wordsT, hn]; simpa using hout, z12, hap⟩))
    have fin : ∀ s' w', OwnSl eS w' w5.heap.size s' (wordsT c k ++ [wordI c k]) → w18.grownBy w' out.blk → NewOr w18 out s' → C s' (i64 ((k : Int) + 1)) w' := fun s' w' h1 h2 h3 => by
      have hge := hout.ge
      refine hC (by omega) _ _ _ rfl ⟨Ext.own hx hout z0 h2, ho.keep (h2.block _ ho.lt fun e => by have := hge _ e.symm; omega), hs.grownB h2 fun b hb e => hap b hb e.symm, by simp only [wordsT, hn, if_true]; exact h1, Nat.le_trans z12 h2.size, fun b hb e => ?_⟩
      rcases h3 with h3 | ⟨g, h3, h4⟩
      · exact hap b hb (h3 ▸ e)
      · rw [h3] at e
        have := hslt b hb
        cases e
        omega
    have hB : w5.heap.size ≤ w18.heap.size := Nat.le_trans z5 z12
    refine ld_obj (off := 3) (by kernel_rfl) hop (y := cfnV (prt k).at_) (val := vval) (by rcases six h6 with rfl | rfl | rfl | rfl | rfl | rfl <;> rfl) ?_
    rcases six h6 with rfl | rfl | rfl | rfl | rfl | rfl
    · refine callF_ok (g := fid_cmd_parts_1) rfl (by kernel_rfl) (cmd_parts_1_calls (c := some a) (by unfold cmd_parts_1; refine nil_rd rfl ?_; exact wt_num (off := 1) (n := c.Client.toNat) ho (hc.ext hx) hout hB (by omega) (by kernel_rfl) (by kernel_rfl) (by kernel_rfl) (by kernel_rfl) (fun y w => by kernel_rfl) (by rw [Int.toNat_of_nonneg a1]; rfl) (by omega) fin))
    · refine callF_ok (g := fid_cmd_parts_2) rfl (by kernel_rfl) (cmd_parts_2_calls (c := some a) (by unfold cmd_parts_2; refine nil_rd rfl ?_; exact wt_num (off := 2) (n := c.Seq.toNat) ho (hc.ext hx) hout hB (by omega) (by kernel_rfl) (by kernel_rfl) (by kernel_rfl) (by kernel_rfl) (fun y w => by kernel_rfl) (by rw [Int.toNat_of_nonneg b1]; rfl) (by omega) fin))
    · refine callF_ok (g := fid_cmd_parts_3) rfl (by kernel_rfl) (cmd_parts_3_calls (c := some a) (by unfold cmd_parts_3; refine nil_rd rfl ?_; exact wt_txt (off := 3) (s := c.Key) ho (hU.ext hx) hout hB (by omega) (by kernel_rfl) (by kernel_rfl) (by kernel_rfl) (by kernel_rfl) (by kernel_rfl) (by kernel_rfl) (by kernel_rfl) (fun y w => by kernel_rfl) rfl (by omega) fin))
    · refine callF_ok (g := fid_cmd_parts_4) rfl (by kernel_rfl) (cmd_parts_4_calls (c := some a) (by unfold cmd_parts_4; refine nil_rd rfl ?_; exact wt_txt (off := 5) (s := c.Old) ho (hU.ext hx) hout hB (by omega) (by kernel_rfl) (by kernel_rfl) (by kernel_rfl) (by kernel_rfl) (by kernel_rfl) (by kernel_rfl) (by kernel_rfl) (fun y w => by kernel_rfl) rfl (by omega) fin))
    · refine callF_ok (g := fid_cmd_parts_5) rfl (by kernel_rfl) (cmd_parts_5_calls (c := some a) (by unfold cmd_parts_5; refine nil_rd rfl ?_; exact wt_txt (off := 4) (s := c.Val) ho (hU.ext hx) hout hB (by omega) (by kernel_rfl) (by kernel_rfl) (by kernel_rfl) (by kernel_rfl) (by kernel_rfl) (by kernel_rfl) (by kernel_rfl) (fun y w => by kernel_rfl) rfl (by omega) fin))
    · refine callF_ok (g := fid_cmd_parts_6) rfl (by kernel_rfl) (cmd_parts_6_calls (c := some a) (by unfold cmd_parts_6; refine nil_rd rfl ?_; exact wt_num (off := 6) (n := c.Node.toNat) ho (hc.ext hx) hout hB (by omega) (by kernel_rfl) (by kernel_rfl) (by kernel_rfl) (by kernel_rfl) (fun y w => by kernel_rfl) (by rw [Int.toNat_of_nonneg c1]; rfl) (by omega) fin))
  · obtain rfl : k = 6 := by omega
    obtain ⟨wl1, wl2⟩ := wordsT_len hok 6 (by omega)
    exact quote_Line_calls (Line_spec hout.is (by omega) (by omega) fun w48 hx' => hK _ _ (fun _ => rfl) (fun h => absurd hok h) (hx.trans' hx'))
end Go.Chg
