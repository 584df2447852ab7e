/-
  Functions of the program, told by a program of ours (gen.py), each held by the kernel to what is to be shown of its code.
-/
import Derived.Test.YtchkkeninkmclaaDoorTy
set_option maxRecDepth 100000
set_option linter.unusedVariables false
namespace Go.Chg
open Go.Vc

/- changeover/changeoverlaw05.RunesTexts -/
def law05_RunesTexts (s : List UInt8) (K : Bool → World → Prop) (w : World) : Prop :=
  ifB (decide (((s : List UInt8).length : Int) > 500))
  (callV Pr Value.bool 10 #[] w fun t1 w2 =>
  K t1 w2)
  (callV Pr (Value.int .i64) 11 #[(sval s)] w fun t3 w4 =>
  callV Pr (Value.int .i64) 12 #[(sval s)] w4 fun t5 w6 =>
  ifB (t3 == t5)
  (callV Pr Value.bool 13 #[(sval s)] w6 fun t7 w8 =>
  callV Pr (Value.int .i64) 12 #[(sval s)] w8 fun t9 w10 =>
  ifB (t7 == (decide (t9 < 0)))
  (callV Pr Value.bool 14 #[(sval s)] w10 fun t11 w12 =>
  callV Pr Value.bool 15 #[(sval s)] w12 fun t13 w14 =>
  ifB (t11 == t13)
  (callV Pr Value.bool 16 #[(sval s)] w14 fun t15 w16 =>
  callV Pr Value.bool 17 #[(sval s)] w16 fun t17 w18 =>
  ifB (t15 == t17)
  (callV Pr Value.bool 10 #[] w18 fun t19 w20 =>
  K t19 w20)
  (K false w18))
  (K false w14))
  (K false w10))
  (K false w6))
def law05_RunesTexts_ann : Ann := (.s .d (.s (.s .d (.c (.s (.r [(0, .call rB)]) .d) .d)) (.s (.r [(1, .call (rI .i64)), (3, .call (rI .i64)), (7, .call rB), (9, .call (rI .i64)), (15, .call rB), (17, .call rB), (22, .call rB), (24, .call rB), (28, .call rB)]) .d)))
theorem law05_RunesTexts_calls {s : List UInt8} {K : Bool → World → Prop} {w : World} (h : law05_RunesTexts s K w) : callV Pr Value.bool 3 #[(sval s)] w K :=
  calls_of Pr_plain Pr_mixed Pr_func3 law05_RunesTexts_ann rB (args := [(sval s)]) (by kernel_rfl) h

/- changeover/changeoverlaw05.RunesPlain -/
def law05_RunesPlain (r : Int) (K : Bool → World → Prop) (w : World) : Prop :=
  callV Pr Value.bool 18 #[(.int .i32 r)] w fun t1 w2 =>
  callV Pr Value.bool 19 #[(.int .i64 (IntKind.i64.wrap r))] w2 fun t3 w4 =>
  ifB (t1 == t3)
  (callV Pr Value.bool 10 #[] w4 fun t5 w6 =>
  K t5 w6)
  (K false w4)
def law05_RunesPlain_ann : Ann := (.s .d (.s (.r [(1, .call rB), (4, .call rB), (7, .call rB)]) .d))
theorem law05_RunesPlain_calls {r : Int} {K : Bool → World → Prop} {w : World} (h : law05_RunesPlain r K w) : callV Pr Value.bool 4 #[(.int .i32 r)] w K :=
  calls_of Pr_plain Pr_mixed Pr_func4 law05_RunesPlain_ann rB (args := [(.int .i32 r)]) (by kernel_rfl) h

/- changeover/changeoverlaw05.RunesCuts -/
def law05_RunesCuts (s : List UInt8) (n : Int) (K : Bool → World → Prop) (w : World) : Prop :=
  ifB (decide (((s : List UInt8).length : Int) > 500))
  (callV Pr Value.bool 10 #[] w fun t1 w2 =>
  K t1 w2)
  (callV Pr (tval2 sval (Value.int .i64)) 20 #[(sval s), (.int .i64 n)] w fun t3 w4 =>
  callV Pr (tval2 sval (Value.int .i64)) 20 #[(sval s), (.int .i64 ((s : List UInt8).length : Int))] w4 fun t5 w6 =>
  callV Pr sval 21 #[(sval s), (.int .i64 n)] w6 fun t7 w8 =>
  ifB (strEq t7 t3.1)
  (ifB (strEq t5.1 s)
  (callV Pr (Value.int .i64) 22 #[(sval s)] w8 fun t9 w10 =>
  ifB (t9 == t5.2)
  (callV Pr Value.bool 10 #[] w10 fun t11 w12 =>
  K t11 w12)
  (K false w10))
  (K false w8))
  (K false w8))
def law05_RunesCuts_ann : Ann := (.s .d (.s (.s .d (.c (.s (.r [(0, .call rB)]) .d) .d)) (.s (.r [(2, .call (rT2 rS (rI .i64)))]) (.s (.r [(3, .call (rT2 rS (rI .i64)))]) (.s (.r [(2, .call rS), (12, .call (rI .i64)), (17, .call rB)]) .d)))))
theorem law05_RunesCuts_calls {s : List UInt8} {n : Int} {K : Bool → World → Prop} {w : World} (h : law05_RunesCuts s n K w) : callV Pr Value.bool 5 #[(sval s), (.int .i64 n)] w K :=
  calls_of Pr_plain Pr_mixed Pr_func5 law05_RunesCuts_ann rB (args := [(sval s), (.int .i64 n)]) (by kernel_rfl) h

/- changeover/changeoverlaw05.RunesLower -/
def law05_RunesLower (s : List UInt8) (K : Bool → World → Prop) (w : World) : Prop :=
  ifB (decide (((s : List UInt8).length : Int) > 500))
  (callV Pr Value.bool 10 #[] w fun t1 w2 =>
  K t1 w2)
  (callV Pr sval 23 #[(sval s)] w fun x3 w4 =>
  callV Pr sval 24 #[(sval s)] w4 fun t5 w6 =>
  ifB (strEq x3 t5)
  (callV Pr sval 23 #[(sval x3)] w6 fun t7 w8 =>
  ifB (strEq t7 x3)
  (callV Pr (Value.int .i64) 11 #[(sval x3)] w8 fun t9 w10 =>
  callV Pr (Value.int .i64) 11 #[(sval s)] w10 fun t11 w12 =>
  ifB (t9 == t11)
  (callV Pr Value.bool 10 #[] w12 fun t13 w14 =>
  K t13 w14)
  (K false w12))
  (K false w8))
  (K false w6))
def law05_RunesLower_ann : Ann := (.s .d (.s (.s .d (.c (.s (.r [(0, .call rB)]) .d) .d)) (.s (.r [(1, .call rS)]) (.s (.r [(2, .call rS), (6, .call rS), (12, .call (rI .i64)), (14, .call (rI .i64)), (18, .call rB)]) .d))))
theorem law05_RunesLower_calls {s : List UInt8} {K : Bool → World → Prop} {w : World} (h : law05_RunesLower s K w) : callV Pr Value.bool 6 #[(sval s)] w K :=
  calls_of Pr_plain Pr_mixed Pr_func6 law05_RunesLower_ann rB (args := [(sval s)]) (by kernel_rfl) h

/- changeover/changeoverlaw02.CrcSums -/
def law02_CrcSums (b : Sl) (K : Bool → World → Prop) (w : World) : Prop :=
  ifB (decide ((b.len : Int) > 2000))
  (callV Pr Value.bool 25 #[] w fun t1 w2 =>
  K t1 w2)
  (callV Pr (Value.int .u32) 26 #[b.val] w fun s3 w4 =>
  callV Pr (Value.int .u32) 27 #[b.val] w4 fun t5 w6 =>
  ifB (s3 == t5)
  (callV Pr sval 28 #[(.int .u32 s3)] w6 fun t7 w8 =>
  callV Pr sval 29 #[(.int .u32 s3)] w8 fun t9 w10 =>
  ifB (strEq t7 t9)
  (callV Pr Value.bool 25 #[] w10 fun t11 w12 =>
  K t11 w12)
  (K false w10))
  (K false w6))
def law02_CrcSums_ann : Ann := (.s .d (.s (.s .d (.c (.s (.r [(0, .call rB)]) .d) .d)) (.s (.r [(1, .call (rI .u32))]) (.s (.r [(2, .call (rI .u32)), (6, .call rS), (8, .call rS), (12, .call rB)]) .d))))
theorem law02_CrcSums_calls {b : Sl} {K : Bool → World → Prop} {w : World} (h : law02_CrcSums b K w) : callV Pr Value.bool 7 #[b.val] w K :=
  calls_of Pr_plain Pr_mixed Pr_func7 law02_CrcSums_ann rB (args := [b.val]) (by kernel_rfl) h

/- changeover/changeoverlaw02.CrcGoesOn -/
def law02_CrcGoesOn (a : Sl) (b : Sl) (K : Bool → World → Prop) (w : World) : Prop :=
  ifB (decide ((a.len : Int) > 2000))
  (callV Pr Value.bool 25 #[] w fun t1 w2 =>
  K t1 w2)
  (ifB (decide ((b.len : Int) > 2000))
  (callV Pr Value.bool 25 #[] w fun t3 w4 =>
  K t3 w4)
  (callV Pr (Value.int .u32) 26 #[a.val] w fun t5 w6 =>
  callV Pr (Value.int .u32) 30 #[(.int .u32 t5), b.val] w6 fun t7 w8 =>
  opTy Pr (Instr.buildSlice 32 0 #[]) Sl.val (fun t9 w10 =>
  opTy Pr (Builtin.append_ #[32, 32] 32 #[t9.val, a.val]) Sl.val (fun t11 w12 =>
  opTy Pr (Builtin.append_ #[32, 32] 32 #[t11.val, b.val]) Sl.val (fun t13 w14 =>
  callV Pr (Value.int .u32) 27 #[t13.val] w14 fun t15 w16 =>
  ifB (t7 == t15)
  (callV Pr (Value.int .u32) 30 #[(.int .u32 0), Sl.nil.val] w16 fun t17 w18 =>
  ifB (t17 == 0)
  (callV Pr Value.bool 25 #[] w18 fun t19 w20 =>
  K t19 w20)
  (K false w18))
  (K false w16)) w12) w10) w8))
def law02_CrcGoesOn_ann : Ann := (.s .d (.s (.s .d (.c (.s (.r [(0, .call rB)]) .d) .d)) (.s (.r [(1, .call (rI .u32)), (3, .call (rI .u32)), (4, .ty rSl), (6, .ty rSl), (8, .ty rSl), (9, .call (rI .u32)), (12, .call (rI .u32)), (16, .call rB)]) .d)))
theorem law02_CrcGoesOn_calls {a : Sl} {b : Sl} {K : Bool → World → Prop} {w : World} (h : law02_CrcGoesOn a b K w) : callV Pr Value.bool 8 #[a.val, b.val] w K :=
  calls_of Pr_plain Pr_mixed Pr_func8 law02_CrcGoesOn_ann rB (args := [a.val, b.val]) (by kernel_rfl) h

/- changeover/changeoverlaw02.CrcChanges -/
def law02_CrcChanges (b : Sl) (at_ : Int) (x : List Value) (K : Bool → World → Prop) (w : World) : Prop :=
  opTy Pr (Instr.box 39 (.agg ⟨x⟩)) pav (fun x1 w2 =>
  ifB (decide ((b.len : Int) > 2000))
  (callV Pr Value.bool 25 #[] w2 fun t3 w4 =>
  K t3 w4)
  (ifB (decide (at_ < 0))
  (callV Pr Value.bool 25 #[] w2 fun t5 w6 =>
  K t5 w6)
  (ifB (decide (at_ ≥ (b.len : Int)))
  (callV Pr Value.bool 25 #[] w2 fun t7 w8 =>
  K t7 w8)
  (opTy Pr (Instr.buildSlice 32 0 #[]) Sl.val (fun t9 w10 =>
  opTy Pr (Builtin.append_ #[32, 32] 32 #[t9.val, b.val]) Sl.val (fun c11 w12 =>
  join1 (fun (j13 : Bool → World → Prop) =>
  loop2 (false : Bool) (0 : Int) (fun other14 i15 k16 w17 =>
  ifB (decide (i15 < 4))
  (ifB (decide ((i64 (at_ + i15)) < (c11.len : Int)))
  (ifB other14
  (heldM (fun S19 w18 =>
  opH Pr S19 (Instr.indexAt 32 c11.val (.int .i64 (i64 (at_ + i15)))) pav (fun t20 =>
  opH Pr S19 (Instr.indexAt 39 (.pointer (some x1)) (.int .i64 i15)) pav (fun t21 =>
  opH Pr S19 (Instr.loadAt 5 (.pointer (some t21))) (Value.int .u8) (fun t22 =>
  opRd Pr (Instr.loadAt 5 (.pointer (some t20))) (Value.int .u8) (fun t23 =>
  (S19 w18) ∧
  (opH Pr S19 (Instr.indexAt 32 c11.val (.int .i64 (i64 (at_ + i15)))) pav (fun t24 =>
  opUn Pr (Instr.storeAt 5 (.pointer (some t24)) (.int .u8 (bXor .u8 t23 t22))) (fun w25 =>
  (S19 w25) ∧
  (k16 true (i64 (i15 + 1)) w25)) w18))) w18)))) w17)
  (opRd Pr (Instr.indexAt 39 (.pointer (some x1)) (.int .i64 i15)) pav (fun t26 =>
  opRd Pr (Instr.loadAt 5 (.pointer (some t26))) (Value.int .u8) (fun t27 =>
  heldM (fun S29 w28 =>
  opH Pr S29 (Instr.indexAt 32 c11.val (.int .i64 (i64 (at_ + i15)))) pav (fun t30 =>
  opH Pr S29 (Instr.indexAt 39 (.pointer (some x1)) (.int .i64 i15)) pav (fun t31 =>
  opH Pr S29 (Instr.loadAt 5 (.pointer (some t31))) (Value.int .u8) (fun t32 =>
  opRd Pr (Instr.loadAt 5 (.pointer (some t30))) (Value.int .u8) (fun t33 =>
  (S29 w28) ∧
  (opH Pr S29 (Instr.indexAt 32 c11.val (.int .i64 (i64 (at_ + i15)))) pav (fun t34 =>
  opUn Pr (Instr.storeAt 5 (.pointer (some t34)) (.int .u8 (bXor .u8 t33 t32))) (fun w35 =>
  (S29 w35) ∧
  (k16 (t27 != 0) (i64 (i15 + 1)) w35)) w28))) w28)))) w17) w17) w17))
  (j13 other14 w17))
  (j13 other14 w17)) w12)
  (fun other36 w37 =>
  callV Pr (Value.int .u32) 26 #[b.val] w37 fun t38 w39 =>
  callV Pr (Value.int .u32) 26 #[c11.val] w39 fun t40 w41 =>
  ifB ((t38 != t40) == other36)
  (callV Pr Value.bool 25 #[] w41 fun t42 w43 =>
  K t42 w43)
  (K false w41))) w10) w2)))) w
def law02_CrcChanges_ann : Ann := (.s (.r [(0, .ty rPA)]) (.s (.s .d (.c (.s (.r [(0, .call rB)]) .d) .d)) (.s (.r [(0, .ty rSl), (2, .ty rSl)]) (.s .d (.sj [(.s 8, rB)] (.s .d (.b (.l [(.s 8, rB), (.s 9, (rI .i64))] (.s (.s .d (.c .d .d)) (.s (.b (.s (.r [(3, .rd rPA), (4, .rd (rI .u8))]) (.h (.take 0 (.take 1 (.take 2 (.take 3 (.take 4 (.take 5 (.take 6 (.take 7 (.take 8 (.take 10 (.take 11 (.take 12 (.one 9 (.take 13 (.take 14 (.one 15 .done)))))))))))))))) [(8, .rd rPA), (9, .rd (rI .u8)), (11, .rd rPA), (12, .rd (rI .u8)), (14, .rd rPA), (15, .un)]))) .d))))) (.s (.r [(1, .call (rI .u32)), (3, .call (rI .u32)), (8, .call rB)]) .d))))))
theorem law02_CrcChanges_calls {b : Sl} {at_ : Int} {x : List Value} {K : Bool → World → Prop} {w : World} (h : law02_CrcChanges b at_ x K w) : callV Pr Value.bool 9 #[b.val, (.int .i64 at_), (.agg ⟨x⟩)] w K :=
  calls_of Pr_plain Pr_mixed Pr_func9 law02_CrcChanges_ann rB (args := [b.val, (.int .i64 at_), (.agg ⟨x⟩)]) (by kernel_rfl) h

/- changeover/changeoverlaw05.awake -/
def law05_awake (K : Bool → World → Prop) (w : World) : Prop :=
  callV Pr Value.bool 14 #[(sval [97, 49])] w fun t1 w2 =>
  ifB t1
  (callV Pr Value.bool 14 #[(sval [97, 32, 98])] w2 fun t3 w4 =>
  ifB (!t3)
  (callV Pr Value.bool 16 #[(sval [])] w4 fun t5 w6 =>
  ifB t5
  (callV Pr (Value.int .i64) 22 #[(sval [97, 98])] w6 fun t7 w8 =>
  ifB (t7 == 2)
  (callV Pr (Value.int .i64) 11 #[(sval [97])] w8 fun t9 w10 =>
  K (t9 == (-1)) w10)
  (K false w8))
  (K false w6))
  (K false w4))
  (K false w2)
def law05_awake_ann : Ann := (.s .d (.s (.r [(0, .call rB), (2, .call rB), (6, .call rB), (9, .call (rI .i64)), (13, .call (rI .i64))]) .d))
theorem law05_awake_calls {K : Bool → World → Prop} {w : World} (h : law05_awake K w) : callV Pr Value.bool 10 #[] w K :=
  calls_of Pr_plain Pr_mixed Pr_func10 law05_awake_ann rB (args := []) (by kernel_rfl) h

/- changeover/runes.Bad -/
def runes_Bad (s : List UInt8) (K : Int → World → Prop) (w : World) : Prop :=
  opTy Pr (Instr.range 9 (sval s)) pav (fun t1 w2 =>
  loop0 (fun k3 w4 =>
  opAl Pr (Instr.next (.pointer (some t1)) true 0) (nxval (Value.int .i64) (Value.int .i32)) endval (fun t5 w6 =>
  ifB (t5.2 != 65533)
  (k3 w6)
  (opRd Pr (Instr.sliceAt 9 (sval s) (some (.int .i64 t5.1)) none none) sval (fun t7 =>
  callV Pr (tval2 (Value.int .i32) (Value.int .i64)) 31 #[(sval t7)] w6 fun t8 w9 =>
  ifB (t8.2 == 1)
  (K t5.1 w9)
  (k3 w9)) w6)) (fun _ w10 =>
  K (-1) w10) w4) w2) w
def runes_Bad_ann : Ann := (.s .d (.s (.s (.r [(1, .ty rPA)]) (.b (.l [] (.s (.r [(0, .alt (rNx (rI .i64) (rI .i32)) rEnd)]) (.s (.c .d .d) (.b (.s .d (.s (.s .d (.c .d .d)) (.s (.r [(2, .rd rS), (3, .call (rT2 (rI .i32) (rI .i64)))]) (.s .d (.c (.s .d .d) .d))))))))))) (.s .d .d)))
theorem runes_Bad_calls {s : List UInt8} {K : Int → World → Prop} {w : World} (h : runes_Bad s K w) : callV Pr (Value.int .i64) 11 #[(sval s)] w K :=
  calls_of Pr_plain Pr_mixed Pr_func11 runes_Bad_ann (rI .i64) (args := [(sval s)]) (by kernel_rfl) h

/- changeover/changeoverref05.Bad -/
def ref05_Bad (s : List UInt8) (K : Int → World → Prop) (w : World) : Prop :=
  loop1 (0 : Int) (fun i1 k2 w3 =>
  ifB (decide (i1 < ((s : List UInt8).length : Int)))
  (callV Pr (tval2 (Value.int .i64) (Value.int .i64)) 32 #[(sval s), (.int .i64 i1)] w3 fun t4 w5 =>
  ifB (t4.1 == 0)
  (K i1 w5)
  (k2 (i64 (i1 + t4.1)) w5))
  (K (-1) w3)) w
def ref05_Bad_ann : Ann := (.s .d (.s .d (.s (.b (.l [(.s 3, (rI .i64))] (.s (.s .d (.c .d .d)) (.b (.s (.r [(2, .call (rT2 (rI .i64) (rI .i64)))]) (.s (.s .d (.c (.s .d .d) .d)) .d)))))) (.s .d .d))))
theorem ref05_Bad_calls {s : List UInt8} {K : Int → World → Prop} {w : World} (h : ref05_Bad s K w) : callV Pr (Value.int .i64) 12 #[(sval s)] w K :=
  calls_of Pr_plain Pr_mixed Pr_func12 ref05_Bad_ann (rI .i64) (args := [(sval s)]) (by kernel_rfl) h

/- changeover/runes.Whole -/
def runes_Whole (s : List UInt8) (K : Bool → World → Prop) (w : World) : Prop :=
  callV Pr (Value.int .i64) 11 #[(sval s)] w fun t1 w2 =>
  K (decide (t1 < 0)) w2
def runes_Whole_ann : Ann := (.s .d (.s (.r [(1, .call (rI .i64))]) .d))
theorem runes_Whole_calls {s : List UInt8} {K : Bool → World → Prop} {w : World} (h : runes_Whole s K w) : callV Pr Value.bool 13 #[(sval s)] w K :=
  calls_of Pr_plain Pr_mixed Pr_func13 runes_Whole_ann rB (args := [(sval s)]) (by kernel_rfl) h

/- changeover/runes.Key -/
def runes_Key (s : List UInt8) (K : Bool → World → Prop) (w : World) : Prop :=
  ifB (!(strEq s []))
  (ifB (decide (((s : List UInt8).length : Int) ≤ 24))
  (callV Pr Value.bool 13 #[(sval s)] w fun t1 w2 =>
  ifB t1
  (callV Pr Value.bool 33 #[(sval s), (.func (.func 18) #[] #[])] w2 fun t3 w4 =>
  K t3 w4)
  (K false w2))
  (K false w))
  (K false w)
def runes_Key_ann : Ann := (.s .d (.s (.r [(9, .call rB), (13, .call rB)]) .d))
theorem runes_Key_calls {s : List UInt8} {K : Bool → World → Prop} {w : World} (h : runes_Key s K w) : callV Pr Value.bool 14 #[(sval s)] w K :=
  calls_of Pr_plain Pr_mixed Pr_func14 runes_Key_ann rB (args := [(sval s)]) (by kernel_rfl) h

/- changeover/changeoverref05.Key -/
def ref05_Key (s : List UInt8) (K : Bool → World → Prop) (w : World) : Prop :=
  ifB (decide (((s : List UInt8).length : Int) < 1))
  (K false w)
  (ifB (decide (((s : List UInt8).length : Int) > 24))
  (K false w)
  (loop1 (0 : Int) (fun i1 k2 w3 =>
  ifB (decide (i1 < ((s : List UInt8).length : Int)))
  (callV Pr (tval2 (Value.int .i64) (Value.int .i64)) 32 #[(sval s), (.int .i64 i1)] w3 fun t4 w5 =>
  ifB (t4.1 == 0)
  (K false w5)
  (callV Pr Value.bool 19 #[(.int .i64 t4.2)] w5 fun t6 w7 =>
  ifB (!t6)
  (K false w7)
  (k2 (i64 (i1 + t4.1)) w7)))
  (K true w3)) w))
def ref05_Key_ann : Ann := (.s .d (.s (.s .d (.c (.s .d .d) .d)) (.s .d (.s (.b (.l [(.s 3, (rI .i64))] (.s (.s .d (.c .d .d)) (.b (.s (.r [(2, .call (rT2 (rI .i64) (rI .i64)))]) (.s (.s (.r [(4, .call rB)]) (.c (.s .d .d) .d)) .d)))))) (.s .d .d)))))
theorem ref05_Key_calls {s : List UInt8} {K : Bool → World → Prop} {w : World} (h : ref05_Key s K w) : callV Pr Value.bool 15 #[(sval s)] w K :=
  calls_of Pr_plain Pr_mixed Pr_func15 ref05_Key_ann rB (args := [(sval s)]) (by kernel_rfl) h

/- changeover/runes.Val -/
def runes_Val (s : List UInt8) (K : Bool → World → Prop) (w : World) : Prop :=
  ifB (decide (((s : List UInt8).length : Int) ≤ 48))
  (callV Pr Value.bool 13 #[(sval s)] w fun t1 w2 =>
  ifB t1
  (callV Pr Value.bool 33 #[(sval s), (.func (.func 34) #[] #[])] w2 fun t3 w4 =>
  K t3 w4)
  (K false w2))
  (K false w)
def runes_Val_ann : Ann := (.s .d (.s (.r [(5, .call rB), (9, .call rB)]) .d))
theorem runes_Val_calls {s : List UInt8} {K : Bool → World → Prop} {w : World} (h : runes_Val s K w) : callV Pr Value.bool 16 #[(sval s)] w K :=
  calls_of Pr_plain Pr_mixed Pr_func16 runes_Val_ann rB (args := [(sval s)]) (by kernel_rfl) h

/- changeover/changeoverref05.Val -/
def ref05_Val (s : List UInt8) (K : Bool → World → Prop) (w : World) : Prop :=
  ifB (decide (((s : List UInt8).length : Int) > 48))
  (K false w)
  (callV Pr (Value.int .i64) 12 #[(sval s)] w fun t1 w2 =>
  ifB (decide (t1 ≥ 0))
  (K false w2)
  (loop1 (0 : Int) (fun i3 k4 w5 =>
  ifB (decide (i3 < ((s : List UInt8).length : Int)))
  (opRd Pr (Instr.index 9 (sval s) (.int .i64 i3)) (Value.int .u8) (fun t6 =>
  ifB (decide (t6 < 32))
  (K false w5)
  (opRd Pr (Instr.index 9 (sval s) (.int .i64 i3)) (Value.int .u8) (fun t7 =>
  ifB (t7 == 127)
  (K false w5)
  (k4 (i64 (i3 + 1)) w5)) w5)) w5)
  (K true w5)) w2))
def ref05_Val_ann : Ann := (.s .d (.s (.s (.r [(5, .call (rI .i64))]) (.c (.s .d .d) .d)) (.s (.s .d (.b (.l [(.s 3, (rI .i64))] (.s (.s .d (.c .d .d)) (.s (.b (.s (.r [(2, .rd (rI .u8)), (7, .rd (rI .u8))]) (.c (.s .d .d) .d))) .d))))) (.s .d .d))))
theorem ref05_Val_calls {s : List UInt8} {K : Bool → World → Prop} {w : World} (h : ref05_Val s K w) : callV Pr Value.bool 17 #[(sval s)] w K :=
  calls_of Pr_plain Pr_mixed Pr_func17 ref05_Val_ann rB (args := [(sval s)]) (by kernel_rfl) h

/- changeover/runes.Plain -/
def runes_Plain (r : Int) (K : Bool → World → Prop) (w : World) : Prop :=
  join1 (fun (j1 : Bool → World → Prop) =>
  ifB (decide (r ≥ 97))
  (ifB (decide (r ≤ 122))
  (j1 (decide (r ≤ 122)) w)
  (ifB (decide (r ≥ 65))
  (ifB (decide (r ≤ 90))
  (j1 (decide (r ≤ 90)) w)
  (ifB (decide (r ≥ 48))
  (j1 (decide (r ≤ 57)) w)
  (j1 false w)))
  (ifB (decide (r ≥ 48))
  (j1 (decide (r ≤ 57)) w)
  (j1 false w))))
  (ifB (decide (r ≥ 65))
  (ifB (decide (r ≤ 90))
  (j1 (decide (r ≤ 90)) w)
  (ifB (decide (r ≥ 48))
  (j1 (decide (r ≤ 57)) w)
  (j1 false w)))
  (ifB (decide (r ≥ 48))
  (j1 (decide (r ≤ 57)) w)
  (j1 false w))))
  (fun t2 w3 =>
  ifB t2
  (K true w3)
  (ifB (r == 45)
  (ifB (r == 45)
  (K true w3)
  (ifB (decide (r ≥ 161))
  (K (r != 65533) w3)
  (K false w3)))
  (ifB (r == 95)
  (ifB (r == 95)
  (K true w3)
  (ifB (decide (r ≥ 161))
  (K (r != 65533) w3)
  (K false w3)))
  (ifB (r == 46)
  (ifB (r == 46)
  (K true w3)
  (ifB (decide (r ≥ 161))
  (K (r != 65533) w3)
  (K false w3)))
  (ifB (r == 58)
  (K true w3)
  (ifB (decide (r ≥ 161))
  (K (r != 65533) w3)
  (K false w3)))))))
def runes_Plain_ann : Ann := (.s .d (.s (.b (.sj [(.s 3, rB)] (.s .d (.c .d (.s .d (.c .d .d)))) (.c (.s .d .d) (.s (.s .d (.c .d (.s .d (.c .d (.s .d (.c .d .d)))))) (.c (.s .d .d) .d))))) (.s .d .d)))
theorem runes_Plain_calls {r : Int} {K : Bool → World → Prop} {w : World} (h : runes_Plain r K w) : callV Pr Value.bool 18 #[(.int .i32 r)] w K :=
  calls_of Pr_plain Pr_mixed Pr_func18 runes_Plain_ann rB (args := [(.int .i32 r)]) (by kernel_rfl) h

/- changeover/changeoverref05.Plain -/
def ref05_Plain (r : Int) (K : Bool → World → Prop) (w : World) : Prop :=
  loop1 (0 : Int) (fun i1 k2 w3 =>
  ifB (decide (i1 < ((cs0 : List UInt8).length : Int)))
  (opRd Pr (Instr.index 9 (sval cs0) (.int .i64 i1)) (Value.int .u8) (fun t4 =>
  ifB ((IntKind.i64.wrap t4) == r)
  (K true w3)
  (k2 (i64 (i1 + 1)) w3)) w3)
  (ifB (decide (r ≥ 161))
  (K (r != 65533) w3)
  (K false w3))) w
def ref05_Plain_ann : Ann := (.s .d (.s .d (.s (.s .d (.b (.l [(.s 4, (rI .i64))] (.s (.s .d (.c .d .d)) (.s (.b (.s (.r [(2, .rd (rI .u8))]) (.c (.s .d .d) .d))) .d))))) (.s .d .d))))
theorem ref05_Plain_calls {r : Int} {K : Bool → World → Prop} {w : World} (h : ref05_Plain r K w) : callV Pr Value.bool 19 #[(.int .i64 r)] w K :=
  calls_of Pr_plain Pr_mixed Pr_func19 ref05_Plain_ann rB (args := [(.int .i64 r)]) (by kernel_rfl) h

/- changeover/changeoverref05.Cut -/
def ref05_Cut (s : List UInt8) (n : Int) (K : ((List UInt8) × Int) → World → Prop) (w : World) : Prop :=
  loop2 (0 : Int) (0 : Int) (fun i1 k2 k3 w4 =>
  ifB (decide (i1 < ((s : List UInt8).length : Int)))
  (ifB (decide (k2 < n))
  (callV Pr (tval2 (Value.int .i64) (Value.int .i64)) 32 #[(sval s), (.int .i64 i1)] w4 fun t5 w6 =>
  ifB (t5.1 == 0)
  (k3 (i64 (i1 + 1)) (i64 (k2 + 1)) w6)
  (k3 (i64 (i1 + t5.1)) (i64 (k2 + 1)) w6))
  (opRd Pr (Instr.sliceAt 9 (sval s) none (some (.int .i64 i1)) none) sval (fun t7 =>
  K (t7, k2) w4) w4))
  (opRd Pr (Instr.sliceAt 9 (sval s) none (some (.int .i64 i1)) none) sval (fun t8 =>
  K (t8, k2) w4) w4)) w
def ref05_Cut_ann : Ann := (.s .d (.s .d (.s (.b (.l [(.s 6, (rI .i64)), (.s 7, (rI .i64))] (.s (.s .d (.c .d .d)) (.b (.s (.r [(2, .call (rT2 (rI .i64) (rI .i64)))]) (.s (.s .d (.c .d .d)) (.s .d .d))))))) (.s (.r [(2, .rd rS)]) .d))))
theorem ref05_Cut_calls {s : List UInt8} {n : Int} {K : ((List UInt8) × Int) → World → Prop} {w : World} (h : ref05_Cut s n K w) : callV Pr (tval2 sval (Value.int .i64)) 20 #[(sval s), (.int .i64 n)] w K :=
  calls_of Pr_plain Pr_mixed Pr_func20 ref05_Cut_ann (rT2 rS (rI .i64)) (args := [(sval s), (.int .i64 n)]) (by kernel_rfl) h

/- changeover/runes.Cut -/
def runes_Cut (s : List UInt8) (n : Int) (K : (List UInt8) → World → Prop) (w : World) : Prop :=
  opTy Pr (Instr.range 9 (sval s)) pav (fun t1 w2 =>
  loop1 (n : Int) (fun n3 k4 w5 =>
  opAl Pr (Instr.next (.pointer (some t1)) true 0) (nxval (Value.int .i64) (Value.int .i32)) endval (fun t6 w7 =>
  ifB (decide (n3 ≤ 0))
  (opRd Pr (Instr.sliceAt 9 (sval s) none (some (.int .i64 t6.1)) none) sval (fun t8 =>
  K t8 w7) w7)
  (k4 (i64 (n3 - 1)) w7)) (fun _ w9 =>
  K s w9) w5) w2) w
def runes_Cut_ann : Ann := (.s .d (.s (.s (.r [(1, .ty rPA)]) (.b (.l [(.s 1, (rI .i64))] (.s (.r [(0, .alt (rNx (rI .i64) (rI .i32)) rEnd)]) (.s (.c .d .d) (.b (.s .d (.s (.s .d (.c (.s (.r [(2, .rd rS)]) .d) .d)) .d)))))))) (.s .d .d)))
theorem runes_Cut_calls {s : List UInt8} {n : Int} {K : (List UInt8) → World → Prop} {w : World} (h : runes_Cut s n K w) : callV Pr sval 21 #[(sval s), (.int .i64 n)] w K :=
  calls_of Pr_plain Pr_mixed Pr_func21 runes_Cut_ann rS (args := [(sval s), (.int .i64 n)]) (by kernel_rfl) h

/- changeover/runes.Count -/
def runes_Count (s : List UInt8) (K : Int → World → Prop) (w : World) : Prop :=
  opTy Pr (Instr.range 9 (sval s)) pav (fun t1 w2 =>
  loop1 (0 : Int) (fun n3 k4 w5 =>
  opAl Pr (Instr.next (.pointer (some t1)) true 0) (nxval (Value.int .i64) (Value.int .i32)) endval (fun t6 w7 =>
  k4 (i64 (n3 + 1)) w7) (fun _ w8 =>
  K n3 w8) w5) w2) w
def runes_Count_ann : Ann := (.s .d (.s .d (.s (.s (.r [(1, .ty rPA)]) (.b (.l [(.s 3, (rI .i64))] (.s (.r [(0, .alt (rNx (rI .i64) (rI .i32)) rEnd)]) (.s (.c .d .d) (.b .d)))))) (.s .d .d))))
theorem runes_Count_calls {s : List UInt8} {K : Int → World → Prop} {w : World} (h : runes_Count s K w) : callV Pr (Value.int .i64) 22 #[(sval s)] w K :=
  calls_of Pr_plain Pr_mixed Pr_func22 runes_Count_ann (rI .i64) (args := [(sval s)]) (by kernel_rfl) h

/- changeover/runes.Lower -/
def runes_Lower (s : List UInt8) (K : (List UInt8) → World → Prop) (w : World) : Prop :=
  opTy Pr (convert 9 32 (sval s)) Sl.val (fun out1 w2 =>
  opTy Pr (Instr.range 9 (sval s)) pav (fun t3 w4 =>
  loop0 (fun k5 w6 =>
  opAl Pr (Instr.next (.pointer (some t3)) true 0) (nxval (Value.int .i64) (Value.int .i32)) endval (fun t7 w8 =>
  callV Pr (Value.int .i32) 35 #[(.int .i32 t7.2)] w8 fun x9 w10 =>
  ifB (x9 != t7.2)
  (opRd Pr (Instr.indexAt 32 out1.val (.int .i64 t7.1)) pav (fun t11 =>
  opUn Pr (Instr.storeAt 5 (.pointer (some t11)) (.int .u8 (IntKind.u8.wrap x9))) (fun w12 =>
  k5 w12) w10) w10)
  (k5 w10)) (fun _ w13 =>
  opRd Pr (convert 32 9 out1.val) sval (fun t14 =>
  K t14 w13) w13) w6) w4) w2) w
def runes_Lower_ann : Ann := (.s .d (.s (.r [(1, .ty rSl)]) (.s (.s (.r [(1, .ty rPA)]) (.b (.l [] (.s (.r [(0, .alt (rNx (rI .i64) (rI .i32)) rEnd)]) (.s (.c .d .d) (.b (.s .d (.s (.r [(1, .call (rI .i32))]) (.s .d (.c (.r [(4, .rd rPA), (5, .un)]) .d)))))))))) (.s (.r [(1, .rd rS)]) .d))))
theorem runes_Lower_calls {s : List UInt8} {K : (List UInt8) → World → Prop} {w : World} (h : runes_Lower s K w) : callV Pr sval 23 #[(sval s)] w K :=
  calls_of Pr_plain Pr_mixed Pr_func23 runes_Lower_ann rS (args := [(sval s)]) (by kernel_rfl) h

/- changeover/changeoverref05.Lower -/
def ref05_Lower (s : List UInt8) (K : (List UInt8) → World → Prop) (w : World) : Prop :=
  loop2 (Sl.nil : Sl) (0 : Int) (fun out1 i2 k3 w4 =>
  ifB (decide (i2 < ((s : List UInt8).length : Int)))
  (opRd Pr (Instr.index 9 (sval s) (.int .i64 i2)) (Value.int .u8) (fun c5 =>
  ifB (decide (c5 ≥ 65))
  (ifB (decide (c5 ≤ 90))
  (opTy Pr (Instr.buildSlice 32 1 #[(0, (.int .u8 (IntKind.u8.wrap (c5 + 32))))]) Sl.val (fun t6 w7 =>
  opTy Pr (Builtin.append_ #[32, 32] 32 #[out1.val, t6.val]) Sl.val (fun out8 w9 =>
  k3 out8 (i64 (i2 + 1)) w9) w7) w4)
  (opTy Pr (Instr.buildSlice 32 1 #[(0, (.int .u8 c5))]) Sl.val (fun t10 w11 =>
  opTy Pr (Builtin.append_ #[32, 32] 32 #[out1.val, t10.val]) Sl.val (fun out12 w13 =>
  k3 out12 (i64 (i2 + 1)) w13) w11) w4))
  (opTy Pr (Instr.buildSlice 32 1 #[(0, (.int .u8 c5))]) Sl.val (fun t14 w15 =>
  opTy Pr (Builtin.append_ #[32, 32] 32 #[out1.val, t14.val]) Sl.val (fun out16 w17 =>
  k3 out16 (i64 (i2 + 1)) w17) w15) w4)) w4)
  (opRd Pr (convert 32 9 out1.val) sval (fun t18 =>
  K t18 w4) w4)) w
def ref05_Lower_ann : Ann := (.s .d (.s .d (.s (.s .d (.b (.l [(.s 3, rSl), (.s 4, (rI .i64))] (.s (.s .d (.c .d .d)) (.s (.b (.s (.r [(2, .rd (rI .u8))]) (.s (.s .d (.c .d .d)) (.r [(2, .ty rSl), (3, .ty rSl)])))) .d))))) (.s (.r [(1, .rd rS)]) .d))))
theorem ref05_Lower_calls {s : List UInt8} {K : (List UInt8) → World → Prop} {w : World} (h : ref05_Lower s K w) : callV Pr sval 24 #[(sval s)] w K :=
  calls_of Pr_plain Pr_mixed Pr_func24 ref05_Lower_ann rS (args := [(sval s)]) (by kernel_rfl) h

/- changeover/changeoverlaw02.awake -/
def law02_awake (K : Bool → World → Prop) (w : World) : Prop :=
  opTy Pr (Instr.buildSlice 32 9 #[(0, (.int .u8 49)), (1, (.int .u8 50)), (2, (.int .u8 51)), (3, (.int .u8 52)), (4, (.int .u8 53)), (5, (.int .u8 54)), (6, (.int .u8 55)), (7, (.int .u8 56)), (8, (.int .u8 57))]) Sl.val (fun t1 w2 =>
  opTy Pr (convert 32 32 t1.val) Sl.val (fun t3 w4 =>
  callV Pr (Value.int .u32) 26 #[t3.val] w4 fun t5 w6 =>
  ifB (t5 == 3421780262)
  (callV Pr sval 28 #[(.int .u32 15)] w6 fun t7 w8 =>
  K (strEq t7 [48, 48, 48, 48, 48, 48, 48, 102]) w8)
  (K false w6)) w2) w
def law02_awake_ann : Ann := (.s .d (.s (.r [(0, .ty rSl), (1, .ty rSl), (2, .call (rI .u32)), (5, .call rS)]) .d))
theorem law02_awake_calls {K : Bool → World → Prop} {w : World} (h : law02_awake K w) : callV Pr Value.bool 25 #[] w K :=
  calls_of Pr_plain Pr_mixed Pr_func25 law02_awake_ann rB (args := []) (by kernel_rfl) h

/- changeover/crc.Sum -/
def crc_Sum (b : Sl) (K : Int → World → Prop) (w : World) : Prop :=
  callV Pr (Value.int .u32) 30 #[(.int .u32 0), b.val] w fun t1 w2 =>
  K t1 w2
def crc_Sum_ann : Ann := (.s .d (.s (.r [(1, .call (rI .u32))]) .d))
theorem crc_Sum_calls {b : Sl} {K : Int → World → Prop} {w : World} (h : crc_Sum b K w) : callV Pr (Value.int .u32) 26 #[b.val] w K :=
  calls_of Pr_plain Pr_mixed Pr_func26 crc_Sum_ann (rI .u32) (args := [b.val]) (by kernel_rfl) h

/- changeover/changeoverref02.Sum -/
def ref02_Sum (b : Sl) (K : Int → World → Prop) (w : World) : Prop :=
  loop2 (4294967295 : Int) (0 : Int) (fun r1 i2 k3 w4 =>
  ifB (decide (i2 < (b.len : Int)))
  (opRd Pr (Instr.indexAt 32 b.val (.int .i64 i2)) pav (fun t5 =>
  opRd Pr (Instr.loadAt 5 (.pointer (some t5))) (Value.int .u8) (fun t6 =>
  loop2 ((bXor .u32 r1 (IntKind.u32.wrap t6)) : Int) (0 : Int) (fun r7 k8 k9 w10 =>
  ifB (decide (k8 < 8))
  (ifB ((Int.tmod r7 2) == 1)
  (k9 (bXor .u32 (IntKind.u32.wrap (Int.tdiv r7 2)) 3988292384) (i64 (k8 + 1)) w10)
  (k9 (IntKind.u32.wrap (Int.tdiv r7 2)) (i64 (k8 + 1)) w10))
  (k3 r7 (i64 (i2 + 1)) w10)) w4) w4) w4)
  (K (IntKind.u32.wrap (4294967295 - r1)) w4)) w
def ref02_Sum_ann : Ann := (.s .d (.s .d (.s (.s .d (.b (.l [(.s 3, (rI .u32)), (.s 4, (rI .i64))] (.s (.s .d (.c .d .d)) (.s (.b (.s (.r [(3, .rd rPA), (4, .rd (rI .u8))]) (.s .d (.b (.l [(.s 3, (rI .u32)), (.s 5, (rI .i64))] (.s (.s .d (.c .d .d)) (.s (.b (.s .d (.s .d (.s .d (.c .d .d))))) .d))))))) .d))))) (.s .d .d))))
theorem ref02_Sum_calls {b : Sl} {K : Int → World → Prop} {w : World} (h : ref02_Sum b K w) : callV Pr (Value.int .u32) 27 #[b.val] w K :=
  calls_of Pr_plain Pr_mixed Pr_func27 ref02_Sum_ann (rI .u32) (args := [b.val]) (by kernel_rfl) h

/- changeover/crc.Text -/
def crc_Text (sum : Int) (K : (List UInt8) → World → Prop) (w : World) : Prop :=
  callV Pr sval 36 #[(.int .u64 (bOr .u64 (IntKind.u64.wrap sum) 4294967296)), (.int .i64 16)] w fun s1 w2 =>
  opRd Pr (Instr.sliceAt 9 (sval s1) (some (.int .i64 1)) none none) sval (fun t3 =>
  K t3 w2) w2
def crc_Text_ann : Ann := (.s .d (.s (.r [(3, .call rS)]) (.s (.r [(1, .rd rS)]) .d)))
theorem crc_Text_calls {sum : Int} {K : (List UInt8) → World → Prop} {w : World} (h : crc_Text sum K w) : callV Pr sval 28 #[(.int .u32 sum)] w K :=
  calls_of Pr_plain Pr_mixed Pr_func28 crc_Text_ann rS (args := [(.int .u32 sum)]) (by kernel_rfl) h

/- changeover/changeoverref02.Text -/
def ref02_Text (sum : Int) (K : (List UInt8) → World → Prop) (w : World) : Prop :=
  loop3 (sum : Int) ([] : List UInt8) (0 : Int) (fun sum1 s2 i3 k4 w5 =>
  ifB (decide (i3 < 8))
  (opRd Pr (Instr.sliceAt 9 (sval cs1) (some (.int .u32 (Int.tmod sum1 16))) (some (.int .u32 (IntKind.u32.wrap ((Int.tmod sum1 16) + 1)))) none) sval (fun t6 =>
  opRd Pr (binSem .add 9 (.tmp 14) (.tmp 15) (sval t6) (sval s2)) sval (fun s7 =>
  k4 (IntKind.u32.wrap (Int.tdiv sum1 16)) s7 (i64 (i3 + 1)) w5) w5) w5)
  (K s2 w5)) w
def ref02_Text_ann : Ann := (.s .d (.s .d (.s (.s .d (.b (.l [(.s 0, (rI .u32)), (.s 3, rS), (.s 4, (rI .i64))] (.s (.s .d (.c .d .d)) (.s (.b (.s (.r [(5, .rd rS), (7, .rd rS)]) .d)) .d))))) (.s .d .d))))
theorem ref02_Text_calls {sum : Int} {K : (List UInt8) → World → Prop} {w : World} (h : ref02_Text sum K w) : callV Pr sval 29 #[(.int .u32 sum)] w K :=
  calls_of Pr_plain Pr_mixed Pr_func29 ref02_Text_ann rS (args := [(.int .u32 sum)]) (by kernel_rfl) h

/- changeover/crc.Add -/
def crc_Add (sum : Int) (b : Sl) (K : Int → World → Prop) (w : World) : Prop :=
  loop2 ((bXor .u32 4294967295 sum) : Int) (0 : Int) (fun r1 t2 k3 w4 =>
  ifB (decide (t2 < (b.len : Int)))
  (opRd Pr (Instr.indexAt 32 b.val (.int .i64 t2)) pav (fun t5 =>
  opRd Pr (Instr.loadAt 5 (.pointer (some t5))) (Value.int .u8) (fun c6 =>
  callV Pr (Value.int .u32) 37 #[(.int .u32 r1), (.int .u8 c6)] w4 fun r7 w8 =>
  k3 r7 (i64 (t2 + 1)) w8) w4) w4)
  (K (bXor .u32 4294967295 r1) w4)) w
def crc_Add_ann : Ann := (.s .d (.s .d (.s (.s .d (.b (.l [(.s 5, (rI .u32)), (.s 12, (rI .i64))] (.s .d (.s (.c .d .d) (.s (.b (.s (.r [(0, .rd rPA), (1, .rd (rI .u8))]) (.r [(2, .call (rI .u32))]))) .d)))))) (.s .d .d))))
theorem crc_Add_calls {sum : Int} {b : Sl} {K : Int → World → Prop} {w : World} (h : crc_Add sum b K w) : callV Pr (Value.int .u32) 30 #[(.int .u32 sum), b.val] w K :=
  calls_of Pr_plain Pr_mixed Pr_func30 crc_Add_ann (rI .u32) (args := [(.int .u32 sum), b.val]) (by kernel_rfl) h

/- unicode/utf8.DecodeRuneInString -/
def unicode_utf8_DecodeRuneInString (s : List UInt8) (K : (Int × Int) → World → Prop) (w : World) : Prop :=
  ifB (!(strEq s []))
  (opRd Pr (Instr.index 9 (sval s) (.int .i64 0)) (Value.int .u8) (fun t1 =>
  ifB (decide (t1 < 128))
  (opRd Pr (Instr.index 9 (sval s) (.int .i64 0)) (Value.int .u8) (fun t2 =>
  K ((IntKind.i32.wrap t2), 1) w) w)
  (callV Pr (tval2 (Value.int .i32) (Value.int .i64)) 38 #[(sval s)] w fun t3 w4 =>
  K (t3.1, t3.2) w4)) w)
  (callV Pr (tval2 (Value.int .i32) (Value.int .i64)) 38 #[(sval s)] w fun t5 w6 =>
  K (t5.1, t5.2) w6)
def unicode_utf8_DecodeRuneInString_ann : Ann := (.s .d (.s (.s (.r [(4, .rd (rI .u8))]) (.c (.s (.r [(1, .rd (rI .u8))]) .d) (.r [(1, .call (rT2 (rI .i32) (rI .i64)))]))) .d))
theorem unicode_utf8_DecodeRuneInString_calls {s : List UInt8} {K : (Int × Int) → World → Prop} {w : World} (h : unicode_utf8_DecodeRuneInString s K w) : callV Pr (tval2 (Value.int .i32) (Value.int .i64)) 31 #[(sval s)] w K :=
  calls_of Pr_plain Pr_mixed Pr_func31 unicode_utf8_DecodeRuneInString_ann (rT2 (rI .i32) (rI .i64)) (args := [(sval s)]) (by kernel_rfl) h

/- changeover/changeoverref05.Size -/
def ref05_Size (s : List UInt8) (i : Int) (K : (Int × Int) → World → Prop) (w : World) : Prop :=
  opRd Pr (Instr.index 9 (sval s) (.int .i64 i)) (Value.int .u8) (fun t1 =>
  join3 (fun (j2 : Int → Int → Int → World → Prop) =>
  ifB (decide ((IntKind.i64.wrap t1) < 128))
  (K (1, (IntKind.i64.wrap t1)) w)
  (ifB (decide ((IntKind.i64.wrap t1) ≥ 194))
  (ifB (decide ((IntKind.i64.wrap t1) ≤ 223))
  (j2 2 128 (i64 ((IntKind.i64.wrap t1) - 192)) w)
  (ifB (decide ((IntKind.i64.wrap t1) ≥ 224))
  (ifB (decide ((IntKind.i64.wrap t1) ≤ 239))
  (j2 3 2048 (i64 ((IntKind.i64.wrap t1) - 224)) w)
  (ifB (decide ((IntKind.i64.wrap t1) ≥ 240))
  (ifB (decide ((IntKind.i64.wrap t1) ≤ 244))
  (j2 4 65536 (i64 ((IntKind.i64.wrap t1) - 240)) w)
  (K (0, 0) w))
  (K (0, 0) w)))
  (ifB (decide ((IntKind.i64.wrap t1) ≥ 240))
  (ifB (decide ((IntKind.i64.wrap t1) ≤ 244))
  (j2 4 65536 (i64 ((IntKind.i64.wrap t1) - 240)) w)
  (K (0, 0) w))
  (K (0, 0) w))))
  (ifB (decide ((IntKind.i64.wrap t1) ≥ 224))
  (ifB (decide ((IntKind.i64.wrap t1) ≤ 239))
  (j2 3 2048 (i64 ((IntKind.i64.wrap t1) - 224)) w)
  (ifB (decide ((IntKind.i64.wrap t1) ≥ 240))
  (ifB (decide ((IntKind.i64.wrap t1) ≤ 244))
  (j2 4 65536 (i64 ((IntKind.i64.wrap t1) - 240)) w)
  (K (0, 0) w))
  (K (0, 0) w)))
  (ifB (decide ((IntKind.i64.wrap t1) ≥ 240))
  (ifB (decide ((IntKind.i64.wrap t1) ≤ 244))
  (j2 4 65536 (i64 ((IntKind.i64.wrap t1) - 240)) w)
  (K (0, 0) w))
  (K (0, 0) w)))))
  (fun n3 low4 v5 w6 =>
  ifB (decide ((i64 (i + n3)) > ((s : List UInt8).length : Int)))
  (K (0, 0) w6)
  (loop2 (v5 : Int) (1 : Int) (fun v7 k8 k9 w10 =>
  ifB (decide (k8 < n3))
  (opRd Pr (Instr.index 9 (sval s) (.int .i64 (i64 (i + k8)))) (Value.int .u8) (fun t11 =>
  ifB (decide ((IntKind.i64.wrap t11) < 128))
  (K (0, 0) w10)
  (ifB (decide ((IntKind.i64.wrap t11) > 191))
  (K (0, 0) w10)
  (k9 (i64 ((i64 ((i64 (64 * v7)) + (IntKind.i64.wrap t11))) - 128)) (i64 (k8 + 1)) w10))) w10)
  (ifB (decide (v7 < low4))
  (K (0, 0) w10)
  (ifB (decide (v7 > 1114111))
  (K (0, 0) w10)
  (ifB (decide (v7 ≥ 55296))
  (ifB (decide (v7 ≤ 57343))
  (K (0, 0) w10)
  (K (n3, v7) w10))
  (K (n3, v7) w10))))) w6))) w
def ref05_Size_ann : Ann := (.s .d (.s (.r [(2, .rd (rI .u8))]) (.s .d (.sj [(.s 7, (rI .i64)), (.s 8, (rI .i64)), (.s 9, (rI .i64))] (.b (.s .d (.c (.s .d .d) (.s .d (.c .d (.s .d (.c .d (.s .d (.c .d (.s .d .d)))))))))) (.s (.s .d (.c (.s .d .d) .d)) (.s (.s .d (.b (.l [(.s 9, (rI .i64)), (.s 10, (rI .i64))] (.s (.s .d (.c .d .d)) (.s (.b (.s (.r [(4, .rd (rI .u8))]) (.s (.s .d (.c (.s .d .d) .d)) .d))) .d))))) (.s (.s .d (.c (.s .d .d) .d)) (.s .d .d))))))))
theorem ref05_Size_calls {s : List UInt8} {i : Int} {K : (Int × Int) → World → Prop} {w : World} (h : ref05_Size s i K w) : callV Pr (tval2 (Value.int .i64) (Value.int .i64)) 32 #[(sval s), (.int .i64 i)] w K :=
  calls_of Pr_plain Pr_mixed Pr_func32 ref05_Size_ann (rT2 (rI .i64) (rI .i64)) (args := [(sval s), (.int .i64 i)]) (by kernel_rfl) h

/- changeover/runes.Val$1 -/
def runes_Val_1 (r : Int) (K : Bool → World → Prop) (w : World) : Prop :=
  ifB (decide (r ≥ 32))
  (K (r != 127) w)
  (K false w)
def runes_Val_1_ann : Ann := (.s .d (.s .d .d))
theorem runes_Val_1_calls {r : Int} {K : Bool → World → Prop} {w : World} (h : runes_Val_1 r K w) : callV Pr Value.bool 34 #[(.int .i32 r)] w K :=
  calls_of Pr_plain Pr_mixed Pr_func34 runes_Val_1_ann rB (args := [(.int .i32 r)]) (by kernel_rfl) h

/- changeover/runes.small -/
def runes_small (r : Int) (K : Int → World → Prop) (w : World) : Prop :=
  ifB (decide (r ≥ 65))
  (ifB (decide (r ≤ 90))
  (K (IntKind.i32.wrap ((IntKind.i32.wrap (r + 97)) - 65)) w)
  (K r w))
  (K r w)
def runes_small_ann : Ann := (.s .d (.s (.s .d (.c (.s .d .d) .d)) (.s .d .d)))
theorem runes_small_calls {r : Int} {K : Int → World → Prop} {w : World} (h : runes_small r K w) : callV Pr (Value.int .i32) 35 #[(.int .i32 r)] w K :=
  calls_of Pr_plain Pr_mixed Pr_func35 runes_small_ann (rI .i32) (args := [(.int .i32 r)]) (by kernel_rfl) h

/- strconv.FormatUint -/
def strconv_FormatUint (i : Int) (base : Int) (K : (List UInt8) → World → Prop) (w : World) : Prop :=
  callV Pr sval 39 #[(.int .u64 i), (.int .i64 base)] w fun t1 w2 =>
  K t1 w2
def strconv_FormatUint_ann : Ann := (.s .d (.s (.r [(2, .call rS)]) .d))
theorem strconv_FormatUint_calls {i : Int} {base : Int} {K : (List UInt8) → World → Prop} {w : World} (h : strconv_FormatUint i base K w) : callV Pr sval 36 #[(.int .u64 i), (.int .i64 base)] w K :=
  calls_of Pr_plain Pr_mixed Pr_func36 strconv_FormatUint_ann rS (args := [(.int .u64 i), (.int .i64 base)]) (by kernel_rfl) h

/- changeover/crc.turn -/
def crc_turn (r : Int) (c : Int) (K : Int → World → Prop) (w : World) : Prop :=
  opRd Pr (Instr.indexAt 51 (.pointer (some g_crc_table)) (.int .u32 (bAnd .u32 (bXor .u32 r (IntKind.u32.wrap c)) 15))) pav (fun t1 =>
  opRd Pr (Instr.loadAt 33 (.pointer (some t1))) (Value.int .u32) (fun t2 =>
  opRd Pr (Instr.indexAt 51 (.pointer (some g_crc_table)) (.int .u32 (bAnd .u32 (bXor .u32 (shR .u32 (bXor .u32 r (IntKind.u32.wrap c)) 4) t2) 15))) pav (fun t3 =>
  opRd Pr (Instr.loadAt 33 (.pointer (some t3))) (Value.int .u32) (fun t4 =>
  K (bXor .u32 (shR .u32 (bXor .u32 (shR .u32 (bXor .u32 r (IntKind.u32.wrap c)) 4) t2) 4) t4) w) w) w) w) w
def crc_turn_ann : Ann := (.s .d (.s .d (.s (.r [(4, .rd rPA), (5, .rd (rI .u32))]) (.s (.r [(4, .rd rPA), (5, .rd (rI .u32))]) .d))))
theorem crc_turn_calls {r : Int} {c : Int} {K : Int → World → Prop} {w : World} (h : crc_turn r c K w) : callV Pr (Value.int .u32) 37 #[(.int .u32 r), (.int .u8 c)] w K :=
  calls_of Pr_plain Pr_mixed Pr_func37 crc_turn_ann (rI .u32) (args := [(.int .u32 r), (.int .u8 c)]) (by kernel_rfl) h

/- unicode/utf8.decodeRuneInStringSlow -/
def unicode_utf8_decodeRuneInStringSlow (s : List UInt8) (K : (Int × Int) → World → Prop) (w : World) : Prop :=
  ifB (decide (((s : List UInt8).length : Int) < 1))
  (K (65533, 0) w)
  (opRd Pr (Instr.index 9 (sval s) (.int .i64 0)) (Value.int .u8) (fun s01 =>
  opRd Pr (Instr.indexAt 52 (.pointer (some g_unicode_utf8_first)) (.int .u8 s01)) pav (fun t2 =>
  opRd Pr (Instr.loadAt 5 (.pointer (some t2))) (Value.int .u8) (fun x3 =>
  ifB (decide (x3 ≥ 240))
  (opRd Pr (Instr.index 9 (sval s) (.int .i64 0)) (Value.int .u8) (fun t4 =>
  K ((bOr .i32 (bAndNot .i32 (IntKind.i32.wrap t4) (shR .i32 (shL .i32 (IntKind.i32.wrap x3) 31) 31)) (bAnd .i32 65533 (shR .i32 (shL .i32 (IntKind.i32.wrap x3) 31) 31))), 1) w) w)
  (opRd Pr (Instr.indexAt 55 (.pointer (some g_unicode_utf8_acceptRanges)) (.int .u8 (shR .u8 x3 4))) pav (fun t5 =>
  opRd Pr (Instr.loadAt 54 (.pointer (some t5))) Utf8AcceptRange.val (fun t6 =>
  newV (fun b7 w8 =>
  wrM b7 (fun w9 =>
  ifB (decide (((s : List UInt8).length : Int) < (IntKind.i64.wrap (bAnd .u8 x3 7))))
  (K (65533, 1) w9)
  (opRd Pr (Instr.index 9 (sval s) (.int .i64 1)) (Value.int .u8) (fun s110 =>
  ifB (decide (s110 < t6.lo))
  (K (65533, 1) w9)
  (ifB (decide (t6.hi < s110))
  (K (65533, 1) w9)
  (ifB (decide ((IntKind.i64.wrap (bAnd .u8 x3 7)) ≤ 2))
  (K ((bOr .i32 (shL .i32 (IntKind.i32.wrap (bAnd .u8 s01 31)) 6) (IntKind.i32.wrap (bAnd .u8 s110 63))), 2) w9)
  (opRd Pr (Instr.index 9 (sval s) (.int .i64 2)) (Value.int .u8) (fun s211 =>
  ifB (decide (s211 < 128))
  (K (65533, 1) w9)
  (ifB (decide ((191 : Int) < s211))
  (K (65533, 1) w9)
  (ifB (decide ((IntKind.i64.wrap (bAnd .u8 x3 7)) ≤ 3))
  (K ((bOr .i32 (bOr .i32 (shL .i32 (IntKind.i32.wrap (bAnd .u8 s01 15)) 12) (shL .i32 (IntKind.i32.wrap (bAnd .u8 s110 63)) 6)) (IntKind.i32.wrap (bAnd .u8 s211 63))), 3) w9)
  (opRd Pr (Instr.index 9 (sval s) (.int .i64 3)) (Value.int .u8) (fun s312 =>
  ifB (decide (s312 < 128))
  (K (65533, 1) w9)
  (ifB (decide ((191 : Int) < s312))
  (K (65533, 1) w9)
  (K ((bOr .i32 (bOr .i32 (bOr .i32 (shL .i32 (IntKind.i32.wrap (bAnd .u8 s01 7)) 18) (shL .i32 (IntKind.i32.wrap (bAnd .u8 s110 63)) 12)) (shL .i32 (IntKind.i32.wrap (bAnd .u8 s211 63)) 6)) (IntKind.i32.wrap (bAnd .u8 s312 63))), 4) w9))) w9)))) w9)))) w9)) w8) w) w) w)) w) w) w)
def unicode_utf8_decodeRuneInStringSlow_ann : Ann := (.s .d (.s .d (.s (.s .d (.c (.s .d .d) .d)) (.s (.r [(1, .rd (rI .u8))]) (.s (.r [(1, .rd rPA), (2, .rd (rI .u8))]) (.s (.s .d (.c (.s .d (.s (.r [(1, .rd (rI .u8))]) .d)) .d)) (.s .d (.s (.r [(2, .rd rPA), (3, .rd rUtf8AcceptRange), (4, .nl 9), (5, .ls 9)]) (.s (.s .d (.c (.s .d .d) .d)) (.s (.r [(1, .rd (rI .u8))]) (.s (.s .d (.c (.s .d .d) .d)) (.s (.s .d (.c (.s .d .d) .d)) (.s (.r [(1, .rd (rI .u8))]) (.s (.s .d (.c (.s .d .d) .d)) (.s (.s .d (.c (.s .d .d) .d)) (.s (.r [(1, .rd (rI .u8))]) (.s (.s .d (.c (.s .d .d) .d)) (.s .d .d))))))))))))))))))
theorem unicode_utf8_decodeRuneInStringSlow_calls {s : List UInt8} {K : (Int × Int) → World → Prop} {w : World} (h : unicode_utf8_decodeRuneInStringSlow s K w) : callV Pr (tval2 (Value.int .i32) (Value.int .i64)) 38 #[(sval s)] w K :=
  calls_of Pr_plain Pr_mixed Pr_func38 unicode_utf8_decodeRuneInStringSlow_ann (rT2 (rI .i32) (rI .i64)) (args := [(sval s)]) (by kernel_rfl) h

/- internal/strconv.FormatUint -/
def internal_strconv_FormatUint (i : Int) (base : Int) (K : (List UInt8) → World → Prop) (w : World) : Prop :=
  ifB (base == 10)
  (ifB (decide (i < 100))
  (callV Pr sval 40 #[(.int .i64 (IntKind.i64.wrap i))] w fun t1 w2 =>
  K t1 w2)
  (opTy Pr (Instr.alloc 57 true (.tuple #[])) pav (fun a3 w4 =>
  callV Pr (Value.int .i64) 41 #[(.int .u64 i)] w4 fun nd5 w6 =>
  opRd Pr (Instr.sliceAt 57 (.pointer (some a3)) none (some (.int .i64 nd5)) none) Sl.val (fun t7 =>
  callV Pr uval 42 #[t7.val, (.int .u64 i)] w6 fun t8 w9 =>
  opRd Pr (Instr.sliceAt 57 (.pointer (some a3)) none (some (.int .i64 nd5)) none) Sl.val (fun t10 =>
  opRd Pr (convert 32 9 t10.val) sval (fun t11 =>
  K t11 w9) w9) w9) w6) w))
  (callV Pr (tval2 Sl.val sval) 43 #[Sl.nil.val, (.int .u64 i), (.int .i64 base), (.bool false), (.bool false)] w fun t12 w13 =>
  K t12.2 w13)
def internal_strconv_FormatUint_ann : Ann := (.s .d (.s (.s .d (.c (.s (.s .d (.c (.s (.r [(2, .call rS)]) .d) .d)) (.s (.r [(0, .ty rPA)]) (.s (.r [(1, .call (rI .i64))]) (.s (.r [(1, .rd rSl), (3, .call rU)]) (.s (.r [(1, .rd rSl), (2, .rd rS)]) .d))))) .d)) (.s (.r [(2, .call (rT2 rSl rS))]) (.s .d .d))))
theorem internal_strconv_FormatUint_calls {i : Int} {base : Int} {K : (List UInt8) → World → Prop} {w : World} (h : internal_strconv_FormatUint i base K w) : callV Pr sval 39 #[(.int .u64 i), (.int .i64 base)] w K :=
  calls_of Pr_plain Pr_mixed Pr_func39 internal_strconv_FormatUint_ann rS (args := [(.int .u64 i), (.int .i64 base)]) (by kernel_rfl) h

/- internal/strconv.small -/
def internal_strconv_small (i : Int) (K : (List UInt8) → World → Prop) (w : World) : Prop :=
  ifB (decide (i < 10))
  (opRd Pr (Instr.sliceAt 9 (sval cs2) (some (.int .i64 i)) (some (.int .i64 (i64 (i + 1)))) none) sval (fun t1 =>
  K t1 w) w)
  (opRd Pr (Instr.sliceAt 9 (sval cs3) (some (.int .i64 (i64 (i * 2)))) (some (.int .i64 (i64 ((i64 (i * 2)) + 2)))) none) sval (fun t2 =>
  K t2 w) w)
def internal_strconv_small_ann : Ann := (.s .d (.s (.s .d (.c (.s (.r [(3, .rd rS)]) .d) .d)) (.s (.r [(5, .rd rS)]) .d)))
theorem internal_strconv_small_calls {i : Int} {K : (List UInt8) → World → Prop} {w : World} (h : internal_strconv_small i K w) : callV Pr sval 40 #[(.int .i64 i)] w K :=
  calls_of Pr_plain Pr_mixed Pr_func40 internal_strconv_small_ann rS (args := [(.int .i64 i)]) (by kernel_rfl) h

/- internal/strconv.numDigits -/
def internal_strconv_numDigits (d : Int) (K : Int → World → Prop) (w : World) : Prop :=
  callV Pr (Value.int .i64) 45 #[(.int .u64 d)] w fun t1 w2 =>
  callV Pr (Value.int .i64) 44 #[(.int .i64 t1)] w2 fun nd3 w4 =>
  opRd Pr (Instr.indexAt 64 (.pointer (some g_internal_strconv_uint64pow10)) (.int .i64 nd3)) pav (fun t5 =>
  opRd Pr (Instr.loadAt 48 (.pointer (some t5))) (Value.int .u64) (fun t6 =>
  callV Pr (Value.int .i64) 46 #[(.bool (decide (d ≥ t6)))] w4 fun t7 w8 =>
  K (i64 (nd3 + t7)) w8) w4) w4
def internal_strconv_numDigits_ann : Ann := (.s .d (.s (.r [(1, .call (rI .i64)), (2, .call (rI .i64))]) (.s (.r [(3, .rd rPA), (4, .rd (rI .u64)), (6, .call (rI .i64))]) .d)))
theorem internal_strconv_numDigits_calls {d : Int} {K : Int → World → Prop} {w : World} (h : internal_strconv_numDigits d K w) : callV Pr (Value.int .i64) 41 #[(.int .u64 d)] w K :=
  calls_of Pr_plain Pr_mixed Pr_func41 internal_strconv_numDigits_ann (rI .i64) (args := [(.int .u64 d)]) (by kernel_rfl) h

/- internal/strconv.formatBase10 -/
def internal_strconv_formatBase10 (a : Sl) (u : Int) (K : Unit → World → Prop) (w : World) : Prop :=
  loop2 (u : Int) ((a.len : Int) : Int) (fun u1 nd2 k3 w4 =>
  ifB (decide (nd2 ≥ 8))
  (heldM (fun S6 w5 =>
  opH Pr S6 (Instr.index 9 (sval cs3) (.int .u32 (IntKind.u32.wrap ((IntKind.u32.wrap ((Int.tmod (Int.tmod (IntKind.u32.wrap (Int.tmod u1 100000000)) 10000) 100) * 2)) + 1)))) (Value.int .u8) (fun t7 =>
  opH Pr S6 (Instr.index 9 (sval cs3) (.int .u32 (IntKind.u32.wrap ((Int.tmod (Int.tmod (IntKind.u32.wrap (Int.tmod u1 100000000)) 10000) 100) * 2)))) (Value.int .u8) (fun t8 =>
  opH Pr S6 (Instr.indexAt 32 a.val (.int .i64 (i64 (nd2 - 1)))) pav (fun t9 =>
  opUn Pr (Instr.storeAt 5 (.pointer (some t9)) (.int .u8 t7)) (fun w10 =>
  (S6 w10) ∧
  (opH Pr S6 (Instr.indexAt 32 a.val (.int .i64 (i64 (nd2 - 2)))) pav (fun t11 =>
  opUn Pr (Instr.storeAt 5 (.pointer (some t11)) (.int .u8 t8)) (fun w12 =>
  (S6 w12) ∧
  (heldM (fun S14 w13 =>
  opH Pr S14 (Instr.index 9 (sval cs3) (.int .u32 (IntKind.u32.wrap ((IntKind.u32.wrap ((IntKind.u32.wrap (Int.tdiv (Int.tmod (IntKind.u32.wrap (Int.tmod u1 100000000)) 10000) 100)) * 2)) + 1)))) (Value.int .u8) (fun t15 =>
  opH Pr S14 (Instr.index 9 (sval cs3) (.int .u32 (IntKind.u32.wrap ((IntKind.u32.wrap (Int.tdiv (Int.tmod (IntKind.u32.wrap (Int.tmod u1 100000000)) 10000) 100)) * 2)))) (Value.int .u8) (fun t16 =>
  opH Pr S14 (Instr.indexAt 32 a.val (.int .i64 (i64 (nd2 - 3)))) pav (fun t17 =>
  opUn Pr (Instr.storeAt 5 (.pointer (some t17)) (.int .u8 t15)) (fun w18 =>
  (S14 w18) ∧
  (opH Pr S14 (Instr.indexAt 32 a.val (.int .i64 (i64 (nd2 - 4)))) pav (fun t19 =>
  opUn Pr (Instr.storeAt 5 (.pointer (some t19)) (.int .u8 t16)) (fun w20 =>
  (S14 w20) ∧
  (heldM (fun S22 w21 =>
  opH Pr S22 (Instr.index 9 (sval cs3) (.int .u32 (IntKind.u32.wrap ((IntKind.u32.wrap ((Int.tmod (IntKind.u32.wrap (Int.tdiv (IntKind.u32.wrap (Int.tmod u1 100000000)) 10000)) 100) * 2)) + 1)))) (Value.int .u8) (fun t23 =>
  opH Pr S22 (Instr.index 9 (sval cs3) (.int .u32 (IntKind.u32.wrap ((Int.tmod (IntKind.u32.wrap (Int.tdiv (IntKind.u32.wrap (Int.tmod u1 100000000)) 10000)) 100) * 2)))) (Value.int .u8) (fun t24 =>
  opH Pr S22 (Instr.indexAt 32 a.val (.int .i64 (i64 (nd2 - 5)))) pav (fun t25 =>
  opUn Pr (Instr.storeAt 5 (.pointer (some t25)) (.int .u8 t23)) (fun w26 =>
  (S22 w26) ∧
  (opH Pr S22 (Instr.indexAt 32 a.val (.int .i64 (i64 (nd2 - 6)))) pav (fun t27 =>
  opUn Pr (Instr.storeAt 5 (.pointer (some t27)) (.int .u8 t24)) (fun w28 =>
  (S22 w28) ∧
  (heldM (fun S30 w29 =>
  opH Pr S30 (Instr.index 9 (sval cs3) (.int .u32 (IntKind.u32.wrap ((IntKind.u32.wrap ((IntKind.u32.wrap (Int.tdiv (IntKind.u32.wrap (Int.tdiv (IntKind.u32.wrap (Int.tmod u1 100000000)) 10000)) 100)) * 2)) + 1)))) (Value.int .u8) (fun t31 =>
  opH Pr S30 (Instr.index 9 (sval cs3) (.int .u32 (IntKind.u32.wrap ((IntKind.u32.wrap (Int.tdiv (IntKind.u32.wrap (Int.tdiv (IntKind.u32.wrap (Int.tmod u1 100000000)) 10000)) 100)) * 2)))) (Value.int .u8) (fun t32 =>
  opH Pr S30 (Instr.indexAt 32 a.val (.int .i64 (i64 (nd2 - 7)))) pav (fun t33 =>
  opUn Pr (Instr.storeAt 5 (.pointer (some t33)) (.int .u8 t31)) (fun w34 =>
  (S30 w34) ∧
  (opH Pr S30 (Instr.indexAt 32 a.val (.int .i64 (i64 (nd2 - 8)))) pav (fun t35 =>
  opUn Pr (Instr.storeAt 5 (.pointer (some t35)) (.int .u8 t32)) (fun w36 =>
  (S30 w36) ∧
  (k3 (IntKind.u64.wrap (Int.tdiv u1 100000000)) (i64 (nd2 - 8)) w36)) w34))) w29)))) w28)) w26))) w21)))) w20)) w18))) w13)))) w12)) w10))) w5)))) w4)
  (join2 (fun (j37 : Int → Int → World → Prop) =>
  ifB (decide (nd2 ≥ 4))
  (heldM (fun S39 w38 =>
  opH Pr S39 (Instr.index 9 (sval cs3) (.int .u32 (IntKind.u32.wrap ((IntKind.u32.wrap ((Int.tmod (Int.tmod (IntKind.u32.wrap u1) 10000) 100) * 2)) + 1)))) (Value.int .u8) (fun t40 =>
  opH Pr S39 (Instr.index 9 (sval cs3) (.int .u32 (IntKind.u32.wrap ((Int.tmod (Int.tmod (IntKind.u32.wrap u1) 10000) 100) * 2)))) (Value.int .u8) (fun t41 =>
  opH Pr S39 (Instr.indexAt 32 a.val (.int .i64 (i64 (nd2 - 1)))) pav (fun t42 =>
  opUn Pr (Instr.storeAt 5 (.pointer (some t42)) (.int .u8 t40)) (fun w43 =>
  (S39 w43) ∧
  (opH Pr S39 (Instr.indexAt 32 a.val (.int .i64 (i64 (nd2 - 2)))) pav (fun t44 =>
  opUn Pr (Instr.storeAt 5 (.pointer (some t44)) (.int .u8 t41)) (fun w45 =>
  (S39 w45) ∧
  (heldM (fun S47 w46 =>
  opH Pr S47 (Instr.index 9 (sval cs3) (.int .u32 (IntKind.u32.wrap ((IntKind.u32.wrap ((IntKind.u32.wrap (Int.tdiv (Int.tmod (IntKind.u32.wrap u1) 10000) 100)) * 2)) + 1)))) (Value.int .u8) (fun t48 =>
  opH Pr S47 (Instr.index 9 (sval cs3) (.int .u32 (IntKind.u32.wrap ((IntKind.u32.wrap (Int.tdiv (Int.tmod (IntKind.u32.wrap u1) 10000) 100)) * 2)))) (Value.int .u8) (fun t49 =>
  opH Pr S47 (Instr.indexAt 32 a.val (.int .i64 (i64 (nd2 - 3)))) pav (fun t50 =>
  opUn Pr (Instr.storeAt 5 (.pointer (some t50)) (.int .u8 t48)) (fun w51 =>
  (S47 w51) ∧
  (opH Pr S47 (Instr.indexAt 32 a.val (.int .i64 (i64 (nd2 - 4)))) pav (fun t52 =>
  opUn Pr (Instr.storeAt 5 (.pointer (some t52)) (.int .u8 t49)) (fun w53 =>
  (S47 w53) ∧
  (j37 (i64 (nd2 - 4)) (IntKind.u32.wrap (Int.tdiv (IntKind.u32.wrap u1) 10000)) w53)) w51))) w46)))) w45)) w43))) w38)))) w4)
  (j37 nd2 (IntKind.u32.wrap u1) w4))
  (fun nd54 x55 w56 =>
  ifB (decide (nd54 ≥ 2))
  (heldM (fun S58 w57 =>
  opH Pr S58 (Instr.index 9 (sval cs3) (.int .u32 (IntKind.u32.wrap ((IntKind.u32.wrap ((Int.tmod x55 100) * 2)) + 1)))) (Value.int .u8) (fun t59 =>
  opH Pr S58 (Instr.index 9 (sval cs3) (.int .u32 (IntKind.u32.wrap ((Int.tmod x55 100) * 2)))) (Value.int .u8) (fun t60 =>
  opH Pr S58 (Instr.indexAt 32 a.val (.int .i64 (i64 (nd54 - 1)))) pav (fun t61 =>
  opUn Pr (Instr.storeAt 5 (.pointer (some t61)) (.int .u8 t59)) (fun w62 =>
  (S58 w62) ∧
  (opH Pr S58 (Instr.indexAt 32 a.val (.int .i64 (i64 (nd54 - 2)))) pav (fun t63 =>
  opUn Pr (Instr.storeAt 5 (.pointer (some t63)) (.int .u8 t60)) (fun w64 =>
  (S58 w64) ∧
  (ifB (decide ((i64 (nd54 - 2)) > 0))
  (opRd Pr (Instr.indexAt 32 a.val (.int .i64 0)) pav (fun t65 =>
  opUn Pr (Instr.storeAt 5 (.pointer (some t65)) (.int .u8 (IntKind.u8.wrap (IntKind.u32.wrap (48 + (IntKind.u32.wrap (Int.tdiv x55 100))))))) (fun w66 =>
  K () w66) w64) w64)
  (K () w64))) w62))) w57)))) w56)
  (ifB (decide (nd54 > 0))
  (opRd Pr (Instr.indexAt 32 a.val (.int .i64 0)) pav (fun t67 =>
  opUn Pr (Instr.storeAt 5 (.pointer (some t67)) (.int .u8 (IntKind.u8.wrap (IntKind.u32.wrap (48 + x55))))) (fun w68 =>
  K () w68) w56) w56)
  (K () w56))))) w
def internal_strconv_formatBase10_ann : Ann := (.s .d (.s (.b (.l [(.s 1, (rI .u64)), (.s 4, (rI .i64))] (.s (.s .d (.c .d .d)) (.b (.s .d (.s .d (.s .d (.s .d (.s .d (.s (.h (.take 0 (.take 1 (.take 2 (.take 3 (.take 4 (.take 5 (.take 6 (.take 7 (.take 8 (.take 9 (.take 10 (.take 11 (.one 12 (.take 13 (.one 14 .done))))))))))))))) [(8, .rd (rI .u8)), (10, .rd (rI .u8)), (11, .rd rPA), (12, .un), (13, .rd rPA), (14, .un)]) (.s (.h (.take 0 (.take 1 (.take 2 (.take 3 (.take 4 (.take 5 (.take 6 (.take 7 (.take 8 (.take 9 (.take 10 (.take 11 (.one 12 (.take 13 (.one 14 .done))))))))))))))) [(8, .rd (rI .u8)), (10, .rd (rI .u8)), (11, .rd rPA), (12, .un), (13, .rd rPA), (14, .un)]) (.s (.h (.take 0 (.take 1 (.take 2 (.take 3 (.take 4 (.take 5 (.take 6 (.take 7 (.take 8 (.take 9 (.take 10 (.take 11 (.one 12 (.take 13 (.one 14 .done))))))))))))))) [(8, .rd (rI .u8)), (10, .rd (rI .u8)), (11, .rd rPA), (12, .un), (13, .rd rPA), (14, .un)]) (.s (.h (.take 0 (.take 1 (.take 2 (.take 3 (.take 4 (.take 5 (.take 6 (.take 7 (.take 8 (.take 9 (.take 10 (.take 11 (.one 12 (.take 13 (.one 14 .done))))))))))))))) [(8, .rd (rI .u8)), (10, .rd (rI .u8)), (11, .rd rPA), (12, .un), (13, .rd rPA), (14, .un)]) .d))))))))))))) (.s .d (.sj [(.s 4, (rI .i64)), (.s 12, (rI .u32))] (.s .d (.c (.s .d (.s .d (.s .d (.s (.h (.take 0 (.take 1 (.take 2 (.take 3 (.take 4 (.take 5 (.take 6 (.take 7 (.take 8 (.take 9 (.take 10 (.take 11 (.one 12 (.take 13 (.one 14 .done))))))))))))))) [(8, .rd (rI .u8)), (10, .rd (rI .u8)), (11, .rd rPA), (12, .un), (13, .rd rPA), (14, .un)]) (.s (.h (.take 0 (.take 1 (.take 2 (.take 3 (.take 4 (.take 5 (.take 6 (.take 7 (.take 8 (.take 9 (.take 10 (.take 11 (.one 12 (.take 13 (.one 14 .done))))))))))))))) [(8, .rd (rI .u8)), (10, .rd (rI .u8)), (11, .rd rPA), (12, .un), (13, .rd rPA), (14, .un)]) .d))))) .d)) (.s (.s .d (.c (.s .d (.s .d (.s (.h (.take 0 (.take 1 (.take 2 (.take 3 (.take 4 (.take 5 (.take 6 (.take 7 (.take 8 (.take 9 (.take 10 (.take 11 (.one 12 (.take 13 (.one 14 .done))))))))))))))) [(8, .rd (rI .u8)), (10, .rd (rI .u8)), (11, .rd rPA), (12, .un), (13, .rd rPA), (14, .un)]) .d))) .d)) (.s .d (.c (.r [(4, .rd rPA), (5, .un)]) .d)))))))
theorem internal_strconv_formatBase10_calls {a : Sl} {u : Int} {K : Unit → World → Prop} {w : World} (h : internal_strconv_formatBase10 a u K w) : callV Pr uval 42 #[a.val, (.int .u64 u)] w K :=
  calls_of Pr_plain Pr_mixed Pr_func42 internal_strconv_formatBase10_ann rU (args := [a.val, (.int .u64 u)]) (by kernel_rfl) h

/- internal/strconv.formatBits -/
def internal_strconv_formatBits (dst : Sl) (u : Int) (base : Int) (neg : Bool) (append : Bool) (K : (Sl × (List UInt8)) → World → Prop) (w : World) : Prop :=
  ifB (decide (base < 2))
  (False)
  (ifB (base == 10)
  (False)
  (ifB (decide (base > 36))
  (False)
  (opTy Pr (Instr.alloc 65 true (.tuple #[])) pav (fun a1 w2 =>
  join1 (fun (j3 : Int → World → Prop) =>
  ifB neg
  (j3 (IntKind.u64.wrap (0 - u)) w2)
  (j3 u w2))
  (fun u4 w5 =>
  join1 (fun (j6 : Int → World → Prop) =>
  callV Pr Value.bool 47 #[(.int .i64 base)] w5 fun t7 w8 =>
  ifB t7
  (callV Pr (Value.int .i64) 48 #[(.int .u64 (IntKind.u64.wrap base))] w8 fun t9 w10 =>
  loop2 (u4 : Int) (65 : Int) (fun u11 i12 k13 w14 =>
  ifB (decide (u11 ≥ (IntKind.u64.wrap base)))
  (opRd Pr (Instr.index 9 (sval cs2) (.int .u64 (bAnd .u64 u11 (IntKind.u64.wrap ((IntKind.u64.wrap base) - 1))))) (Value.int .u8) (fun t15 =>
  opRd Pr (Instr.indexAt 65 (.pointer (some a1)) (.int .i64 (i64 (i12 - 1)))) pav (fun t16 =>
  opUn Pr (Instr.storeAt 5 (.pointer (some t16)) (.int .u8 t15)) (fun w17 =>
  opRd Pr (binSem .shr 48 (.tmp 55) (.tmp 56) (.int .u64 u11) (.int .u64 (IntKind.u64.wrap t9))) (Value.int .u64) (fun u18 =>
  k13 u18 (i64 (i12 - 1)) w17) w17) w14) w14) w14)
  (opRd Pr (Instr.index 9 (sval cs2) (.int .u64 u11)) (Value.int .u8) (fun t19 =>
  opRd Pr (Instr.indexAt 65 (.pointer (some a1)) (.int .i64 (i64 (i12 - 1)))) pav (fun t20 =>
  opUn Pr (Instr.storeAt 5 (.pointer (some t20)) (.int .u8 t19)) (fun w21 =>
  j6 (i64 (i12 - 1)) w21) w14) w14) w14)) w10)
  (loop2 (u4 : Int) (65 : Int) (fun u22 i23 k24 w25 =>
  ifB (decide (u22 ≥ (IntKind.u64.wrap base)))
  (opRd Pr (binSem .quo 48 (.tmp 71) (.tmp 72) (.int .u64 u22) (.int .u64 (IntKind.u64.wrap base))) (Value.int .u64) (fun q26 =>
  opRd Pr (Instr.index 9 (sval cs2) (.int .u64 (IntKind.u64.wrap (u22 - (IntKind.u64.wrap (q26 * (IntKind.u64.wrap base))))))) (Value.int .u8) (fun t27 =>
  opRd Pr (Instr.indexAt 65 (.pointer (some a1)) (.int .i64 (i64 (i23 - 1)))) pav (fun t28 =>
  opUn Pr (Instr.storeAt 5 (.pointer (some t28)) (.int .u8 t27)) (fun w29 =>
  k24 q26 (i64 (i23 - 1)) w29) w25) w25) w25) w25)
  (opRd Pr (Instr.index 9 (sval cs2) (.int .u64 u22)) (Value.int .u8) (fun t30 =>
  opRd Pr (Instr.indexAt 65 (.pointer (some a1)) (.int .i64 (i64 (i23 - 1)))) pav (fun t31 =>
  opUn Pr (Instr.storeAt 5 (.pointer (some t31)) (.int .u8 t30)) (fun w32 =>
  j6 (i64 (i23 - 1)) w32) w25) w25) w25)) w8))
  (fun i33 w34 =>
  join1 (fun (j35 : Int → World → Prop) =>
  ifB neg
  (opRd Pr (Instr.indexAt 65 (.pointer (some a1)) (.int .i64 (i64 (i33 - 1)))) pav (fun t36 =>
  opUn Pr (Instr.storeAt 5 (.pointer (some t36)) (.int .u8 45)) (fun w37 =>
  j35 (i64 (i33 - 1)) w37) w34) w34)
  (j35 i33 w34))
  (fun i38 w39 =>
  ifB append
  (opRd Pr (Instr.sliceAt 65 (.pointer (some a1)) (some (.int .i64 i38)) none none) Sl.val (fun t40 =>
  opTy Pr (Builtin.append_ #[32, 32] 32 #[dst.val, t40.val]) Sl.val (fun d41 w42 =>
  K (d41, []) w42) w39) w39)
  (opRd Pr (Instr.sliceAt 65 (.pointer (some a1)) (some (.int .i64 i38)) none none) Sl.val (fun t43 =>
  opRd Pr (convert 32 9 t43.val) sval (fun s44 =>
  K (Sl.nil, s44) w39) w39) w39))))) w)))
def internal_strconv_formatBits_ann : Ann := (.s .d (.s (.s .d (.c .d .d)) (.s (.r [(0, .ty rPA)]) (.s .d (.sj [(.s 1, (rI .u64))] (.s .d (.c .d .d)) (.sj [(.s 13, (rI .i64))] (.s (.r [(1, .call rB)]) (.c (.s (.r [(2, .call (rI .i64))]) (.s .d (.s .d (.s (.b (.l [(.s 1, (rI .u64)), (.s 13, (rI .i64))] (.s (.s .d (.c .d .d)) (.b (.s .d (.s (.r [(4, .rd (rI .u8)), (5, .rd rPA), (6, .un)]) (.r [(2, .rd (rI .u64))]))))))) (.s .d (.r [(2, .rd (rI .u8)), (3, .rd rPA), (4, .un)])))))) (.s .d (.s (.b (.l [(.s 1, (rI .u64)), (.s 13, (rI .i64))] (.s (.s .d (.c .d .d)) (.b (.s .d (.s (.r [(2, .rd (rI .u64))]) (.s (.r [(6, .rd (rI .u8)), (7, .rd rPA), (8, .un)]) .d))))))) (.s .d (.r [(2, .rd (rI .u8)), (3, .rd rPA), (4, .un)])))))) (.sj [(.s 13, (rI .i64))] (.s .d (.c (.s .d (.r [(1, .rd rPA), (2, .un)])) .d)) (.s (.s .d (.c (.s (.r [(2, .rd rSl), (3, .ty rSl)]) .d) .d)) (.s (.r [(1, .rd rSl), (2, .rd rS)]) .d)))))))))
theorem internal_strconv_formatBits_calls {dst : Sl} {u : Int} {base : Int} {neg : Bool} {append : Bool} {K : (Sl × (List UInt8)) → World → Prop} {w : World} (h : internal_strconv_formatBits dst u base neg append K w) : callV Pr (tval2 Sl.val sval) 43 #[dst.val, (.int .u64 u), (.int .i64 base), (.bool neg), (.bool append)] w K :=
  calls_of Pr_plain Pr_mixed Pr_func43 internal_strconv_formatBits_ann (rT2 rSl rS) (args := [dst.val, (.int .u64 u), (.int .i64 base), (.bool neg), (.bool append)]) (by kernel_rfl) h

/- internal/strconv.log10Pow2 -/
def internal_strconv_log10Pow2 (x : Int) (K : Int → World → Prop) (w : World) : Prop :=
  K (shR .i64 (i64 (x * 78913)) 18) w
def internal_strconv_log10Pow2_ann : Ann := (.s .d (.s .d .d))
theorem internal_strconv_log10Pow2_calls {x : Int} {K : Int → World → Prop} {w : World} (h : internal_strconv_log10Pow2 x K w) : callV Pr (Value.int .i64) 44 #[(.int .i64 x)] w K :=
  calls_of Pr_plain Pr_mixed Pr_func44 internal_strconv_log10Pow2_ann (rI .i64) (args := [(.int .i64 x)]) (by kernel_rfl) h

/- math/bits.Len64 -/
def math_bits_Len64 (x : Int) (K : Int → World → Prop) (w : World) : Prop :=
  join2 (fun (j1 : Int → Int → World → Prop) =>
  ifB (decide (x ≥ 4294967296))
  (j1 (shR .u64 x 32) 32 w)
  (j1 x 0 w))
  (fun x2 n3 w4 =>
  join2 (fun (j5 : Int → Int → World → Prop) =>
  ifB (decide (x2 ≥ 65536))
  (j5 (shR .u64 x2 16) (i64 (n3 + 16)) w4)
  (j5 x2 n3 w4))
  (fun x6 n7 w8 =>
  ifB (decide (x6 ≥ 256))
  (opRd Pr (Instr.index 9 (sval cs5) (.int .u8 (IntKind.u8.wrap (shR .u64 x6 8)))) (Value.int .u8) (fun t9 =>
  K (i64 ((i64 (n7 + 8)) + (IntKind.i64.wrap t9))) w8) w8)
  (opRd Pr (Instr.index 9 (sval cs5) (.int .u8 (IntKind.u8.wrap x6))) (Value.int .u8) (fun t10 =>
  K (i64 (n7 + (IntKind.i64.wrap t10))) w8) w8)))
def math_bits_Len64_ann : Ann := (.s .d (.sj [(.s 0, (rI .u64)), (.s 2, (rI .i64))] (.s .d (.c (.s .d .d) .d)) (.sj [(.s 0, (rI .u64)), (.s 2, (rI .i64))] (.s .d (.c (.s .d .d) .d)) (.s (.s .d (.c (.s .d .d) .d)) (.s (.r [(3, .rd (rI .u8))]) .d)))))
theorem math_bits_Len64_calls {x : Int} {K : Int → World → Prop} {w : World} (h : math_bits_Len64 x K w) : callV Pr (Value.int .i64) 45 #[(.int .u64 x)] w K :=
  calls_of Pr_plain Pr_mixed Pr_func45 math_bits_Len64_ann (rI .i64) (args := [(.int .u64 x)]) (by kernel_rfl) h

/- internal/strconv.bool2[int] -/
def internal_strconv_bool2_int (b : Bool) (K : Int → World → Prop) (w : World) : Prop :=
  ifB b
  (K 1 w)
  (K 0 w)
def internal_strconv_bool2_int_ann : Ann := (.s .d (.s (.s .d (.c (.s .d .d) .d)) (.s .d .d)))
theorem internal_strconv_bool2_int_calls {b : Bool} {K : Int → World → Prop} {w : World} (h : internal_strconv_bool2_int b K w) : callV Pr (Value.int .i64) 46 #[(.bool b)] w K :=
  calls_of Pr_plain Pr_mixed Pr_func46 internal_strconv_bool2_int_ann (rI .i64) (args := [(.bool b)]) (by kernel_rfl) h

/- internal/strconv.isPowerOfTwo -/
def internal_strconv_isPowerOfTwo (x : Int) (K : Bool → World → Prop) (w : World) : Prop :=
  K ((bAnd .i64 x (i64 (x - 1))) == 0) w
def internal_strconv_isPowerOfTwo_ann : Ann := (.s .d (.s .d .d))
theorem internal_strconv_isPowerOfTwo_calls {x : Int} {K : Bool → World → Prop} {w : World} (h : internal_strconv_isPowerOfTwo x K w) : callV Pr Value.bool 47 #[(.int .i64 x)] w K :=
  calls_of Pr_plain Pr_mixed Pr_func47 internal_strconv_isPowerOfTwo_ann rB (args := [(.int .i64 x)]) (by kernel_rfl) h

/- math/bits.TrailingZeros -/
def math_bits_TrailingZeros (x : Int) (K : Int → World → Prop) (w : World) : Prop :=
  callV Pr (Value.int .i64) 50 #[(.int .u64 x)] w fun t1 w2 =>
  K t1 w2
def math_bits_TrailingZeros_ann : Ann := (.s .d (.s (.c (.s .d .d) .d) (.s (.r [(1, .call (rI .i64))]) .d)))
theorem math_bits_TrailingZeros_calls {x : Int} {K : Int → World → Prop} {w : World} (h : math_bits_TrailingZeros x K w) : callV Pr (Value.int .i64) 48 #[(.int .u64 x)] w K :=
  calls_of Pr_plain Pr_mixed Pr_func48 math_bits_TrailingZeros_ann (rI .i64) (args := [(.int .u64 x)]) (by kernel_rfl) h

/- math/bits.TrailingZeros32 -/
def math_bits_TrailingZeros32 (x : Int) (K : Int → World → Prop) (w : World) : Prop :=
  ifB (x == 0)
  (K 32 w)
  (opRd Pr (Instr.indexAt 68 (.pointer (some g_math_bits_deBruijn32tab)) (.int .u32 (shR .u32 (IntKind.u32.wrap ((bAnd .u32 x (IntKind.u32.wrap (0 - x))) * 125613361)) 27))) pav (fun t1 =>
  opRd Pr (Instr.loadAt 5 (.pointer (some t1))) (Value.int .u8) (fun t2 =>
  K (IntKind.i64.wrap t2) w) w) w)
def math_bits_TrailingZeros32_ann : Ann := (.s .d (.s (.s .d (.c (.s .d .d) .d)) (.s (.r [(6, .rd rPA), (7, .rd (rI .u8))]) .d)))
theorem math_bits_TrailingZeros32_calls {x : Int} {K : Int → World → Prop} {w : World} (h : math_bits_TrailingZeros32 x K w) : callV Pr (Value.int .i64) 49 #[(.int .u32 x)] w K :=
  calls_of Pr_plain Pr_mixed Pr_func49 math_bits_TrailingZeros32_ann (rI .i64) (args := [(.int .u32 x)]) (by kernel_rfl) h

/- math/bits.TrailingZeros64 -/
def math_bits_TrailingZeros64 (x : Int) (K : Int → World → Prop) (w : World) : Prop :=
  ifB (x == 0)
  (K 64 w)
  (opRd Pr (Instr.indexAt 69 (.pointer (some g_math_bits_deBruijn64tab)) (.int .u64 (shR .u64 (IntKind.u64.wrap ((bAnd .u64 x (IntKind.u64.wrap (0 - x))) * 285870213051353865)) 58))) pav (fun t1 =>
  opRd Pr (Instr.loadAt 5 (.pointer (some t1))) (Value.int .u8) (fun t2 =>
  K (IntKind.i64.wrap t2) w) w) w)
def math_bits_TrailingZeros64_ann : Ann := (.s .d (.s (.s .d (.c (.s .d .d) .d)) (.s (.r [(6, .rd rPA), (7, .rd (rI .u8))]) .d)))
theorem math_bits_TrailingZeros64_calls {x : Int} {K : Int → World → Prop} {w : World} (h : math_bits_TrailingZeros64 x K w) : callV Pr (Value.int .i64) 50 #[(.int .u64 x)] w K :=
  calls_of Pr_plain Pr_mixed Pr_func50 math_bits_TrailingZeros64_ann (rI .i64) (args := [(.int .u64 x)]) (by kernel_rfl) h

/- gosem.cut.vars -/
def gosem_cut_vars (K : Unit → World → Prop) (w : World) : Prop :=
  opUn Pr (Instr.storeAt 68 (.pointer (some g_math_bits_deBruijn32tab)) (.agg ⟨[(.int .u8 0), (.int .u8 1), (.int .u8 28), (.int .u8 2), (.int .u8 29), (.int .u8 14), (.int .u8 24), (.int .u8 3), (.int .u8 30), (.int .u8 22), (.int .u8 20), (.int .u8 15), (.int .u8 25), (.int .u8 17), (.int .u8 4), (.int .u8 8), (.int .u8 31), (.int .u8 27), (.int .u8 13), (.int .u8 23), (.int .u8 21), (.int .u8 19), (.int .u8 16), (.int .u8 7), (.int .u8 26), (.int .u8 12), (.int .u8 18), (.int .u8 6), (.int .u8 11), (.int .u8 5), (.int .u8 10), (.int .u8 9)]⟩)) (fun w1 =>
  opUn Pr (Instr.storeAt 69 (.pointer (some g_math_bits_deBruijn64tab)) (.agg ⟨[(.int .u8 0), (.int .u8 1), (.int .u8 56), (.int .u8 2), (.int .u8 57), (.int .u8 49), (.int .u8 28), (.int .u8 3), (.int .u8 61), (.int .u8 58), (.int .u8 42), (.int .u8 50), (.int .u8 38), (.int .u8 29), (.int .u8 17), (.int .u8 4), (.int .u8 62), (.int .u8 47), (.int .u8 59), (.int .u8 36), (.int .u8 45), (.int .u8 43), (.int .u8 51), (.int .u8 22), (.int .u8 53), (.int .u8 39), (.int .u8 33), (.int .u8 30), (.int .u8 24), (.int .u8 18), (.int .u8 12), (.int .u8 5), (.int .u8 63), (.int .u8 55), (.int .u8 48), (.int .u8 27), (.int .u8 60), (.int .u8 41), (.int .u8 37), (.int .u8 16), (.int .u8 46), (.int .u8 35), (.int .u8 44), (.int .u8 21), (.int .u8 52), (.int .u8 32), (.int .u8 23), (.int .u8 11), (.int .u8 54), (.int .u8 26), (.int .u8 40), (.int .u8 15), (.int .u8 34), (.int .u8 20), (.int .u8 31), (.int .u8 10), (.int .u8 25), (.int .u8 14), (.int .u8 19), (.int .u8 9), (.int .u8 13), (.int .u8 8), (.int .u8 7), (.int .u8 6)]⟩)) (fun w2 =>
  opUn Pr (Instr.storeAt 64 (.pointer (some g_internal_strconv_uint64pow10)) (.agg ⟨[(.int .u64 1), (.int .u64 10), (.int .u64 100), (.int .u64 1000), (.int .u64 10000), (.int .u64 100000), (.int .u64 1000000), (.int .u64 10000000), (.int .u64 100000000), (.int .u64 1000000000), (.int .u64 10000000000), (.int .u64 100000000000), (.int .u64 1000000000000), (.int .u64 10000000000000), (.int .u64 100000000000000), (.int .u64 1000000000000000), (.int .u64 10000000000000000), (.int .u64 100000000000000000), (.int .u64 1000000000000000000), (.int .u64 10000000000000000000)]⟩)) (fun w3 =>
  opUn Pr (Instr.storeAt 55 (.pointer (some g_unicode_utf8_acceptRanges)) (.agg ⟨[(.int .u8 128), (.int .u8 191), (.int .u8 160), (.int .u8 191), (.int .u8 128), (.int .u8 159), (.int .u8 144), (.int .u8 191), (.int .u8 128), (.int .u8 143), (.int .u8 0), (.int .u8 0), (.int .u8 0), (.int .u8 0), (.int .u8 0), (.int .u8 0), (.int .u8 0), (.int .u8 0), (.int .u8 0), (.int .u8 0), (.int .u8 0), (.int .u8 0), (.int .u8 0), (.int .u8 0), (.int .u8 0), (.int .u8 0), (.int .u8 0), (.int .u8 0), (.int .u8 0), (.int .u8 0), (.int .u8 0), (.int .u8 0)]⟩)) (fun w4 =>
  opUn Pr (Instr.storeAt 51 (.pointer (some g_crc_table)) (.agg ⟨[(.int .u32 0), (.int .u32 498536548), (.int .u32 997073096), (.int .u32 651767980), (.int .u32 1994146192), (.int .u32 1802195444), (.int .u32 1303535960), (.int .u32 1342533948), (.int .u32 3988292384), (.int .u32 4027552580), (.int .u32 3604390888), (.int .u32 3412177804), (.int .u32 2607071920), (.int .u32 2262029012), (.int .u32 2685067896), (.int .u32 3183342108)]⟩)) (fun w5 =>
  K () w5) w4) w3) w2) w1) w
def gosem_cut_vars_ann : Ann := (.s (.r [(1, .un)]) (.s (.r [(1, .un)]) (.s (.r [(1, .un)]) (.s (.r [(6, .un)]) (.r [(1, .un)])))))
theorem gosem_cut_vars_calls {K : Unit → World → Prop} {w : World} (h : gosem_cut_vars K w) : callV Pr uval 75 #[] w K :=
  calls_of Pr_plain Pr_mixed Pr_func75 gosem_cut_vars_ann rU (args := []) (by kernel_rfl) h

/- changeover/runes.all -/
def runes_all_Plain (s : List UInt8) (K : Bool → World → Prop) (w : World) : Prop :=
  opTy Pr (Instr.range 9 (sval s)) pav (fun t1 w2 =>
  loop0 (fun k3 w4 =>
  opAl Pr (Instr.next (.pointer (some t1)) true 0) (nxval (Value.int .i64) (Value.int .i32)) endval (fun t5 w6 =>
  callV Pr Value.bool 18 #[(.int .i32 t5.2)] w6 fun t7 w8 =>
  ifB (!t7)
  (K false w8)
  (k3 w8)) (fun _ w9 =>
  K true w9) w4) w2) w
def runes_all_Plain_ann : Ann := (.s .d (.s (.s (.r [(1, .ty rPA)]) (.b (.l [] (.s (.r [(0, .alt (rNx (rI .i64) (rI .i32)) rEnd)]) (.s (.c .d .d) (.b (.s .d (.s (.r [(2, .call rB)]) (.c (.s .d .d) .d))))))))) (.s .d .d)))
theorem runes_all_Plain_calls {s : List UInt8} {K : Bool → World → Prop} {w : World} (h : runes_all_Plain s K w) : callV Pr Value.bool 33 #[(sval s), (.func (.func 18) #[] #[])] w K :=
  calls_of Pr_plain Pr_mixed Pr_func33 runes_all_Plain_ann rB (args := [(sval s), (.func (.func 18) #[] #[])]) (by kernel_rfl) h

/- changeover/runes.all -/
def runes_all_Val (s : List UInt8) (K : Bool → World → Prop) (w : World) : Prop :=
  opTy Pr (Instr.range 9 (sval s)) pav (fun t1 w2 =>
  loop0 (fun k3 w4 =>
  opAl Pr (Instr.next (.pointer (some t1)) true 0) (nxval (Value.int .i64) (Value.int .i32)) endval (fun t5 w6 =>
  callV Pr Value.bool 34 #[(.int .i32 t5.2)] w6 fun t7 w8 =>
  ifB (!t7)
  (K false w8)
  (k3 w8)) (fun _ w9 =>
  K true w9) w4) w2) w
def runes_all_Val_ann : Ann := (.s .d (.s (.s (.r [(1, .ty rPA)]) (.b (.l [] (.s (.r [(0, .alt (rNx (rI .i64) (rI .i32)) rEnd)]) (.s (.c .d .d) (.b (.s .d (.s (.r [(2, .call rB)]) (.c (.s .d .d) .d))))))))) (.s .d .d)))
theorem runes_all_Val_calls {s : List UInt8} {K : Bool → World → Prop} {w : World} (h : runes_all_Val s K w) : callV Pr Value.bool 33 #[(sval s), (.func (.func 34) #[] #[])] w K :=
  calls_of Pr_plain Pr_mixed Pr_func33 runes_all_Val_ann rB (args := [(sval s), (.func (.func 34) #[] #[])]) (by kernel_rfl) h

end Go.Chg
