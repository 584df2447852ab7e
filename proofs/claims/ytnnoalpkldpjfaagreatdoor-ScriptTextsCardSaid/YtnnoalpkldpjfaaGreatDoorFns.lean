/-
  Functions of the program, told by a program of ours (gen.py), each held by the kernel to what is to be shown of its code.
-/
import Derived.Test.YtnnoalpkldpjfaaGreatDoorTy
import Derived.Test.YtnnoalpkldpjfaaGreatDoorFnsA
set_option maxRecDepth 100000
set_option linter.unusedVariables false
namespace Go.Chg
open Go.Vc

/- (changeover/cmd.part).text -/
def cmd_part_text_4 (c : Option Addr) (f : Int) (K : (Bool × Bool) → World → Prop) (w : World) : Prop :=
  newV (fun b1 w2 =>
  callV Pr vval 68 #[(.pointer c)] w2 fun t3 w4 =>
  kp b1 w2 w4 <|
  opRd Pr (Instr.typeAssert t3 20 67 true) (tval2 Value.pointer Value.bool) (fun t5 =>
  ifB (!t5.2)
  (K (true, true) w4)
  (ifB ((bAnd .i64 f 8) == 0)
  (drewM (fun w6 =>
  opRd Pr (nilSem (.pointer t5.1)) pav (fun t7 =>
  opRd Pr (Instr.loadAt 9 (.pointer (some t7))) sval (fun t8 =>
  K (true, (strEq t8 [])) w6) w6) w6) w4)
  (heldM (fun S10 w9 =>
  opH Pr S10 (nilSem (.pointer t5.1)) pav (fun t11 =>
  opH Pr S10 (Instr.loadAt 9 (.pointer (some t11))) sval (fun t12 =>
  callV Pr Value.bool 66 #[(sval t12)] w9 fun t13 w14 =>
  kp b1 w9 w14 <|
  (S10 w14) ∧
  (K (t13, true) w14)))) w4))) w4) w
def cmd_part_text_4_ann : Ann := (.s (.r [(0, .nl 3)]) (.s (.r [(3, .call rV), (4, .rd (rT2 rP rB))]) (.s (.s .d (.c (.s .d .d) .d)) (.s (.s .d (.c (.s (.r [(1, .rd rPA), (2, .rd rS)]) .d) .d)) (.s (.h (.take 0 (.take 1 (.take 2 (.take 3 (.take 4 (.one 5 (.take 6 (.take 7 .done)))))))) [(3, .rd rPA), (4, .rd rS), (5, .call rB)]) .d)))))
theorem cmd_part_text_4_calls {c : Option Addr} {f : Int} {K : (Bool × Bool) → World → Prop} {w : World} (h : cmd_part_text_4 c f K w) : callV Pr (tval2 Value.bool Value.bool) 74 #[(.agg ⟨[(.int .i64 8), (.int .i64 0), (.func (.func 66) #[] #[]), (.func (.func 68) #[] #[])]⟩), (.pointer c), (.int .i64 f)] w K :=
  calls_of Pr_plain Pr_mixed Pr_func74 cmd_part_text_4_ann (rT2 rB rB) (args := [(.agg ⟨[(.int .i64 8), (.int .i64 0), (.func (.func 66) #[] #[]), (.func (.func 68) #[] #[])]⟩), (.pointer c), (.int .i64 f)]) (by kernel_rfl) h

/- (changeover/cmd.part).text -/
def cmd_part_text_5 (c : Option Addr) (f : Int) (K : (Bool × Bool) → World → Prop) (w : World) : Prop :=
  newV (fun b1 w2 =>
  callV Pr vval 69 #[(.pointer c)] w2 fun t3 w4 =>
  kp b1 w2 w4 <|
  opRd Pr (Instr.typeAssert t3 20 67 true) (tval2 Value.pointer Value.bool) (fun t5 =>
  ifB (!t5.2)
  (K (true, true) w4)
  (ifB ((bAnd .i64 f 16) == 0)
  (drewM (fun w6 =>
  opRd Pr (nilSem (.pointer t5.1)) pav (fun t7 =>
  opRd Pr (Instr.loadAt 9 (.pointer (some t7))) sval (fun t8 =>
  K (true, (strEq t8 [])) w6) w6) w6) w4)
  (heldM (fun S10 w9 =>
  opH Pr S10 (nilSem (.pointer t5.1)) pav (fun t11 =>
  opH Pr S10 (Instr.loadAt 9 (.pointer (some t11))) sval (fun t12 =>
  False))) w4))) w4) w
def cmd_part_text_5_ann : Ann := (.s (.r [(0, .nl 3)]) (.s (.r [(3, .call rV), (4, .rd (rT2 rP rB))]) (.s (.s .d (.c (.s .d .d) .d)) (.s (.s .d (.c (.s (.r [(1, .rd rPA), (2, .rd rS)]) .d) .d)) (.s (.h (.take 0 (.take 1 (.take 2 (.take 3 (.take 4 (.one 5 (.take 6 (.take 7 .done)))))))) [(3, .rd rPA), (4, .rd rS), (5, .call rB)]) .d)))))
theorem cmd_part_text_5_calls {c : Option Addr} {f : Int} {K : (Bool × Bool) → World → Prop} {w : World} (h : cmd_part_text_5 c f K w) : callV Pr (tval2 Value.bool Value.bool) 74 #[(.agg ⟨[(.int .i64 16), (.int .i64 9), .nilFunc, (.func (.func 69) #[] #[])]⟩), (.pointer c), (.int .i64 f)] w K :=
  calls_of Pr_plain Pr_mixed Pr_func74 cmd_part_text_5_ann (rT2 rB rB) (args := [(.agg ⟨[(.int .i64 16), (.int .i64 9), .nilFunc, (.func (.func 69) #[] #[])]⟩), (.pointer c), (.int .i64 f)]) (by kernel_rfl) h

/- (changeover/cmd.part).fill -/
def cmd_part_fill_0 (c : Option Addr) (s : List UInt8) (K : Unit → World → Prop) (w : World) : Prop :=
  newV (fun b1 w2 =>
  callV Pr vval 62 #[(.pointer c)] w2 fun t3 w4 =>
  kp b1 w2 w4 <|
  opRd Pr (Instr.typeAssert t3 20 66 true) (tval2 Value.pointer Value.bool) (fun t5 =>
  ifB t5.2
  (callV Pr (tval2 (Value.int .i64) vval) 71 #[(sval s)] w4 fun t6 w7 =>
  kp b1 w4 w7 <|
  opRd Pr (nilSem (.pointer t5.1)) pav (fun t8 =>
  opUn Pr (Instr.storeAt 3 (.pointer (some t8)) (.int .i64 t6.1)) (fun w9 =>
  kp b1 w7 w9 <|
  K () w9) w7) w7)
  (opRd Pr (Instr.typeAssert t3 20 67 true) (tval2 Value.pointer Value.bool) (fun t10 =>
  ifB t10.2
  (callV Pr (tval2 sval (Value.int .i64)) 72 #[(sval s)] w4 fun t11 w12 =>
  kp b1 w4 w12 <|
  opRd Pr (nilSem (.pointer t10.1)) pav (fun t13 =>
  opUn Pr (Instr.storeAt 9 (.pointer (some t13)) (sval t11.1)) (fun w14 =>
  kp b1 w12 w14 <|
  K () w14) w12) w12)
  (K () w4)) w4)) w4) w
def cmd_part_fill_0_ann : Ann := (.s (.r [(0, .nl 3)]) (.s (.r [(3, .call rV)]) (.b (.s (.r [(0, .rd (rT2 rP rB))]) (.c (.s .d (.r [(2, .call (rT2 (rI .i64) rV)), (6, .rd rPA), (7, .un)])) (.s (.r [(0, .rd (rT2 rP rB))]) (.c (.s .d (.r [(2, .call (rT2 rS (rI .i64))), (6, .rd rPA), (7, .un)])) .d)))))))
theorem cmd_part_fill_0_calls {c : Option Addr} {s : List UInt8} {K : Unit → World → Prop} {w : World} (h : cmd_part_fill_0 c s K w) : callV Pr uval 34 #[(.agg ⟨[(.int .i64 1), (.int .i64 8), .nilFunc, (.func (.func 62) #[] #[])]⟩), (.pointer c), (sval s)] w K :=
  calls_of Pr_plain Pr_mixed Pr_func34 cmd_part_fill_0_ann rU (args := [(.agg ⟨[(.int .i64 1), (.int .i64 8), .nilFunc, (.func (.func 62) #[] #[])]⟩), (.pointer c), (sval s)]) (by kernel_rfl) h

/- (changeover/cmd.part).fill -/
def cmd_part_fill_1 (c : Option Addr) (s : List UInt8) (K : Unit → World → Prop) (w : World) : Prop :=
  newV (fun b1 w2 =>
  callV Pr vval 63 #[(.pointer c)] w2 fun t3 w4 =>
  kp b1 w2 w4 <|
  opRd Pr (Instr.typeAssert t3 20 66 true) (tval2 Value.pointer Value.bool) (fun t5 =>
  ifB t5.2
  (callV Pr (tval2 (Value.int .i64) vval) 71 #[(sval s)] w4 fun t6 w7 =>
  kp b1 w4 w7 <|
  opRd Pr (nilSem (.pointer t5.1)) pav (fun t8 =>
  opUn Pr (Instr.storeAt 3 (.pointer (some t8)) (.int .i64 t6.1)) (fun w9 =>
  kp b1 w7 w9 <|
  K () w9) w7) w7)
  (opRd Pr (Instr.typeAssert t3 20 67 true) (tval2 Value.pointer Value.bool) (fun t10 =>
  ifB t10.2
  (callV Pr (tval2 sval (Value.int .i64)) 72 #[(sval s)] w4 fun t11 w12 =>
  kp b1 w4 w12 <|
  opRd Pr (nilSem (.pointer t10.1)) pav (fun t13 =>
  opUn Pr (Instr.storeAt 9 (.pointer (some t13)) (sval t11.1)) (fun w14 =>
  kp b1 w12 w14 <|
  K () w14) w12) w12)
  (K () w4)) w4)) w4) w
def cmd_part_fill_1_ann : Ann := (.s (.r [(0, .nl 3)]) (.s (.r [(3, .call rV)]) (.b (.s (.r [(0, .rd (rT2 rP rB))]) (.c (.s .d (.r [(2, .call (rT2 (rI .i64) rV)), (6, .rd rPA), (7, .un)])) (.s (.r [(0, .rd (rT2 rP rB))]) (.c (.s .d (.r [(2, .call (rT2 rS (rI .i64))), (6, .rd rPA), (7, .un)])) .d)))))))
theorem cmd_part_fill_1_calls {c : Option Addr} {s : List UInt8} {K : Unit → World → Prop} {w : World} (h : cmd_part_fill_1 c s K w) : callV Pr uval 34 #[(.agg ⟨[(.int .i64 1), (.int .i64 4294967296), .nilFunc, (.func (.func 63) #[] #[])]⟩), (.pointer c), (sval s)] w K :=
  calls_of Pr_plain Pr_mixed Pr_func34 cmd_part_fill_1_ann rU (args := [(.agg ⟨[(.int .i64 1), (.int .i64 4294967296), .nilFunc, (.func (.func 63) #[] #[])]⟩), (.pointer c), (sval s)]) (by kernel_rfl) h

/- (changeover/cmd.part).fill -/
def cmd_part_fill_2 (c : Option Addr) (s : List UInt8) (K : Unit → World → Prop) (w : World) : Prop :=
  newV (fun b1 w2 =>
  callV Pr vval 65 #[(.pointer c)] w2 fun t3 w4 =>
  kp b1 w2 w4 <|
  opRd Pr (Instr.typeAssert t3 20 66 true) (tval2 Value.pointer Value.bool) (fun t5 =>
  ifB t5.2
  (callV Pr (tval2 (Value.int .i64) vval) 71 #[(sval s)] w4 fun t6 w7 =>
  kp b1 w4 w7 <|
  opRd Pr (nilSem (.pointer t5.1)) pav (fun t8 =>
  opUn Pr (Instr.storeAt 3 (.pointer (some t8)) (.int .i64 t6.1)) (fun w9 =>
  kp b1 w7 w9 <|
  K () w9) w7) w7)
  (opRd Pr (Instr.typeAssert t3 20 67 true) (tval2 Value.pointer Value.bool) (fun t10 =>
  ifB t10.2
  (callV Pr (tval2 sval (Value.int .i64)) 72 #[(sval s)] w4 fun t11 w12 =>
  kp b1 w4 w12 <|
  opRd Pr (nilSem (.pointer t10.1)) pav (fun t13 =>
  opUn Pr (Instr.storeAt 9 (.pointer (some t13)) (sval t11.1)) (fun w14 =>
  kp b1 w12 w14 <|
  K () w14) w12) w12)
  (K () w4)) w4)) w4) w
def cmd_part_fill_2_ann : Ann := (.s (.r [(0, .nl 3)]) (.s (.r [(3, .call rV)]) (.b (.s (.r [(0, .rd (rT2 rP rB))]) (.c (.s .d (.r [(2, .call (rT2 (rI .i64) rV)), (6, .rd rPA), (7, .un)])) (.s (.r [(0, .rd (rT2 rP rB))]) (.c (.s .d (.r [(2, .call (rT2 rS (rI .i64))), (6, .rd rPA), (7, .un)])) .d)))))))
theorem cmd_part_fill_2_calls {c : Option Addr} {s : List UInt8} {K : Unit → World → Prop} {w : World} (h : cmd_part_fill_2 c s K w) : callV Pr uval 34 #[(.agg ⟨[(.int .i64 2), (.int .i64 0), (.func (.func 64) #[] #[]), (.func (.func 65) #[] #[])]⟩), (.pointer c), (sval s)] w K :=
  calls_of Pr_plain Pr_mixed Pr_func34 cmd_part_fill_2_ann rU (args := [(.agg ⟨[(.int .i64 2), (.int .i64 0), (.func (.func 64) #[] #[]), (.func (.func 65) #[] #[])]⟩), (.pointer c), (sval s)]) (by kernel_rfl) h

/- (changeover/cmd.part).fill -/
def cmd_part_fill_3 (c : Option Addr) (s : List UInt8) (K : Unit → World → Prop) (w : World) : Prop :=
  newV (fun b1 w2 =>
  callV Pr vval 67 #[(.pointer c)] w2 fun t3 w4 =>
  kp b1 w2 w4 <|
  opRd Pr (Instr.typeAssert t3 20 66 true) (tval2 Value.pointer Value.bool) (fun t5 =>
  ifB t5.2
  (callV Pr (tval2 (Value.int .i64) vval) 71 #[(sval s)] w4 fun t6 w7 =>
  kp b1 w4 w7 <|
  opRd Pr (nilSem (.pointer t5.1)) pav (fun t8 =>
  opUn Pr (Instr.storeAt 3 (.pointer (some t8)) (.int .i64 t6.1)) (fun w9 =>
  kp b1 w7 w9 <|
  K () w9) w7) w7)
  (opRd Pr (Instr.typeAssert t3 20 67 true) (tval2 Value.pointer Value.bool) (fun t10 =>
  ifB t10.2
  (callV Pr (tval2 sval (Value.int .i64)) 72 #[(sval s)] w4 fun t11 w12 =>
  kp b1 w4 w12 <|
  opRd Pr (nilSem (.pointer t10.1)) pav (fun t13 =>
  opUn Pr (Instr.storeAt 9 (.pointer (some t13)) (sval t11.1)) (fun w14 =>
  kp b1 w12 w14 <|
  K () w14) w12) w12)
  (K () w4)) w4)) w4) w
def cmd_part_fill_3_ann : Ann := (.s (.r [(0, .nl 3)]) (.s (.r [(3, .call rV)]) (.b (.s (.r [(0, .rd (rT2 rP rB))]) (.c (.s .d (.r [(2, .call (rT2 (rI .i64) rV)), (6, .rd rPA), (7, .un)])) (.s (.r [(0, .rd (rT2 rP rB))]) (.c (.s .d (.r [(2, .call (rT2 rS (rI .i64))), (6, .rd rPA), (7, .un)])) .d)))))))
theorem cmd_part_fill_3_calls {c : Option Addr} {s : List UInt8} {K : Unit → World → Prop} {w : World} (h : cmd_part_fill_3 c s K w) : callV Pr uval 34 #[(.agg ⟨[(.int .i64 4), (.int .i64 0), (.func (.func 66) #[] #[]), (.func (.func 67) #[] #[])]⟩), (.pointer c), (sval s)] w K :=
  calls_of Pr_plain Pr_mixed Pr_func34 cmd_part_fill_3_ann rU (args := [(.agg ⟨[(.int .i64 4), (.int .i64 0), (.func (.func 66) #[] #[]), (.func (.func 67) #[] #[])]⟩), (.pointer c), (sval s)]) (by kernel_rfl) h

/- (changeover/cmd.part).fill -/
def cmd_part_fill_4 (c : Option Addr) (s : List UInt8) (K : Unit → World → Prop) (w : World) : Prop :=
  newV (fun b1 w2 =>
  callV Pr vval 68 #[(.pointer c)] w2 fun t3 w4 =>
  kp b1 w2 w4 <|
  opRd Pr (Instr.typeAssert t3 20 66 true) (tval2 Value.pointer Value.bool) (fun t5 =>
  ifB t5.2
  (callV Pr (tval2 (Value.int .i64) vval) 71 #[(sval s)] w4 fun t6 w7 =>
  kp b1 w4 w7 <|
  opRd Pr (nilSem (.pointer t5.1)) pav (fun t8 =>
  opUn Pr (Instr.storeAt 3 (.pointer (some t8)) (.int .i64 t6.1)) (fun w9 =>
  kp b1 w7 w9 <|
  K () w9) w7) w7)
  (opRd Pr (Instr.typeAssert t3 20 67 true) (tval2 Value.pointer Value.bool) (fun t10 =>
  ifB t10.2
  (callV Pr (tval2 sval (Value.int .i64)) 72 #[(sval s)] w4 fun t11 w12 =>
  kp b1 w4 w12 <|
  opRd Pr (nilSem (.pointer t10.1)) pav (fun t13 =>
  opUn Pr (Instr.storeAt 9 (.pointer (some t13)) (sval t11.1)) (fun w14 =>
  kp b1 w12 w14 <|
  K () w14) w12) w12)
  (K () w4)) w4)) w4) w
def cmd_part_fill_4_ann : Ann := (.s (.r [(0, .nl 3)]) (.s (.r [(3, .call rV)]) (.b (.s (.r [(0, .rd (rT2 rP rB))]) (.c (.s .d (.r [(2, .call (rT2 (rI .i64) rV)), (6, .rd rPA), (7, .un)])) (.s (.r [(0, .rd (rT2 rP rB))]) (.c (.s .d (.r [(2, .call (rT2 rS (rI .i64))), (6, .rd rPA), (7, .un)])) .d)))))))
theorem cmd_part_fill_4_calls {c : Option Addr} {s : List UInt8} {K : Unit → World → Prop} {w : World} (h : cmd_part_fill_4 c s K w) : callV Pr uval 34 #[(.agg ⟨[(.int .i64 8), (.int .i64 0), (.func (.func 66) #[] #[]), (.func (.func 68) #[] #[])]⟩), (.pointer c), (sval s)] w K :=
  calls_of Pr_plain Pr_mixed Pr_func34 cmd_part_fill_4_ann rU (args := [(.agg ⟨[(.int .i64 8), (.int .i64 0), (.func (.func 66) #[] #[]), (.func (.func 68) #[] #[])]⟩), (.pointer c), (sval s)]) (by kernel_rfl) h

/- (changeover/cmd.part).fill -/
def cmd_part_fill_5 (c : Option Addr) (s : List UInt8) (K : Unit → World → Prop) (w : World) : Prop :=
  newV (fun b1 w2 =>
  callV Pr vval 69 #[(.pointer c)] w2 fun t3 w4 =>
  kp b1 w2 w4 <|
  opRd Pr (Instr.typeAssert t3 20 66 true) (tval2 Value.pointer Value.bool) (fun t5 =>
  ifB t5.2
  (callV Pr (tval2 (Value.int .i64) vval) 71 #[(sval s)] w4 fun t6 w7 =>
  kp b1 w4 w7 <|
  opRd Pr (nilSem (.pointer t5.1)) pav (fun t8 =>
  opUn Pr (Instr.storeAt 3 (.pointer (some t8)) (.int .i64 t6.1)) (fun w9 =>
  kp b1 w7 w9 <|
  K () w9) w7) w7)
  (opRd Pr (Instr.typeAssert t3 20 67 true) (tval2 Value.pointer Value.bool) (fun t10 =>
  ifB t10.2
  (callV Pr (tval2 sval (Value.int .i64)) 72 #[(sval s)] w4 fun t11 w12 =>
  kp b1 w4 w12 <|
  opRd Pr (nilSem (.pointer t10.1)) pav (fun t13 =>
  opUn Pr (Instr.storeAt 9 (.pointer (some t13)) (sval t11.1)) (fun w14 =>
  kp b1 w12 w14 <|
  K () w14) w12) w12)
  (K () w4)) w4)) w4) w
def cmd_part_fill_5_ann : Ann := (.s (.r [(0, .nl 3)]) (.s (.r [(3, .call rV)]) (.b (.s (.r [(0, .rd (rT2 rP rB))]) (.c (.s .d (.r [(2, .call (rT2 (rI .i64) rV)), (6, .rd rPA), (7, .un)])) (.s (.r [(0, .rd (rT2 rP rB))]) (.c (.s .d (.r [(2, .call (rT2 rS (rI .i64))), (6, .rd rPA), (7, .un)])) .d)))))))
theorem cmd_part_fill_5_calls {c : Option Addr} {s : List UInt8} {K : Unit → World → Prop} {w : World} (h : cmd_part_fill_5 c s K w) : callV Pr uval 34 #[(.agg ⟨[(.int .i64 16), (.int .i64 9), .nilFunc, (.func (.func 69) #[] #[])]⟩), (.pointer c), (sval s)] w K :=
  calls_of Pr_plain Pr_mixed Pr_func34 cmd_part_fill_5_ann rU (args := [(.agg ⟨[(.int .i64 16), (.int .i64 9), .nilFunc, (.func (.func 69) #[] #[])]⟩), (.pointer c), (sval s)]) (by kernel_rfl) h

/- changeover/runes.all -/
def runes_all_Plain (s : List UInt8) (K : Bool → World → Prop) (w : World) : Prop :=
  opTy Pr (Instr.range 9 (sval s)) pav (fun t1 w2 =>
  loop0 (fun k3 w4 =>
  opAl Pr (Instr.next (.pointer (some t1)) true 0) (nxval (Value.int .i64) (Value.int .i32)) endval (fun t5 w6 =>
  callV Pr Value.bool 94 #[(.int .i32 t5.2)] w6 fun t7 w8 =>
  ifB (!t7)
  (K false w8)
  (k3 w8)) (fun _ w9 =>
  K true w9) w4) w2) w
def runes_all_Plain_ann : Ann := (.s .d (.s (.s (.r [(1, .ty rPA)]) (.b (.l [] (.s (.r [(0, .alt (rNx (rI .i64) (rI .i32)) rEnd)]) (.s (.c .d .d) (.b (.s .d (.s (.r [(2, .call rB)]) (.c (.s .d .d) .d))))))))) (.s .d .d)))
theorem runes_all_Plain_calls {s : List UInt8} {K : Bool → World → Prop} {w : World} (h : runes_all_Plain s K w) : callV Pr Value.bool 93 #[(sval s), (.func (.func 94) #[] #[])] w K :=
  calls_of Pr_plain Pr_mixed Pr_func93 runes_all_Plain_ann rB (args := [(sval s), (.func (.func 94) #[] #[])]) (by kernel_rfl) h

/- changeover/runes.all -/
def runes_all_Val (s : List UInt8) (K : Bool → World → Prop) (w : World) : Prop :=
  opTy Pr (Instr.range 9 (sval s)) pav (fun t1 w2 =>
  loop0 (fun k3 w4 =>
  opAl Pr (Instr.next (.pointer (some t1)) true 0) (nxval (Value.int .i64) (Value.int .i32)) endval (fun t5 w6 =>
  callV Pr Value.bool 95 #[(.int .i32 t5.2)] w6 fun t7 w8 =>
  ifB (!t7)
  (K false w8)
  (k3 w8)) (fun _ w9 =>
  K true w9) w4) w2) w
def runes_all_Val_ann : Ann := (.s .d (.s (.s (.r [(1, .ty rPA)]) (.b (.l [] (.s (.r [(0, .alt (rNx (rI .i64) (rI .i32)) rEnd)]) (.s (.c .d .d) (.b (.s .d (.s (.r [(2, .call rB)]) (.c (.s .d .d) .d))))))))) (.s .d .d)))
theorem runes_all_Val_calls {s : List UInt8} {K : Bool → World → Prop} {w : World} (h : runes_all_Val s K w) : callV Pr Value.bool 93 #[(sval s), (.func (.func 95) #[] #[])] w K :=
  calls_of Pr_plain Pr_mixed Pr_func93 runes_all_Val_ann rB (args := [(sval s), (.func (.func 95) #[] #[])]) (by kernel_rfl) h

end Go.Chg
