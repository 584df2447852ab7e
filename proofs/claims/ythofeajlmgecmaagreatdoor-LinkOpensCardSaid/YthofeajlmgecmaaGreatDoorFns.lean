/-
  Functions of the program, told by a program of ours (gen.py), each held by the kernel to what is to be shown of its code.
-/
import Derived.Test.YthofeajlmgecmaaGreatDoorTy
import Derived.Test.YthofeajlmgecmaaGreatDoorFnsA
set_option maxRecDepth 100000
set_option linter.unusedVariables false
namespace Go.Chg
open Go.Vc

/- (changeover/cmd.part).number -/
def cmd_part_number_0 (c : Option Addr) (f : Int) (K : (Bool × Bool) → World → Prop) (w : World) : Prop :=
  newV (fun b1 w2 =>
  callV Pr vval 204 #[(.pointer c)] w2 fun t3 w4 =>
  kp b1 w2 w4 <|
  opRd Pr (Instr.typeAssert t3 20 189 true) (tval2 Value.pointer Value.bool) (fun t5 =>
  ifB (!t5.2)
  (K (true, true) w4)
  (ifB ((bAnd .i64 f 1) == 0)
  (drewM (fun w6 =>
  opRd Pr (nilSem (.pointer t5.1)) pav (fun t7 =>
  opRd Pr (Instr.loadAt 3 (.pointer (some t7))) (Value.int .i64) (fun t8 =>
  K (true, (t8 == 0)) w6) w6) w6) w4)
  (drewM (fun w9 =>
  opRd Pr (nilSem (.pointer t5.1)) pav (fun t10 =>
  opRd Pr (Instr.loadAt 3 (.pointer (some t10))) (Value.int .i64) (fun t11 =>
  ifB (decide (t11 ≥ 1))
  (opRd Pr (nilSem (.pointer t5.1)) pav (fun t12 =>
  opRd Pr (Instr.loadAt 3 (.pointer (some t12))) (Value.int .i64) (fun t13 =>
  K ((decide (t13 ≤ 8)), true) w9) w9) w9)
  (K (false, true) w9)) w9) w9) w4))) w4) w
def cmd_part_number_0_ann : Ann := (.s (.r [(0, .nl 3)]) (.s (.r [(3, .call rV), (4, .rd (rT2 rP rB))]) (.s (.s .d (.c (.s .d .d) .d)) (.s (.s .d (.c (.s (.r [(1, .rd rPA), (2, .rd (rI .i64))]) .d) .d)) (.s (.r [(1, .rd rPA), (2, .rd (rI .i64)), (6, .rd rPA), (7, .rd (rI .i64))]) .d)))))
theorem cmd_part_number_0_calls {c : Option Addr} {f : Int} {K : (Bool × Bool) → World → Prop} {w : World} (h : cmd_part_number_0 c f K w) : callV Pr (tval2 Value.bool Value.bool) 192 #[(.agg ⟨[(.int .i64 1), (.int .i64 8), .nilFunc, (.func (.func 204) #[] #[])]⟩), (.pointer c), (.int .i64 f)] w K :=
  calls_of Pr_plain Pr_mixed Pr_func192 cmd_part_number_0_ann (rT2 rB rB) (args := [(.agg ⟨[(.int .i64 1), (.int .i64 8), .nilFunc, (.func (.func 204) #[] #[])]⟩), (.pointer c), (.int .i64 f)]) (by kernel_rfl) h

/- (changeover/cmd.part).number -/
def cmd_part_number_1 (c : Option Addr) (f : Int) (K : (Bool × Bool) → World → Prop) (w : World) : Prop :=
  newV (fun b1 w2 =>
  callV Pr vval 205 #[(.pointer c)] w2 fun t3 w4 =>
  kp b1 w2 w4 <|
  opRd Pr (Instr.typeAssert t3 20 189 true) (tval2 Value.pointer Value.bool) (fun t5 =>
  ifB (!t5.2)
  (K (true, true) w4)
  (ifB ((bAnd .i64 f 1) == 0)
  (drewM (fun w6 =>
  opRd Pr (nilSem (.pointer t5.1)) pav (fun t7 =>
  opRd Pr (Instr.loadAt 3 (.pointer (some t7))) (Value.int .i64) (fun t8 =>
  K (true, (t8 == 0)) w6) w6) w6) w4)
  (drewM (fun w9 =>
  opRd Pr (nilSem (.pointer t5.1)) pav (fun t10 =>
  opRd Pr (Instr.loadAt 3 (.pointer (some t10))) (Value.int .i64) (fun t11 =>
  ifB (decide (t11 ≥ 1))
  (opRd Pr (nilSem (.pointer t5.1)) pav (fun t12 =>
  opRd Pr (Instr.loadAt 3 (.pointer (some t12))) (Value.int .i64) (fun t13 =>
  K ((decide (t13 ≤ 4294967296)), true) w9) w9) w9)
  (K (false, true) w9)) w9) w9) w4))) w4) w
def cmd_part_number_1_ann : Ann := (.s (.r [(0, .nl 3)]) (.s (.r [(3, .call rV), (4, .rd (rT2 rP rB))]) (.s (.s .d (.c (.s .d .d) .d)) (.s (.s .d (.c (.s (.r [(1, .rd rPA), (2, .rd (rI .i64))]) .d) .d)) (.s (.r [(1, .rd rPA), (2, .rd (rI .i64)), (6, .rd rPA), (7, .rd (rI .i64))]) .d)))))
theorem cmd_part_number_1_calls {c : Option Addr} {f : Int} {K : (Bool × Bool) → World → Prop} {w : World} (h : cmd_part_number_1 c f K w) : callV Pr (tval2 Value.bool Value.bool) 192 #[(.agg ⟨[(.int .i64 1), (.int .i64 4294967296), .nilFunc, (.func (.func 205) #[] #[])]⟩), (.pointer c), (.int .i64 f)] w K :=
  calls_of Pr_plain Pr_mixed Pr_func192 cmd_part_number_1_ann (rT2 rB rB) (args := [(.agg ⟨[(.int .i64 1), (.int .i64 4294967296), .nilFunc, (.func (.func 205) #[] #[])]⟩), (.pointer c), (.int .i64 f)]) (by kernel_rfl) h

/- (changeover/cmd.part).number -/
def cmd_part_number_2 (c : Option Addr) (f : Int) (K : (Bool × Bool) → World → Prop) (w : World) : Prop :=
  newV (fun b1 w2 =>
  callV Pr vval 206 #[(.pointer c)] w2 fun t3 w4 =>
  kp b1 w2 w4 <|
  opRd Pr (Instr.typeAssert t3 20 189 true) (tval2 Value.pointer Value.bool) (fun t5 =>
  ifB (!t5.2)
  (K (true, true) w4)
  (ifB ((bAnd .i64 f 2) == 0)
  (drewM (fun w6 =>
  opRd Pr (nilSem (.pointer t5.1)) pav (fun t7 =>
  opRd Pr (Instr.loadAt 3 (.pointer (some t7))) (Value.int .i64) (fun t8 =>
  K (true, (t8 == 0)) w6) w6) w6) w4)
  (drewM (fun w9 =>
  opRd Pr (nilSem (.pointer t5.1)) pav (fun t10 =>
  opRd Pr (Instr.loadAt 3 (.pointer (some t10))) (Value.int .i64) (fun t11 =>
  ifB (decide (t11 ≥ 1))
  (opRd Pr (nilSem (.pointer t5.1)) pav (fun t12 =>
  opRd Pr (Instr.loadAt 3 (.pointer (some t12))) (Value.int .i64) (fun t13 =>
  K ((decide (t13 ≤ 0)), true) w9) w9) w9)
  (K (false, true) w9)) w9) w9) w4))) w4) w
def cmd_part_number_2_ann : Ann := (.s (.r [(0, .nl 3)]) (.s (.r [(3, .call rV), (4, .rd (rT2 rP rB))]) (.s (.s .d (.c (.s .d .d) .d)) (.s (.s .d (.c (.s (.r [(1, .rd rPA), (2, .rd (rI .i64))]) .d) .d)) (.s (.r [(1, .rd rPA), (2, .rd (rI .i64)), (6, .rd rPA), (7, .rd (rI .i64))]) .d)))))
theorem cmd_part_number_2_calls {c : Option Addr} {f : Int} {K : (Bool × Bool) → World → Prop} {w : World} (h : cmd_part_number_2 c f K w) : callV Pr (tval2 Value.bool Value.bool) 192 #[(.agg ⟨[(.int .i64 2), (.int .i64 0), (.func (.func 176) #[] #[]), (.func (.func 206) #[] #[])]⟩), (.pointer c), (.int .i64 f)] w K :=
  calls_of Pr_plain Pr_mixed Pr_func192 cmd_part_number_2_ann (rT2 rB rB) (args := [(.agg ⟨[(.int .i64 2), (.int .i64 0), (.func (.func 176) #[] #[]), (.func (.func 206) #[] #[])]⟩), (.pointer c), (.int .i64 f)]) (by kernel_rfl) h

/- (changeover/cmd.part).number -/
def cmd_part_number_3 (c : Option Addr) (f : Int) (K : (Bool × Bool) → World → Prop) (w : World) : Prop :=
  newV (fun b1 w2 =>
  callV Pr vval 207 #[(.pointer c)] w2 fun t3 w4 =>
  kp b1 w2 w4 <|
  opRd Pr (Instr.typeAssert t3 20 189 true) (tval2 Value.pointer Value.bool) (fun t5 =>
  ifB (!t5.2)
  (K (true, true) w4)
  (ifB ((bAnd .i64 f 4) == 0)
  (drewM (fun w6 =>
  opRd Pr (nilSem (.pointer t5.1)) pav (fun t7 =>
  opRd Pr (Instr.loadAt 3 (.pointer (some t7))) (Value.int .i64) (fun t8 =>
  K (true, (t8 == 0)) w6) w6) w6) w4)
  (drewM (fun w9 =>
  opRd Pr (nilSem (.pointer t5.1)) pav (fun t10 =>
  opRd Pr (Instr.loadAt 3 (.pointer (some t10))) (Value.int .i64) (fun t11 =>
  ifB (decide (t11 ≥ 1))
  (opRd Pr (nilSem (.pointer t5.1)) pav (fun t12 =>
  opRd Pr (Instr.loadAt 3 (.pointer (some t12))) (Value.int .i64) (fun t13 =>
  K ((decide (t13 ≤ 0)), true) w9) w9) w9)
  (K (false, true) w9)) w9) w9) w4))) w4) w
def cmd_part_number_3_ann : Ann := (.s (.r [(0, .nl 3)]) (.s (.r [(3, .call rV), (4, .rd (rT2 rP rB))]) (.s (.s .d (.c (.s .d .d) .d)) (.s (.s .d (.c (.s (.r [(1, .rd rPA), (2, .rd (rI .i64))]) .d) .d)) (.s (.r [(1, .rd rPA), (2, .rd (rI .i64)), (6, .rd rPA), (7, .rd (rI .i64))]) .d)))))
theorem cmd_part_number_3_calls {c : Option Addr} {f : Int} {K : (Bool × Bool) → World → Prop} {w : World} (h : cmd_part_number_3 c f K w) : callV Pr (tval2 Value.bool Value.bool) 192 #[(.agg ⟨[(.int .i64 4), (.int .i64 0), (.func (.func 177) #[] #[]), (.func (.func 207) #[] #[])]⟩), (.pointer c), (.int .i64 f)] w K :=
  calls_of Pr_plain Pr_mixed Pr_func192 cmd_part_number_3_ann (rT2 rB rB) (args := [(.agg ⟨[(.int .i64 4), (.int .i64 0), (.func (.func 177) #[] #[]), (.func (.func 207) #[] #[])]⟩), (.pointer c), (.int .i64 f)]) (by kernel_rfl) h

/- (changeover/cmd.part).number -/
def cmd_part_number_4 (c : Option Addr) (f : Int) (K : (Bool × Bool) → World → Prop) (w : World) : Prop :=
  newV (fun b1 w2 =>
  callV Pr vval 208 #[(.pointer c)] w2 fun t3 w4 =>
  kp b1 w2 w4 <|
  opRd Pr (Instr.typeAssert t3 20 189 true) (tval2 Value.pointer Value.bool) (fun t5 =>
  ifB (!t5.2)
  (K (true, true) w4)
  (ifB ((bAnd .i64 f 8) == 0)
  (drewM (fun w6 =>
  opRd Pr (nilSem (.pointer t5.1)) pav (fun t7 =>
  opRd Pr (Instr.loadAt 3 (.pointer (some t7))) (Value.int .i64) (fun t8 =>
  K (true, (t8 == 0)) w6) w6) w6) w4)
  (drewM (fun w9 =>
  opRd Pr (nilSem (.pointer t5.1)) pav (fun t10 =>
  opRd Pr (Instr.loadAt 3 (.pointer (some t10))) (Value.int .i64) (fun t11 =>
  ifB (decide (t11 ≥ 1))
  (opRd Pr (nilSem (.pointer t5.1)) pav (fun t12 =>
  opRd Pr (Instr.loadAt 3 (.pointer (some t12))) (Value.int .i64) (fun t13 =>
  K ((decide (t13 ≤ 0)), true) w9) w9) w9)
  (K (false, true) w9)) w9) w9) w4))) w4) w
def cmd_part_number_4_ann : Ann := (.s (.r [(0, .nl 3)]) (.s (.r [(3, .call rV), (4, .rd (rT2 rP rB))]) (.s (.s .d (.c (.s .d .d) .d)) (.s (.s .d (.c (.s (.r [(1, .rd rPA), (2, .rd (rI .i64))]) .d) .d)) (.s (.r [(1, .rd rPA), (2, .rd (rI .i64)), (6, .rd rPA), (7, .rd (rI .i64))]) .d)))))
theorem cmd_part_number_4_calls {c : Option Addr} {f : Int} {K : (Bool × Bool) → World → Prop} {w : World} (h : cmd_part_number_4 c f K w) : callV Pr (tval2 Value.bool Value.bool) 192 #[(.agg ⟨[(.int .i64 8), (.int .i64 0), (.func (.func 177) #[] #[]), (.func (.func 208) #[] #[])]⟩), (.pointer c), (.int .i64 f)] w K :=
  calls_of Pr_plain Pr_mixed Pr_func192 cmd_part_number_4_ann (rT2 rB rB) (args := [(.agg ⟨[(.int .i64 8), (.int .i64 0), (.func (.func 177) #[] #[]), (.func (.func 208) #[] #[])]⟩), (.pointer c), (.int .i64 f)]) (by kernel_rfl) h

/- (changeover/cmd.part).number -/
def cmd_part_number_5 (c : Option Addr) (f : Int) (K : (Bool × Bool) → World → Prop) (w : World) : Prop :=
  newV (fun b1 w2 =>
  callV Pr vval 209 #[(.pointer c)] w2 fun t3 w4 =>
  kp b1 w2 w4 <|
  opRd Pr (Instr.typeAssert t3 20 189 true) (tval2 Value.pointer Value.bool) (fun t5 =>
  ifB (!t5.2)
  (K (true, true) w4)
  (ifB ((bAnd .i64 f 16) == 0)
  (drewM (fun w6 =>
  opRd Pr (nilSem (.pointer t5.1)) pav (fun t7 =>
  opRd Pr (Instr.loadAt 3 (.pointer (some t7))) (Value.int .i64) (fun t8 =>
  K (true, (t8 == 0)) w6) w6) w6) w4)
  (drewM (fun w9 =>
  opRd Pr (nilSem (.pointer t5.1)) pav (fun t10 =>
  opRd Pr (Instr.loadAt 3 (.pointer (some t10))) (Value.int .i64) (fun t11 =>
  ifB (decide (t11 ≥ 1))
  (opRd Pr (nilSem (.pointer t5.1)) pav (fun t12 =>
  opRd Pr (Instr.loadAt 3 (.pointer (some t12))) (Value.int .i64) (fun t13 =>
  K ((decide (t13 ≤ 9)), true) w9) w9) w9)
  (K (false, true) w9)) w9) w9) w4))) w4) w
def cmd_part_number_5_ann : Ann := (.s (.r [(0, .nl 3)]) (.s (.r [(3, .call rV), (4, .rd (rT2 rP rB))]) (.s (.s .d (.c (.s .d .d) .d)) (.s (.s .d (.c (.s (.r [(1, .rd rPA), (2, .rd (rI .i64))]) .d) .d)) (.s (.r [(1, .rd rPA), (2, .rd (rI .i64)), (6, .rd rPA), (7, .rd (rI .i64))]) .d)))))
theorem cmd_part_number_5_calls {c : Option Addr} {f : Int} {K : (Bool × Bool) → World → Prop} {w : World} (h : cmd_part_number_5 c f K w) : callV Pr (tval2 Value.bool Value.bool) 192 #[(.agg ⟨[(.int .i64 16), (.int .i64 9), .nilFunc, (.func (.func 209) #[] #[])]⟩), (.pointer c), (.int .i64 f)] w K :=
  calls_of Pr_plain Pr_mixed Pr_func192 cmd_part_number_5_ann (rT2 rB rB) (args := [(.agg ⟨[(.int .i64 16), (.int .i64 9), .nilFunc, (.func (.func 209) #[] #[])]⟩), (.pointer c), (.int .i64 f)]) (by kernel_rfl) h

/- (changeover/cmd.part).text -/
def cmd_part_text_0 (c : Option Addr) (f : Int) (K : (Bool × Bool) → World → Prop) (w : World) : Prop :=
  newV (fun b1 w2 =>
  callV Pr vval 204 #[(.pointer c)] w2 fun t3 w4 =>
  kp b1 w2 w4 <|
  opRd Pr (Instr.typeAssert t3 20 230 true) (tval2 Value.pointer Value.bool) (fun t5 =>
  ifB (!t5.2)
  (K (true, true) w4)
  (ifB ((bAnd .i64 f 1) == 0)
  (drewM (fun w6 =>
  opRd Pr (nilSem (.pointer t5.1)) pav (fun t7 =>
  opRd Pr (Instr.loadAt 9 (.pointer (some t7))) sval (fun t8 =>
  K (true, (strEq t8 [])) w6) w6) w6) w4)
  (heldM (fun S10 w9 =>
  opH Pr S10 (nilSem (.pointer t5.1)) pav (fun t11 =>
  opH Pr S10 (Instr.loadAt 9 (.pointer (some t11))) sval (fun t12 =>
  False))) w4))) w4) w
def cmd_part_text_0_ann : Ann := (.s (.r [(0, .nl 3)]) (.s (.r [(3, .call rV), (4, .rd (rT2 rP rB))]) (.s (.s .d (.c (.s .d .d) .d)) (.s (.s .d (.c (.s (.r [(1, .rd rPA), (2, .rd rS)]) .d) .d)) (.s (.h (.take 0 (.take 1 (.take 2 (.take 3 (.take 4 (.one 5 (.take 6 (.take 7 .done)))))))) [(3, .rd rPA), (4, .rd rS), (5, .call rB)]) .d)))))
theorem cmd_part_text_0_calls {c : Option Addr} {f : Int} {K : (Bool × Bool) → World → Prop} {w : World} (h : cmd_part_text_0 c f K w) : callV Pr (tval2 Value.bool Value.bool) 193 #[(.agg ⟨[(.int .i64 1), (.int .i64 8), .nilFunc, (.func (.func 204) #[] #[])]⟩), (.pointer c), (.int .i64 f)] w K :=
  calls_of Pr_plain Pr_mixed Pr_func193 cmd_part_text_0_ann (rT2 rB rB) (args := [(.agg ⟨[(.int .i64 1), (.int .i64 8), .nilFunc, (.func (.func 204) #[] #[])]⟩), (.pointer c), (.int .i64 f)]) (by kernel_rfl) h

/- (changeover/cmd.part).text -/
def cmd_part_text_1 (c : Option Addr) (f : Int) (K : (Bool × Bool) → World → Prop) (w : World) : Prop :=
  newV (fun b1 w2 =>
  callV Pr vval 205 #[(.pointer c)] w2 fun t3 w4 =>
  kp b1 w2 w4 <|
  opRd Pr (Instr.typeAssert t3 20 230 true) (tval2 Value.pointer Value.bool) (fun t5 =>
  ifB (!t5.2)
  (K (true, true) w4)
  (ifB ((bAnd .i64 f 1) == 0)
  (drewM (fun w6 =>
  opRd Pr (nilSem (.pointer t5.1)) pav (fun t7 =>
  opRd Pr (Instr.loadAt 9 (.pointer (some t7))) sval (fun t8 =>
  K (true, (strEq t8 [])) w6) w6) w6) w4)
  (heldM (fun S10 w9 =>
  opH Pr S10 (nilSem (.pointer t5.1)) pav (fun t11 =>
  opH Pr S10 (Instr.loadAt 9 (.pointer (some t11))) sval (fun t12 =>
  False))) w4))) w4) w
def cmd_part_text_1_ann : Ann := (.s (.r [(0, .nl 3)]) (.s (.r [(3, .call rV), (4, .rd (rT2 rP rB))]) (.s (.s .d (.c (.s .d .d) .d)) (.s (.s .d (.c (.s (.r [(1, .rd rPA), (2, .rd rS)]) .d) .d)) (.s (.h (.take 0 (.take 1 (.take 2 (.take 3 (.take 4 (.one 5 (.take 6 (.take 7 .done)))))))) [(3, .rd rPA), (4, .rd rS), (5, .call rB)]) .d)))))
theorem cmd_part_text_1_calls {c : Option Addr} {f : Int} {K : (Bool × Bool) → World → Prop} {w : World} (h : cmd_part_text_1 c f K w) : callV Pr (tval2 Value.bool Value.bool) 193 #[(.agg ⟨[(.int .i64 1), (.int .i64 4294967296), .nilFunc, (.func (.func 205) #[] #[])]⟩), (.pointer c), (.int .i64 f)] w K :=
  calls_of Pr_plain Pr_mixed Pr_func193 cmd_part_text_1_ann (rT2 rB rB) (args := [(.agg ⟨[(.int .i64 1), (.int .i64 4294967296), .nilFunc, (.func (.func 205) #[] #[])]⟩), (.pointer c), (.int .i64 f)]) (by kernel_rfl) h

/- (changeover/cmd.part).text -/
def cmd_part_text_2 (c : Option Addr) (f : Int) (K : (Bool × Bool) → World → Prop) (w : World) : Prop :=
  newV (fun b1 w2 =>
  callV Pr vval 206 #[(.pointer c)] w2 fun t3 w4 =>
  kp b1 w2 w4 <|
  opRd Pr (Instr.typeAssert t3 20 230 true) (tval2 Value.pointer Value.bool) (fun t5 =>
  ifB (!t5.2)
  (K (true, true) w4)
  (ifB ((bAnd .i64 f 2) == 0)
  (drewM (fun w6 =>
  opRd Pr (nilSem (.pointer t5.1)) pav (fun t7 =>
  opRd Pr (Instr.loadAt 9 (.pointer (some t7))) sval (fun t8 =>
  K (true, (strEq t8 [])) w6) w6) w6) w4)
  (heldM (fun S10 w9 =>
  opH Pr S10 (nilSem (.pointer t5.1)) pav (fun t11 =>
  opH Pr S10 (Instr.loadAt 9 (.pointer (some t11))) sval (fun t12 =>
  callV Pr Value.bool 176 #[(sval t12)] w9 fun t13 w14 =>
  kp b1 w9 w14 <|
  (S10 w14) ∧
  (K (t13, true) w14)))) w4))) w4) w
def cmd_part_text_2_ann : Ann := (.s (.r [(0, .nl 3)]) (.s (.r [(3, .call rV), (4, .rd (rT2 rP rB))]) (.s (.s .d (.c (.s .d .d) .d)) (.s (.s .d (.c (.s (.r [(1, .rd rPA), (2, .rd rS)]) .d) .d)) (.s (.h (.take 0 (.take 1 (.take 2 (.take 3 (.take 4 (.one 5 (.take 6 (.take 7 .done)))))))) [(3, .rd rPA), (4, .rd rS), (5, .call rB)]) .d)))))
theorem cmd_part_text_2_calls {c : Option Addr} {f : Int} {K : (Bool × Bool) → World → Prop} {w : World} (h : cmd_part_text_2 c f K w) : callV Pr (tval2 Value.bool Value.bool) 193 #[(.agg ⟨[(.int .i64 2), (.int .i64 0), (.func (.func 176) #[] #[]), (.func (.func 206) #[] #[])]⟩), (.pointer c), (.int .i64 f)] w K :=
  calls_of Pr_plain Pr_mixed Pr_func193 cmd_part_text_2_ann (rT2 rB rB) (args := [(.agg ⟨[(.int .i64 2), (.int .i64 0), (.func (.func 176) #[] #[]), (.func (.func 206) #[] #[])]⟩), (.pointer c), (.int .i64 f)]) (by kernel_rfl) h

/- (changeover/cmd.part).text -/
def cmd_part_text_3 (c : Option Addr) (f : Int) (K : (Bool × Bool) → World → Prop) (w : World) : Prop :=
  newV (fun b1 w2 =>
  callV Pr vval 207 #[(.pointer c)] w2 fun t3 w4 =>
  kp b1 w2 w4 <|
  opRd Pr (Instr.typeAssert t3 20 230 true) (tval2 Value.pointer Value.bool) (fun t5 =>
  ifB (!t5.2)
  (K (true, true) w4)
  (ifB ((bAnd .i64 f 4) == 0)
  (drewM (fun w6 =>
  opRd Pr (nilSem (.pointer t5.1)) pav (fun t7 =>
  opRd Pr (Instr.loadAt 9 (.pointer (some t7))) sval (fun t8 =>
  K (true, (strEq t8 [])) w6) w6) w6) w4)
  (heldM (fun S10 w9 =>
  opH Pr S10 (nilSem (.pointer t5.1)) pav (fun t11 =>
  opH Pr S10 (Instr.loadAt 9 (.pointer (some t11))) sval (fun t12 =>
  callV Pr Value.bool 177 #[(sval t12)] w9 fun t13 w14 =>
  kp b1 w9 w14 <|
  (S10 w14) ∧
  (K (t13, true) w14)))) w4))) w4) w
def cmd_part_text_3_ann : Ann := (.s (.r [(0, .nl 3)]) (.s (.r [(3, .call rV), (4, .rd (rT2 rP rB))]) (.s (.s .d (.c (.s .d .d) .d)) (.s (.s .d (.c (.s (.r [(1, .rd rPA), (2, .rd rS)]) .d) .d)) (.s (.h (.take 0 (.take 1 (.take 2 (.take 3 (.take 4 (.one 5 (.take 6 (.take 7 .done)))))))) [(3, .rd rPA), (4, .rd rS), (5, .call rB)]) .d)))))
theorem cmd_part_text_3_calls {c : Option Addr} {f : Int} {K : (Bool × Bool) → World → Prop} {w : World} (h : cmd_part_text_3 c f K w) : callV Pr (tval2 Value.bool Value.bool) 193 #[(.agg ⟨[(.int .i64 4), (.int .i64 0), (.func (.func 177) #[] #[]), (.func (.func 207) #[] #[])]⟩), (.pointer c), (.int .i64 f)] w K :=
  calls_of Pr_plain Pr_mixed Pr_func193 cmd_part_text_3_ann (rT2 rB rB) (args := [(.agg ⟨[(.int .i64 4), (.int .i64 0), (.func (.func 177) #[] #[]), (.func (.func 207) #[] #[])]⟩), (.pointer c), (.int .i64 f)]) (by kernel_rfl) h

/- (changeover/cmd.part).text -/
def cmd_part_text_4 (c : Option Addr) (f : Int) (K : (Bool × Bool) → World → Prop) (w : World) : Prop :=
  newV (fun b1 w2 =>
  callV Pr vval 208 #[(.pointer c)] w2 fun t3 w4 =>
  kp b1 w2 w4 <|
  opRd Pr (Instr.typeAssert t3 20 230 true) (tval2 Value.pointer Value.bool) (fun t5 =>
  ifB (!t5.2)
  (K (true, true) w4)
  (ifB ((bAnd .i64 f 8) == 0)
  (drewM (fun w6 =>
  opRd Pr (nilSem (.pointer t5.1)) pav (fun t7 =>
  opRd Pr (Instr.loadAt 9 (.pointer (some t7))) sval (fun t8 =>
  K (true, (strEq t8 [])) w6) w6) w6) w4)
  (heldM (fun S10 w9 =>
  opH Pr S10 (nilSem (.pointer t5.1)) pav (fun t11 =>
  opH Pr S10 (Instr.loadAt 9 (.pointer (some t11))) sval (fun t12 =>
  callV Pr Value.bool 177 #[(sval t12)] w9 fun t13 w14 =>
  kp b1 w9 w14 <|
  (S10 w14) ∧
  (K (t13, true) w14)))) w4))) w4) w
def cmd_part_text_4_ann : Ann := (.s (.r [(0, .nl 3)]) (.s (.r [(3, .call rV), (4, .rd (rT2 rP rB))]) (.s (.s .d (.c (.s .d .d) .d)) (.s (.s .d (.c (.s (.r [(1, .rd rPA), (2, .rd rS)]) .d) .d)) (.s (.h (.take 0 (.take 1 (.take 2 (.take 3 (.take 4 (.one 5 (.take 6 (.take 7 .done)))))))) [(3, .rd rPA), (4, .rd rS), (5, .call rB)]) .d)))))
theorem cmd_part_text_4_calls {c : Option Addr} {f : Int} {K : (Bool × Bool) → World → Prop} {w : World} (h : cmd_part_text_4 c f K w) : callV Pr (tval2 Value.bool Value.bool) 193 #[(.agg ⟨[(.int .i64 8), (.int .i64 0), (.func (.func 177) #[] #[]), (.func (.func 208) #[] #[])]⟩), (.pointer c), (.int .i64 f)] w K :=
  calls_of Pr_plain Pr_mixed Pr_func193 cmd_part_text_4_ann (rT2 rB rB) (args := [(.agg ⟨[(.int .i64 8), (.int .i64 0), (.func (.func 177) #[] #[]), (.func (.func 208) #[] #[])]⟩), (.pointer c), (.int .i64 f)]) (by kernel_rfl) h

/- (changeover/cmd.part).text -/
def cmd_part_text_5 (c : Option Addr) (f : Int) (K : (Bool × Bool) → World → Prop) (w : World) : Prop :=
  newV (fun b1 w2 =>
  callV Pr vval 209 #[(.pointer c)] w2 fun t3 w4 =>
  kp b1 w2 w4 <|
  opRd Pr (Instr.typeAssert t3 20 230 true) (tval2 Value.pointer Value.bool) (fun t5 =>
  ifB (!t5.2)
  (K (true, true) w4)
  (ifB ((bAnd .i64 f 16) == 0)
  (drewM (fun w6 =>
  opRd Pr (nilSem (.pointer t5.1)) pav (fun t7 =>
  opRd Pr (Instr.loadAt 9 (.pointer (some t7))) sval (fun t8 =>
  K (true, (strEq t8 [])) w6) w6) w6) w4)
  (heldM (fun S10 w9 =>
  opH Pr S10 (nilSem (.pointer t5.1)) pav (fun t11 =>
  opH Pr S10 (Instr.loadAt 9 (.pointer (some t11))) sval (fun t12 =>
  False))) w4))) w4) w
def cmd_part_text_5_ann : Ann := (.s (.r [(0, .nl 3)]) (.s (.r [(3, .call rV), (4, .rd (rT2 rP rB))]) (.s (.s .d (.c (.s .d .d) .d)) (.s (.s .d (.c (.s (.r [(1, .rd rPA), (2, .rd rS)]) .d) .d)) (.s (.h (.take 0 (.take 1 (.take 2 (.take 3 (.take 4 (.one 5 (.take 6 (.take 7 .done)))))))) [(3, .rd rPA), (4, .rd rS), (5, .call rB)]) .d)))))
theorem cmd_part_text_5_calls {c : Option Addr} {f : Int} {K : (Bool × Bool) → World → Prop} {w : World} (h : cmd_part_text_5 c f K w) : callV Pr (tval2 Value.bool Value.bool) 193 #[(.agg ⟨[(.int .i64 16), (.int .i64 9), .nilFunc, (.func (.func 209) #[] #[])]⟩), (.pointer c), (.int .i64 f)] w K :=
  calls_of Pr_plain Pr_mixed Pr_func193 cmd_part_text_5_ann (rT2 rB rB) (args := [(.agg ⟨[(.int .i64 16), (.int .i64 9), .nilFunc, (.func (.func 209) #[] #[])]⟩), (.pointer c), (.int .i64 f)]) (by kernel_rfl) h

/- (changeover/cmd.part).write -/
def cmd_part_write_0 (w_ : Option Addr) (c : Option Addr) (K : Unit → World → Prop) (w : World) : Prop :=
  newV (fun b1 w2 =>
  callV Pr vval 204 #[(.pointer c)] w2 fun t3 w4 =>
  kp b1 w2 w4 <|
  opRd Pr (Instr.typeAssert t3 20 189 true) (tval2 Value.pointer Value.bool) (fun t5 =>
  ifB t5.2
  (opRd Pr (nilSem (.pointer t5.1)) pav (fun t6 =>
  opRd Pr (Instr.loadAt 3 (.pointer (some t6))) (Value.int .i64) (fun t7 =>
  callV Pr uval 70 #[(.pointer w_), (.int .i64 t7)] w4 fun t8 w9 =>
  kp b1 w4 w9 <|
  K () w9) w4) w4)
  (callV Pr vval 204 #[(.pointer c)] w4 fun t10 w11 =>
  kp b1 w4 w11 <|
  opRd Pr (Instr.typeAssert t10 20 230 false) Value.pointer (fun t12 =>
  opRd Pr (nilSem (.pointer t12)) pav (fun t13 =>
  opRd Pr (Instr.loadAt 9 (.pointer (some t13))) sval (fun t14 =>
  callV Pr uval 148 #[(.pointer w_), (sval t14)] w11 fun t15 w16 =>
  kp b1 w11 w16 <|
  K () w16) w11) w11) w11)) w4) w
def cmd_part_write_0_ann : Ann := (.s (.r [(0, .nl 3)]) (.s (.s (.r [(3, .call rV), (4, .rd (rT2 rP rB))]) (.s .d (.c (.s (.r [(2, .rd rPA), (3, .rd (rI .i64)), (4, .call rU)]) .d) .d))) (.r [(4, .call rV), (5, .rd rP), (6, .rd rPA), (7, .rd rS), (8, .call rU)])))
theorem cmd_part_write_0_calls {w_ : Option Addr} {c : Option Addr} {K : Unit → World → Prop} {w : World} (h : cmd_part_write_0 w_ c K w) : callV Pr uval 188 #[(.agg ⟨[(.int .i64 1), (.int .i64 8), .nilFunc, (.func (.func 204) #[] #[])]⟩), (.pointer w_), (.pointer c)] w K :=
  calls_of Pr_plain Pr_mixed Pr_func188 cmd_part_write_0_ann rU (args := [(.agg ⟨[(.int .i64 1), (.int .i64 8), .nilFunc, (.func (.func 204) #[] #[])]⟩), (.pointer w_), (.pointer c)]) (by kernel_rfl) h

/- (changeover/cmd.part).write -/
def cmd_part_write_1 (w_ : Option Addr) (c : Option Addr) (K : Unit → World → Prop) (w : World) : Prop :=
  newV (fun b1 w2 =>
  callV Pr vval 205 #[(.pointer c)] w2 fun t3 w4 =>
  kp b1 w2 w4 <|
  opRd Pr (Instr.typeAssert t3 20 189 true) (tval2 Value.pointer Value.bool) (fun t5 =>
  ifB t5.2
  (opRd Pr (nilSem (.pointer t5.1)) pav (fun t6 =>
  opRd Pr (Instr.loadAt 3 (.pointer (some t6))) (Value.int .i64) (fun t7 =>
  callV Pr uval 70 #[(.pointer w_), (.int .i64 t7)] w4 fun t8 w9 =>
  kp b1 w4 w9 <|
  K () w9) w4) w4)
  (callV Pr vval 205 #[(.pointer c)] w4 fun t10 w11 =>
  kp b1 w4 w11 <|
  opRd Pr (Instr.typeAssert t10 20 230 false) Value.pointer (fun t12 =>
  opRd Pr (nilSem (.pointer t12)) pav (fun t13 =>
  opRd Pr (Instr.loadAt 9 (.pointer (some t13))) sval (fun t14 =>
  callV Pr uval 148 #[(.pointer w_), (sval t14)] w11 fun t15 w16 =>
  kp b1 w11 w16 <|
  K () w16) w11) w11) w11)) w4) w
def cmd_part_write_1_ann : Ann := (.s (.r [(0, .nl 3)]) (.s (.s (.r [(3, .call rV), (4, .rd (rT2 rP rB))]) (.s .d (.c (.s (.r [(2, .rd rPA), (3, .rd (rI .i64)), (4, .call rU)]) .d) .d))) (.r [(4, .call rV), (5, .rd rP), (6, .rd rPA), (7, .rd rS), (8, .call rU)])))
theorem cmd_part_write_1_calls {w_ : Option Addr} {c : Option Addr} {K : Unit → World → Prop} {w : World} (h : cmd_part_write_1 w_ c K w) : callV Pr uval 188 #[(.agg ⟨[(.int .i64 1), (.int .i64 4294967296), .nilFunc, (.func (.func 205) #[] #[])]⟩), (.pointer w_), (.pointer c)] w K :=
  calls_of Pr_plain Pr_mixed Pr_func188 cmd_part_write_1_ann rU (args := [(.agg ⟨[(.int .i64 1), (.int .i64 4294967296), .nilFunc, (.func (.func 205) #[] #[])]⟩), (.pointer w_), (.pointer c)]) (by kernel_rfl) h

/- (changeover/cmd.part).write -/
def cmd_part_write_2 (w_ : Option Addr) (c : Option Addr) (K : Unit → World → Prop) (w : World) : Prop :=
  newV (fun b1 w2 =>
  callV Pr vval 206 #[(.pointer c)] w2 fun t3 w4 =>
  kp b1 w2 w4 <|
  opRd Pr (Instr.typeAssert t3 20 189 true) (tval2 Value.pointer Value.bool) (fun t5 =>
  ifB t5.2
  (opRd Pr (nilSem (.pointer t5.1)) pav (fun t6 =>
  opRd Pr (Instr.loadAt 3 (.pointer (some t6))) (Value.int .i64) (fun t7 =>
  callV Pr uval 70 #[(.pointer w_), (.int .i64 t7)] w4 fun t8 w9 =>
  kp b1 w4 w9 <|
  K () w9) w4) w4)
  (callV Pr vval 206 #[(.pointer c)] w4 fun t10 w11 =>
  kp b1 w4 w11 <|
  opRd Pr (Instr.typeAssert t10 20 230 false) Value.pointer (fun t12 =>
  opRd Pr (nilSem (.pointer t12)) pav (fun t13 =>
  opRd Pr (Instr.loadAt 9 (.pointer (some t13))) sval (fun t14 =>
  callV Pr uval 148 #[(.pointer w_), (sval t14)] w11 fun t15 w16 =>
  kp b1 w11 w16 <|
  K () w16) w11) w11) w11)) w4) w
def cmd_part_write_2_ann : Ann := (.s (.r [(0, .nl 3)]) (.s (.s (.r [(3, .call rV), (4, .rd (rT2 rP rB))]) (.s .d (.c (.s (.r [(2, .rd rPA), (3, .rd (rI .i64)), (4, .call rU)]) .d) .d))) (.r [(4, .call rV), (5, .rd rP), (6, .rd rPA), (7, .rd rS), (8, .call rU)])))
theorem cmd_part_write_2_calls {w_ : Option Addr} {c : Option Addr} {K : Unit → World → Prop} {w : World} (h : cmd_part_write_2 w_ c K w) : callV Pr uval 188 #[(.agg ⟨[(.int .i64 2), (.int .i64 0), (.func (.func 176) #[] #[]), (.func (.func 206) #[] #[])]⟩), (.pointer w_), (.pointer c)] w K :=
  calls_of Pr_plain Pr_mixed Pr_func188 cmd_part_write_2_ann rU (args := [(.agg ⟨[(.int .i64 2), (.int .i64 0), (.func (.func 176) #[] #[]), (.func (.func 206) #[] #[])]⟩), (.pointer w_), (.pointer c)]) (by kernel_rfl) h

/- (changeover/cmd.part).write -/
def cmd_part_write_3 (w_ : Option Addr) (c : Option Addr) (K : Unit → World → Prop) (w : World) : Prop :=
  newV (fun b1 w2 =>
  callV Pr vval 207 #[(.pointer c)] w2 fun t3 w4 =>
  kp b1 w2 w4 <|
  opRd Pr (Instr.typeAssert t3 20 189 true) (tval2 Value.pointer Value.bool) (fun t5 =>
  ifB t5.2
  (opRd Pr (nilSem (.pointer t5.1)) pav (fun t6 =>
  opRd Pr (Instr.loadAt 3 (.pointer (some t6))) (Value.int .i64) (fun t7 =>
  callV Pr uval 70 #[(.pointer w_), (.int .i64 t7)] w4 fun t8 w9 =>
  kp b1 w4 w9 <|
  K () w9) w4) w4)
  (callV Pr vval 207 #[(.pointer c)] w4 fun t10 w11 =>
  kp b1 w4 w11 <|
  opRd Pr (Instr.typeAssert t10 20 230 false) Value.pointer (fun t12 =>
  opRd Pr (nilSem (.pointer t12)) pav (fun t13 =>
  opRd Pr (Instr.loadAt 9 (.pointer (some t13))) sval (fun t14 =>
  callV Pr uval 148 #[(.pointer w_), (sval t14)] w11 fun t15 w16 =>
  kp b1 w11 w16 <|
  K () w16) w11) w11) w11)) w4) w
def cmd_part_write_3_ann : Ann := (.s (.r [(0, .nl 3)]) (.s (.s (.r [(3, .call rV), (4, .rd (rT2 rP rB))]) (.s .d (.c (.s (.r [(2, .rd rPA), (3, .rd (rI .i64)), (4, .call rU)]) .d) .d))) (.r [(4, .call rV), (5, .rd rP), (6, .rd rPA), (7, .rd rS), (8, .call rU)])))
theorem cmd_part_write_3_calls {w_ : Option Addr} {c : Option Addr} {K : Unit → World → Prop} {w : World} (h : cmd_part_write_3 w_ c K w) : callV Pr uval 188 #[(.agg ⟨[(.int .i64 4), (.int .i64 0), (.func (.func 177) #[] #[]), (.func (.func 207) #[] #[])]⟩), (.pointer w_), (.pointer c)] w K :=
  calls_of Pr_plain Pr_mixed Pr_func188 cmd_part_write_3_ann rU (args := [(.agg ⟨[(.int .i64 4), (.int .i64 0), (.func (.func 177) #[] #[]), (.func (.func 207) #[] #[])]⟩), (.pointer w_), (.pointer c)]) (by kernel_rfl) h

/- (changeover/cmd.part).write -/
def cmd_part_write_4 (w_ : Option Addr) (c : Option Addr) (K : Unit → World → Prop) (w : World) : Prop :=
  newV (fun b1 w2 =>
  callV Pr vval 208 #[(.pointer c)] w2 fun t3 w4 =>
  kp b1 w2 w4 <|
  opRd Pr (Instr.typeAssert t3 20 189 true) (tval2 Value.pointer Value.bool) (fun t5 =>
  ifB t5.2
  (opRd Pr (nilSem (.pointer t5.1)) pav (fun t6 =>
  opRd Pr (Instr.loadAt 3 (.pointer (some t6))) (Value.int .i64) (fun t7 =>
  callV Pr uval 70 #[(.pointer w_), (.int .i64 t7)] w4 fun t8 w9 =>
  kp b1 w4 w9 <|
  K () w9) w4) w4)
  (callV Pr vval 208 #[(.pointer c)] w4 fun t10 w11 =>
  kp b1 w4 w11 <|
  opRd Pr (Instr.typeAssert t10 20 230 false) Value.pointer (fun t12 =>
  opRd Pr (nilSem (.pointer t12)) pav (fun t13 =>
  opRd Pr (Instr.loadAt 9 (.pointer (some t13))) sval (fun t14 =>
  callV Pr uval 148 #[(.pointer w_), (sval t14)] w11 fun t15 w16 =>
  kp b1 w11 w16 <|
  K () w16) w11) w11) w11)) w4) w
def cmd_part_write_4_ann : Ann := (.s (.r [(0, .nl 3)]) (.s (.s (.r [(3, .call rV), (4, .rd (rT2 rP rB))]) (.s .d (.c (.s (.r [(2, .rd rPA), (3, .rd (rI .i64)), (4, .call rU)]) .d) .d))) (.r [(4, .call rV), (5, .rd rP), (6, .rd rPA), (7, .rd rS), (8, .call rU)])))
theorem cmd_part_write_4_calls {w_ : Option Addr} {c : Option Addr} {K : Unit → World → Prop} {w : World} (h : cmd_part_write_4 w_ c K w) : callV Pr uval 188 #[(.agg ⟨[(.int .i64 8), (.int .i64 0), (.func (.func 177) #[] #[]), (.func (.func 208) #[] #[])]⟩), (.pointer w_), (.pointer c)] w K :=
  calls_of Pr_plain Pr_mixed Pr_func188 cmd_part_write_4_ann rU (args := [(.agg ⟨[(.int .i64 8), (.int .i64 0), (.func (.func 177) #[] #[]), (.func (.func 208) #[] #[])]⟩), (.pointer w_), (.pointer c)]) (by kernel_rfl) h

/- (changeover/cmd.part).write -/
def cmd_part_write_5 (w_ : Option Addr) (c : Option Addr) (K : Unit → World → Prop) (w : World) : Prop :=
  newV (fun b1 w2 =>
  callV Pr vval 209 #[(.pointer c)] w2 fun t3 w4 =>
  kp b1 w2 w4 <|
  opRd Pr (Instr.typeAssert t3 20 189 true) (tval2 Value.pointer Value.bool) (fun t5 =>
  ifB t5.2
  (opRd Pr (nilSem (.pointer t5.1)) pav (fun t6 =>
  opRd Pr (Instr.loadAt 3 (.pointer (some t6))) (Value.int .i64) (fun t7 =>
  callV Pr uval 70 #[(.pointer w_), (.int .i64 t7)] w4 fun t8 w9 =>
  kp b1 w4 w9 <|
  K () w9) w4) w4)
  (callV Pr vval 209 #[(.pointer c)] w4 fun t10 w11 =>
  kp b1 w4 w11 <|
  opRd Pr (Instr.typeAssert t10 20 230 false) Value.pointer (fun t12 =>
  opRd Pr (nilSem (.pointer t12)) pav (fun t13 =>
  opRd Pr (Instr.loadAt 9 (.pointer (some t13))) sval (fun t14 =>
  callV Pr uval 148 #[(.pointer w_), (sval t14)] w11 fun t15 w16 =>
  kp b1 w11 w16 <|
  K () w16) w11) w11) w11)) w4) w
def cmd_part_write_5_ann : Ann := (.s (.r [(0, .nl 3)]) (.s (.s (.r [(3, .call rV), (4, .rd (rT2 rP rB))]) (.s .d (.c (.s (.r [(2, .rd rPA), (3, .rd (rI .i64)), (4, .call rU)]) .d) .d))) (.r [(4, .call rV), (5, .rd rP), (6, .rd rPA), (7, .rd rS), (8, .call rU)])))
theorem cmd_part_write_5_calls {w_ : Option Addr} {c : Option Addr} {K : Unit → World → Prop} {w : World} (h : cmd_part_write_5 w_ c K w) : callV Pr uval 188 #[(.agg ⟨[(.int .i64 16), (.int .i64 9), .nilFunc, (.func (.func 209) #[] #[])]⟩), (.pointer w_), (.pointer c)] w K :=
  calls_of Pr_plain Pr_mixed Pr_func188 cmd_part_write_5_ann rU (args := [(.agg ⟨[(.int .i64 16), (.int .i64 9), .nilFunc, (.func (.func 209) #[] #[])]⟩), (.pointer w_), (.pointer c)]) (by kernel_rfl) h

/- (changeover/cmd.part).read -/
def cmd_part_read_0 (r : Option Addr) (c : Option Addr) (K : Unit → World → Prop) (w : World) : Prop :=
  newV (fun b1 w2 =>
  callV Pr vval 204 #[(.pointer c)] w2 fun t3 w4 =>
  kp b1 w2 w4 <|
  opRd Pr (Instr.typeAssert t3 20 189 true) (tval2 Value.pointer Value.bool) (fun t5 =>
  ifB t5.2
  (callV Pr (Value.int .i64) 37 #[(.pointer r), (.int .i64 9223372036854775807)] w4 fun t6 w7 =>
  kp b1 w4 w7 <|
  opRd Pr (nilSem (.pointer t5.1)) pav (fun t8 =>
  opUn Pr (Instr.storeAt 3 (.pointer (some t8)) (.int .i64 t6)) (fun w9 =>
  kp b1 w7 w9 <|
  K () w9) w7) w7)
  (heldM (fun S11 w10 =>
  callV Pr vval 204 #[(.pointer c)] w10 fun t12 w13 =>
  kp b1 w10 w13 <|
  (S11 w13) ∧
  (opH Pr S11 (Instr.typeAssert t12 20 230 false) Value.pointer (fun t14 =>
  callV Pr sval 154 #[(.pointer r), (.int .i64 1048576)] w13 fun t15 w16 =>
  kp b1 w13 w16 <|
  (S11 w16) ∧
  (opH Pr S11 (nilSem (.pointer t14)) pav (fun t17 =>
  opUn Pr (Instr.storeAt 9 (.pointer (some t17)) (sval t15)) (fun w18 =>
  kp b1 w16 w18 <|
  (S11 w18) ∧
  (K () w18)) w16))))) w4)) w4) w
def cmd_part_read_0_ann : Ann := (.s (.r [(0, .nl 3)]) (.s (.s (.r [(3, .call rV), (4, .rd (rT2 rP rB))]) (.s .d (.c (.s (.r [(2, .call (rI .i64)), (3, .rd rPA), (4, .un)]) .d) .d))) (.h (.take 0 (.take 1 (.take 2 (.take 5 (.one 3 (.take 4 (.one 6 (.take 7 (.one 8 .done))))))))) [(3, .call rV), (4, .rd rP), (6, .call rS), (7, .rd rPA), (8, .un)])))
theorem cmd_part_read_0_calls {r : Option Addr} {c : Option Addr} {K : Unit → World → Prop} {w : World} (h : cmd_part_read_0 r c K w) : callV Pr uval 210 #[(.agg ⟨[(.int .i64 1), (.int .i64 8), .nilFunc, (.func (.func 204) #[] #[])]⟩), (.pointer r), (.pointer c)] w K :=
  calls_of Pr_plain Pr_mixed Pr_func210 cmd_part_read_0_ann rU (args := [(.agg ⟨[(.int .i64 1), (.int .i64 8), .nilFunc, (.func (.func 204) #[] #[])]⟩), (.pointer r), (.pointer c)]) (by kernel_rfl) h

/- (changeover/cmd.part).read -/
def cmd_part_read_1 (r : Option Addr) (c : Option Addr) (K : Unit → World → Prop) (w : World) : Prop :=
  newV (fun b1 w2 =>
  callV Pr vval 205 #[(.pointer c)] w2 fun t3 w4 =>
  kp b1 w2 w4 <|
  opRd Pr (Instr.typeAssert t3 20 189 true) (tval2 Value.pointer Value.bool) (fun t5 =>
  ifB t5.2
  (callV Pr (Value.int .i64) 37 #[(.pointer r), (.int .i64 9223372036854775807)] w4 fun t6 w7 =>
  kp b1 w4 w7 <|
  opRd Pr (nilSem (.pointer t5.1)) pav (fun t8 =>
  opUn Pr (Instr.storeAt 3 (.pointer (some t8)) (.int .i64 t6)) (fun w9 =>
  kp b1 w7 w9 <|
  K () w9) w7) w7)
  (heldM (fun S11 w10 =>
  callV Pr vval 205 #[(.pointer c)] w10 fun t12 w13 =>
  kp b1 w10 w13 <|
  (S11 w13) ∧
  (opH Pr S11 (Instr.typeAssert t12 20 230 false) Value.pointer (fun t14 =>
  callV Pr sval 154 #[(.pointer r), (.int .i64 1048576)] w13 fun t15 w16 =>
  kp b1 w13 w16 <|
  (S11 w16) ∧
  (opH Pr S11 (nilSem (.pointer t14)) pav (fun t17 =>
  opUn Pr (Instr.storeAt 9 (.pointer (some t17)) (sval t15)) (fun w18 =>
  kp b1 w16 w18 <|
  (S11 w18) ∧
  (K () w18)) w16))))) w4)) w4) w
def cmd_part_read_1_ann : Ann := (.s (.r [(0, .nl 3)]) (.s (.s (.r [(3, .call rV), (4, .rd (rT2 rP rB))]) (.s .d (.c (.s (.r [(2, .call (rI .i64)), (3, .rd rPA), (4, .un)]) .d) .d))) (.h (.take 0 (.take 1 (.take 2 (.take 5 (.one 3 (.take 4 (.one 6 (.take 7 (.one 8 .done))))))))) [(3, .call rV), (4, .rd rP), (6, .call rS), (7, .rd rPA), (8, .un)])))
theorem cmd_part_read_1_calls {r : Option Addr} {c : Option Addr} {K : Unit → World → Prop} {w : World} (h : cmd_part_read_1 r c K w) : callV Pr uval 210 #[(.agg ⟨[(.int .i64 1), (.int .i64 4294967296), .nilFunc, (.func (.func 205) #[] #[])]⟩), (.pointer r), (.pointer c)] w K :=
  calls_of Pr_plain Pr_mixed Pr_func210 cmd_part_read_1_ann rU (args := [(.agg ⟨[(.int .i64 1), (.int .i64 4294967296), .nilFunc, (.func (.func 205) #[] #[])]⟩), (.pointer r), (.pointer c)]) (by kernel_rfl) h

/- (changeover/cmd.part).read -/
def cmd_part_read_2 (r : Option Addr) (c : Option Addr) (K : Unit → World → Prop) (w : World) : Prop :=
  newV (fun b1 w2 =>
  callV Pr vval 206 #[(.pointer c)] w2 fun t3 w4 =>
  kp b1 w2 w4 <|
  opRd Pr (Instr.typeAssert t3 20 189 true) (tval2 Value.pointer Value.bool) (fun t5 =>
  ifB t5.2
  (callV Pr (Value.int .i64) 37 #[(.pointer r), (.int .i64 9223372036854775807)] w4 fun t6 w7 =>
  kp b1 w4 w7 <|
  opRd Pr (nilSem (.pointer t5.1)) pav (fun t8 =>
  opUn Pr (Instr.storeAt 3 (.pointer (some t8)) (.int .i64 t6)) (fun w9 =>
  kp b1 w7 w9 <|
  K () w9) w7) w7)
  (heldM (fun S11 w10 =>
  callV Pr vval 206 #[(.pointer c)] w10 fun t12 w13 =>
  kp b1 w10 w13 <|
  (S11 w13) ∧
  (opH Pr S11 (Instr.typeAssert t12 20 230 false) Value.pointer (fun t14 =>
  callV Pr sval 154 #[(.pointer r), (.int .i64 1048576)] w13 fun t15 w16 =>
  kp b1 w13 w16 <|
  (S11 w16) ∧
  (opH Pr S11 (nilSem (.pointer t14)) pav (fun t17 =>
  opUn Pr (Instr.storeAt 9 (.pointer (some t17)) (sval t15)) (fun w18 =>
  kp b1 w16 w18 <|
  (S11 w18) ∧
  (K () w18)) w16))))) w4)) w4) w
def cmd_part_read_2_ann : Ann := (.s (.r [(0, .nl 3)]) (.s (.s (.r [(3, .call rV), (4, .rd (rT2 rP rB))]) (.s .d (.c (.s (.r [(2, .call (rI .i64)), (3, .rd rPA), (4, .un)]) .d) .d))) (.h (.take 0 (.take 1 (.take 2 (.take 5 (.one 3 (.take 4 (.one 6 (.take 7 (.one 8 .done))))))))) [(3, .call rV), (4, .rd rP), (6, .call rS), (7, .rd rPA), (8, .un)])))
theorem cmd_part_read_2_calls {r : Option Addr} {c : Option Addr} {K : Unit → World → Prop} {w : World} (h : cmd_part_read_2 r c K w) : callV Pr uval 210 #[(.agg ⟨[(.int .i64 2), (.int .i64 0), (.func (.func 176) #[] #[]), (.func (.func 206) #[] #[])]⟩), (.pointer r), (.pointer c)] w K :=
  calls_of Pr_plain Pr_mixed Pr_func210 cmd_part_read_2_ann rU (args := [(.agg ⟨[(.int .i64 2), (.int .i64 0), (.func (.func 176) #[] #[]), (.func (.func 206) #[] #[])]⟩), (.pointer r), (.pointer c)]) (by kernel_rfl) h

/- (changeover/cmd.part).read -/
def cmd_part_read_3 (r : Option Addr) (c : Option Addr) (K : Unit → World → Prop) (w : World) : Prop :=
  newV (fun b1 w2 =>
  callV Pr vval 207 #[(.pointer c)] w2 fun t3 w4 =>
  kp b1 w2 w4 <|
  opRd Pr (Instr.typeAssert t3 20 189 true) (tval2 Value.pointer Value.bool) (fun t5 =>
  ifB t5.2
  (callV Pr (Value.int .i64) 37 #[(.pointer r), (.int .i64 9223372036854775807)] w4 fun t6 w7 =>
  kp b1 w4 w7 <|
  opRd Pr (nilSem (.pointer t5.1)) pav (fun t8 =>
  opUn Pr (Instr.storeAt 3 (.pointer (some t8)) (.int .i64 t6)) (fun w9 =>
  kp b1 w7 w9 <|
  K () w9) w7) w7)
  (heldM (fun S11 w10 =>
  callV Pr vval 207 #[(.pointer c)] w10 fun t12 w13 =>
  kp b1 w10 w13 <|
  (S11 w13) ∧
  (opH Pr S11 (Instr.typeAssert t12 20 230 false) Value.pointer (fun t14 =>
  callV Pr sval 154 #[(.pointer r), (.int .i64 1048576)] w13 fun t15 w16 =>
  kp b1 w13 w16 <|
  (S11 w16) ∧
  (opH Pr S11 (nilSem (.pointer t14)) pav (fun t17 =>
  opUn Pr (Instr.storeAt 9 (.pointer (some t17)) (sval t15)) (fun w18 =>
  kp b1 w16 w18 <|
  (S11 w18) ∧
  (K () w18)) w16))))) w4)) w4) w
def cmd_part_read_3_ann : Ann := (.s (.r [(0, .nl 3)]) (.s (.s (.r [(3, .call rV), (4, .rd (rT2 rP rB))]) (.s .d (.c (.s (.r [(2, .call (rI .i64)), (3, .rd rPA), (4, .un)]) .d) .d))) (.h (.take 0 (.take 1 (.take 2 (.take 5 (.one 3 (.take 4 (.one 6 (.take 7 (.one 8 .done))))))))) [(3, .call rV), (4, .rd rP), (6, .call rS), (7, .rd rPA), (8, .un)])))
theorem cmd_part_read_3_calls {r : Option Addr} {c : Option Addr} {K : Unit → World → Prop} {w : World} (h : cmd_part_read_3 r c K w) : callV Pr uval 210 #[(.agg ⟨[(.int .i64 4), (.int .i64 0), (.func (.func 177) #[] #[]), (.func (.func 207) #[] #[])]⟩), (.pointer r), (.pointer c)] w K :=
  calls_of Pr_plain Pr_mixed Pr_func210 cmd_part_read_3_ann rU (args := [(.agg ⟨[(.int .i64 4), (.int .i64 0), (.func (.func 177) #[] #[]), (.func (.func 207) #[] #[])]⟩), (.pointer r), (.pointer c)]) (by kernel_rfl) h

/- (changeover/cmd.part).read -/
def cmd_part_read_4 (r : Option Addr) (c : Option Addr) (K : Unit → World → Prop) (w : World) : Prop :=
  newV (fun b1 w2 =>
  callV Pr vval 208 #[(.pointer c)] w2 fun t3 w4 =>
  kp b1 w2 w4 <|
  opRd Pr (Instr.typeAssert t3 20 189 true) (tval2 Value.pointer Value.bool) (fun t5 =>
  ifB t5.2
  (callV Pr (Value.int .i64) 37 #[(.pointer r), (.int .i64 9223372036854775807)] w4 fun t6 w7 =>
  kp b1 w4 w7 <|
  opRd Pr (nilSem (.pointer t5.1)) pav (fun t8 =>
  opUn Pr (Instr.storeAt 3 (.pointer (some t8)) (.int .i64 t6)) (fun w9 =>
  kp b1 w7 w9 <|
  K () w9) w7) w7)
  (heldM (fun S11 w10 =>
  callV Pr vval 208 #[(.pointer c)] w10 fun t12 w13 =>
  kp b1 w10 w13 <|
  (S11 w13) ∧
  (opH Pr S11 (Instr.typeAssert t12 20 230 false) Value.pointer (fun t14 =>
  callV Pr sval 154 #[(.pointer r), (.int .i64 1048576)] w13 fun t15 w16 =>
  kp b1 w13 w16 <|
  (S11 w16) ∧
  (opH Pr S11 (nilSem (.pointer t14)) pav (fun t17 =>
  opUn Pr (Instr.storeAt 9 (.pointer (some t17)) (sval t15)) (fun w18 =>
  kp b1 w16 w18 <|
  (S11 w18) ∧
  (K () w18)) w16))))) w4)) w4) w
def cmd_part_read_4_ann : Ann := (.s (.r [(0, .nl 3)]) (.s (.s (.r [(3, .call rV), (4, .rd (rT2 rP rB))]) (.s .d (.c (.s (.r [(2, .call (rI .i64)), (3, .rd rPA), (4, .un)]) .d) .d))) (.h (.take 0 (.take 1 (.take 2 (.take 5 (.one 3 (.take 4 (.one 6 (.take 7 (.one 8 .done))))))))) [(3, .call rV), (4, .rd rP), (6, .call rS), (7, .rd rPA), (8, .un)])))
theorem cmd_part_read_4_calls {r : Option Addr} {c : Option Addr} {K : Unit → World → Prop} {w : World} (h : cmd_part_read_4 r c K w) : callV Pr uval 210 #[(.agg ⟨[(.int .i64 8), (.int .i64 0), (.func (.func 177) #[] #[]), (.func (.func 208) #[] #[])]⟩), (.pointer r), (.pointer c)] w K :=
  calls_of Pr_plain Pr_mixed Pr_func210 cmd_part_read_4_ann rU (args := [(.agg ⟨[(.int .i64 8), (.int .i64 0), (.func (.func 177) #[] #[]), (.func (.func 208) #[] #[])]⟩), (.pointer r), (.pointer c)]) (by kernel_rfl) h

/- (changeover/cmd.part).read -/
def cmd_part_read_5 (r : Option Addr) (c : Option Addr) (K : Unit → World → Prop) (w : World) : Prop :=
  newV (fun b1 w2 =>
  callV Pr vval 209 #[(.pointer c)] w2 fun t3 w4 =>
  kp b1 w2 w4 <|
  opRd Pr (Instr.typeAssert t3 20 189 true) (tval2 Value.pointer Value.bool) (fun t5 =>
  ifB t5.2
  (callV Pr (Value.int .i64) 37 #[(.pointer r), (.int .i64 9223372036854775807)] w4 fun t6 w7 =>
  kp b1 w4 w7 <|
  opRd Pr (nilSem (.pointer t5.1)) pav (fun t8 =>
  opUn Pr (Instr.storeAt 3 (.pointer (some t8)) (.int .i64 t6)) (fun w9 =>
  kp b1 w7 w9 <|
  K () w9) w7) w7)
  (heldM (fun S11 w10 =>
  callV Pr vval 209 #[(.pointer c)] w10 fun t12 w13 =>
  kp b1 w10 w13 <|
  (S11 w13) ∧
  (opH Pr S11 (Instr.typeAssert t12 20 230 false) Value.pointer (fun t14 =>
  callV Pr sval 154 #[(.pointer r), (.int .i64 1048576)] w13 fun t15 w16 =>
  kp b1 w13 w16 <|
  (S11 w16) ∧
  (opH Pr S11 (nilSem (.pointer t14)) pav (fun t17 =>
  opUn Pr (Instr.storeAt 9 (.pointer (some t17)) (sval t15)) (fun w18 =>
  kp b1 w16 w18 <|
  (S11 w18) ∧
  (K () w18)) w16))))) w4)) w4) w
def cmd_part_read_5_ann : Ann := (.s (.r [(0, .nl 3)]) (.s (.s (.r [(3, .call rV), (4, .rd (rT2 rP rB))]) (.s .d (.c (.s (.r [(2, .call (rI .i64)), (3, .rd rPA), (4, .un)]) .d) .d))) (.h (.take 0 (.take 1 (.take 2 (.take 5 (.one 3 (.take 4 (.one 6 (.take 7 (.one 8 .done))))))))) [(3, .call rV), (4, .rd rP), (6, .call rS), (7, .rd rPA), (8, .un)])))
theorem cmd_part_read_5_calls {r : Option Addr} {c : Option Addr} {K : Unit → World → Prop} {w : World} (h : cmd_part_read_5 r c K w) : callV Pr uval 210 #[(.agg ⟨[(.int .i64 16), (.int .i64 9), .nilFunc, (.func (.func 209) #[] #[])]⟩), (.pointer r), (.pointer c)] w K :=
  calls_of Pr_plain Pr_mixed Pr_func210 cmd_part_read_5_ann rU (args := [(.agg ⟨[(.int .i64 16), (.int .i64 9), .nilFunc, (.func (.func 209) #[] #[])]⟩), (.pointer r), (.pointer c)]) (by kernel_rfl) h

/- changeover/pack.read[int] -/
def pack_read_int_Number (r : Option Addr) (c75x0 : Addr) (c75x1 : Addr) (K : Int → World → Prop) (w : World) : Prop :=
  opRd Pr (binSem .eql 78 (.tmp 7) (.const (.pointer none)) (.pointer r) (.pointer none)) Value.bool (fun t1 =>
  ifB t1
  (K 0 w)
  (opRd Pr (nilSem (.pointer r)) pav (fun t2 =>
  opRd Pr (Instr.loadAt 31 (.pointer (some (t2.add 2)))) (Value.int .i64) (fun t3 =>
  ifB (t3 != 0)
  (K 0 w)
  (callV Pr (Value.int .i64) 75 #[(.pointer (some c75x0)), (.pointer (some c75x1))] w fun x4 w5 =>
  opRd Pr (nilSem (.pointer r)) pav (fun t6 =>
  opRd Pr (Instr.loadAt 31 (.pointer (some (t6.add 2)))) (Value.int .i64) (fun t7 =>
  ifB (t7 != 0)
  (K 0 w5)
  (K x4 w5)) w5) w5)) w) w)) w
def pack_read_int_Number_ann : Ann := (.s .d (.s .d (.s (.s (.r [(1, .rd rB), (4, .rd rPA), (6, .rd (rI .i64))]) (.c (.s .d .d) .d)) (.s (.r [(1, .call (rI .i64))]) (.s (.s (.r [(1, .rd rPA), (3, .rd (rI .i64))]) (.c (.s .d .d) .d)) (.s .d .d))))))
theorem pack_read_int_Number_calls {r : Option Addr} {c75x0 : Addr} {c75x1 : Addr} {K : Int → World → Prop} {w : World} (h : pack_read_int_Number r c75x0 c75x1 K w) : callV Pr (Value.int .i64) 74 #[(.pointer r), (.func (.func 75) #[] #[(.pointer (some c75x0)), (.pointer (some c75x1))])] w K :=
  calls_of Pr_plain Pr_mixed Pr_func74 pack_read_int_Number_ann (rI .i64) (args := [(.pointer r), (.func (.func 75) #[] #[(.pointer (some c75x0)), (.pointer (some c75x1))])]) (by kernel_rfl) h

/- changeover/pack.read[int] -/
def pack_read_int_Count (r : Option Addr) (c150x0 : Addr) (c150x1 : Addr) (K : Int → World → Prop) (w : World) : Prop :=
  opRd Pr (binSem .eql 78 (.tmp 7) (.const (.pointer none)) (.pointer r) (.pointer none)) Value.bool (fun t1 =>
  ifB t1
  (K 0 w)
  (opRd Pr (nilSem (.pointer r)) pav (fun t2 =>
  opRd Pr (Instr.loadAt 31 (.pointer (some (t2.add 2)))) (Value.int .i64) (fun t3 =>
  ifB (t3 != 0)
  (K 0 w)
  (callV Pr (Value.int .i64) 150 #[(.pointer (some c150x0)), (.pointer (some c150x1))] w fun x4 w5 =>
  opRd Pr (nilSem (.pointer r)) pav (fun t6 =>
  opRd Pr (Instr.loadAt 31 (.pointer (some (t6.add 2)))) (Value.int .i64) (fun t7 =>
  ifB (t7 != 0)
  (K 0 w5)
  (K x4 w5)) w5) w5)) w) w)) w
def pack_read_int_Count_ann : Ann := (.s .d (.s .d (.s (.s (.r [(1, .rd rB), (4, .rd rPA), (6, .rd (rI .i64))]) (.c (.s .d .d) .d)) (.s (.r [(1, .call (rI .i64))]) (.s (.s (.r [(1, .rd rPA), (3, .rd (rI .i64))]) (.c (.s .d .d) .d)) (.s .d .d))))))
theorem pack_read_int_Count_calls {r : Option Addr} {c150x0 : Addr} {c150x1 : Addr} {K : Int → World → Prop} {w : World} (h : pack_read_int_Count r c150x0 c150x1 K w) : callV Pr (Value.int .i64) 74 #[(.pointer r), (.func (.func 150) #[] #[(.pointer (some c150x0)), (.pointer (some c150x1))])] w K :=
  calls_of Pr_plain Pr_mixed Pr_func74 pack_read_int_Count_ann (rI .i64) (args := [(.pointer r), (.func (.func 150) #[] #[(.pointer (some c150x0)), (.pointer (some c150x1))])]) (by kernel_rfl) h

/- changeover/pack.read[[]byte] -/
def pack_read_byte_Raw (r : Option Addr) (c118x0 : Addr) (c118x1 : Addr) (K : Sl → World → Prop) (w : World) : Prop :=
  opRd Pr (binSem .eql 78 (.tmp 7) (.const (.pointer none)) (.pointer r) (.pointer none)) Value.bool (fun t1 =>
  ifB t1
  (K Sl.nil w)
  (opRd Pr (nilSem (.pointer r)) pav (fun t2 =>
  opRd Pr (Instr.loadAt 31 (.pointer (some (t2.add 2)))) (Value.int .i64) (fun t3 =>
  ifB (t3 != 0)
  (K Sl.nil w)
  (callV Pr Sl.val 118 #[(.pointer (some c118x0)), (.pointer (some c118x1))] w fun x4 w5 =>
  opRd Pr (nilSem (.pointer r)) pav (fun t6 =>
  opRd Pr (Instr.loadAt 31 (.pointer (some (t6.add 2)))) (Value.int .i64) (fun t7 =>
  ifB (t7 != 0)
  (K Sl.nil w5)
  (K x4 w5)) w5) w5)) w) w)) w
def pack_read_byte_Raw_ann : Ann := (.s .d (.s .d (.s (.s (.r [(1, .rd rB), (4, .rd rPA), (6, .rd (rI .i64))]) (.c (.s .d .d) .d)) (.s (.r [(1, .call rSl)]) (.s (.s (.r [(1, .rd rPA), (3, .rd (rI .i64))]) (.c (.s .d .d) .d)) (.s .d .d))))))
theorem pack_read_byte_Raw_calls {r : Option Addr} {c118x0 : Addr} {c118x1 : Addr} {K : Sl → World → Prop} {w : World} (h : pack_read_byte_Raw r c118x0 c118x1 K w) : callV Pr Sl.val 117 #[(.pointer r), (.func (.func 118) #[] #[(.pointer (some c118x0)), (.pointer (some c118x1))])] w K :=
  calls_of Pr_plain Pr_mixed Pr_func117 pack_read_byte_Raw_ann rSl (args := [(.pointer r), (.func (.func 118) #[] #[(.pointer (some c118x0)), (.pointer (some c118x1))])]) (by kernel_rfl) h

/- changeover/runes.all -/
def runes_all_Plain (s : List UInt8) (K : Bool → World → Prop) (w : World) : Prop :=
  opTy Pr (Instr.range 9 (sval s)) pav (fun t1 w2 =>
  loop0 (fun k3 w4 =>
  opAl Pr (Instr.next (.pointer (some t1)) true 0) (nxval (Value.int .i64) (Value.int .i32)) endval (fun t5 w6 =>
  callV Pr Value.bool 197 #[(.int .i32 t5.2)] w6 fun t7 w8 =>
  ifB (!t7)
  (K false w8)
  (k3 w8)) (fun _ w9 =>
  K true w9) w4) w2) w
def runes_all_Plain_ann : Ann := (.s .d (.s (.s (.r [(1, .ty rPA)]) (.b (.l [] (.s (.r [(0, .alt (rNx (rI .i64) (rI .i32)) rEnd)]) (.s (.c .d .d) (.b (.s .d (.s (.r [(2, .call rB)]) (.c (.s .d .d) .d))))))))) (.s .d .d)))
theorem runes_all_Plain_calls {s : List UInt8} {K : Bool → World → Prop} {w : World} (h : runes_all_Plain s K w) : callV Pr Value.bool 196 #[(sval s), (.func (.func 197) #[] #[])] w K :=
  calls_of Pr_plain Pr_mixed Pr_func196 runes_all_Plain_ann rB (args := [(sval s), (.func (.func 197) #[] #[])]) (by kernel_rfl) h

/- changeover/runes.all -/
def runes_all_Val (s : List UInt8) (K : Bool → World → Prop) (w : World) : Prop :=
  opTy Pr (Instr.range 9 (sval s)) pav (fun t1 w2 =>
  loop0 (fun k3 w4 =>
  opAl Pr (Instr.next (.pointer (some t1)) true 0) (nxval (Value.int .i64) (Value.int .i32)) endval (fun t5 w6 =>
  callV Pr Value.bool 198 #[(.int .i32 t5.2)] w6 fun t7 w8 =>
  ifB (!t7)
  (K false w8)
  (k3 w8)) (fun _ w9 =>
  K true w9) w4) w2) w
def runes_all_Val_ann : Ann := (.s .d (.s (.s (.r [(1, .ty rPA)]) (.b (.l [] (.s (.r [(0, .alt (rNx (rI .i64) (rI .i32)) rEnd)]) (.s (.c .d .d) (.b (.s .d (.s (.r [(2, .call rB)]) (.c (.s .d .d) .d))))))))) (.s .d .d)))
theorem runes_all_Val_calls {s : List UInt8} {K : Bool → World → Prop} {w : World} (h : runes_all_Val s K w) : callV Pr Value.bool 196 #[(sval s), (.func (.func 198) #[] #[])] w K :=
  calls_of Pr_plain Pr_mixed Pr_func196 runes_all_Val_ann rB (args := [(sval s), (.func (.func 198) #[] #[])]) (by kernel_rfl) h

/- slices.IndexFunc[[]changeover/api.Entry,changeover/api.Entry] -/
def slices_IndexFunc_api_Entry_api_Entry_Has (s : Sl) (c184x0 : Addr) (K : Int → World → Prop) (w : World) : Prop :=
  loop1 (0 : Int) (fun t1 k2 w3 =>
  ifB (decide (t1 < (s.len : Int)))
  (opRd Pr (Instr.indexAt 42 s.val (.int .i64 t1)) pav (fun t4 =>
  opRd Pr (Instr.loadAt 106 (.pointer (some t4))) ApiEntry.val (fun t5 =>
  callV Pr Value.bool 184 #[(.agg ⟨t5.cs⟩), (.pointer (some c184x0))] w3 fun t6 w7 =>
  ifB t6
  (K t1 w7)
  (k2 (i64 (t1 + 1)) w7)) w3) w3)
  (K (-1) w3)) w
def slices_IndexFunc_api_Entry_api_Entry_Has_ann : Ann := (.s .d (.s (.s .d (.b (.l [(.s 8, (rI .i64))] (.s .d (.s (.c .d .d) (.s (.b (.s .d (.s (.r [(3, .rd rPA), (4, .rd rApiEntry), (5, .call rB)]) (.c (.s .d .d) .d)))) .d)))))) (.s .d .d)))
theorem slices_IndexFunc_api_Entry_api_Entry_Has_calls {s : Sl} {c184x0 : Addr} {K : Int → World → Prop} {w : World} (h : slices_IndexFunc_api_Entry_api_Entry_Has s c184x0 K w) : callV Pr (Value.int .i64) 203 #[s.val, (.func (.func 184) #[] #[(.pointer (some c184x0))])] w K :=
  calls_of Pr_plain Pr_mixed Pr_func203 slices_IndexFunc_api_Entry_api_Entry_Has_ann (rI .i64) (args := [s.val, (.func (.func 184) #[] #[(.pointer (some c184x0))])]) (by kernel_rfl) h

end Go.Chg
