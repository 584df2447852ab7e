/-
  Functions of the program, told by a program of ours (gen.py), each held by the kernel to what is to be shown of its code.
-/
import Derived.Test.YtchkkeninkmclaaTy
set_option maxRecDepth 100000
set_option linter.unusedVariables false
namespace Go.Chg
open Go.Vc

/- changeover/changeoverlaw32.LedgerNext -/
def law32_LedgerNext (l : Sl) (applied : Int) (K : Bool → World → Prop) (w : World) : Prop :=
  callV Pr Value.bool 8 #[l.val] w fun t1 w2 =>
  ifB t1
  (callV Pr Value.bool 10 #[] w2 fun t3 w4 =>
  K t3 w4)
  (callV Pr Value.bool 9 #[l.val] w2 fun t5 w6 =>
  ifB (!t5)
  (callV Pr Value.bool 10 #[] w6 fun t7 w8 =>
  K t7 w8)
  (ifB (decide (applied < 0))
  (callV Pr Value.bool 10 #[] w6 fun t9 w10 =>
  K t9 w10)
  (callV Pr Sl.val 11 #[l.val, (.int .i64 applied)] w6 fun r11 w12 =>
  callV Pr Sl.val 13 #[l.val, (.int .i64 applied)] w12 fun t13 w14 =>
  callV Pr Value.bool 12 #[r11.val, t13.val] w14 fun t15 w16 =>
  ifB t15
  (callV Pr Sl.val 15 #[l.val, (.int .i64 applied)] w16 fun t17 w18 =>
  callV Pr Sl.val 16 #[l.val, (.int .i64 applied)] w18 fun t19 w20 =>
  callV Pr Value.bool 14 #[t17.val, t19.val] w20 fun t21 w22 =>
  ifB t21
  (callV Pr (Value.int .i64) 17 #[l.val, (.int .i64 applied)] w22 fun t23 w24 =>
  callV Pr (Value.int .i64) 18 #[l.val, (.int .i64 applied)] w24 fun t25 w26 =>
  ifB (t23 == t25)
  (callV Pr Sl.val 15 #[r11.val, (.int .i64 applied)] w26 fun t27 w28 =>
  ifB ((t27.len : Int) == 0)
  (callV Pr Value.bool 10 #[] w28 fun t29 w30 =>
  K t29 w30)
  (K false w28))
  (K false w26))
  (K false w22))
  (K false w16))))
def law32_LedgerNext_ann : Ann := (.s .d (.s (.s (.r [(1, .call rB), (4, .call rB)]) (.c (.s (.r [(0, .call rB)]) .d) .d)) (.s (.r [(2, .call rSl)]) (.s (.r [(3, .call rSl), (4, .call rB), (8, .call rSl), (11, .call rSl), (12, .call rB), (17, .call (rI .i64)), (20, .call (rI .i64)), (26, .call rSl), (31, .call rB)]) .d))))
theorem law32_LedgerNext_calls {l : Sl} {applied : Int} {K : Bool → World → Prop} {w : World} (h : law32_LedgerNext l applied K w) : callV Pr Value.bool 3 #[l.val, (.int .i64 applied)] w K :=
  calls_of Pr_plain Pr_mixed Pr_func3 law32_LedgerNext_ann rB (args := [l.val, (.int .i64 applied)]) (by kernel_rfl) h

/- changeover/changeoverlaw04.PackWrites -/
def law04_PackWrites (l : Sl) (K : Bool → World → Prop) (w : World) : Prop :=
  callV Pr Value.bool 19 #[l.val] w fun t1 w2 =>
  ifB t1
  (callV Pr Value.bool 20 #[] w2 fun t3 w4 =>
  K t3 w4)
  (callV Pr Sl.val 22 #[l.val] w2 fun t5 w6 =>
  callV Pr Sl.val 23 #[l.val] w6 fun t7 w8 =>
  callV Pr Value.bool 21 #[t5.val, t7.val] w8 fun t9 w10 =>
  ifB t9
  (callV Pr Value.bool 20 #[] w10 fun t11 w12 =>
  K t11 w12)
  (K false w10))
def law04_PackWrites_ann : Ann := (.s .d (.s (.s (.r [(1, .call rB)]) (.c (.s (.r [(0, .call rB)]) .d) .d)) (.s (.r [(1, .call rSl), (3, .call rSl), (4, .call rB), (6, .call rB)]) .d)))
theorem law04_PackWrites_calls {l : Sl} {K : Bool → World → Prop} {w : World} (h : law04_PackWrites l K w) : callV Pr Value.bool 4 #[l.val] w K :=
  calls_of Pr_plain Pr_mixed Pr_func4 law04_PackWrites_ann rB (args := [l.val]) (by kernel_rfl) h

/- changeover/changeoverlaw04.PackBack -/
def law04_PackBack (l : Sl) (K : Bool → World → Prop) (w : World) : Prop :=
  callV Pr Value.bool 19 #[l.val] w fun t1 w2 =>
  ifB t1
  (callV Pr Value.bool 20 #[] w2 fun t3 w4 =>
  K t3 w4)
  (callV Pr Sl.val 22 #[l.val] w2 fun t5 w6 =>
  callV Pr Value.pointer 24 #[t5.val] w6 fun r7 w8 =>
  loop1 (0 : Int) (fun i9 k10 w11 =>
  ifB (decide (i9 < (l.len : Int)))
  (opRd Pr (Instr.indexAt 32 l.val (.int .i64 i9)) pav (fun t12 =>
  opRd Pr (Instr.loadAt 3 (.pointer (some (t12.add 0)))) (Value.int .i64) (fun t13 =>
  ifB (t13 == 1)
  (join0 (fun (j14 : World → Prop) =>
  heldM (fun S16 w15 =>
  opH Pr S16 (Instr.indexAt 32 l.val (.int .i64 i9)) pav (fun t17 =>
  opH Pr S16 (Instr.loadAt 3 (.pointer (some (t17.add 1)))) (Value.int .i64) (fun t18 =>
  callV Pr (Value.int .i64) 25 #[(.pointer r7), (.int .i64 4611686018427387904)] w15 fun t19 w20 =>
  (S16 w20) ∧
  (ifB (t19 != t18)
  (opH Pr S16 (Instr.indexAt 32 l.val (.int .i64 i9)) pav (fun t21 =>
  opH Pr S16 (Instr.loadAt 3 (.pointer (some (t21.add 1)))) (Value.int .i64) (fun t22 =>
  ifB (decide (t22 ≥ 0))
  (opH Pr S16 (Instr.indexAt 32 l.val (.int .i64 i9)) pav (fun t23 =>
  opH Pr S16 (Instr.loadAt 3 (.pointer (some (t23.add 1)))) (Value.int .i64) (fun t24 =>
  ifB (decide (t24 ≤ 4611686018427387904))
  (K false w20)
  (j14 w20))))
  (j14 w20))))
  (j14 w20))))) w11)
  (fun w25 =>
  opRd Pr (Instr.indexAt 32 l.val (.int .i64 i9)) pav (fun t26 =>
  opRd Pr (Instr.loadAt 3 (.pointer (some (t26.add 1)))) (Value.int .i64) (fun t27 =>
  ifB (decide (t27 > 4611686018427387904))
  (callV Pr Value.bool 20 #[] w25 fun t28 w29 =>
  K t28 w29)
  (k10 (i64 (i9 + 1)) w25)) w25) w25))
  (ifB (t13 == 2)
  (heldM (fun S31 w30 =>
  opH Pr S31 (Instr.indexAt 32 l.val (.int .i64 i9)) pav (fun t32 =>
  opH Pr S31 (Instr.loadAt 9 (.pointer (some (t32.add 2)))) sval (fun t33 =>
  callV Pr sval 26 #[(.pointer r7), (.int .i64 200)] w30 fun t34 w35 =>
  (S31 w35) ∧
  (ifB (!(strEq t34 t33))
  (K false w35)
  (k10 (i64 (i9 + 1)) w35))))) w11)
  (ifB (t13 == 3)
  (heldM (fun S37 w36 =>
  opH Pr S37 (Instr.indexAt 32 l.val (.int .i64 i9)) pav (fun t38 =>
  opH Pr S37 (Instr.loadAt 4 (.pointer (some (t38.add 3)))) Value.bool (fun t39 =>
  callV Pr Value.bool 27 #[(.pointer r7)] w36 fun t40 w41 =>
  (S37 w41) ∧
  (ifB (!(t40 == t39))
  (K false w41)
  (k10 (i64 (i9 + 1)) w41))))) w11)
  (k10 (i64 (i9 + 1)) w11)))) w11) w11)
  (callV Pr (Value.int .i64) 28 #[(.pointer r7)] w11 fun t42 w43 =>
  ifB (t42 == 0)
  (callV Pr Value.bool 20 #[] w43 fun t44 w45 =>
  K t44 w45)
  (K false w43))) w8)
def law04_PackBack_ann : Ann := (.s .d (.s (.s (.r [(1, .call rB)]) (.c (.s (.r [(0, .call rB)]) .d) .d)) (.s (.r [(1, .call rSl), (2, .call rP)]) (.s (.s .d (.b (.l [(.s 4, (rI .i64))] (.s (.s .d (.c .d .d)) (.s (.b (.s (.r [(2, .rd rPA), (4, .rd (rI .i64))]) (.b (.s .d (.c (.sj [] (.s (.h (.take 0 (.take 2 (.take 3 (.take 4 (.take 5 (.take 6 (.one 1 (.take 7 (.take 8 (.take 9 (.take 10 (.take 11 (.take 12 (.take 13 (.take 14 (.take 15 (.take 16 (.take 17 (.take 18 (.take 19 (.take 20 (.take 21 (.take 22 (.take 23 .done)))))))))))))))))))))))) [(1, .call (rI .i64)), (4, .rd rPA), (6, .rd (rI .i64)), (11, .rd rPA), (13, .rd (rI .i64)), (19, .rd rPA), (21, .rd (rI .i64))]) (.c (.s .d .d) .d)) (.s (.r [(2, .rd rPA), (4, .rd (rI .i64))]) (.c (.s (.r [(0, .call rB)]) .d) .d))) (.s .d (.c (.s (.h (.take 0 (.take 2 (.take 3 (.take 4 (.take 5 (.take 6 (.one 1 (.take 7 .done)))))))) [(1, .call rS), (4, .rd rPA), (6, .rd rS)]) (.c (.s .d .d) .d)) (.s .d (.c (.s (.h (.take 0 (.take 2 (.take 3 (.take 4 (.take 5 (.take 6 (.one 1 (.take 7 .done)))))))) [(1, .call rB), (4, .rd rPA), (6, .rd rB)]) (.c (.s .d .d) .d)) .d))))))))) .d))))) (.s (.r [(1, .call (rI .i64)), (4, .call rB)]) .d)))))
theorem law04_PackBack_calls {l : Sl} {K : Bool → World → Prop} {w : World} (h : law04_PackBack l K w) : callV Pr Value.bool 5 #[l.val] w K :=
  calls_of Pr_plain Pr_mixed Pr_func5 law04_PackBack_ann rB (args := [l.val]) (by kernel_rfl) h

/- changeover/changeoverlaw04.PackReads -/
def law04_PackReads (b : Sl) (kinds : Sl) (most : Int) (K : Bool → World → Prop) (w : World) : Prop :=
  ifB (decide ((b.len : Int) > 500))
  (callV Pr Value.bool 20 #[] w fun t1 w2 =>
  K t1 w2)
  (ifB (decide ((kinds.len : Int) > 60))
  (callV Pr Value.bool 20 #[] w fun t3 w4 =>
  K t3 w4)
  (callV Pr Value.pointer 24 #[b.val] w fun r5 w6 =>
  loop3 (0 : Int) (0 : Int) (0 : Int) (fun at7 bad8 i9 k10 w11 =>
  ifB (decide (i9 < (kinds.len : Int)))
  (opRd Pr (Instr.indexAt 35 kinds.val (.int .i64 i9)) pav (fun t12 =>
  opRd Pr (Instr.loadAt 5 (.pointer (some t12))) (Value.int .u8) (fun t13 =>
  callV Pr Changeoverref04Field.val 29 #[(.pointer r5), (.int .i64 (i64 ((Int.tmod (IntKind.i64.wrap t13) 5) + 1))), (.int .i64 most)] w11 fun t14 w15 =>
  newV (fun b16 w17 =>
  wrM b16 (fun w18 =>
  join1 (fun (j19 : Int → World → Prop) =>
  ifB ((i64 ((Int.tmod (IntKind.i64.wrap t13) 5) + 1)) == 5)
  (j19 2 w18)
  (j19 (i64 ((Int.tmod (IntKind.i64.wrap t13) 5) + 1)) w18))
  (fun k20 w21 =>
  newV (fun b22 w23 =>
  wrM b22 (fun w24 =>
  join3 (fun (j25 : Int → Int → Changeoverref04Field → World → Prop) =>
  ifB (bad8 == 0)
  (callV Pr (tval3 Changeoverref04Field.val (Value.int .i64) (Value.int .i64)) 30 #[b.val, (.int .i64 at7), (.int .i64 k20), (.int .i64 most)] w24 fun t26 w27 =>
  kp b22 w24 w27 <|
  kp b16 w24 w27 <|
  newV (fun b28 w29 =>
  wrM b28 (fun w30 =>
  wrM b22 (fun w31 =>
  j25 t26.2.1 t26.2.2 (Changeoverref04Field.mk t26.1.Kind t26.1.N t26.1.S t26.1.Is) w31) w30) w29) w27)
  (j25 at7 bad8 (Changeoverref04Field.mk 0 0 [] false) w24))
  (fun at32 bad33 want34 w35 =>
  wrM b22 (fun w36 =>
  opRd Pr (binSem .neq 40 (.tmp 65) (.tmp 66) (.agg ⟨[(.int .i64 t14.Kind), (.int .i64 t14.N), (sval t14.S), (.bool t14.Is)]⟩) (.agg ⟨[(.int .i64 k20), (.int .i64 want34.N), (sval want34.S), (.bool want34.Is)]⟩)) Value.bool (fun t37 =>
  ifB t37
  (K false w36)
  (callV Pr (Value.int .i64) 31 #[(.pointer r5)] w36 fun t38 w39 =>
  kp b22 w36 w39 <|
  kp b16 w36 w39 <|
  ifB (t38 != bad33)
  (K false w39)
  (k10 at32 bad33 (i64 (i9 + 1)) w39))) w36) w35)) w23) w21)) w17) w15) w11) w11)
  (ifB (bad8 == 0)
  (ifB (decide (at7 < (b.len : Int)))
  (callV Pr (Value.int .i64) 28 #[(.pointer r5)] w11 fun t40 w41 =>
  ifB (t40 == 3)
  (callV Pr Value.bool 20 #[] w41 fun t42 w43 =>
  K t42 w43)
  (K false w41))
  (callV Pr (Value.int .i64) 28 #[(.pointer r5)] w11 fun t44 w45 =>
  ifB (t44 == bad8)
  (callV Pr Value.bool 20 #[] w45 fun t46 w47 =>
  K t46 w47)
  (K false w45)))
  (callV Pr (Value.int .i64) 28 #[(.pointer r5)] w11 fun t48 w49 =>
  ifB (t48 == bad8)
  (callV Pr Value.bool 20 #[] w49 fun t50 w51 =>
  K t50 w51)
  (K false w49)))) w6))
def law04_PackReads_ann : Ann := (.s .d (.s (.s .d (.c (.s (.r [(0, .call rB)]) .d) .d)) (.s (.r [(1, .call rP)]) (.s .d (.s .d (.s (.s .d (.b (.l [(.s 8, (rI .i64)), (.s 9, (rI .i64)), (.s 10, (rI .i64))] (.s (.s .d (.c .d .d)) (.s (.b (.s (.r [(2, .rd rPA), (3, .rd (rI .u8))]) (.s (.r [(3, .call rChangeoverref04Field), (4, .nl 12), (5, .ls 12)]) (.sj [(.s 11, (rI .i64))] (.s .d (.c .d .d)) (.s (.r [(1, .nl 13), (2, .ls 13)]) (.sj [(.s 8, (rI .i64)), (.s 9, (rI .i64)), (.h 13, rChangeoverref04Field)] (.s .d (.c (.s (.r [(4, .call (rT3 rChangeoverref04Field (rI .i64) (rI .i64))), (9, .nl 14), (10, .ls 14)]) (.r [(3, .ls 13)])) .d)) (.s (.r [(2, .ls 13)]) (.s (.r [(2, .rd rB), (5, .call (rI .i64))]) (.c (.s .d .d) .d))))))))) .d))))) (.s .d (.s (.s .d (.c .d .d)) (.s (.r [(1, .call (rI .i64)), (5, .call rB)]) .d)))))))))
theorem law04_PackReads_calls {b : Sl} {kinds : Sl} {most : Int} {K : Bool → World → Prop} {w : World} (h : law04_PackReads b kinds most K w) : callV Pr Value.bool 6 #[b.val, kinds.val, (.int .i64 most)] w K :=
  calls_of Pr_plain Pr_mixed Pr_func6 law04_PackReads_ann rB (args := [b.val, kinds.val, (.int .i64 most)]) (by kernel_rfl) h

/- changeover/changeoverlaw04.PackNobody -/
def law04_PackNobody (n : Int) (s : List UInt8) (K : Bool → World → Prop) (w : World) : Prop :=
  ifB (decide (((s : List UInt8).length : Int) > 200))
  (callV Pr Value.bool 20 #[] w fun t1 w2 =>
  K t1 w2)
  (callV Pr uval 32 #[(.pointer none), (.int .i64 n)] w fun t3 w4 =>
  callV Pr uval 33 #[(.pointer none), (sval s)] w4 fun t5 w6 =>
  callV Pr uval 34 #[(.pointer none), (.bool true)] w6 fun t7 w8 =>
  callV Pr uval 35 #[(.pointer none), Sl.nil.val] w8 fun t9 w10 =>
  callV Pr Sl.val 36 #[(.pointer none)] w10 fun t11 w12 =>
  ifB ((t11.len : Int) == 0)
  (callV Pr (Value.int .i64) 25 #[(.pointer none), (.int .i64 n)] w12 fun t13 w14 =>
  ifB (t13 == 0)
  (callV Pr sval 26 #[(.pointer none), (.int .i64 n)] w14 fun t15 w16 =>
  ifB (strEq t15 [])
  (callV Pr Value.bool 27 #[(.pointer none)] w16 fun t17 w18 =>
  ifB (!t17)
  (callV Pr Sl.val 37 #[(.pointer none), (.int .i64 n)] w18 fun t19 w20 =>
  ifB ((t19.len : Int) == 0)
  (callV Pr (Value.int .i64) 38 #[(.pointer none), (.int .i64 n)] w20 fun t21 w22 =>
  ifB (t21 == 0)
  (callV Pr (Value.int .i64) 31 #[(.pointer none)] w22 fun t23 w24 =>
  ifB (t23 == 1)
  (callV Pr (Value.int .i64) 28 #[(.pointer none)] w24 fun t25 w26 =>
  ifB (t25 == 1)
  (callV Pr Value.bool 20 #[] w26 fun t27 w28 =>
  K t27 w28)
  (K false w26))
  (K false w24))
  (K false w22))
  (K false w20))
  (K false w18))
  (K false w16))
  (K false w14))
  (K false w12))
def law04_PackNobody_ann : Ann := (.s .d (.s (.s .d (.c (.s (.r [(0, .call rB)]) .d) .d)) (.s .d (.s .d (.s (.r [(2, .call rU)]) (.s (.r [(2, .call rU)]) (.s (.r [(1, .call rU)]) (.s (.r [(1, .call rU)]) (.s (.r [(1, .call rSl), (7, .call (rI .i64)), (13, .call rS), (18, .call rB), (24, .call rSl), (31, .call (rI .i64)), (36, .call (rI .i64)), (41, .call (rI .i64)), (45, .call rB)]) .d)))))))))
theorem law04_PackNobody_calls {n : Int} {s : List UInt8} {K : Bool → World → Prop} {w : World} (h : law04_PackNobody n s K w) : callV Pr Value.bool 7 #[(.int .i64 n), (sval s)] w K :=
  calls_of Pr_plain Pr_mixed Pr_func7 law04_PackNobody_ann rB (args := [(.int .i64 n), (sval s)]) (by kernel_rfl) h

/- changeover/changeoverref12.Large -/
def ref12_Large (l : Sl) (K : Bool → World → Prop) (w : World) : Prop :=
  loop1 (0 : Int) (fun i1 k2 w3 =>
  ifB (decide (i1 < (l.len : Int)))
  (ifB (decide (i1 < 40))
  (opRd Pr (Instr.indexAt 22 l.val (.int .i64 i1)) pav (fun t4 =>
  opRd Pr (Instr.loadAt 9 (.pointer (some ((t4.add 3).add 3)))) sval (fun t5 =>
  ifB (decide (((t5 : List UInt8).length : Int) > 200))
  (K true w3)
  (opRd Pr (Instr.indexAt 22 l.val (.int .i64 i1)) pav (fun t6 =>
  opRd Pr (Instr.loadAt 9 (.pointer (some ((t6.add 3).add 4)))) sval (fun t7 =>
  ifB (decide (((t7 : List UInt8).length : Int) > 200))
  (K true w3)
  (opRd Pr (Instr.indexAt 22 l.val (.int .i64 i1)) pav (fun t8 =>
  opRd Pr (Instr.loadAt 9 (.pointer (some ((t8.add 3).add 5)))) sval (fun t9 =>
  ifB (decide (((t9 : List UInt8).length : Int) > 200))
  (K true w3)
  (k2 (i64 (i1 + 1)) w3)) w3) w3)) w3) w3)) w3) w3)
  (K (decide ((l.len : Int) > 40)) w3))
  (K (decide ((l.len : Int) > 40)) w3)) w
def ref12_Large_ann : Ann := (.s .d (.s (.s .d (.b (.l [(.s 3, (rI .i64))] (.s (.s .d (.c .d .d)) (.s (.b (.s (.r [(2, .rd rPA), (5, .rd rS), (11, .rd rPA), (14, .rd rS), (21, .rd rPA), (24, .rd rS)]) (.c (.s .d .d) .d))) .d))))) (.s .d .d)))
theorem ref12_Large_calls {l : Sl} {K : Bool → World → Prop} {w : World} (h : ref12_Large l K w) : callV Pr Value.bool 8 #[l.val] w K :=
  calls_of Pr_plain Pr_mixed Pr_func8 ref12_Large_ann rB (args := [l.val]) (by kernel_rfl) h

/- changeover/changeoverref12.Rise -/
def ref12_Rise (l : Sl) (K : Bool → World → Prop) (w : World) : Prop :=
  loop1 (1 : Int) (fun i1 k2 w3 =>
  ifB (decide (i1 < (l.len : Int)))
  (drewM (fun w4 =>
  opRd Pr (Instr.indexAt 22 l.val (.int .i64 i1)) pav (fun t5 =>
  opRd Pr (Instr.loadAt 3 (.pointer (some (t5.add 0)))) (Value.int .i64) (fun t6 =>
  opRd Pr (Instr.indexAt 22 l.val (.int .i64 (i64 (i1 - 1)))) pav (fun t7 =>
  opRd Pr (Instr.loadAt 3 (.pointer (some (t7.add 0)))) (Value.int .i64) (fun t8 =>
  ifB (decide (t6 ≤ t8))
  (K false w4)
  (k2 (i64 (i1 + 1)) w4)) w4) w4) w4) w4) w3)
  (K true w3)) w
def ref12_Rise_ann : Ann := (.s .d (.s (.s .d (.b (.l [(.s 3, (rI .i64))] (.s (.s .d (.c .d .d)) (.s (.b (.s (.r [(2, .rd rPA), (4, .rd (rI .i64)), (8, .rd rPA), (10, .rd (rI .i64))]) (.c (.s .d .d) .d))) .d))))) (.s .d .d)))
theorem ref12_Rise_calls {l : Sl} {K : Bool → World → Prop} {w : World} (h : ref12_Rise l K w) : callV Pr Value.bool 9 #[l.val] w K :=
  calls_of Pr_plain Pr_mixed Pr_func9 ref12_Rise_ann rB (args := [l.val]) (by kernel_rfl) h

/- changeover/changeoverlaw32.awake -/
def law32_awake (K : Bool → World → Prop) (w : World) : Prop :=
  opTy Pr (Instr.buildSlice 22 3 #[(0, (.agg ⟨[(.int .i64 4), (.int .i64 0), (.int .i64 0), (.int .i64 0), (.int .i64 0), (.int .i64 0), (sval []), (sval []), (sval []), (.int .i64 0)]⟩)), (1, (.agg ⟨[(.int .i64 5), (.int .i64 0), (.int .i64 0), (.int .i64 0), (.int .i64 0), (.int .i64 0), (sval []), (sval []), (sval []), (.int .i64 0)]⟩)), (2, (.agg ⟨[(.int .i64 7), (.int .i64 0), (.int .i64 0), (.int .i64 0), (.int .i64 0), (.int .i64 0), (sval []), (sval []), (sval []), (.int .i64 0)]⟩))]) Sl.val (fun l1 w2 =>
  callV Pr Sl.val 11 #[l1.val, (.int .i64 3)] w2 fun t3 w4 =>
  ifB ((t3.len : Int) == 2)
  (callV Pr Sl.val 15 #[l1.val, (.int .i64 3)] w4 fun t5 w6 =>
  opTy Pr (Instr.buildSlice 28 1 #[(0, (.int .i64 6))]) Sl.val (fun t7 w8 =>
  callV Pr Value.bool 14 #[t5.val, t7.val] w8 fun t9 w10 =>
  ifB t9
  (callV Pr (Value.int .i64) 17 #[l1.val, (.int .i64 3)] w10 fun t11 w12 =>
  K (t11 == 7) w12)
  (K false w10)) w6)
  (K false w4)) w
def law32_awake_ann : Ann := (.s .d (.s (.r [(3, .ty rSl)]) (.s (.r [(1, .call rSl), (6, .call rSl), (7, .ty rSl), (8, .call rB), (12, .call (rI .i64))]) .d)))
theorem law32_awake_calls {K : Bool → World → Prop} {w : World} (h : law32_awake K w) : callV Pr Value.bool 10 #[] w K :=
  calls_of Pr_plain Pr_mixed Pr_func10 law32_awake_ann rB (args := []) (by kernel_rfl) h

/- changeover/changeoverref12.Same -/
def ref12_Same (a : Sl) (b : Sl) (K : Bool → World → Prop) (w : World) : Prop :=
  ifB ((a.len : Int) != (b.len : Int))
  (K false w)
  (loop1 (0 : Int) (fun i1 k2 w3 =>
  ifB (decide (i1 < (a.len : Int)))
  (drewM (fun w4 =>
  opRd Pr (Instr.indexAt 22 a.val (.int .i64 i1)) pav (fun t5 =>
  opRd Pr (Instr.loadAt 62 (.pointer (some t5))) ApiEntry.val (fun t6 =>
  opRd Pr (Instr.indexAt 22 b.val (.int .i64 i1)) pav (fun t7 =>
  opRd Pr (Instr.loadAt 62 (.pointer (some t7))) ApiEntry.val (fun t8 =>
  opRd Pr (binSem .neq 62 (.tmp 20) (.tmp 24) (.agg ⟨t6.cs⟩) (.agg ⟨t8.cs⟩)) Value.bool (fun t9 =>
  ifB t9
  (K false w4)
  (k2 (i64 (i1 + 1)) w4)) w4) w4) w4) w4) w4) w3)
  (K true w3)) w)
def ref12_Same_ann : Ann := (.s .d (.s (.s .d (.c (.s .d .d) .d)) (.s (.s .d (.b (.l [(.s 5, (rI .i64))] (.s (.s .d (.c .d .d)) (.s (.b (.s (.r [(2, .rd rPA), (3, .rd rApiEntry), (6, .rd rPA), (7, .rd rApiEntry), (8, .rd rB)]) (.c (.s .d .d) .d))) .d))))) (.s .d .d))))
theorem ref12_Same_calls {a : Sl} {b : Sl} {K : Bool → World → Prop} {w : World} (h : ref12_Same a b K w) : callV Pr Value.bool 12 #[a.val, b.val] w K :=
  calls_of Pr_plain Pr_mixed Pr_func12 ref12_Same_ann rB (args := [a.val, b.val]) (by kernel_rfl) h

/- changeover/changeoverref32.Ready -/
def ref32_Ready (l : Sl) (applied : Int) (K : Sl → World → Prop) (w : World) : Prop :=
  loop2 (Sl.nil : Sl) (0 : Int) (fun out1 i2 k3 w4 =>
  ifB (decide (i2 < (l.len : Int)))
  (opRd Pr (Instr.indexAt 22 l.val (.int .i64 i2)) pav (fun t5 =>
  opRd Pr (Instr.loadAt 3 (.pointer (some (t5.add 0)))) (Value.int .i64) (fun t6 =>
  ifB (decide (t6 > applied))
  (opRd Pr (Instr.indexAt 22 l.val (.int .i64 i2)) pav (fun t7 =>
  opRd Pr (Instr.loadAt 3 (.pointer (some (t7.add 0)))) (Value.int .i64) (fun t8 =>
  ifB ((i64 ((i64 (t8 - 1)) - (out1.len : Int))) == applied)
  (opRd Pr (Instr.indexAt 22 l.val (.int .i64 i2)) pav (fun t9 =>
  opRd Pr (Instr.loadAt 62 (.pointer (some t9))) ApiEntry.val (fun t10 =>
  opTy Pr (Instr.buildSlice 22 1 #[(0, (.agg ⟨t10.cs⟩))]) Sl.val (fun t11 w12 =>
  opTy Pr (Builtin.append_ #[22, 22] 22 #[out1.val, t11.val]) Sl.val (fun out13 w14 =>
  k3 out13 (i64 (i2 + 1)) w14) w12) w4) w4) w4)
  (k3 out1 (i64 (i2 + 1)) w4)) w4) w4)
  (k3 out1 (i64 (i2 + 1)) w4)) w4) w4)
  (K out1 w4)) w
def ref32_Ready_ann : Ann := (.s .d (.s .d (.s (.s .d (.b (.l [(.s 5, rSl), (.s 6, (rI .i64))] (.s (.s .d (.c .d .d)) (.s (.b (.s (.r [(2, .rd rPA), (4, .rd (rI .i64)), (10, .rd rPA), (12, .rd (rI .i64))]) (.c (.r [(3, .rd rPA), (4, .rd rApiEntry), (5, .ty rSl), (6, .ty rSl)]) .d))) .d))))) (.s .d .d))))
theorem ref32_Ready_calls {l : Sl} {applied : Int} {K : Sl → World → Prop} {w : World} (h : ref32_Ready l applied K w) : callV Pr Sl.val 13 #[l.val, (.int .i64 applied)] w K :=
  calls_of Pr_plain Pr_mixed Pr_func13 ref32_Ready_ann rSl (args := [l.val, (.int .i64 applied)]) (by kernel_rfl) h

/- changeover/changeoverref01.Ints -/
def ref01_Ints (a : Sl) (b : Sl) (K : Bool → World → Prop) (w : World) : Prop :=
  ifB ((a.len : Int) != (b.len : Int))
  (K false w)
  (loop1 (0 : Int) (fun i1 k2 w3 =>
  ifB (decide (i1 < (a.len : Int)))
  (drewM (fun w4 =>
  opRd Pr (Instr.indexAt 28 a.val (.int .i64 i1)) pav (fun t5 =>
  opRd Pr (Instr.loadAt 3 (.pointer (some t5))) (Value.int .i64) (fun t6 =>
  opRd Pr (Instr.indexAt 28 b.val (.int .i64 i1)) pav (fun t7 =>
  opRd Pr (Instr.loadAt 3 (.pointer (some t7))) (Value.int .i64) (fun t8 =>
  ifB (t6 != t8)
  (K false w4)
  (k2 (i64 (i1 + 1)) w4)) w4) w4) w4) w4) w3)
  (K true w3)) w)
def ref01_Ints_ann : Ann := (.s .d (.s (.s .d (.c (.s .d .d) .d)) (.s (.s .d (.b (.l [(.s 5, (rI .i64))] (.s (.s .d (.c .d .d)) (.s (.b (.s (.r [(2, .rd rPA), (3, .rd (rI .i64)), (6, .rd rPA), (7, .rd (rI .i64))]) (.c (.s .d .d) .d))) .d))))) (.s .d .d))))
theorem ref01_Ints_calls {a : Sl} {b : Sl} {K : Bool → World → Prop} {w : World} (h : ref01_Ints a b K w) : callV Pr Value.bool 14 #[a.val, b.val] w K :=
  calls_of Pr_plain Pr_mixed Pr_func14 ref01_Ints_ann rB (args := [a.val, b.val]) (by kernel_rfl) h

/- changeover/ledger.Holes -/
def ledger_Holes (l : Sl) (applied : Int) (K : Sl → World → Prop) (w : World) : Prop :=
  callV Pr Value.bool 39 #[(.int .i64 applied)] w fun t1 w2 =>
  ifB (!t1)
  (K Sl.nil w2)
  (callV Pr Sl.val 41 #[l.val, (.int .i64 (i64 (applied + 1)))] w2 fun t3 w4 =>
  loop3 (Sl.nil : Sl) ((i64 (applied + 1)) : Int) (0 : Int) (fun out5 at6 t7 k8 w9 =>
  ifB (decide (t7 < (t3.len : Int)))
  (opRd Pr (Instr.indexAt 22 t3.val (.int .i64 t7)) pav (fun t10 =>
  opRd Pr (Instr.loadAt 62 (.pointer (some t10))) ApiEntry.val (fun t11 =>
  newV (fun b12 w13 =>
  wrM b12 (fun w14 =>
  join1 (fun (j15 : Sl → World → Prop) =>
  loop2 (out5 : Sl) (at6 : Int) (fun out16 at17 k18 w19 =>
  ifB (decide (at17 < t11.Index))
  (ifB (decide ((out16.len : Int) < 4))
  (opTy Pr (Instr.buildSlice 28 1 #[(0, (.int .i64 at17))]) Sl.val (fun t20 w21 =>
  kp b12 w19 w21 <|
  opTy Pr (Builtin.append_ #[28, 28] 28 #[out16.val, t20.val]) Sl.val (fun out22 w23 =>
  kp b12 w21 w23 <|
  k18 out22 (i64 (at17 + 1)) w23) w21) w19)
  (j15 out16 w19))
  (j15 out16 w19)) w14)
  (fun out24 w25 =>
  ifB ((out24.len : Int) == 4)
  (K out24 w25)
  (ifB (t11.Index == 9223372036854775807)
  (K out24 w25)
  (k8 out24 (i64 (t11.Index + 1)) (i64 (t7 + 1)) w25)))) w13) w9) w9) w9)
  (K out5 w9)) w4)
def ledger_Holes_ann : Ann := (.s .d (.s .d (.s (.s (.r [(1, .call rB)]) (.c (.s .d .d) .d)) (.s .d (.s (.s (.r [(2, .call rSl)]) (.b (.l [(.s 5, rSl), (.s 6, (rI .i64)), (.s 19, (rI .i64))] (.s .d (.s (.c .d .d) (.s (.b (.s (.r [(0, .rd rPA), (1, .rd rApiEntry), (2, .nl 8), (3, .ls 8)]) (.sj [(.s 5, rSl)] (.b (.l [(.s 5, rSl), (.s 6, (rI .i64))] (.s (.s .d (.c .d .d)) (.s (.b (.r [(2, .ty rSl), (3, .ty rSl)])) .d)))) (.s (.s .d (.c .d .d)) .d)))) .d)))))) (.s .d .d))))))
theorem ledger_Holes_calls {l : Sl} {applied : Int} {K : Sl → World → Prop} {w : World} (h : ledger_Holes l applied K w) : callV Pr Sl.val 15 #[l.val, (.int .i64 applied)] w K :=
  calls_of Pr_plain Pr_mixed Pr_func15 ledger_Holes_ann rSl (args := [l.val, (.int .i64 applied)]) (by kernel_rfl) h

/- changeover/changeoverref32.Holes -/
def ref32_Holes (l : Sl) (applied : Int) (K : Sl → World → Prop) (w : World) : Prop :=
  loop3 (Sl.nil : Sl) (applied : Int) (0 : Int) (fun out1 last2 i3 k4 w5 =>
  ifB (decide (i3 < (l.len : Int)))
  (opRd Pr (Instr.indexAt 22 l.val (.int .i64 i3)) pav (fun t6 =>
  opRd Pr (Instr.loadAt 3 (.pointer (some (t6.add 0)))) (Value.int .i64) (fun t7 =>
  ifB (decide (t7 ≤ applied))
  (k4 out1 last2 (i64 (i3 + 1)) w5)
  (join1 (fun (j8 : Sl → World → Prop) =>
  loop2 (out1 : Sl) (last2 : Int) (fun out9 last10 k11 w12 =>
  opRd Pr (Instr.indexAt 22 l.val (.int .i64 i3)) pav (fun t13 =>
  opRd Pr (Instr.loadAt 3 (.pointer (some (t13.add 0)))) (Value.int .i64) (fun t14 =>
  ifB (decide (last10 < (i64 (t14 - 1))))
  (ifB (decide ((out9.len : Int) < 4))
  (opTy Pr (Instr.buildSlice 28 1 #[(0, (.int .i64 (i64 (last10 + 1))))]) Sl.val (fun t15 w16 =>
  opTy Pr (Builtin.append_ #[28, 28] 28 #[out9.val, t15.val]) Sl.val (fun out17 w18 =>
  k11 out17 (i64 (last10 + 1)) w18) w16) w12)
  (j8 out9 w12))
  (j8 out9 w12)) w12) w12) w5)
  (fun out19 w20 =>
  opRd Pr (Instr.indexAt 22 l.val (.int .i64 i3)) pav (fun t21 =>
  opRd Pr (Instr.loadAt 3 (.pointer (some (t21.add 0)))) (Value.int .i64) (fun last22 =>
  k4 out19 last22 (i64 (i3 + 1)) w20) w20) w20))) w5) w5)
  (K out1 w5)) w
def ref32_Holes_ann : Ann := (.s .d (.s .d (.s .d (.s (.s .d (.b (.l [(.s 5, rSl), (.s 6, (rI .i64)), (.s 7, (rI .i64))] (.s (.s .d (.c .d .d)) (.s (.b (.s (.s (.r [(2, .rd rPA), (4, .rd (rI .i64))]) (.c .d .d)) (.sj [(.s 5, rSl)] (.b (.l [(.s 5, rSl), (.s 6, (rI .i64))] (.s (.s (.r [(3, .rd rPA), (5, .rd (rI .i64))]) (.c .d .d)) (.b (.s .d (.r [(2, .ty rSl), (3, .ty rSl)])))))) (.r [(2, .rd rPA), (4, .rd (rI .i64))])))) .d))))) (.s .d .d)))))
theorem ref32_Holes_calls {l : Sl} {applied : Int} {K : Sl → World → Prop} {w : World} (h : ref32_Holes l applied K w) : callV Pr Sl.val 16 #[l.val, (.int .i64 applied)] w K :=
  calls_of Pr_plain Pr_mixed Pr_func16 ref32_Holes_ann rSl (args := [l.val, (.int .i64 applied)]) (by kernel_rfl) h

/- changeover/ledger.Top -/
def ledger_Top (l : Sl) (applied : Int) (K : Int → World → Prop) (w : World) : Prop :=
  ifB ((l.len : Int) == 0)
  (K applied w)
  (opRd Pr (Instr.indexAt 22 l.val (.int .i64 (i64 ((l.len : Int) - 1)))) pav (fun t1 =>
  opRd Pr (Instr.loadAt 3 (.pointer (some (t1.add 0)))) (Value.int .i64) (fun t2 =>
  K (imax applied t2) w) w) w)
def ledger_Top_ann : Ann := (.s .d (.s (.s .d (.c (.s .d .d) .d)) (.s (.r [(5, .rd rPA), (7, .rd (rI .i64))]) .d)))
theorem ledger_Top_calls {l : Sl} {applied : Int} {K : Int → World → Prop} {w : World} (h : ledger_Top l applied K w) : callV Pr (Value.int .i64) 17 #[l.val, (.int .i64 applied)] w K :=
  calls_of Pr_plain Pr_mixed Pr_func17 ledger_Top_ann (rI .i64) (args := [l.val, (.int .i64 applied)]) (by kernel_rfl) h

/- changeover/changeoverref32.Top -/
def ref32_Top (l : Sl) (applied : Int) (K : Int → World → Prop) (w : World) : Prop :=
  loop2 (applied : Int) (0 : Int) (fun applied1 i2 k3 w4 =>
  ifB (decide (i2 < (l.len : Int)))
  (opRd Pr (Instr.indexAt 22 l.val (.int .i64 i2)) pav (fun t5 =>
  opRd Pr (Instr.loadAt 3 (.pointer (some (t5.add 0)))) (Value.int .i64) (fun t6 =>
  ifB (decide (t6 > applied1))
  (opRd Pr (Instr.indexAt 22 l.val (.int .i64 i2)) pav (fun t7 =>
  opRd Pr (Instr.loadAt 3 (.pointer (some (t7.add 0)))) (Value.int .i64) (fun applied8 =>
  k3 applied8 (i64 (i2 + 1)) w4) w4) w4)
  (k3 applied1 (i64 (i2 + 1)) w4)) w4) w4)
  (K applied1 w4)) w
def ref32_Top_ann : Ann := (.s .d (.s (.s .d (.b (.l [(.s 1, (rI .i64)), (.s 5, (rI .i64))] (.s (.s .d (.c .d .d)) (.s (.b (.s (.r [(2, .rd rPA), (4, .rd (rI .i64))]) (.c (.r [(2, .rd rPA), (4, .rd (rI .i64))]) .d))) .d))))) (.s .d .d)))
theorem ref32_Top_calls {l : Sl} {applied : Int} {K : Int → World → Prop} {w : World} (h : ref32_Top l applied K w) : callV Pr (Value.int .i64) 18 #[l.val, (.int .i64 applied)] w K :=
  calls_of Pr_plain Pr_mixed Pr_func18 ref32_Top_ann (rI .i64) (args := [l.val, (.int .i64 applied)]) (by kernel_rfl) h

/- changeover/changeoverlaw04.large -/
def law04_large (l : Sl) (K : Bool → World → Prop) (w : World) : Prop :=
  loop1 (0 : Int) (fun i1 k2 w3 =>
  ifB (decide (i1 < (l.len : Int)))
  (ifB (decide (i1 < 60))
  (opRd Pr (Instr.indexAt 32 l.val (.int .i64 i1)) pav (fun t4 =>
  opRd Pr (Instr.loadAt 9 (.pointer (some (t4.add 2)))) sval (fun t5 =>
  ifB (decide (((t5 : List UInt8).length : Int) > 200))
  (K true w3)
  (k2 (i64 (i1 + 1)) w3)) w3) w3)
  (K (decide ((l.len : Int) > 60)) w3))
  (K (decide ((l.len : Int) > 60)) w3)) w
def law04_large_ann : Ann := (.s .d (.s (.s .d (.b (.l [(.s 3, (rI .i64))] (.s (.s .d (.c .d .d)) (.s (.b (.s (.r [(2, .rd rPA), (4, .rd rS)]) (.c (.s .d .d) .d))) .d))))) (.s .d .d)))
theorem law04_large_calls {l : Sl} {K : Bool → World → Prop} {w : World} (h : law04_large l K w) : callV Pr Value.bool 19 #[l.val] w K :=
  calls_of Pr_plain Pr_mixed Pr_func19 law04_large_ann rB (args := [l.val]) (by kernel_rfl) h

/- changeover/changeoverlaw04.awake -/
def law04_awake (K : Bool → World → Prop) (w : World) : Prop :=
  opTy Pr (Instr.box 68 (.agg ⟨[Sl.nil.val]⟩)) pav (fun w1 w2 =>
  callV Pr uval 32 #[(.pointer (some w1)), (.int .i64 300)] w2 fun t3 w4 =>
  callV Pr uval 33 #[(.pointer (some w1)), (sval [104, 105])] w4 fun t5 w6 =>
  callV Pr uval 34 #[(.pointer (some w1)), (.bool true)] w6 fun t7 w8 =>
  callV Pr Sl.val 36 #[(.pointer (some w1))] w8 fun t9 w10 =>
  callV Pr Value.pointer 24 #[t9.val] w10 fun r11 w12 =>
  callV Pr Sl.val 36 #[(.pointer (some w1))] w12 fun t13 w14 =>
  ifB ((t13.len : Int) == 6)
  (callV Pr (Value.int .i64) 25 #[(.pointer r11), (.int .i64 300)] w14 fun t15 w16 =>
  ifB (t15 == 300)
  (callV Pr sval 26 #[(.pointer r11), (.int .i64 2)] w16 fun t17 w18 =>
  ifB (strEq t17 [104, 105])
  (callV Pr Value.bool 27 #[(.pointer r11)] w18 fun t19 w20 =>
  ifB t19
  (callV Pr (Value.int .i64) 28 #[(.pointer r11)] w20 fun t21 w22 =>
  K (t21 == 0) w22)
  (K false w20))
  (K false w18))
  (K false w16))
  (K false w14)) w
def law04_awake_ann : Ann := (.s .d (.s (.r [(1, .ty rPA)]) (.s (.r [(1, .call rU)]) (.s (.r [(1, .call rU)]) (.s (.r [(1, .call rU)]) (.s (.r [(1, .call rSl), (2, .call rP)]) (.s (.r [(1, .call rSl), (6, .call (rI .i64)), (11, .call rS), (16, .call rB), (20, .call (rI .i64))]) .d)))))))
theorem law04_awake_calls {K : Bool → World → Prop} {w : World} (h : law04_awake K w) : callV Pr Value.bool 20 #[] w K :=
  calls_of Pr_plain Pr_mixed Pr_func20 law04_awake_ann rB (args := []) (by kernel_rfl) h

/- changeover/changeoverref01.Same -/
def ref01_Same (a : Sl) (b : Sl) (K : Bool → World → Prop) (w : World) : Prop :=
  ifB ((a.len : Int) != (b.len : Int))
  (K false w)
  (loop1 (0 : Int) (fun i1 k2 w3 =>
  ifB (decide (i1 < (a.len : Int)))
  (drewM (fun w4 =>
  opRd Pr (Instr.indexAt 35 a.val (.int .i64 i1)) pav (fun t5 =>
  opRd Pr (Instr.loadAt 5 (.pointer (some t5))) (Value.int .u8) (fun t6 =>
  opRd Pr (Instr.indexAt 35 b.val (.int .i64 i1)) pav (fun t7 =>
  opRd Pr (Instr.loadAt 5 (.pointer (some t7))) (Value.int .u8) (fun t8 =>
  ifB (t6 != t8)
  (K false w4)
  (k2 (i64 (i1 + 1)) w4)) w4) w4) w4) w4) w3)
  (K true w3)) w)
def ref01_Same_ann : Ann := (.s .d (.s (.s .d (.c (.s .d .d) .d)) (.s (.s .d (.b (.l [(.s 5, (rI .i64))] (.s (.s .d (.c .d .d)) (.s (.b (.s (.r [(2, .rd rPA), (3, .rd (rI .u8)), (6, .rd rPA), (7, .rd (rI .u8))]) (.c (.s .d .d) .d))) .d))))) (.s .d .d))))
theorem ref01_Same_calls {a : Sl} {b : Sl} {K : Bool → World → Prop} {w : World} (h : ref01_Same a b K w) : callV Pr Value.bool 21 #[a.val, b.val] w K :=
  calls_of Pr_plain Pr_mixed Pr_func21 ref01_Same_ann rB (args := [a.val, b.val]) (by kernel_rfl) h

/- changeover/changeoverlaw04.put -/
def law04_put (l : Sl) (K : Sl → World → Prop) (w : World) : Prop :=
  opTy Pr (Instr.box 68 (.agg ⟨[Sl.nil.val]⟩)) pav (fun w1 w2 =>
  loop1 (0 : Int) (fun i3 k4 w5 =>
  ifB (decide (i3 < (l.len : Int)))
  (opRd Pr (Instr.indexAt 32 l.val (.int .i64 i3)) pav (fun t6 =>
  opRd Pr (Instr.loadAt 3 (.pointer (some (t6.add 0)))) (Value.int .i64) (fun t7 =>
  ifB (t7 == 1)
  (opRd Pr (Instr.indexAt 32 l.val (.int .i64 i3)) pav (fun t8 =>
  opRd Pr (Instr.loadAt 3 (.pointer (some (t8.add 1)))) (Value.int .i64) (fun t9 =>
  callV Pr uval 32 #[(.pointer (some w1)), (.int .i64 t9)] w5 fun t10 w11 =>
  k4 (i64 (i3 + 1)) w11) w5) w5)
  (ifB (t7 == 2)
  (ifB ((Int.tmod i3 2) == 0)
  (opRd Pr (Instr.indexAt 32 l.val (.int .i64 i3)) pav (fun t12 =>
  opRd Pr (Instr.loadAt 9 (.pointer (some (t12.add 2)))) sval (fun t13 =>
  callV Pr uval 33 #[(.pointer (some w1)), (sval t13)] w5 fun t14 w15 =>
  k4 (i64 (i3 + 1)) w15) w5) w5)
  (opRd Pr (Instr.indexAt 32 l.val (.int .i64 i3)) pav (fun t16 =>
  opRd Pr (Instr.loadAt 9 (.pointer (some (t16.add 2)))) sval (fun t17 =>
  opTy Pr (convert 9 35 (sval t17)) Sl.val (fun t18 w19 =>
  callV Pr uval 35 #[(.pointer (some w1)), t18.val] w19 fun t20 w21 =>
  k4 (i64 (i3 + 1)) w21) w5) w5) w5))
  (ifB (t7 == 3)
  (opRd Pr (Instr.indexAt 32 l.val (.int .i64 i3)) pav (fun t22 =>
  opRd Pr (Instr.loadAt 4 (.pointer (some (t22.add 3)))) Value.bool (fun t23 =>
  callV Pr uval 34 #[(.pointer (some w1)), (.bool t23)] w5 fun t24 w25 =>
  k4 (i64 (i3 + 1)) w25) w5) w5)
  (k4 (i64 (i3 + 1)) w5)))) w5) w5)
  (callV Pr Sl.val 36 #[(.pointer (some w1))] w5 fun t26 w27 =>
  K t26 w27)) w2) w
def law04_put_ann : Ann := (.s .d (.s (.r [(1, .ty rPA)]) (.s (.s .d (.b (.l [(.s 4, (rI .i64))] (.s (.s .d (.c .d .d)) (.s (.b (.s (.r [(2, .rd rPA), (4, .rd (rI .i64))]) (.b (.s .d (.c (.r [(3, .rd rPA), (5, .rd (rI .i64)), (6, .call rU)]) (.s .d (.c (.s .d (.c (.r [(3, .rd rPA), (5, .rd rS), (6, .call rU)]) (.r [(3, .rd rPA), (5, .rd rS), (6, .ty rSl), (7, .call rU)]))) (.s .d (.c (.r [(3, .rd rPA), (5, .rd rB), (6, .call rU)]) .d))))))))) .d))))) (.s (.r [(1, .call rSl)]) .d))))
theorem law04_put_calls {l : Sl} {K : Sl → World → Prop} {w : World} (h : law04_put l K w) : callV Pr Sl.val 22 #[l.val] w K :=
  calls_of Pr_plain Pr_mixed Pr_func22 law04_put_ann rSl (args := [l.val]) (by kernel_rfl) h

/- changeover/changeoverref04.Bytes -/
def ref04_Bytes (l : Sl) (K : Sl → World → Prop) (w : World) : Prop :=
  loop2 (Sl.nil : Sl) (0 : Int) (fun out1 i2 k3 w4 =>
  ifB (decide (i2 < (l.len : Int)))
  (opRd Pr (Instr.indexAt 32 l.val (.int .i64 i2)) pav (fun t5 =>
  opRd Pr (Instr.loadAt 3 (.pointer (some (t5.add 0)))) (Value.int .i64) (fun t6 =>
  ifB (t6 == 1)
  (opRd Pr (Instr.indexAt 32 l.val (.int .i64 i2)) pav (fun t7 =>
  opRd Pr (Instr.loadAt 3 (.pointer (some (t7.add 1)))) (Value.int .i64) (fun t8 =>
  callV Pr Sl.val 42 #[(.int .i64 t8)] w4 fun t9 w10 =>
  opTy Pr (Builtin.append_ #[35, 35] 35 #[out1.val, t9.val]) Sl.val (fun out11 w12 =>
  k3 out11 (i64 (i2 + 1)) w12) w10) w4) w4)
  (ifB (t6 == 2)
  (opRd Pr (Instr.indexAt 32 l.val (.int .i64 i2)) pav (fun t13 =>
  opRd Pr (Instr.loadAt 9 (.pointer (some (t13.add 2)))) sval (fun t14 =>
  callV Pr Sl.val 43 #[(sval t14)] w4 fun t15 w16 =>
  opTy Pr (Builtin.append_ #[35, 35] 35 #[out1.val, t15.val]) Sl.val (fun out17 w18 =>
  k3 out17 (i64 (i2 + 1)) w18) w16) w4) w4)
  (ifB (t6 == 3)
  (opRd Pr (Instr.indexAt 32 l.val (.int .i64 i2)) pav (fun t19 =>
  opRd Pr (Instr.loadAt 4 (.pointer (some (t19.add 3)))) Value.bool (fun t20 =>
  callV Pr Sl.val 44 #[(.bool t20)] w4 fun t21 w22 =>
  opTy Pr (Builtin.append_ #[35, 35] 35 #[out1.val, t21.val]) Sl.val (fun out23 w24 =>
  k3 out23 (i64 (i2 + 1)) w24) w22) w4) w4)
  (k3 out1 (i64 (i2 + 1)) w4)))) w4) w4)
  (K out1 w4)) w
def ref04_Bytes_ann : Ann := (.s .d (.s .d (.s (.s .d (.b (.l [(.s 3, rSl), (.s 4, (rI .i64))] (.s (.s .d (.c .d .d)) (.s (.b (.s (.r [(2, .rd rPA), (4, .rd (rI .i64))]) (.b (.s .d (.c (.r [(3, .rd rPA), (5, .rd (rI .i64)), (6, .call rSl), (7, .ty rSl)]) (.s .d (.c (.r [(3, .rd rPA), (5, .rd rS), (6, .call rSl), (7, .ty rSl)]) (.s .d (.c (.r [(3, .rd rPA), (5, .rd rB), (6, .call rSl), (7, .ty rSl)]) .d))))))))) .d))))) (.s .d .d))))
theorem ref04_Bytes_calls {l : Sl} {K : Sl → World → Prop} {w : World} (h : ref04_Bytes l K w) : callV Pr Sl.val 23 #[l.val] w K :=
  calls_of Pr_plain Pr_mixed Pr_func23 ref04_Bytes_ann rSl (args := [l.val]) (by kernel_rfl) h

/- changeover/pack.NewReader -/
def pack_NewReader (b : Sl) (K : (Option Addr) → World → Prop) (w : World) : Prop :=
  callV Pr Sl.val 45 #[b.val] w fun t1 w2 =>
  opTy Pr (Instr.box 73 (.agg ⟨[t1.val, (.int .i64 0), (.int .i64 0)]⟩)) pav (fun t3 w4 =>
  K (some t3) w4) w2
def pack_NewReader_ann : Ann := (.s .d (.s (.r [(1, .call rSl), (3, .ty rPA)]) .d))
theorem pack_NewReader_calls {b : Sl} {K : (Option Addr) → World → Prop} {w : World} (h : pack_NewReader b K w) : callV Pr Value.pointer 24 #[b.val] w K :=
  calls_of Pr_plain Pr_mixed Pr_func24 pack_NewReader_ann rP (args := [b.val]) (by kernel_rfl) h

/- (*changeover/pack.Reader).Number -/
def pack_Reader_Number (r : Option Addr) (most : Int) (K : Int → World → Prop) (w : World) : Prop :=
  opTy Pr (Instr.box 37 (.pointer r)) pav (fun r1 w2 =>
  opTy Pr (Instr.box 3 (.int .i64 most)) pav (fun most3 w4 =>
  opRd Pr (Instr.loadAt 37 (.pointer (some r1))) Value.pointer (fun t5 =>
  callV Pr (Value.int .i64) 46 #[(.pointer t5), (.func (.func 47) #[] #[(.pointer (some r1)), (.pointer (some most3))])] w4 fun t6 w7 =>
  K t6 w7) w4) w2) w
def pack_Reader_Number_ann : Ann := (.s (.r [(0, .ty rPA), (1, .ty rPA)]) (.s (.r [(0, .rd rP), (2, .call (rI .i64))]) .d))
theorem pack_Reader_Number_calls {r : Option Addr} {most : Int} {K : Int → World → Prop} {w : World} (h : pack_Reader_Number r most K w) : callV Pr (Value.int .i64) 25 #[(.pointer r), (.int .i64 most)] w K :=
  calls_of Pr_plain Pr_mixed Pr_func25 pack_Reader_Number_ann (rI .i64) (args := [(.pointer r), (.int .i64 most)]) (by kernel_rfl) h

/- (*changeover/pack.Reader).Text -/
def pack_Reader_Text (r : Option Addr) (most : Int) (K : (List UInt8) → World → Prop) (w : World) : Prop :=
  callV Pr Sl.val 37 #[(.pointer r), (.int .i64 most)] w fun t1 w2 =>
  opRd Pr (convert 35 9 t1.val) sval (fun t3 =>
  K t3 w2) w2
def pack_Reader_Text_ann : Ann := (.s .d (.s (.r [(2, .call rSl), (3, .rd rS)]) .d))
theorem pack_Reader_Text_calls {r : Option Addr} {most : Int} {K : (List UInt8) → World → Prop} {w : World} (h : pack_Reader_Text r most K w) : callV Pr sval 26 #[(.pointer r), (.int .i64 most)] w K :=
  calls_of Pr_plain Pr_mixed Pr_func26 pack_Reader_Text_ann rS (args := [(.pointer r), (.int .i64 most)]) (by kernel_rfl) h

/- (*changeover/pack.Reader).Flag -/
def pack_Reader_Flag (r : Option Addr) (K : Bool → World → Prop) (w : World) : Prop :=
  opRd Pr (binSem .eql 37 (.tmp 4) (.const (.pointer none)) (.pointer r) (.pointer none)) Value.bool (fun t1 =>
  ifB t1
  (K false w)
  (callV Pr Value.bool 50 #[(.pointer r), (.func (.func 49) #[(.pointer r)] #[])] w fun t2 w3 =>
  K t2 w3)) w
def pack_Reader_Flag_ann : Ann := (.s .d (.s (.s (.r [(1, .rd rB)]) (.c (.s .d .d) .d)) (.s .d (.s (.r [(2, .call rB)]) .d))))
theorem pack_Reader_Flag_calls {r : Option Addr} {K : Bool → World → Prop} {w : World} (h : pack_Reader_Flag r K w) : callV Pr Value.bool 27 #[(.pointer r)] w K :=
  calls_of Pr_plain Pr_mixed Pr_func27 pack_Reader_Flag_ann rB (args := [(.pointer r)]) (by kernel_rfl) h

/- (*changeover/pack.Reader).Done -/
def pack_Reader_Done (r : Option Addr) (K : Int → World → Prop) (w : World) : Prop :=
  callV Pr (Value.int .i64) 31 #[(.pointer r)] w fun e1 w2 =>
  ifB (e1 != 0)
  (K e1 w2)
  (callV Pr (Value.int .i64) 51 #[(.pointer r)] w2 fun t3 w4 =>
  ifB (decide (t3 > 0))
  (K 3 w4)
  (K 0 w4))
def pack_Reader_Done_ann : Ann := (.s .d (.s (.s (.r [(1, .call (rI .i64))]) (.s .d (.c (.s .d .d) .d))) (.s (.s (.r [(1, .call (rI .i64))]) (.c (.s .d .d) .d)) (.s .d .d))))
theorem pack_Reader_Done_calls {r : Option Addr} {K : Int → World → Prop} {w : World} (h : pack_Reader_Done r K w) : callV Pr (Value.int .i64) 28 #[(.pointer r)] w K :=
  calls_of Pr_plain Pr_mixed Pr_func28 pack_Reader_Done_ann (rI .i64) (args := [(.pointer r)]) (by kernel_rfl) h

/- changeover/changeoverlaw04.read -/
def law04_read (r : Option Addr) (kind : Int) (most : Int) (K : Changeoverref04Field → World → Prop) (w : World) : Prop :=
  newV (fun b1 w2 =>
  newV (fun b3 w4 =>
  wrM b3 (fun w5 =>
  ifB (kind == 1)
  (callV Pr (Value.int .i64) 25 #[(.pointer r), (.int .i64 most)] w5 fun t6 w7 =>
  kp b3 w5 w7 <|
  kp b1 w5 w7 <|
  wrM b3 (fun w8 =>
  wrM b1 (fun w9 =>
  K (Changeoverref04Field.mk kind t6 [] false) w9) w8) w7)
  (ifB (kind == 2)
  (callV Pr sval 26 #[(.pointer r), (.int .i64 most)] w5 fun t10 w11 =>
  kp b3 w5 w11 <|
  kp b1 w5 w11 <|
  wrM b3 (fun w12 =>
  wrM b1 (fun w13 =>
  K (Changeoverref04Field.mk kind 0 t10 false) w13) w12) w11)
  (ifB (kind == 3)
  (callV Pr Value.bool 27 #[(.pointer r)] w5 fun t14 w15 =>
  kp b3 w5 w15 <|
  kp b1 w5 w15 <|
  wrM b3 (fun w16 =>
  wrM b1 (fun w17 =>
  K (Changeoverref04Field.mk kind 0 [] t14) w17) w16) w15)
  (ifB (kind == 4)
  (callV Pr (Value.int .i64) 38 #[(.pointer r), (.int .i64 most)] w5 fun t18 w19 =>
  kp b3 w5 w19 <|
  kp b1 w5 w19 <|
  wrM b3 (fun w20 =>
  wrM b1 (fun w21 =>
  K (Changeoverref04Field.mk kind t18 [] false) w21) w20) w19)
  (wrM b3 (fun w22 =>
  callV Pr Sl.val 37 #[(.pointer r), (.int .i64 most)] w22 fun t23 w24 =>
  kp b3 w22 w24 <|
  kp b1 w22 w24 <|
  opRd Pr (convert 35 9 t23.val) sval (fun t25 =>
  wrM b3 (fun w26 =>
  wrM b1 (fun w27 =>
  K (Changeoverref04Field.mk 2 0 t25 false) w27) w26) w24) w24) w5))))) w4) w2) w
def law04_read_ann : Ann := (.s (.r [(0, .nl 6)]) (.s (.r [(2, .nl 7), (3, .ls 7)]) (.s (.s .d (.b (.s .d (.c (.r [(2, .call (rI .i64)), (4, .ls 7)]) (.s .d (.c (.r [(2, .call rS), (4, .ls 7)]) (.s .d (.c (.r [(1, .call rB), (3, .ls 7)]) (.s .d (.c (.r [(2, .call (rI .i64)), (4, .ls 7)]) (.s (.r [(1, .ls 7)]) (.r [(2, .call rSl), (3, .rd rS), (5, .ls 7)])))))))))))) (.s (.r [(1, .ls 6)]) .d))))
theorem law04_read_calls {r : Option Addr} {kind : Int} {most : Int} {K : Changeoverref04Field → World → Prop} {w : World} (h : law04_read r kind most K w) : callV Pr Changeoverref04Field.val 29 #[(.pointer r), (.int .i64 kind), (.int .i64 most)] w K :=
  calls_of Pr_plain Pr_mixed Pr_func29 law04_read_ann rChangeoverref04Field (args := [(.pointer r), (.int .i64 kind), (.int .i64 most)]) (by kernel_rfl) h

/- changeover/changeoverref04.Read -/
def ref04_Read (b : Sl) (at_ : Int) (kind : Int) (most : Int) (K : (Changeoverref04Field × Int × Int) → World → Prop) (w : World) : Prop :=
  newV (fun b1 w2 =>
  ifB (kind == 3)
  (ifB (decide (at_ ≥ (b.len : Int)))
  (wrM b1 (fun w3 =>
  K ((Changeoverref04Field.mk 0 0 [] false), 0, 1) w3) w2)
  (opRd Pr (Instr.indexAt 35 b.val (.int .i64 at_)) pav (fun t4 =>
  opRd Pr (Instr.loadAt 5 (.pointer (some t4))) (Value.int .u8) (fun t5 =>
  ifB (decide (t5 > 1))
  (wrM b1 (fun w6 =>
  K ((Changeoverref04Field.mk 0 0 [] false), 0, 3) w6) w2)
  (opRd Pr (Instr.indexAt 35 b.val (.int .i64 at_)) pav (fun t7 =>
  opRd Pr (Instr.loadAt 5 (.pointer (some t7))) (Value.int .u8) (fun t8 =>
  wrM b1 (fun w9 =>
  K ((Changeoverref04Field.mk 3 0 [] (t8 == 1)), (i64 (at_ + 1)), 0) w9) w2) w2) w2)) w2) w2))
  (callV Pr (tval3 (Value.int .i64) (Value.int .i64) (Value.int .i64)) 52 #[b.val, (.int .i64 at_)] w2 fun t10 w11 =>
  kp b1 w2 w11 <|
  ifB (t10.2.2 != 0)
  (wrM b1 (fun w12 =>
  K ((Changeoverref04Field.mk 0 0 [] false), 0, t10.2.2) w12) w11)
  (ifB (decide (t10.1 > most))
  (wrM b1 (fun w13 =>
  K ((Changeoverref04Field.mk 0 0 [] false), 0, 2) w13) w11)
  (ifB (kind == 1)
  (wrM b1 (fun w14 =>
  K ((Changeoverref04Field.mk 1 t10.1 [] false), t10.2.1, 0) w14) w11)
  (ifB (decide (t10.1 > (i64 ((b.len : Int) - t10.2.1))))
  (wrM b1 (fun w15 =>
  K ((Changeoverref04Field.mk 0 0 [] false), 0, 1) w15) w11)
  (ifB (kind == 4)
  (wrM b1 (fun w16 =>
  K ((Changeoverref04Field.mk 4 t10.1 [] false), t10.2.1, 0) w16) w11)
  (opRd Pr (Instr.sliceAt 35 b.val (some (.int .i64 t10.2.1)) (some (.int .i64 (i64 (t10.2.1 + t10.1)))) none) Sl.val (fun t17 =>
  opRd Pr (convert 35 9 t17.val) sval (fun t18 =>
  wrM b1 (fun w19 =>
  K ((Changeoverref04Field.mk 2 0 t18 false), (i64 (t10.2.1 + t10.1)), 0) w19) w11) w11) w11))))))) w
def ref04_Read_ann : Ann := (.s (.r [(0, .nl 8)]) (.s (.s .d (.c (.s (.s .d (.c (.s (.r [(1, .ls 8)]) .d) .d)) (.s (.s (.r [(2, .rd rPA), (3, .rd (rI .u8))]) (.c (.s (.r [(1, .ls 8)]) .d) .d)) (.s (.r [(2, .rd rPA), (3, .rd (rI .u8)), (8, .ls 8)]) .d))) .d)) (.s (.r [(2, .call (rT3 (rI .i64) (rI .i64) (rI .i64)))]) (.s (.s .d (.c (.s (.r [(2, .ls 8)]) .d) .d)) (.s (.s .d (.c (.s (.r [(1, .ls 8)]) .d) .d)) (.s (.s .d (.c (.s (.r [(3, .ls 8)]) .d) .d)) (.s (.s .d (.c (.s (.r [(1, .ls 8)]) .d) .d)) (.s (.s .d (.c (.s (.r [(3, .ls 8)]) .d) .d)) (.s (.r [(5, .rd rSl), (6, .rd rS), (11, .ls 8)]) .d)))))))))
theorem ref04_Read_calls {b : Sl} {at_ : Int} {kind : Int} {most : Int} {K : (Changeoverref04Field × Int × Int) → World → Prop} {w : World} (h : ref04_Read b at_ kind most K w) : callV Pr (tval3 Changeoverref04Field.val (Value.int .i64) (Value.int .i64)) 30 #[b.val, (.int .i64 at_), (.int .i64 kind), (.int .i64 most)] w K :=
  calls_of Pr_plain Pr_mixed Pr_func30 ref04_Read_ann (rT3 rChangeoverref04Field (rI .i64) (rI .i64)) (args := [b.val, (.int .i64 at_), (.int .i64 kind), (.int .i64 most)]) (by kernel_rfl) h

/- (*changeover/pack.Reader).Err -/
def pack_Reader_Err (r : Option Addr) (K : Int → World → Prop) (w : World) : Prop :=
  opRd Pr (binSem .eql 37 (.tmp 3) (.const (.pointer none)) (.pointer r) (.pointer none)) Value.bool (fun t1 =>
  ifB t1
  (K 1 w)
  (opRd Pr (nilSem (.pointer r)) pav (fun t2 =>
  opRd Pr (Instr.loadAt 43 (.pointer (some (t2.add 2)))) (Value.int .i64) (fun t3 =>
  K t3 w) w) w)) w
def pack_Reader_Err_ann : Ann := (.s .d (.s (.s (.r [(1, .rd rB)]) (.c (.s .d .d) .d)) (.s (.r [(1, .rd rPA), (3, .rd (rI .i64))]) .d)))
theorem pack_Reader_Err_calls {r : Option Addr} {K : Int → World → Prop} {w : World} (h : pack_Reader_Err r K w) : callV Pr (Value.int .i64) 31 #[(.pointer r)] w K :=
  calls_of Pr_plain Pr_mixed Pr_func31 pack_Reader_Err_ann (rI .i64) (args := [(.pointer r)]) (by kernel_rfl) h

/- (*changeover/pack.Writer).Number -/
def pack_Writer_Number (w_ : Option Addr) (n : Int) (K : Unit → World → Prop) (w : World) : Prop :=
  opRd Pr (binSem .neq 49 (.tmp 4) (.const (.pointer none)) (.pointer w_) (.pointer none)) Value.bool (fun t1 =>
  ifB t1
  (opRd Pr (nilSem (.pointer w_)) pav (fun t2 =>
  opRd Pr (Instr.loadAt 35 (.pointer (some (t2.add 0)))) Sl.val (fun t3 =>
  callV Pr Sl.val 53 #[t3.val, (.int .i64 n)] w fun t4 w5 =>
  opRd Pr (nilSem (.pointer w_)) pav (fun t6 =>
  opUn Pr (Instr.storeAt 35 (.pointer (some (t6.add 0))) t4.val) (fun w7 =>
  K () w7) w5) w5) w) w)
  (K () w)) w
def pack_Writer_Number_ann : Ann := (.s (.r [(1, .rd rB)]) (.c (.r [(2, .rd rPA), (4, .rd rSl), (6, .call rSl), (7, .rd rPA), (9, .un)]) .d))
theorem pack_Writer_Number_calls {w_ : Option Addr} {n : Int} {K : Unit → World → Prop} {w : World} (h : pack_Writer_Number w_ n K w) : callV Pr uval 32 #[(.pointer w_), (.int .i64 n)] w K :=
  calls_of Pr_plain Pr_mixed Pr_func32 pack_Writer_Number_ann rU (args := [(.pointer w_), (.int .i64 n)]) (by kernel_rfl) h

/- (*changeover/pack.Writer).Text -/
def pack_Writer_Text (w_ : Option Addr) (s : List UInt8) (K : Unit → World → Prop) (w : World) : Prop :=
  opTy Pr (convert 9 35 (sval s)) Sl.val (fun t1 w2 =>
  callV Pr uval 35 #[(.pointer w_), t1.val] w2 fun t3 w4 =>
  K () w4) w
def pack_Writer_Text_ann : Ann := (.r [(2, .ty rSl), (3, .call rU)])
theorem pack_Writer_Text_calls {w_ : Option Addr} {s : List UInt8} {K : Unit → World → Prop} {w : World} (h : pack_Writer_Text w_ s K w) : callV Pr uval 33 #[(.pointer w_), (sval s)] w K :=
  calls_of Pr_plain Pr_mixed Pr_func33 pack_Writer_Text_ann rU (args := [(.pointer w_), (sval s)]) (by kernel_rfl) h

/- (*changeover/pack.Writer).Flag -/
def pack_Writer_Flag (w_ : Option Addr) (is : Bool) (K : Unit → World → Prop) (w : World) : Prop :=
  ifB is
  (callV Pr uval 32 #[(.pointer w_), (.int .i64 1)] w fun t1 w2 =>
  K () w2)
  (callV Pr uval 32 #[(.pointer w_), (.int .i64 0)] w fun t3 w4 =>
  K () w4)
def pack_Writer_Flag_ann : Ann := (.s .d (.s (.s .d (.c .d .d)) (.r [(2, .call rU)])))
theorem pack_Writer_Flag_calls {w_ : Option Addr} {is : Bool} {K : Unit → World → Prop} {w : World} (h : pack_Writer_Flag w_ is K w) : callV Pr uval 34 #[(.pointer w_), (.bool is)] w K :=
  calls_of Pr_plain Pr_mixed Pr_func34 pack_Writer_Flag_ann rU (args := [(.pointer w_), (.bool is)]) (by kernel_rfl) h

/- (*changeover/pack.Writer).Raw -/
def pack_Writer_Raw (w_ : Option Addr) (b : Sl) (K : Unit → World → Prop) (w : World) : Prop :=
  opRd Pr (binSem .neq 49 (.tmp 4) (.const (.pointer none)) (.pointer w_) (.pointer none)) Value.bool (fun t1 =>
  ifB t1
  (opRd Pr (nilSem (.pointer w_)) pav (fun t2 =>
  opRd Pr (Instr.loadAt 35 (.pointer (some (t2.add 0)))) Sl.val (fun t3 =>
  callV Pr Sl.val 53 #[t3.val, (.int .i64 (b.len : Int))] w fun t4 w5 =>
  opTy Pr (Builtin.append_ #[35, 35] 35 #[t4.val, b.val]) Sl.val (fun t6 w7 =>
  opRd Pr (nilSem (.pointer w_)) pav (fun t8 =>
  opUn Pr (Instr.storeAt 35 (.pointer (some (t8.add 0))) t6.val) (fun w9 =>
  K () w9) w7) w7) w5) w) w)
  (K () w)) w
def pack_Writer_Raw_ann : Ann := (.s (.r [(1, .rd rB)]) (.c (.r [(2, .rd rPA), (4, .rd rSl), (7, .call rSl), (9, .ty rSl), (10, .rd rPA), (12, .un)]) .d))
theorem pack_Writer_Raw_calls {w_ : Option Addr} {b : Sl} {K : Unit → World → Prop} {w : World} (h : pack_Writer_Raw w_ b K w) : callV Pr uval 35 #[(.pointer w_), b.val] w K :=
  calls_of Pr_plain Pr_mixed Pr_func35 pack_Writer_Raw_ann rU (args := [(.pointer w_), b.val]) (by kernel_rfl) h

/- (*changeover/pack.Writer).Bytes -/
def pack_Writer_Bytes (w_ : Option Addr) (K : Sl → World → Prop) (w : World) : Prop :=
  opRd Pr (binSem .eql 49 (.tmp 3) (.const (.pointer none)) (.pointer w_) (.pointer none)) Value.bool (fun t1 =>
  ifB t1
  (K Sl.nil w)
  (opRd Pr (nilSem (.pointer w_)) pav (fun t2 =>
  opRd Pr (Instr.loadAt 35 (.pointer (some (t2.add 0)))) Sl.val (fun t3 =>
  callV Pr Sl.val 45 #[t3.val] w fun t4 w5 =>
  K t4 w5) w) w)) w
def pack_Writer_Bytes_ann : Ann := (.s .d (.s (.s (.r [(1, .rd rB)]) (.c (.s .d .d) .d)) (.s (.r [(1, .rd rPA), (3, .rd rSl), (4, .call rSl)]) .d)))
theorem pack_Writer_Bytes_calls {w_ : Option Addr} {K : Sl → World → Prop} {w : World} (h : pack_Writer_Bytes w_ K w) : callV Pr Sl.val 36 #[(.pointer w_)] w K :=
  calls_of Pr_plain Pr_mixed Pr_func36 pack_Writer_Bytes_ann rSl (args := [(.pointer w_)]) (by kernel_rfl) h

/- (*changeover/pack.Reader).Raw -/
def pack_Reader_Raw (r : Option Addr) (most : Int) (K : Sl → World → Prop) (w : World) : Prop :=
  opTy Pr (Instr.box 37 (.pointer r)) pav (fun r1 w2 =>
  opTy Pr (Instr.box 3 (.int .i64 most)) pav (fun most3 w4 =>
  opRd Pr (Instr.loadAt 37 (.pointer (some r1))) Value.pointer (fun t5 =>
  callV Pr Sl.val 54 #[(.pointer t5), (.func (.func 55) #[] #[(.pointer (some r1)), (.pointer (some most3))])] w4 fun t6 w7 =>
  K t6 w7) w4) w2) w
def pack_Reader_Raw_ann : Ann := (.s (.r [(0, .ty rPA), (1, .ty rPA)]) (.s (.r [(0, .rd rP), (2, .call rSl)]) .d))
theorem pack_Reader_Raw_calls {r : Option Addr} {most : Int} {K : Sl → World → Prop} {w : World} (h : pack_Reader_Raw r most K w) : callV Pr Sl.val 37 #[(.pointer r), (.int .i64 most)] w K :=
  calls_of Pr_plain Pr_mixed Pr_func37 pack_Reader_Raw_ann rSl (args := [(.pointer r), (.int .i64 most)]) (by kernel_rfl) h

/- (*changeover/pack.Reader).Count -/
def pack_Reader_Count (r : Option Addr) (most : Int) (K : Int → World → Prop) (w : World) : Prop :=
  opTy Pr (Instr.box 37 (.pointer r)) pav (fun r1 w2 =>
  opTy Pr (Instr.box 3 (.int .i64 most)) pav (fun most3 w4 =>
  opRd Pr (Instr.loadAt 37 (.pointer (some r1))) Value.pointer (fun t5 =>
  callV Pr (Value.int .i64) 46 #[(.pointer t5), (.func (.func 57) #[] #[(.pointer (some r1)), (.pointer (some most3))])] w4 fun t6 w7 =>
  K t6 w7) w4) w2) w
def pack_Reader_Count_ann : Ann := (.s (.r [(0, .ty rPA), (1, .ty rPA)]) (.s (.r [(0, .rd rP), (2, .call (rI .i64))]) .d))
theorem pack_Reader_Count_calls {r : Option Addr} {most : Int} {K : Int → World → Prop} {w : World} (h : pack_Reader_Count r most K w) : callV Pr (Value.int .i64) 38 #[(.pointer r), (.int .i64 most)] w K :=
  calls_of Pr_plain Pr_mixed Pr_func38 pack_Reader_Count_ann (rI .i64) (args := [(.pointer r), (.int .i64 most)]) (by kernel_rfl) h

/- changeover/ledger.above -/
def ledger_above (applied : Int) (K : Bool → World → Prop) (w : World) : Prop :=
  K (decide (applied < 9223372036854775807)) w
def ledger_above_ann : Ann := (.s .d (.s .d .d))
theorem ledger_above_calls {applied : Int} {K : Bool → World → Prop} {w : World} (h : ledger_above applied K w) : callV Pr Value.bool 39 #[(.int .i64 applied)] w K :=
  calls_of Pr_plain Pr_mixed Pr_func39 ledger_above_ann rB (args := [(.int .i64 applied)]) (by kernel_rfl) h

/- changeover/ledger.behind -/
def ledger_behind (l : Sl) (applied : Int) (K : Value → World → Prop) (w : World) : Prop :=
  opTy Pr (Instr.box 22 l.val) pav (fun l1 w2 =>
  opTy Pr (Instr.box 3 (.int .i64 applied)) pav (fun applied3 w4 =>
  K (.func (.func 59) #[] #[(.pointer (some l1)), (.pointer (some applied3))]) w4) w2) w
def ledger_behind_ann : Ann := (.s (.r [(0, .ty rPA), (1, .ty rPA)]) (.s .d .d))
theorem ledger_behind_calls {l : Sl} {applied : Int} {K : Value → World → Prop} {w : World} (h : ledger_behind l applied K w) : callV Pr vval 40 #[l.val, (.int .i64 applied)] w K :=
  calls_of Pr_plain Pr_mixed Pr_func40 ledger_behind_ann rV (args := [l.val, (.int .i64 applied)]) (by kernel_rfl) h

/- changeover/entry.From -/
def entry_From (l : Sl) (index : Int) (K : Sl → World → Prop) (w : World) : Prop :=
  callV Pr (tval2 (Value.int .i64) Value.bool) 60 #[l.val, (.int .i64 index)] w fun t1 w2 =>
  opRd Pr (Instr.sliceAt 22 l.val (some (.int .i64 t1.1)) none none) Sl.val (fun t3 =>
  callV Pr Sl.val 61 #[t3.val] w2 fun t4 w5 =>
  K t4 w5) w2
def entry_From_ann : Ann := (.s .d (.s (.r [(2, .call (rT2 (rI .i64) rB))]) (.s (.r [(2, .rd rSl), (3, .call rSl)]) .d)))
theorem entry_From_calls {l : Sl} {index : Int} {K : Sl → World → Prop} {w : World} (h : entry_From l index K w) : callV Pr Sl.val 41 #[l.val, (.int .i64 index)] w K :=
  calls_of Pr_plain Pr_mixed Pr_func41 entry_From_ann rSl (args := [l.val, (.int .i64 index)]) (by kernel_rfl) h

/- changeover/changeoverref01.Bytes -/
def ref01_Bytes (n : Int) (K : Sl → World → Prop) (w : World) : Prop :=
  join1 (fun (j1 : Int → World → Prop) =>
  ifB (decide (n < 0))
  (j1 0 w)
  (j1 n w))
  (fun n2 w3 =>
  loop2 (n2 : Int) (Sl.nil : Sl) (fun n4 out5 k6 w7 =>
  ifB (decide (n4 > 127))
  (opTy Pr (Instr.buildSlice 35 1 #[(0, (.int .u8 (IntKind.u8.wrap (i64 (128 + (Int.tmod n4 128))))))]) Sl.val (fun t8 w9 =>
  opTy Pr (Builtin.append_ #[35, 35] 35 #[out5.val, t8.val]) Sl.val (fun out10 w11 =>
  k6 (IntKind.i64.wrap (Int.tdiv n4 128)) out10 w11) w9) w7)
  (opTy Pr (Instr.buildSlice 35 1 #[(0, (.int .u8 (IntKind.u8.wrap n4)))]) Sl.val (fun t12 w13 =>
  opTy Pr (Builtin.append_ #[35, 35] 35 #[out5.val, t12.val]) Sl.val (fun t14 w15 =>
  K t14 w15) w13) w7)) w3)
def ref01_Bytes_ann : Ann := (.s .d (.sj [(.s 0, (rI .i64))] (.s .d (.c .d .d)) (.s .d (.s (.b (.l [(.s 0, (rI .i64)), (.s 3, rSl)] (.s (.s .d (.c .d .d)) (.b (.s (.r [(5, .ty rSl), (6, .ty rSl)]) .d))))) (.s (.r [(3, .ty rSl), (4, .ty rSl)]) .d)))))
theorem ref01_Bytes_calls {n : Int} {K : Sl → World → Prop} {w : World} (h : ref01_Bytes n K w) : callV Pr Sl.val 42 #[(.int .i64 n)] w K :=
  calls_of Pr_plain Pr_mixed Pr_func42 ref01_Bytes_ann rSl (args := [(.int .i64 n)]) (by kernel_rfl) h

/- changeover/changeoverref04.Text -/
def ref04_Text (s : List UInt8) (K : Sl → World → Prop) (w : World) : Prop :=
  callV Pr Sl.val 42 #[(.int .i64 ((s : List UInt8).length : Int))] w fun t1 w2 =>
  opTy Pr (Builtin.append_ #[35, 9] 35 #[t1.val, (sval s)]) Sl.val (fun t3 w4 =>
  K t3 w4) w2
def ref04_Text_ann : Ann := (.s .d (.s (.r [(2, .call rSl), (4, .ty rSl)]) .d))
theorem ref04_Text_calls {s : List UInt8} {K : Sl → World → Prop} {w : World} (h : ref04_Text s K w) : callV Pr Sl.val 43 #[(sval s)] w K :=
  calls_of Pr_plain Pr_mixed Pr_func43 ref04_Text_ann rSl (args := [(sval s)]) (by kernel_rfl) h

/- changeover/changeoverref04.Flag -/
def ref04_Flag (is : Bool) (K : Sl → World → Prop) (w : World) : Prop :=
  ifB is
  (opTy Pr (Instr.buildSlice 35 1 #[(0, (.int .u8 1))]) Sl.val (fun t1 w2 =>
  K t1 w2) w)
  (opTy Pr (Instr.buildSlice 35 1 #[(0, (.int .u8 0))]) Sl.val (fun t3 w4 =>
  K t3 w4) w)
def ref04_Flag_ann : Ann := (.s .d (.s (.s .d (.c (.s (.r [(0, .ty rSl)]) .d) .d)) (.s (.r [(0, .ty rSl)]) .d)))
theorem ref04_Flag_calls {is : Bool} {K : Sl → World → Prop} {w : World} (h : ref04_Flag is K w) : callV Pr Sl.val 44 #[(.bool is)] w K :=
  calls_of Pr_plain Pr_mixed Pr_func44 ref04_Flag_ann rSl (args := [(.bool is)]) (by kernel_rfl) h

/- slices.Clone[[]byte,byte] -/
def slices_Clone_byte_byte (s : Sl) (K : Sl → World → Prop) (w : World) : Prop :=
  opRd Pr (binSem .eql 35 (.tmp 3) (.const Sl.nil.val) s.val Sl.nil.val) Value.bool (fun t1 =>
  ifB t1
  (K Sl.nil w)
  (opTy Pr (Instr.buildSlice 35 0 #[]) Sl.val (fun t2 w3 =>
  opTy Pr (Builtin.append_ #[35, 35] 35 #[t2.val, s.val]) Sl.val (fun t4 w5 =>
  K t4 w5) w3) w)) w
def slices_Clone_byte_byte_ann : Ann := (.s .d (.s (.s (.r [(1, .rd rB)]) (.c (.s .d .d) .d)) (.s (.r [(0, .ty rSl), (2, .ty rSl)]) .d)))
theorem slices_Clone_byte_byte_calls {s : Sl} {K : Sl → World → Prop} {w : World} (h : slices_Clone_byte_byte s K w) : callV Pr Sl.val 45 #[s.val] w K :=
  calls_of Pr_plain Pr_mixed Pr_func45 slices_Clone_byte_byte_ann rSl (args := [s.val]) (by kernel_rfl) h

/- (*changeover/pack.Reader).Number$1 -/
def pack_Reader_Number_1 (c_x0 : Addr) (c_x1 : Addr) (K : Int → World → Prop) (w : World) : Prop :=
  opRd Pr (Instr.loadAt 37 (.pointer (some c_x0))) Value.pointer (fun t1 =>
  opRd Pr (Instr.loadAt 3 (.pointer (some c_x1))) (Value.int .i64) (fun t2 =>
  callV Pr (Value.int .i64) 48 #[(.pointer t1), (.int .i64 t2)] w fun t3 w4 =>
  K t3 w4) w) w
def pack_Reader_Number_1_ann : Ann := (.s .d (.s (.r [(0, .rd rP), (1, .rd (rI .i64)), (2, .call (rI .i64))]) .d))
theorem pack_Reader_Number_1_calls {c_x0 : Addr} {c_x1 : Addr} {K : Int → World → Prop} {w : World} (h : pack_Reader_Number_1 c_x0 c_x1 K w) : callV Pr (Value.int .i64) 47 #[(.pointer (some c_x0)), (.pointer (some c_x1))] w K :=
  calls_of Pr_plain Pr_mixed Pr_func47 pack_Reader_Number_1_ann (rI .i64) (args := [(.pointer (some c_x0)), (.pointer (some c_x1))]) (by kernel_rfl) h

/- (*changeover/pack.Reader).limited -/
def pack_Reader_limited (r : Option Addr) (most : Int) (K : Int → World → Prop) (w : World) : Prop :=
  heldM (fun S2 w1 =>
  opH Pr S2 (nilSem (.pointer r)) pav (fun t3 =>
  opH Pr S2 (Instr.loadAt 35 (.pointer (some (t3.add 0)))) Sl.val (fun t4 =>
  opH Pr S2 (nilSem (.pointer r)) pav (fun t5 =>
  opH Pr S2 (Instr.loadAt 3 (.pointer (some (t5.add 1)))) (Value.int .i64) (fun t6 =>
  callV Pr (tval3 (Value.int .i64) (Value.int .i64) (Value.int .i64)) 62 #[t4.val, (.int .i64 t6)] w1 fun t7 w8 =>
  (S2 w8) ∧
  (ifB (t7.2.2 != 0)
  (callV Pr uval 63 #[(.pointer r), (.int .i64 t7.2.2)] w8 fun t9 w10 =>
  opRd Pr (nilSem (.pointer r)) pav (fun t11 =>
  opUn Pr (Instr.storeAt 3 (.pointer (some (t11.add 1))) (.int .i64 t7.2.1)) (fun w12 =>
  K t7.1 w12) w10) w10)
  (ifB (decide (t7.1 > most))
  (callV Pr uval 63 #[(.pointer r), (.int .i64 2)] w8 fun t13 w14 =>
  opRd Pr (nilSem (.pointer r)) pav (fun t15 =>
  opUn Pr (Instr.storeAt 3 (.pointer (some (t15.add 1))) (.int .i64 t7.2.1)) (fun w16 =>
  K t7.1 w16) w14) w14)
  (opRd Pr (nilSem (.pointer r)) pav (fun t17 =>
  opUn Pr (Instr.storeAt 3 (.pointer (some (t17.add 1))) (.int .i64 t7.2.1)) (fun w18 =>
  K t7.1 w18) w8) w8)))))))) w
def pack_Reader_limited_ann : Ann := (.s .d (.s (.h (.take 0 (.take 1 (.take 2 (.take 3 (.take 4 (.take 5 (.take 6 (.take 7 (.one 8 (.take 9 (.take 10 (.take 11 (.take 12 (.take 13 (.take 14 (.take 15 .done)))))))))))))))) [(1, .rd rPA), (3, .rd rSl), (5, .rd rPA), (7, .rd (rI .i64)), (8, .call (rT3 (rI .i64) (rI .i64) (rI .i64)))]) (.s (.b (.s .d (.c (.r [(2, .call rU)]) (.s .d (.c (.r [(1, .call rU)]) .d))))) (.s (.r [(2, .rd rPA), (4, .un)]) (.s .d .d)))))
theorem pack_Reader_limited_calls {r : Option Addr} {most : Int} {K : Int → World → Prop} {w : World} (h : pack_Reader_limited r most K w) : callV Pr (Value.int .i64) 48 #[(.pointer r), (.int .i64 most)] w K :=
  calls_of Pr_plain Pr_mixed Pr_func48 pack_Reader_limited_ann (rI .i64) (args := [(.pointer r), (.int .i64 most)]) (by kernel_rfl) h

/- (*changeover/pack.Reader).flag -/
def pack_Reader_flag (r : Option Addr) (K : Bool → World → Prop) (w : World) : Prop :=
  callV Pr (Value.int .i64) 51 #[(.pointer r)] w fun t1 w2 =>
  ifB (t1 == 0)
  (callV Pr uval 63 #[(.pointer r), (.int .i64 1)] w2 fun t3 w4 =>
  K false w4)
  (drewM (fun w5 =>
  opRd Pr (nilSem (.pointer r)) pav (fun t6 =>
  opRd Pr (Instr.loadAt 35 (.pointer (some (t6.add 0)))) Sl.val (fun t7 =>
  opRd Pr (nilSem (.pointer r)) pav (fun t8 =>
  opRd Pr (Instr.loadAt 3 (.pointer (some (t8.add 1)))) (Value.int .i64) (fun t9 =>
  opRd Pr (Instr.indexAt 35 t7.val (.int .i64 t9)) pav (fun t10 =>
  opRd Pr (Instr.loadAt 5 (.pointer (some t10))) (Value.int .u8) (fun c11 =>
  opRd Pr (nilSem (.pointer r)) pav (fun t12 =>
  opRd Pr (Instr.loadAt 3 (.pointer (some (t12.add 1)))) (Value.int .i64) (fun t13 =>
  opRd Pr (nilSem (.pointer r)) pav (fun t14 =>
  opUn Pr (Instr.storeAt 3 (.pointer (some (t14.add 1))) (.int .i64 (i64 (t13 + 1)))) (fun w15 =>
  ifB (decide (c11 > 1))
  (callV Pr uval 63 #[(.pointer r), (.int .i64 3)] w15 fun t16 w17 =>
  K (c11 == 1) w17)
  (K (c11 == 1) w15)) w5) w5) w5) w5) w5) w5) w5) w5) w5) w5) w2)
def pack_Reader_flag_ann : Ann := (.s .d (.s (.s (.r [(1, .call (rI .i64))]) (.c (.s (.r [(1, .call rU)]) (.s .d .d)) .d)) (.s (.r [(1, .rd rPA), (3, .rd rSl), (5, .rd rPA), (7, .rd (rI .i64)), (8, .rd rPA), (9, .rd (rI .u8))]) (.s (.r [(1, .rd rPA), (3, .rd (rI .i64)), (5, .rd rPA), (7, .un)]) (.s (.s .d (.c (.r [(1, .call rU)]) .d)) (.s .d .d))))))
theorem pack_Reader_flag_calls {r : Option Addr} {K : Bool → World → Prop} {w : World} (h : pack_Reader_flag r K w) : callV Pr Value.bool 49 #[(.pointer r)] w K :=
  calls_of Pr_plain Pr_mixed Pr_func49 pack_Reader_flag_ann rB (args := [(.pointer r)]) (by kernel_rfl) h

/- (*changeover/pack.Reader).left -/
def pack_Reader_left (r : Option Addr) (K : Int → World → Prop) (w : World) : Prop :=
  drewM (fun w1 =>
  opRd Pr (nilSem (.pointer r)) pav (fun t2 =>
  opRd Pr (Instr.loadAt 35 (.pointer (some (t2.add 0)))) Sl.val (fun t3 =>
  opRd Pr (nilSem (.pointer r)) pav (fun t4 =>
  opRd Pr (Instr.loadAt 3 (.pointer (some (t4.add 1)))) (Value.int .i64) (fun t5 =>
  K (i64 ((t3.len : Int) - t5)) w1) w1) w1) w1) w1) w
def pack_Reader_left_ann : Ann := (.s .d (.s (.r [(1, .rd rPA), (3, .rd rSl), (6, .rd rPA), (8, .rd (rI .i64))]) .d))
theorem pack_Reader_left_calls {r : Option Addr} {K : Int → World → Prop} {w : World} (h : pack_Reader_left r K w) : callV Pr (Value.int .i64) 51 #[(.pointer r)] w K :=
  calls_of Pr_plain Pr_mixed Pr_func51 pack_Reader_left_ann (rI .i64) (args := [(.pointer r)]) (by kernel_rfl) h

/- changeover/changeoverref01.Get -/
def ref01_Get (b : Sl) (at_ : Int) (K : (Int × Int × Int) → World → Prop) (w : World) : Prop :=
  ifB (decide (at_ < 0))
  (K (0, 0, 6) w)
  (ifB (decide (at_ > (b.len : Int)))
  (K (0, 0, 6) w)
  (loop3 (0 : Int) (1 : Int) (at_ : Int) (fun n1 p2 i3 k4 w5 =>
  ifB (decide (i3 < (b.len : Int)))
  (join0 (fun (j6 : World → Prop) =>
  ifB (decide (i3 > at_))
  (opRd Pr (Instr.indexAt 35 b.val (.int .i64 i3)) pav (fun t7 =>
  opRd Pr (Instr.loadAt 5 (.pointer (some t7))) (Value.int .u8) (fun t8 =>
  ifB (t8 == 0)
  (K (0, 0, 3) w5)
  (ifB (decide ((i64 (i3 - at_)) ≥ 9))
  (K (0, 0, 3) w5)
  (j6 w5))) w5) w5)
  (ifB (decide ((i64 (i3 - at_)) ≥ 9))
  (K (0, 0, 3) w5)
  (j6 w5)))
  (fun w9 =>
  opRd Pr (Instr.indexAt 35 b.val (.int .i64 i3)) pav (fun t10 =>
  opRd Pr (Instr.loadAt 5 (.pointer (some t10))) (Value.int .u8) (fun t11 =>
  opRd Pr (Instr.indexAt 35 b.val (.int .i64 i3)) pav (fun t12 =>
  opRd Pr (Instr.loadAt 5 (.pointer (some t12))) (Value.int .u8) (fun t13 =>
  ifB (decide (t13 < 128))
  (K ((i64 (n1 + (i64 (p2 * (IntKind.i64.wrap (Int.tmod t11 128)))))), (i64 (i3 + 1)), 0) w9)
  (ifB (decide ((i64 (i3 - at_)) < 8))
  (k4 (i64 (n1 + (i64 (p2 * (IntKind.i64.wrap (Int.tmod t11 128)))))) (i64 (p2 * 128)) (i64 (i3 + 1)) w9)
  (k4 (i64 (n1 + (i64 (p2 * (IntKind.i64.wrap (Int.tmod t11 128)))))) p2 (i64 (i3 + 1)) w9))) w9) w9) w9) w9))
  (K (0, 0, 1) w5)) w))
def ref01_Get_ann : Ann := (.s .d (.s (.s .d (.c (.s .d .d) .d)) (.s .d (.s (.s .d (.b (.l [(.s 7, (rI .i64)), (.s 8, (rI .i64)), (.s 9, (rI .i64))] (.s (.s .d (.c .d .d)) (.s (.b (.sj [] (.s (.r [(6, .rd rPA), (7, .rd (rI .u8))]) (.c (.s .d .d) .d)) (.s (.r [(4, .rd rPA), (5, .rd (rI .u8))]) (.s (.s (.r [(2, .rd rPA), (3, .rd (rI .u8))]) (.c (.s .d .d) .d)) (.s .d (.c .d .d)))))) .d))))) (.s .d .d)))))
theorem ref01_Get_calls {b : Sl} {at_ : Int} {K : (Int × Int × Int) → World → Prop} {w : World} (h : ref01_Get b at_ K w) : callV Pr (tval3 (Value.int .i64) (Value.int .i64) (Value.int .i64)) 52 #[b.val, (.int .i64 at_)] w K :=
  calls_of Pr_plain Pr_mixed Pr_func52 ref01_Get_ann (rT3 (rI .i64) (rI .i64) (rI .i64)) (args := [b.val, (.int .i64 at_)]) (by kernel_rfl) h

/- changeover/varint.Put -/
def varint_Put (b : Sl) (n : Int) (K : Sl → World → Prop) (w : World) : Prop :=
  callV Pr Sl.val 45 #[b.val] w fun out1 w2 =>
  loop2 ((imax n 0) : Int) (out1 : Sl) (fun n3 out4 k5 w6 =>
  ifB (decide (n3 ≥ 128))
  (opTy Pr (Instr.buildSlice 35 1 #[(0, (.int .u8 (bOr .u8 (IntKind.u8.wrap n3) 128)))]) Sl.val (fun t7 w8 =>
  opTy Pr (Builtin.append_ #[35, 35] 35 #[out4.val, t7.val]) Sl.val (fun out9 w10 =>
  k5 (shR .i64 n3 7) out9 w10) w8) w6)
  (opTy Pr (Instr.buildSlice 35 1 #[(0, (.int .u8 (IntKind.u8.wrap n3)))]) Sl.val (fun t11 w12 =>
  opTy Pr (Builtin.append_ #[35, 35] 35 #[out4.val, t11.val]) Sl.val (fun t13 w14 =>
  K t13 w14) w12) w6)) w2
def varint_Put_ann : Ann := (.s .d (.s (.r [(1, .call rSl)]) (.s (.s .d (.b (.l [(.s 1, (rI .i64)), (.s 5, rSl)] (.s (.s .d (.c .d .d)) (.s (.b (.r [(4, .ty rSl), (5, .ty rSl)])) .d))))) (.s (.r [(3, .ty rSl), (4, .ty rSl)]) .d))))
theorem varint_Put_calls {b : Sl} {n : Int} {K : Sl → World → Prop} {w : World} (h : varint_Put b n K w) : callV Pr Sl.val 53 #[b.val, (.int .i64 n)] w K :=
  calls_of Pr_plain Pr_mixed Pr_func53 varint_Put_ann rSl (args := [b.val, (.int .i64 n)]) (by kernel_rfl) h

/- (*changeover/pack.Reader).Raw$1 -/
def pack_Reader_Raw_1 (c_x0 : Addr) (c_x1 : Addr) (K : Sl → World → Prop) (w : World) : Prop :=
  opRd Pr (Instr.loadAt 37 (.pointer (some c_x0))) Value.pointer (fun t1 =>
  opRd Pr (Instr.loadAt 3 (.pointer (some c_x1))) (Value.int .i64) (fun t2 =>
  callV Pr Sl.val 56 #[(.pointer t1), (.int .i64 t2)] w fun t3 w4 =>
  K t3 w4) w) w
def pack_Reader_Raw_1_ann : Ann := (.s .d (.s (.r [(0, .rd rP), (1, .rd (rI .i64)), (2, .call rSl)]) .d))
theorem pack_Reader_Raw_1_calls {c_x0 : Addr} {c_x1 : Addr} {K : Sl → World → Prop} {w : World} (h : pack_Reader_Raw_1 c_x0 c_x1 K w) : callV Pr Sl.val 55 #[(.pointer (some c_x0)), (.pointer (some c_x1))] w K :=
  calls_of Pr_plain Pr_mixed Pr_func55 pack_Reader_Raw_1_ann rSl (args := [(.pointer (some c_x0)), (.pointer (some c_x1))]) (by kernel_rfl) h

/- (*changeover/pack.Reader).raw -/
def pack_Reader_raw (r : Option Addr) (most : Int) (K : Sl → World → Prop) (w : World) : Prop :=
  callV Pr (Value.int .i64) 58 #[(.pointer r), (.int .i64 most)] w fun n1 w2 =>
  opRd Pr (nilSem (.pointer r)) pav (fun t3 =>
  opRd Pr (Instr.loadAt 43 (.pointer (some (t3.add 2)))) (Value.int .i64) (fun t4 =>
  ifB (t4 != 0)
  (K Sl.nil w2)
  (opRd Pr (nilSem (.pointer r)) pav (fun t5 =>
  opRd Pr (Instr.loadAt 3 (.pointer (some (t5.add 1)))) (Value.int .i64) (fun t6 =>
  opRd Pr (nilSem (.pointer r)) pav (fun t7 =>
  opUn Pr (Instr.storeAt 3 (.pointer (some (t7.add 1))) (.int .i64 (i64 (t6 + n1)))) (fun w8 =>
  heldM (fun S10 w9 =>
  opH Pr S10 (nilSem (.pointer r)) pav (fun t11 =>
  opH Pr S10 (Instr.loadAt 35 (.pointer (some (t11.add 0)))) Sl.val (fun t12 =>
  opH Pr S10 (nilSem (.pointer r)) pav (fun t13 =>
  opH Pr S10 (Instr.loadAt 3 (.pointer (some (t13.add 1)))) (Value.int .i64) (fun t14 =>
  opH Pr S10 (nilSem (.pointer r)) pav (fun t15 =>
  opH Pr S10 (Instr.loadAt 3 (.pointer (some (t15.add 1)))) (Value.int .i64) (fun t16 =>
  opH Pr S10 (Instr.sliceAt 35 t12.val (some (.int .i64 (i64 (t14 - n1)))) (some (.int .i64 t16)) none) Sl.val (fun t17 =>
  callV Pr Sl.val 45 #[t17.val] w9 fun t18 w19 =>
  (S10 w19) ∧
  (K t18 w19))))))))) w8) w2) w2) w2) w2)) w2) w2
def pack_Reader_raw_ann : Ann := (.s .d (.s (.r [(2, .call (rI .i64))]) (.s (.s (.r [(1, .rd rPA), (3, .rd (rI .i64))]) (.c (.s .d .d) .d)) (.s (.r [(1, .rd rPA), (3, .rd (rI .i64)), (6, .rd rPA), (8, .un)]) (.s (.h (.take 0 (.take 1 (.take 2 (.take 3 (.take 4 (.take 5 (.take 6 (.take 7 (.take 8 (.take 9 (.take 10 (.take 11 (.take 12 (.take 13 (.take 14 (.one 15 (.take 16 .done))))))))))))))))) [(1, .rd rPA), (3, .rd rSl), (5, .rd rPA), (7, .rd (rI .i64)), (11, .rd rPA), (13, .rd (rI .i64)), (14, .rd rSl), (15, .call rSl)]) .d)))))
theorem pack_Reader_raw_calls {r : Option Addr} {most : Int} {K : Sl → World → Prop} {w : World} (h : pack_Reader_raw r most K w) : callV Pr Sl.val 56 #[(.pointer r), (.int .i64 most)] w K :=
  calls_of Pr_plain Pr_mixed Pr_func56 pack_Reader_raw_ann rSl (args := [(.pointer r), (.int .i64 most)]) (by kernel_rfl) h

/- (*changeover/pack.Reader).Count$1 -/
def pack_Reader_Count_1 (c_x0 : Addr) (c_x1 : Addr) (K : Int → World → Prop) (w : World) : Prop :=
  opRd Pr (Instr.loadAt 37 (.pointer (some c_x0))) Value.pointer (fun t1 =>
  opRd Pr (Instr.loadAt 3 (.pointer (some c_x1))) (Value.int .i64) (fun t2 =>
  callV Pr (Value.int .i64) 58 #[(.pointer t1), (.int .i64 t2)] w fun t3 w4 =>
  K t3 w4) w) w
def pack_Reader_Count_1_ann : Ann := (.s .d (.s (.r [(0, .rd rP), (1, .rd (rI .i64)), (2, .call (rI .i64))]) .d))
theorem pack_Reader_Count_1_calls {c_x0 : Addr} {c_x1 : Addr} {K : Int → World → Prop} {w : World} (h : pack_Reader_Count_1 c_x0 c_x1 K w) : callV Pr (Value.int .i64) 57 #[(.pointer (some c_x0)), (.pointer (some c_x1))] w K :=
  calls_of Pr_plain Pr_mixed Pr_func57 pack_Reader_Count_1_ann (rI .i64) (args := [(.pointer (some c_x0)), (.pointer (some c_x1))]) (by kernel_rfl) h

/- (*changeover/pack.Reader).counted -/
def pack_Reader_counted (r : Option Addr) (most : Int) (K : Int → World → Prop) (w : World) : Prop :=
  callV Pr (Value.int .i64) 48 #[(.pointer r), (.int .i64 most)] w fun n1 w2 =>
  opRd Pr (nilSem (.pointer r)) pav (fun t3 =>
  opRd Pr (Instr.loadAt 43 (.pointer (some (t3.add 2)))) (Value.int .i64) (fun t4 =>
  ifB (t4 == 0)
  (callV Pr (Value.int .i64) 51 #[(.pointer r)] w2 fun t5 w6 =>
  ifB (decide (n1 > t5))
  (callV Pr uval 63 #[(.pointer r), (.int .i64 1)] w6 fun t7 w8 =>
  K n1 w8)
  (K n1 w6))
  (K n1 w2)) w2) w2
def pack_Reader_counted_ann : Ann := (.s .d (.s (.r [(2, .call (rI .i64))]) (.s (.s (.r [(1, .rd rPA), (3, .rd (rI .i64)), (8, .call (rI .i64))]) (.c (.r [(1, .call rU)]) .d)) (.s .d .d))))
theorem pack_Reader_counted_calls {r : Option Addr} {most : Int} {K : Int → World → Prop} {w : World} (h : pack_Reader_counted r most K w) : callV Pr (Value.int .i64) 58 #[(.pointer r), (.int .i64 most)] w K :=
  calls_of Pr_plain Pr_mixed Pr_func58 pack_Reader_counted_ann (rI .i64) (args := [(.pointer r), (.int .i64 most)]) (by kernel_rfl) h

/- changeover/entry.place -/
def entry_place (l : Sl) (index : Int) (K : (Int × Bool) → World → Prop) (w : World) : Prop :=
  callV Pr (tval2 (Value.int .i64) Value.bool) 64 #[l.val, (.int .i64 index), (.func (.func 65) #[] #[])] w fun t1 w2 =>
  K (t1.1, t1.2) w2
def entry_place_ann : Ann := (.s .d (.s (.r [(2, .call (rT2 (rI .i64) rB))]) .d))
theorem entry_place_calls {l : Sl} {index : Int} {K : (Int × Bool) → World → Prop} {w : World} (h : entry_place l index K w) : callV Pr (tval2 (Value.int .i64) Value.bool) 60 #[l.val, (.int .i64 index)] w K :=
  calls_of Pr_plain Pr_mixed Pr_func60 entry_place_ann (rT2 (rI .i64) rB) (args := [l.val, (.int .i64 index)]) (by kernel_rfl) h

/- slices.Clone[[]changeover/api.Entry,changeover/api.Entry] -/
def slices_Clone_api_Entry_api_Entry (s : Sl) (K : Sl → World → Prop) (w : World) : Prop :=
  opRd Pr (binSem .eql 22 (.tmp 3) (.const Sl.nil.val) s.val Sl.nil.val) Value.bool (fun t1 =>
  ifB t1
  (K Sl.nil w)
  (opTy Pr (Instr.buildSlice 22 0 #[]) Sl.val (fun t2 w3 =>
  opTy Pr (Builtin.append_ #[22, 22] 22 #[t2.val, s.val]) Sl.val (fun t4 w5 =>
  K t4 w5) w3) w)) w
def slices_Clone_api_Entry_api_Entry_ann : Ann := (.s .d (.s (.s (.r [(1, .rd rB)]) (.c (.s .d .d) .d)) (.s (.r [(0, .ty rSl), (2, .ty rSl)]) .d)))
theorem slices_Clone_api_Entry_api_Entry_calls {s : Sl} {K : Sl → World → Prop} {w : World} (h : slices_Clone_api_Entry_api_Entry s K w) : callV Pr Sl.val 61 #[s.val] w K :=
  calls_of Pr_plain Pr_mixed Pr_func61 slices_Clone_api_Entry_api_Entry_ann rSl (args := [s.val]) (by kernel_rfl) h

/- changeover/varint.Get -/
def varint_Get (b : Sl) (at_ : Int) (K : (Int × Int × Int) → World → Prop) (w : World) : Prop :=
  ifB (decide (at_ < 0))
  (K (0, 0, 6) w)
  (ifB (decide (at_ > (b.len : Int)))
  (K (0, 0, 6) w)
  (join2 (fun (j1 : Int → Int → World → Prop) =>
  loop2 (0 : Int) (at_ : Int) (fun n2 i3 k4 w5 =>
  ifB (decide (i3 < (b.len : Int)))
  (opRd Pr (Instr.indexAt 35 b.val (.int .i64 i3)) pav (fun t6 =>
  opRd Pr (Instr.loadAt 5 (.pointer (some t6))) (Value.int .u8) (fun c7 =>
  join0 (fun (j8 : World → Prop) =>
  ifB (c7 == 0)
  (ifB (decide (i3 > at_))
  (ifB (decide (i3 > at_))
  (K (0, 0, 3) w5)
  (j8 w5))
  (ifB (decide ((i64 (7 * (i64 (i3 - at_)))) > 56))
  (ifB (decide ((i64 (7 * (i64 (i3 - at_)))) > 56))
  (K (0, 0, 3) w5)
  (j8 w5))
  (ifB (decide (n2 > 9223372036854775807))
  (K (0, 0, 3) w5)
  (j8 w5))))
  (ifB (decide ((i64 (7 * (i64 (i3 - at_)))) > 56))
  (ifB (decide ((i64 (7 * (i64 (i3 - at_)))) > 56))
  (K (0, 0, 3) w5)
  (j8 w5))
  (ifB (decide (n2 > 9223372036854775807))
  (K (0, 0, 3) w5)
  (j8 w5))))
  (fun w9 =>
  opRd Pr (binSem .shl 90 (.tmp 49) (.tmp 50) (.int .u64 (IntKind.u64.wrap (bAnd .u8 c7 127))) (.int .i64 (i64 (7 * (i64 (i3 - at_)))))) (Value.int .u64) (fun t10 =>
  ifB (decide (c7 < 128))
  (j1 (bOr .u64 n2 t10) i3 w9)
  (k4 (bOr .u64 n2 t10) (i64 (i3 + 1)) w9)) w9)) w5) w5)
  (j1 n2 i3 w5)) w)
  (fun n11 i12 w13 =>
  ifB (i12 == (b.len : Int))
  (K (0, 0, 1) w13)
  (K ((IntKind.i64.wrap n11), (i64 (i12 + 1)), 0) w13))))
def varint_Get_ann : Ann := (.s .d (.b (.s (.s .d (.c (.s .d .d) .d)) (.s .d (.s .d (.s .d (.sj [(.s 7, (rI .u64)), (.s 8, (rI .i64))] (.b (.l [(.s 7, (rI .u64)), (.s 8, (rI .i64))] (.s (.s .d (.c .d .d)) (.s (.b (.s (.r [(2, .rd rPA), (3, .rd (rI .u8))]) (.sj [] (.b (.s (.s .d (.c .d (.s .d (.c .d .d)))) (.c (.s .d .d) .d))) (.s (.r [(5, .rd (rI .u64))]) (.s .d (.c .d .d)))))) .d)))) (.s (.s .d (.c (.s .d .d) .d)) (.s .d .d)))))))))
theorem varint_Get_calls {b : Sl} {at_ : Int} {K : (Int × Int × Int) → World → Prop} {w : World} (h : varint_Get b at_ K w) : callV Pr (tval3 (Value.int .i64) (Value.int .i64) (Value.int .i64)) 62 #[b.val, (.int .i64 at_)] w K :=
  calls_of Pr_plain Pr_mixed Pr_func62 varint_Get_ann (rT3 (rI .i64) (rI .i64) (rI .i64)) (args := [b.val, (.int .i64 at_)]) (by kernel_rfl) h

/- (*changeover/pack.Reader).fail -/
def pack_Reader_fail (r : Option Addr) (e : Int) (K : Unit → World → Prop) (w : World) : Prop :=
  opRd Pr (nilSem (.pointer r)) pav (fun t1 =>
  opUn Pr (Instr.storeAt 43 (.pointer (some (t1.add 2))) (.int .i64 e)) (fun w2 =>
  K () w2) w) w
def pack_Reader_fail_ann : Ann := (.r [(2, .rd rPA), (4, .un)])
theorem pack_Reader_fail_calls {r : Option Addr} {e : Int} {K : Unit → World → Prop} {w : World} (h : pack_Reader_fail r e K w) : callV Pr uval 63 #[(.pointer r), (.int .i64 e)] w K :=
  calls_of Pr_plain Pr_mixed Pr_func63 pack_Reader_fail_ann rU (args := [(.pointer r), (.int .i64 e)]) (by kernel_rfl) h

/- changeover/entry.place$1 -/
def entry_place_1 (e : ApiEntry) (n : Int) (K : Int → World → Prop) (w : World) : Prop :=
  newV (fun b1 w2 =>
  callV Pr (Value.int .i64) 66 #[(.int .i64 e.Index), (.int .i64 n)] w2 fun t3 w4 =>
  kp b1 w2 w4 <|
  K t3 w4) w
def entry_place_1_ann : Ann := (.s (.r [(0, .nl 2)]) (.s (.r [(3, .call (rI .i64))]) .d))
theorem entry_place_1_calls {e : ApiEntry} {n : Int} {K : Int → World → Prop} {w : World} (h : entry_place_1 e n K w) : callV Pr (Value.int .i64) 65 #[(.agg ⟨e.cs⟩), (.int .i64 n)] w K :=
  calls_of Pr_plain Pr_mixed Pr_func65 entry_place_1_ann (rI .i64) (args := [(.agg ⟨e.cs⟩), (.int .i64 n)]) (by kernel_rfl) h

/- cmp.Compare[int] -/
def cmp_Compare_int (x : Int) (y : Int) (K : Int → World → Prop) (w : World) : Prop :=
  callV Pr Value.bool 67 #[(.int .i64 x)] w fun xNaN1 w2 =>
  callV Pr Value.bool 67 #[(.int .i64 y)] w2 fun yNaN3 w4 =>
  ifB xNaN1
  (ifB yNaN3
  (K 0 w4)
  (K (-1) w4))
  (ifB yNaN3
  (K 1 w4)
  (ifB (decide (x < y))
  (K (-1) w4)
  (ifB (decide (x > y))
  (K 1 w4)
  (K 0 w4))))
def cmp_Compare_int_ann : Ann := (.s .d (.s (.r [(1, .call rB)]) (.s (.r [(1, .call rB)]) (.s (.s .d (.c (.s (.s .d (.c (.s .d .d) .d)) (.s .d .d)) .d)) (.s (.s .d (.c (.s .d .d) .d)) (.s (.s .d (.c (.s .d .d) .d)) (.s (.s .d (.c (.s .d .d) .d)) (.s .d .d))))))))
theorem cmp_Compare_int_calls {x : Int} {y : Int} {K : Int → World → Prop} {w : World} (h : cmp_Compare_int x y K w) : callV Pr (Value.int .i64) 66 #[(.int .i64 x), (.int .i64 y)] w K :=
  calls_of Pr_plain Pr_mixed Pr_func66 cmp_Compare_int_ann (rI .i64) (args := [(.int .i64 x), (.int .i64 y)]) (by kernel_rfl) h

/- cmp.isNaN[int] -/
def cmp_isNaN_int (x : Int) (K : Bool → World → Prop) (w : World) : Prop :=
  K (x != x) w
def cmp_isNaN_int_ann : Ann := (.s .d (.s .d .d))
theorem cmp_isNaN_int_calls {x : Int} {K : Bool → World → Prop} {w : World} (h : cmp_isNaN_int x K w) : callV Pr Value.bool 67 #[(.int .i64 x)] w K :=
  calls_of Pr_plain Pr_mixed Pr_func67 cmp_isNaN_int_ann rB (args := [(.int .i64 x)]) (by kernel_rfl) h

/- changeover/pack.read[int] -/
def pack_read_int_Number (r : Option Addr) (c47x0 : Addr) (c47x1 : Addr) (K : Int → World → Prop) (w : World) : Prop :=
  opRd Pr (binSem .eql 37 (.tmp 7) (.const (.pointer none)) (.pointer r) (.pointer none)) Value.bool (fun t1 =>
  ifB t1
  (K 0 w)
  (opRd Pr (nilSem (.pointer r)) pav (fun t2 =>
  opRd Pr (Instr.loadAt 43 (.pointer (some (t2.add 2)))) (Value.int .i64) (fun t3 =>
  ifB (t3 != 0)
  (K 0 w)
  (callV Pr (Value.int .i64) 47 #[(.pointer (some c47x0)), (.pointer (some c47x1))] w fun x4 w5 =>
  opRd Pr (nilSem (.pointer r)) pav (fun t6 =>
  opRd Pr (Instr.loadAt 43 (.pointer (some (t6.add 2)))) (Value.int .i64) (fun t7 =>
  ifB (t7 != 0)
  (K 0 w5)
  (K x4 w5)) w5) w5)) w) w)) w
def pack_read_int_Number_ann : Ann := (.s .d (.s .d (.s (.s (.r [(1, .rd rB), (4, .rd rPA), (6, .rd (rI .i64))]) (.c (.s .d .d) .d)) (.s (.r [(1, .call (rI .i64))]) (.s (.s (.r [(1, .rd rPA), (3, .rd (rI .i64))]) (.c (.s .d .d) .d)) (.s .d .d))))))
theorem pack_read_int_Number_calls {r : Option Addr} {c47x0 : Addr} {c47x1 : Addr} {K : Int → World → Prop} {w : World} (h : pack_read_int_Number r c47x0 c47x1 K w) : callV Pr (Value.int .i64) 46 #[(.pointer r), (.func (.func 47) #[] #[(.pointer (some c47x0)), (.pointer (some c47x1))])] w K :=
  calls_of Pr_plain Pr_mixed Pr_func46 pack_read_int_Number_ann (rI .i64) (args := [(.pointer r), (.func (.func 47) #[] #[(.pointer (some c47x0)), (.pointer (some c47x1))])]) (by kernel_rfl) h

/- changeover/pack.read[int] -/
def pack_read_int_Count (r : Option Addr) (c57x0 : Addr) (c57x1 : Addr) (K : Int → World → Prop) (w : World) : Prop :=
  opRd Pr (binSem .eql 37 (.tmp 7) (.const (.pointer none)) (.pointer r) (.pointer none)) Value.bool (fun t1 =>
  ifB t1
  (K 0 w)
  (opRd Pr (nilSem (.pointer r)) pav (fun t2 =>
  opRd Pr (Instr.loadAt 43 (.pointer (some (t2.add 2)))) (Value.int .i64) (fun t3 =>
  ifB (t3 != 0)
  (K 0 w)
  (callV Pr (Value.int .i64) 57 #[(.pointer (some c57x0)), (.pointer (some c57x1))] w fun x4 w5 =>
  opRd Pr (nilSem (.pointer r)) pav (fun t6 =>
  opRd Pr (Instr.loadAt 43 (.pointer (some (t6.add 2)))) (Value.int .i64) (fun t7 =>
  ifB (t7 != 0)
  (K 0 w5)
  (K x4 w5)) w5) w5)) w) w)) w
def pack_read_int_Count_ann : Ann := (.s .d (.s .d (.s (.s (.r [(1, .rd rB), (4, .rd rPA), (6, .rd (rI .i64))]) (.c (.s .d .d) .d)) (.s (.r [(1, .call (rI .i64))]) (.s (.s (.r [(1, .rd rPA), (3, .rd (rI .i64))]) (.c (.s .d .d) .d)) (.s .d .d))))))
theorem pack_read_int_Count_calls {r : Option Addr} {c57x0 : Addr} {c57x1 : Addr} {K : Int → World → Prop} {w : World} (h : pack_read_int_Count r c57x0 c57x1 K w) : callV Pr (Value.int .i64) 46 #[(.pointer r), (.func (.func 57) #[] #[(.pointer (some c57x0)), (.pointer (some c57x1))])] w K :=
  calls_of Pr_plain Pr_mixed Pr_func46 pack_read_int_Count_ann (rI .i64) (args := [(.pointer r), (.func (.func 57) #[] #[(.pointer (some c57x0)), (.pointer (some c57x1))])]) (by kernel_rfl) h

/- changeover/pack.read[[]byte] -/
def pack_read_byte_Raw (r : Option Addr) (c55x0 : Addr) (c55x1 : Addr) (K : Sl → World → Prop) (w : World) : Prop :=
  opRd Pr (binSem .eql 37 (.tmp 7) (.const (.pointer none)) (.pointer r) (.pointer none)) Value.bool (fun t1 =>
  ifB t1
  (K Sl.nil w)
  (opRd Pr (nilSem (.pointer r)) pav (fun t2 =>
  opRd Pr (Instr.loadAt 43 (.pointer (some (t2.add 2)))) (Value.int .i64) (fun t3 =>
  ifB (t3 != 0)
  (K Sl.nil w)
  (callV Pr Sl.val 55 #[(.pointer (some c55x0)), (.pointer (some c55x1))] w fun x4 w5 =>
  opRd Pr (nilSem (.pointer r)) pav (fun t6 =>
  opRd Pr (Instr.loadAt 43 (.pointer (some (t6.add 2)))) (Value.int .i64) (fun t7 =>
  ifB (t7 != 0)
  (K Sl.nil w5)
  (K x4 w5)) w5) w5)) w) w)) w
def pack_read_byte_Raw_ann : Ann := (.s .d (.s .d (.s (.s (.r [(1, .rd rB), (4, .rd rPA), (6, .rd (rI .i64))]) (.c (.s .d .d) .d)) (.s (.r [(1, .call rSl)]) (.s (.s (.r [(1, .rd rPA), (3, .rd (rI .i64))]) (.c (.s .d .d) .d)) (.s .d .d))))))
theorem pack_read_byte_Raw_calls {r : Option Addr} {c55x0 : Addr} {c55x1 : Addr} {K : Sl → World → Prop} {w : World} (h : pack_read_byte_Raw r c55x0 c55x1 K w) : callV Pr Sl.val 54 #[(.pointer r), (.func (.func 55) #[] #[(.pointer (some c55x0)), (.pointer (some c55x1))])] w K :=
  calls_of Pr_plain Pr_mixed Pr_func54 pack_read_byte_Raw_ann rSl (args := [(.pointer r), (.func (.func 55) #[] #[(.pointer (some c55x0)), (.pointer (some c55x1))])]) (by kernel_rfl) h

/- changeover/pack.read[bool] -/
def pack_read_bool_flag (r : Option Addr) (c_r : Option Addr) (K : Bool → World → Prop) (w : World) : Prop :=
  opRd Pr (binSem .eql 37 (.tmp 7) (.const (.pointer none)) (.pointer r) (.pointer none)) Value.bool (fun t1 =>
  ifB t1
  (K false w)
  (opRd Pr (nilSem (.pointer r)) pav (fun t2 =>
  opRd Pr (Instr.loadAt 43 (.pointer (some (t2.add 2)))) (Value.int .i64) (fun t3 =>
  ifB (t3 != 0)
  (K false w)
  (callV Pr Value.bool 49 #[(.pointer c_r)] w fun x4 w5 =>
  opRd Pr (nilSem (.pointer r)) pav (fun t6 =>
  opRd Pr (Instr.loadAt 43 (.pointer (some (t6.add 2)))) (Value.int .i64) (fun t7 =>
  ifB (t7 != 0)
  (K false w5)
  (K x4 w5)) w5) w5)) w) w)) w
def pack_read_bool_flag_ann : Ann := (.s .d (.s .d (.s (.s (.r [(1, .rd rB), (4, .rd rPA), (6, .rd (rI .i64))]) (.c (.s .d .d) .d)) (.s (.r [(1, .call rB)]) (.s (.s (.r [(1, .rd rPA), (3, .rd (rI .i64))]) (.c (.s .d .d) .d)) (.s .d .d))))))
theorem pack_read_bool_flag_calls {r : Option Addr} {c_r : Option Addr} {K : Bool → World → Prop} {w : World} (h : pack_read_bool_flag r c_r K w) : callV Pr Value.bool 50 #[(.pointer r), (.func (.func 49) #[(.pointer c_r)] #[])] w K :=
  calls_of Pr_plain Pr_mixed Pr_func50 pack_read_bool_flag_ann rB (args := [(.pointer r), (.func (.func 49) #[(.pointer c_r)] #[])]) (by kernel_rfl) h

/- slices.BinarySearchFunc[[]changeover/api.Entry,changeover/api.Entry,int] -/
def slices_BinarySearchFunc_api_Entry_api_Entry_int_place (x : Sl) (target : Int) (K : (Int × Bool) → World → Prop) (w : World) : Prop :=
  loop2 (0 : Int) ((x.len : Int) : Int) (fun i1 j2 k3 w4 =>
  ifB (decide (i1 < j2))
  (opRd Pr (Instr.indexAt 22 x.val (.int .i64 (IntKind.i64.wrap (shR .u64 (IntKind.u64.wrap (i64 (i1 + j2))) 1)))) pav (fun t5 =>
  opRd Pr (Instr.loadAt 62 (.pointer (some t5))) ApiEntry.val (fun t6 =>
  callV Pr (Value.int .i64) 65 #[(.agg ⟨t6.cs⟩), (.int .i64 target)] w4 fun t7 w8 =>
  ifB (decide (t7 < 0))
  (k3 (i64 ((IntKind.i64.wrap (shR .u64 (IntKind.u64.wrap (i64 (i1 + j2))) 1)) + 1)) j2 w8)
  (k3 i1 (IntKind.i64.wrap (shR .u64 (IntKind.u64.wrap (i64 (i1 + j2))) 1)) w8)) w4) w4)
  (ifB (decide (i1 < (x.len : Int)))
  (opRd Pr (Instr.indexAt 22 x.val (.int .i64 i1)) pav (fun t9 =>
  opRd Pr (Instr.loadAt 62 (.pointer (some t9))) ApiEntry.val (fun t10 =>
  callV Pr (Value.int .i64) 65 #[(.agg ⟨t10.cs⟩), (.int .i64 target)] w4 fun t11 w12 =>
  K (i1, (t11 == 0)) w12) w4) w4)
  (K (i1, false) w4))) w
def slices_BinarySearchFunc_api_Entry_api_Entry_int_place_ann : Ann := (.s .d (.s .d (.s .d (.s (.b (.l [(.s 9, (rI .i64)), (.s 10, (rI .i64))] (.s (.s .d (.c .d .d)) (.b (.s .d (.s (.r [(3, .rd rPA), (4, .rd rApiEntry), (6, .call (rI .i64))]) (.c .d .d))))))) (.s (.r [(8, .rd rPA), (9, .rd rApiEntry), (11, .call (rI .i64))]) .d)))))
theorem slices_BinarySearchFunc_api_Entry_api_Entry_int_place_calls {x : Sl} {target : Int} {K : (Int × Bool) → World → Prop} {w : World} (h : slices_BinarySearchFunc_api_Entry_api_Entry_int_place x target K w) : callV Pr (tval2 (Value.int .i64) Value.bool) 64 #[x.val, (.int .i64 target), (.func (.func 65) #[] #[])] w K :=
  calls_of Pr_plain Pr_mixed Pr_func64 slices_BinarySearchFunc_api_Entry_api_Entry_int_place_ann (rT2 (rI .i64) rB) (args := [x.val, (.int .i64 target), (.func (.func 65) #[] #[])]) (by kernel_rfl) h

end Go.Chg
