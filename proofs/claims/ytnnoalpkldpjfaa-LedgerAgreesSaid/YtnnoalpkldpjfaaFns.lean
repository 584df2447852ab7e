/-
  Functions of the program, told by a program of ours (gen.py), each held by the kernel to what is to be shown of its code.
-/
import Derived.Test.YtnnoalpkldpjfaaTy
set_option maxRecDepth 100000
set_option linter.unusedVariables false
namespace Go.Chg
open Go.Vc

/- changeover/changeoverlaw32.LedgerAgrees -/
def law32_LedgerAgrees (a : Sl) (b : Sl) (K : Bool → World → Prop) (w : World) : Prop :=
  callV Pr Value.bool 5 #[a.val] w fun t1 w2 =>
  ifB t1
  (callV Pr Value.bool 7 #[] w2 fun t3 w4 =>
  K t3 w4)
  (callV Pr Value.bool 5 #[b.val] w2 fun t5 w6 =>
  ifB t5
  (callV Pr Value.bool 7 #[] w6 fun t7 w8 =>
  K t7 w8)
  (callV Pr Value.bool 6 #[a.val] w6 fun t9 w10 =>
  ifB (!t9)
  (callV Pr Value.bool 7 #[] w10 fun t11 w12 =>
  K t11 w12)
  (callV Pr Value.bool 6 #[b.val] w10 fun t13 w14 =>
  ifB (!t13)
  (callV Pr Value.bool 7 #[] w14 fun t15 w16 =>
  K t15 w16)
  (callV Pr Sl.val 16 #[a.val, b.val] w14 fun m17 w18 =>
  callV Pr Value.bool 17 #[a.val, b.val] w18 fun is19 w20 =>
  join0 (fun (j21 : World → Prop) =>
  callV Pr Value.bool 18 #[a.val, b.val] w20 fun t22 w23 =>
  ifB (!(is19 == t22))
  (K false w23)
  (callV Pr Sl.val 19 #[a.val, b.val] w23 fun t24 w25 =>
  callV Pr Value.bool 9 #[m17.val, t24.val] w25 fun t26 w27 =>
  ifB (!t26)
  (K false w27)
  (callV Pr Value.bool 18 #[a.val, m17.val] w27 fun t28 w29 =>
  ifB (!t28)
  (K false w29)
  (ifB is19
  (callV Pr Value.bool 17 #[m17.val, b.val] w29 fun t30 w31 =>
  ifB (!t30)
  (K false w31)
  (j21 w31))
  (j21 w29)))))
  (fun w32 =>
  callV Pr Value.bool 17 #[b.val, a.val] w32 fun t33 w34 =>
  ifB (t33 == is19)
  (callV Pr Value.bool 6 #[m17.val] w34 fun t35 w36 =>
  ifB t35
  (callV Pr Value.bool 7 #[] w36 fun t37 w38 =>
  K t37 w38)
  (K false w36))
  (K false w34))))))
def law32_LedgerAgrees_ann : Ann := (.s .d (.s (.s (.r [(1, .call rB), (4, .call rB), (8, .call rB), (13, .call rB)]) (.c (.s (.r [(0, .call rB)]) .d) .d)) (.s (.r [(2, .call rSl)]) (.s (.r [(2, .call rB)]) (.sj [] (.s (.r [(3, .call rB), (9, .call rSl), (10, .call rB), (16, .call rB), (24, .call rB)]) (.c (.s .d .d) .d)) (.s (.r [(2, .call rB), (7, .call rB), (10, .call rB)]) .d))))))
theorem law32_LedgerAgrees_calls {a : Sl} {b : Sl} {K : Bool → World → Prop} {w : World} (h : law32_LedgerAgrees a b K w) : callV Pr Value.bool 4 #[a.val, b.val] w K :=
  calls_of Pr_plain Pr_mixed Pr_func4 law32_LedgerAgrees_ann rB (args := [a.val, b.val]) (by kernel_rfl) h

/- changeover/changeoverref12.Large -/
def ref12_Large (l : Sl) (K : Bool → World → Prop) (w : World) : Prop :=
  loop1 (0 : Int) (fun i1 k2 w3 =>
  ifB (decide (i1 < (l.len : Int)))
  (ifB (decide (i1 < 40))
  (opRd Pr (Instr.indexAt 22 l.val (.int .i64 i1)) pav (fun t4 =>
  opRd Pr (Instr.loadAt 9 (.pointer (some ((t4.add 3).add 3)))) sval (fun t5 =>
  ifB (decide (((t5 : List UInt8).length : Int) > 200))
  (K true w3)
  (opRd Pr (Instr.indexAt 22 l.val (.int .i64 i1)) pav (fun t6 =>
  opRd Pr (Instr.loadAt 9 (.pointer (some ((t6.add 3).add 4)))) sval (fun t7 =>
  ifB (decide (((t7 : List UInt8).length : Int) > 200))
  (K true w3)
  (opRd Pr (Instr.indexAt 22 l.val (.int .i64 i1)) pav (fun t8 =>
  opRd Pr (Instr.loadAt 9 (.pointer (some ((t8.add 3).add 5)))) sval (fun t9 =>
  ifB (decide (((t9 : List UInt8).length : Int) > 200))
  (K true w3)
  (k2 (i64 (i1 + 1)) w3)) w3) w3)) w3) w3)) w3) w3)
  (K (decide ((l.len : Int) > 40)) w3))
  (K (decide ((l.len : Int) > 40)) w3)) w
def ref12_Large_ann : Ann := (.s .d (.s (.s .d (.b (.l [(.s 3, (rI .i64))] (.s (.s .d (.c .d .d)) (.s (.b (.s (.r [(2, .rd rPA), (5, .rd rS), (11, .rd rPA), (14, .rd rS), (21, .rd rPA), (24, .rd rS)]) (.c (.s .d .d) .d))) .d))))) (.s .d .d)))
theorem ref12_Large_calls {l : Sl} {K : Bool → World → Prop} {w : World} (h : ref12_Large l K w) : callV Pr Value.bool 5 #[l.val] w K :=
  calls_of Pr_plain Pr_mixed Pr_func5 ref12_Large_ann rB (args := [l.val]) (by kernel_rfl) h

/- changeover/changeoverref12.Rise -/
def ref12_Rise (l : Sl) (K : Bool → World → Prop) (w : World) : Prop :=
  loop1 (1 : Int) (fun i1 k2 w3 =>
  ifB (decide (i1 < (l.len : Int)))
  (drewM (fun w4 =>
  opRd Pr (Instr.indexAt 22 l.val (.int .i64 i1)) pav (fun t5 =>
  opRd Pr (Instr.loadAt 3 (.pointer (some (t5.add 0)))) (Value.int .i64) (fun t6 =>
  opRd Pr (Instr.indexAt 22 l.val (.int .i64 (i64 (i1 - 1)))) pav (fun t7 =>
  opRd Pr (Instr.loadAt 3 (.pointer (some (t7.add 0)))) (Value.int .i64) (fun t8 =>
  ifB (decide (t6 ≤ t8))
  (K false w4)
  (k2 (i64 (i1 + 1)) w4)) w4) w4) w4) w4) w3)
  (K true w3)) w
def ref12_Rise_ann : Ann := (.s .d (.s (.s .d (.b (.l [(.s 3, (rI .i64))] (.s (.s .d (.c .d .d)) (.s (.b (.s (.r [(2, .rd rPA), (4, .rd (rI .i64)), (8, .rd rPA), (10, .rd (rI .i64))]) (.c (.s .d .d) .d))) .d))))) (.s .d .d)))
theorem ref12_Rise_calls {l : Sl} {K : Bool → World → Prop} {w : World} (h : ref12_Rise l K w) : callV Pr Value.bool 6 #[l.val] w K :=
  calls_of Pr_plain Pr_mixed Pr_func6 ref12_Rise_ann rB (args := [l.val]) (by kernel_rfl) h

/- changeover/changeoverlaw32.awake -/
def law32_awake (K : Bool → World → Prop) (w : World) : Prop :=
  opTy Pr (Instr.buildSlice 22 3 #[(0, (.agg ⟨[(.int .i64 4), (.int .i64 0), (.int .i64 0), (.int .i64 0), (.int .i64 0), (.int .i64 0), (sval []), (sval []), (sval []), (.int .i64 0)]⟩)), (1, (.agg ⟨[(.int .i64 5), (.int .i64 0), (.int .i64 0), (.int .i64 0), (.int .i64 0), (.int .i64 0), (sval []), (sval []), (sval []), (.int .i64 0)]⟩)), (2, (.agg ⟨[(.int .i64 7), (.int .i64 0), (.int .i64 0), (.int .i64 0), (.int .i64 0), (.int .i64 0), (sval []), (sval []), (sval []), (.int .i64 0)]⟩))]) Sl.val (fun l1 w2 =>
  callV Pr Sl.val 8 #[l1.val, (.int .i64 3)] w2 fun t3 w4 =>
  ifB ((t3.len : Int) == 2)
  (callV Pr Sl.val 12 #[l1.val, (.int .i64 3)] w4 fun t5 w6 =>
  opTy Pr (Instr.buildSlice 28 1 #[(0, (.int .i64 6))]) Sl.val (fun t7 w8 =>
  callV Pr Value.bool 11 #[t5.val, t7.val] w8 fun t9 w10 =>
  ifB t9
  (callV Pr (Value.int .i64) 14 #[l1.val, (.int .i64 3)] w10 fun t11 w12 =>
  K (t11 == 7) w12)
  (K false w10)) w6)
  (K false w4)) w
def law32_awake_ann : Ann := (.s .d (.s (.r [(3, .ty rSl)]) (.s (.r [(1, .call rSl), (6, .call rSl), (7, .ty rSl), (8, .call rB), (12, .call (rI .i64))]) .d)))
theorem law32_awake_calls {K : Bool → World → Prop} {w : World} (h : law32_awake K w) : callV Pr Value.bool 7 #[] w K :=
  calls_of Pr_plain Pr_mixed Pr_func7 law32_awake_ann rB (args := []) (by kernel_rfl) h

/- changeover/ledger.Ready -/
def ledger_Ready (l : Sl) (applied : Int) (K : Sl → World → Prop) (w : World) : Prop :=
  callV Pr Value.bool 20 #[(.int .i64 applied)] w fun t1 w2 =>
  ifB (!t1)
  (K Sl.nil w2)
  (newV (fun b3 w4 =>
  callV Pr vval 21 #[l.val, (.int .i64 applied)] w4 fun t5 w6 =>
  kp b3 w4 w6 <|
  rngM1_0 Pr ApiEntry.val t5 (fun W7 W8 =>
  kp b3 W7 W8 <|
  True) (fun L9 D10 x11 out12 w13 KN14 KX15 =>
  newV (fun b16 w17 =>
  wrM b16 (fun w18 =>
  kp L9 w13 w18 <|
  wrM L9 (fun w19 =>
  opTy Pr (Instr.buildSlice 22 1 #[(0, (.agg ⟨[(.int .i64 x11.Index), (.int .i64 x11.Ballot.Round), (.int .i64 x11.Ballot.Node), (.int .i64 x11.Cmd.Kind), (.int .i64 x11.Cmd.Client), (.int .i64 x11.Cmd.Seq), (sval x11.Cmd.Key), (sval x11.Cmd.Val), (sval x11.Cmd.Old), (.int .i64 x11.Cmd.Node)]⟩))]) Sl.val (fun t20 w21 =>
  kp b16 w19 w21 <|
  kp b3 w19 w21 <|
  opTy Pr (Builtin.append_ #[22, 22] 22 #[out12.val, t20.val]) Sl.val (fun t22 w23 =>
  kp b16 w21 w23 <|
  kp b3 w21 w23 <|
  wrM b3 (fun w24 =>
  kp L9 w19 w24 <|
  kp D10 w13 w24 <|
  wrM L9 (fun w25 =>
  KN14 t22 w25) w24) w23) w21) w19) w18) w17) w13) (Sl.nil : Sl) (fun D27 out26 w28 =>
  (shutAt D27 w28) ∧
  (wrM D27 (fun w29 =>
  K out26 w29) w28)) (fun D30 w31 =>
  (shutAt D30 w31) ∧
  (wrM D30 (fun w32 =>
  K Sl.nil w32) w31)) w6) w2)
def ledger_Ready_ann : Ann := (.s .d (.s (.s (.r [(1, .call rB)]) (.c (.s .d .d) .d)) (.s (.r [(0, .nl 5)]) (.s (.s (.r [(2, .call rV)]) (.b (.l [(.s 13, rApiEntry), (.h 5, rSl)] (.sj [] (.r [(0, .nl 6), (1, .ls 6)]) (.b (.r [(2, .ty rSl), (3, .ty rSl), (4, .ls 5)])))))) (.s .d .d)))))
theorem ledger_Ready_calls {l : Sl} {applied : Int} {K : Sl → World → Prop} {w : World} (h : ledger_Ready l applied K w) : callV Pr Sl.val 8 #[l.val, (.int .i64 applied)] w K :=
  calls_ofT2 Pr_plain Pr_mixed Pr_func8 ledger_Ready_ann rSl (args := [l.val, (.int .i64 applied)]) (by kernel_rfl) h

/- changeover/changeoverref12.Same -/
def ref12_Same (a : Sl) (b : Sl) (K : Bool → World → Prop) (w : World) : Prop :=
  ifB ((a.len : Int) != (b.len : Int))
  (K false w)
  (loop1 (0 : Int) (fun i1 k2 w3 =>
  ifB (decide (i1 < (a.len : Int)))
  (drewM (fun w4 =>
  opRd Pr (Instr.indexAt 22 a.val (.int .i64 i1)) pav (fun t5 =>
  opRd Pr (Instr.loadAt 38 (.pointer (some t5))) ApiEntry.val (fun t6 =>
  opRd Pr (Instr.indexAt 22 b.val (.int .i64 i1)) pav (fun t7 =>
  opRd Pr (Instr.loadAt 38 (.pointer (some t7))) ApiEntry.val (fun t8 =>
  opRd Pr (binSem .neq 38 (.tmp 20) (.tmp 24) (.agg ⟨t6.cs⟩) (.agg ⟨t8.cs⟩)) Value.bool (fun t9 =>
  ifB t9
  (K false w4)
  (k2 (i64 (i1 + 1)) w4)) w4) w4) w4) w4) w4) w3)
  (K true w3)) w)
def ref12_Same_ann : Ann := (.s .d (.s (.s .d (.c (.s .d .d) .d)) (.s (.s .d (.b (.l [(.s 5, (rI .i64))] (.s (.s .d (.c .d .d)) (.s (.b (.s (.r [(2, .rd rPA), (3, .rd rApiEntry), (6, .rd rPA), (7, .rd rApiEntry), (8, .rd rB)]) (.c (.s .d .d) .d))) .d))))) (.s .d .d))))
theorem ref12_Same_calls {a : Sl} {b : Sl} {K : Bool → World → Prop} {w : World} (h : ref12_Same a b K w) : callV Pr Value.bool 9 #[a.val, b.val] w K :=
  calls_of Pr_plain Pr_mixed Pr_func9 ref12_Same_ann rB (args := [a.val, b.val]) (by kernel_rfl) h

/- changeover/changeoverref01.Ints -/
def ref01_Ints (a : Sl) (b : Sl) (K : Bool → World → Prop) (w : World) : Prop :=
  ifB ((a.len : Int) != (b.len : Int))
  (K false w)
  (loop1 (0 : Int) (fun i1 k2 w3 =>
  ifB (decide (i1 < (a.len : Int)))
  (drewM (fun w4 =>
  opRd Pr (Instr.indexAt 28 a.val (.int .i64 i1)) pav (fun t5 =>
  opRd Pr (Instr.loadAt 3 (.pointer (some t5))) (Value.int .i64) (fun t6 =>
  opRd Pr (Instr.indexAt 28 b.val (.int .i64 i1)) pav (fun t7 =>
  opRd Pr (Instr.loadAt 3 (.pointer (some t7))) (Value.int .i64) (fun t8 =>
  ifB (t6 != t8)
  (K false w4)
  (k2 (i64 (i1 + 1)) w4)) w4) w4) w4) w4) w3)
  (K true w3)) w)
def ref01_Ints_ann : Ann := (.s .d (.s (.s .d (.c (.s .d .d) .d)) (.s (.s .d (.b (.l [(.s 5, (rI .i64))] (.s (.s .d (.c .d .d)) (.s (.b (.s (.r [(2, .rd rPA), (3, .rd (rI .i64)), (6, .rd rPA), (7, .rd (rI .i64))]) (.c (.s .d .d) .d))) .d))))) (.s .d .d))))
theorem ref01_Ints_calls {a : Sl} {b : Sl} {K : Bool → World → Prop} {w : World} (h : ref01_Ints a b K w) : callV Pr Value.bool 11 #[a.val, b.val] w K :=
  calls_of Pr_plain Pr_mixed Pr_func11 ref01_Ints_ann rB (args := [a.val, b.val]) (by kernel_rfl) h

/- changeover/ledger.Holes -/
def ledger_Holes (l : Sl) (applied : Int) (K : Sl → World → Prop) (w : World) : Prop :=
  callV Pr Value.bool 20 #[(.int .i64 applied)] w fun t1 w2 =>
  ifB (!t1)
  (K Sl.nil w2)
  (callV Pr Sl.val 22 #[l.val, (.int .i64 (i64 (applied + 1)))] w2 fun t3 w4 =>
  loop3 (Sl.nil : Sl) ((i64 (applied + 1)) : Int) (0 : Int) (fun out5 at6 t7 k8 w9 =>
  ifB (decide (t7 < (t3.len : Int)))
  (opRd Pr (Instr.indexAt 22 t3.val (.int .i64 t7)) pav (fun t10 =>
  opRd Pr (Instr.loadAt 38 (.pointer (some t10))) ApiEntry.val (fun t11 =>
  newV (fun b12 w13 =>
  wrM b12 (fun w14 =>
  join1 (fun (j15 : Sl → World → Prop) =>
  loop2 (out5 : Sl) (at6 : Int) (fun out16 at17 k18 w19 =>
  ifB (decide (at17 < t11.Index))
  (ifB (decide ((out16.len : Int) < 4))
  (opTy Pr (Instr.buildSlice 28 1 #[(0, (.int .i64 at17))]) Sl.val (fun t20 w21 =>
  kp b12 w19 w21 <|
  opTy Pr (Builtin.append_ #[28, 28] 28 #[out16.val, t20.val]) Sl.val (fun out22 w23 =>
  kp b12 w21 w23 <|
  k18 out22 (i64 (at17 + 1)) w23) w21) w19)
  (j15 out16 w19))
  (j15 out16 w19)) w14)
  (fun out24 w25 =>
  ifB ((out24.len : Int) == 4)
  (K out24 w25)
  (ifB (t11.Index == 9223372036854775807)
  (K out24 w25)
  (k8 out24 (i64 (t11.Index + 1)) (i64 (t7 + 1)) w25)))) w13) w9) w9) w9)
  (K out5 w9)) w4)
def ledger_Holes_ann : Ann := (.s .d (.s .d (.s (.s (.r [(1, .call rB)]) (.c (.s .d .d) .d)) (.s .d (.s (.s (.r [(2, .call rSl)]) (.b (.l [(.s 5, rSl), (.s 6, (rI .i64)), (.s 19, (rI .i64))] (.s .d (.s (.c .d .d) (.s (.b (.s (.r [(0, .rd rPA), (1, .rd rApiEntry), (2, .nl 8), (3, .ls 8)]) (.sj [(.s 5, rSl)] (.b (.l [(.s 5, rSl), (.s 6, (rI .i64))] (.s (.s .d (.c .d .d)) (.s (.b (.r [(2, .ty rSl), (3, .ty rSl)])) .d)))) (.s (.s .d (.c .d .d)) .d)))) .d)))))) (.s .d .d))))))
theorem ledger_Holes_calls {l : Sl} {applied : Int} {K : Sl → World → Prop} {w : World} (h : ledger_Holes l applied K w) : callV Pr Sl.val 12 #[l.val, (.int .i64 applied)] w K :=
  calls_of Pr_plain Pr_mixed Pr_func12 ledger_Holes_ann rSl (args := [l.val, (.int .i64 applied)]) (by kernel_rfl) h

/- changeover/ledger.Top -/
def ledger_Top (l : Sl) (applied : Int) (K : Int → World → Prop) (w : World) : Prop :=
  ifB ((l.len : Int) == 0)
  (K applied w)
  (opRd Pr (Instr.indexAt 22 l.val (.int .i64 (i64 ((l.len : Int) - 1)))) pav (fun t1 =>
  opRd Pr (Instr.loadAt 3 (.pointer (some (t1.add 0)))) (Value.int .i64) (fun t2 =>
  K (imax applied t2) w) w) w)
def ledger_Top_ann : Ann := (.s .d (.s (.s .d (.c (.s .d .d) .d)) (.s (.r [(5, .rd rPA), (7, .rd (rI .i64))]) .d)))
theorem ledger_Top_calls {l : Sl} {applied : Int} {K : Int → World → Prop} {w : World} (h : ledger_Top l applied K w) : callV Pr (Value.int .i64) 14 #[l.val, (.int .i64 applied)] w K :=
  calls_of Pr_plain Pr_mixed Pr_func14 ledger_Top_ann (rI .i64) (args := [l.val, (.int .i64 applied)]) (by kernel_rfl) h

/- changeover/ledger.Merge -/
def ledger_Merge (a : Sl) (b : Sl) (K : Sl → World → Prop) (w : World) : Prop :=
  callV Pr Sl.val 23 #[a.val] w fun out1 w2 =>
  loop2 (out1 : Sl) (0 : Int) (fun out3 t4 k5 w6 =>
  ifB (decide (t4 < (b.len : Int)))
  (opRd Pr (Instr.indexAt 22 b.val (.int .i64 t4)) pav (fun t7 =>
  opRd Pr (Instr.loadAt 38 (.pointer (some t7))) ApiEntry.val (fun t8 =>
  newV (fun b9 w10 =>
  wrM b9 (fun w11 =>
  callV Pr (tval2 ApiEntry.val Value.bool) 24 #[out3.val, (.int .i64 t8.Index)] w11 fun t12 w13 =>
  kp b9 w11 w13 <|
  newV (fun b14 w15 =>
  wrM b14 (fun w16 =>
  ifB (!t12.2)
  (callV Pr Sl.val 25 #[out3.val, (.agg ⟨[(.int .i64 t8.Index), (.int .i64 t8.Ballot.Round), (.int .i64 t8.Ballot.Node), (.int .i64 t8.Cmd.Kind), (.int .i64 t8.Cmd.Client), (.int .i64 t8.Cmd.Seq), (sval t8.Cmd.Key), (sval t8.Cmd.Val), (sval t8.Cmd.Old), (.int .i64 t8.Cmd.Node)]⟩)] w16 fun out17 w18 =>
  kp b14 w16 w18 <|
  kp b9 w16 w18 <|
  k5 out17 (i64 (t4 + 1)) w18)
  (k5 out3 (i64 (t4 + 1)) w16)) w15) w13) w10) w6) w6) w6)
  (K out3 w6)) w2
def ledger_Merge_ann : Ann := (.s .d (.s (.r [(1, .call rSl)]) (.s (.s .d (.b (.l [(.s 5, rSl), (.s 14, (rI .i64))] (.s .d (.s (.c .d .d) (.s (.b (.s (.r [(0, .rd rPA), (1, .rd rApiEntry), (2, .nl 7), (3, .ls 7)]) (.s (.r [(3, .call (rT2 rApiEntry rB)), (7, .nl 8), (8, .ls 8)]) (.s .d (.c (.r [(2, .call rSl)]) .d))))) .d)))))) (.s .d .d))))
theorem ledger_Merge_calls {a : Sl} {b : Sl} {K : Sl → World → Prop} {w : World} (h : ledger_Merge a b K w) : callV Pr Sl.val 16 #[a.val, b.val] w K :=
  calls_of Pr_plain Pr_mixed Pr_func16 ledger_Merge_ann rSl (args := [a.val, b.val]) (by kernel_rfl) h

/- changeover/ledger.Agree -/
def ledger_Agree (a : Sl) (b : Sl) (K : Bool → World → Prop) (w : World) : Prop :=
  opTy Pr (Instr.box 22 b.val) pav (fun b1 w2 =>
  callV Pr Value.bool 26 #[a.val, (.func (.func 27) #[] #[(.pointer (some b1))])] w2 fun t3 w4 =>
  K (!t3) w4) w
def ledger_Agree_ann : Ann := (.s (.r [(0, .ty rPA)]) (.s (.r [(2, .call rB)]) .d))
theorem ledger_Agree_calls {a : Sl} {b : Sl} {K : Bool → World → Prop} {w : World} (h : ledger_Agree a b K w) : callV Pr Value.bool 17 #[a.val, b.val] w K :=
  calls_of Pr_plain Pr_mixed Pr_func17 ledger_Agree_ann rB (args := [a.val, b.val]) (by kernel_rfl) h

/- changeover/changeoverref32.Agree -/
def ref32_Agree (a : Sl) (b : Sl) (K : Bool → World → Prop) (w : World) : Prop :=
  loop1 (0 : Int) (fun i1 k2 w3 =>
  ifB (decide (i1 < (a.len : Int)))
  (opRd Pr (Instr.indexAt 22 a.val (.int .i64 i1)) pav (fun t4 =>
  opRd Pr (Instr.loadAt 3 (.pointer (some (t4.add 0)))) (Value.int .i64) (fun t5 =>
  callV Pr (Value.int .i64) 28 #[b.val, (.int .i64 t5)] w3 fun at6 w7 =>
  drewM (fun w8 =>
  ifB (decide (at6 ≥ 0))
  (opRd Pr (Instr.indexAt 22 b.val (.int .i64 at6)) pav (fun t9 =>
  opRd Pr (Instr.loadAt 34 (.pointer (some (t9.add 3)))) ApiCmd.val (fun t10 =>
  opRd Pr (Instr.indexAt 22 a.val (.int .i64 i1)) pav (fun t11 =>
  opRd Pr (Instr.loadAt 34 (.pointer (some (t11.add 3)))) ApiCmd.val (fun t12 =>
  opRd Pr (binSem .neq 34 (.tmp 27) (.tmp 32) (.agg ⟨t10.cs⟩) (.agg ⟨t12.cs⟩)) Value.bool (fun t13 =>
  ifB t13
  (K false w8)
  (k2 (i64 (i1 + 1)) w8)) w8) w8) w8) w8) w8)
  (k2 (i64 (i1 + 1)) w8)) w7) w3) w3)
  (K true w3)) w
def ref32_Agree_ann : Ann := (.s .d (.s (.s .d (.b (.l [(.s 5, (rI .i64))] (.s (.s .d (.c .d .d)) (.s (.b (.s (.r [(3, .rd rPA), (5, .rd (rI .i64)), (6, .call (rI .i64))]) (.s (.r [(5, .rd rPA), (7, .rd rApiCmd), (10, .rd rPA), (12, .rd rApiCmd), (13, .rd rB)]) (.c (.s .d .d) .d)))) .d))))) (.s .d .d)))
theorem ref32_Agree_calls {a : Sl} {b : Sl} {K : Bool → World → Prop} {w : World} (h : ref32_Agree a b K w) : callV Pr Value.bool 18 #[a.val, b.val] w K :=
  calls_of Pr_plain Pr_mixed Pr_func18 ref32_Agree_ann rB (args := [a.val, b.val]) (by kernel_rfl) h

/- changeover/changeoverref32.Merge -/
def ref32_Merge (a : Sl) (b : Sl) (K : Sl → World → Prop) (w : World) : Prop :=
  loop2 (a : Sl) (0 : Int) (fun out1 i2 k3 w4 =>
  ifB (decide (i2 < (b.len : Int)))
  (opRd Pr (Instr.indexAt 22 b.val (.int .i64 i2)) pav (fun t5 =>
  opRd Pr (Instr.loadAt 3 (.pointer (some (t5.add 0)))) (Value.int .i64) (fun t6 =>
  callV Pr (Value.int .i64) 28 #[out1.val, (.int .i64 t6)] w4 fun t7 w8 =>
  ifB (decide (t7 < 0))
  (opRd Pr (Instr.indexAt 22 b.val (.int .i64 i2)) pav (fun t9 =>
  opRd Pr (Instr.loadAt 38 (.pointer (some t9))) ApiEntry.val (fun t10 =>
  callV Pr Sl.val 29 #[out1.val, (.agg ⟨t10.cs⟩)] w8 fun out11 w12 =>
  k3 out11 (i64 (i2 + 1)) w12) w8) w8)
  (k3 out1 (i64 (i2 + 1)) w8)) w4) w4)
  (K out1 w4)) w
def ref32_Merge_ann : Ann := (.s .d (.s .d (.s (.s .d (.b (.l [(.s 5, rSl), (.s 6, (rI .i64))] (.s (.s .d (.c .d .d)) (.s (.b (.s (.r [(3, .rd rPA), (5, .rd (rI .i64)), (6, .call (rI .i64))]) (.c (.r [(3, .rd rPA), (4, .rd rApiEntry), (5, .call rSl)]) .d))) .d))))) (.s .d .d))))
theorem ref32_Merge_calls {a : Sl} {b : Sl} {K : Sl → World → Prop} {w : World} (h : ref32_Merge a b K w) : callV Pr Sl.val 19 #[a.val, b.val] w K :=
  calls_of Pr_plain Pr_mixed Pr_func19 ref32_Merge_ann rSl (args := [a.val, b.val]) (by kernel_rfl) h

/- changeover/ledger.above -/
def ledger_above (applied : Int) (K : Bool → World → Prop) (w : World) : Prop :=
  K (decide (applied < 9223372036854775807)) w
def ledger_above_ann : Ann := (.s .d (.s .d .d))
theorem ledger_above_calls {applied : Int} {K : Bool → World → Prop} {w : World} (h : ledger_above applied K w) : callV Pr Value.bool 20 #[(.int .i64 applied)] w K :=
  calls_of Pr_plain Pr_mixed Pr_func20 ledger_above_ann rB (args := [(.int .i64 applied)]) (by kernel_rfl) h

/- changeover/ledger.behind -/
def ledger_behind (l : Sl) (applied : Int) (K : Value → World → Prop) (w : World) : Prop :=
  opTy Pr (Instr.box 22 l.val) pav (fun l1 w2 =>
  opTy Pr (Instr.box 3 (.int .i64 applied)) pav (fun applied3 w4 =>
  K (.func (.func 30) #[] #[(.pointer (some l1)), (.pointer (some applied3))]) w4) w2) w
def ledger_behind_ann : Ann := (.s (.r [(0, .ty rPA), (1, .ty rPA)]) (.s .d .d))
theorem ledger_behind_calls {l : Sl} {applied : Int} {K : Value → World → Prop} {w : World} (h : ledger_behind l applied K w) : callV Pr vval 21 #[l.val, (.int .i64 applied)] w K :=
  calls_of Pr_plain Pr_mixed Pr_func21 ledger_behind_ann rV (args := [l.val, (.int .i64 applied)]) (by kernel_rfl) h

/- changeover/entry.From -/
def entry_From (l : Sl) (index : Int) (K : Sl → World → Prop) (w : World) : Prop :=
  callV Pr (tval2 (Value.int .i64) Value.bool) 31 #[l.val, (.int .i64 index)] w fun t1 w2 =>
  opRd Pr (Instr.sliceAt 22 l.val (some (.int .i64 t1.1)) none none) Sl.val (fun t3 =>
  callV Pr Sl.val 23 #[t3.val] w2 fun t4 w5 =>
  K t4 w5) w2
def entry_From_ann : Ann := (.s .d (.s (.r [(2, .call (rT2 (rI .i64) rB))]) (.s (.r [(2, .rd rSl), (3, .call rSl)]) .d)))
theorem entry_From_calls {l : Sl} {index : Int} {K : Sl → World → Prop} {w : World} (h : entry_From l index K w) : callV Pr Sl.val 22 #[l.val, (.int .i64 index)] w K :=
  calls_of Pr_plain Pr_mixed Pr_func22 entry_From_ann rSl (args := [l.val, (.int .i64 index)]) (by kernel_rfl) h

/- slices.Clone[[]changeover/api.Entry,changeover/api.Entry] -/
def slices_Clone_api_Entry_api_Entry (s : Sl) (K : Sl → World → Prop) (w : World) : Prop :=
  opRd Pr (binSem .eql 22 (.tmp 3) (.const Sl.nil.val) s.val Sl.nil.val) Value.bool (fun t1 =>
  ifB t1
  (K Sl.nil w)
  (opTy Pr (Instr.buildSlice 22 0 #[]) Sl.val (fun t2 w3 =>
  opTy Pr (Builtin.append_ #[22, 22] 22 #[t2.val, s.val]) Sl.val (fun t4 w5 =>
  K t4 w5) w3) w)) w
def slices_Clone_api_Entry_api_Entry_ann : Ann := (.s .d (.s (.s (.r [(1, .rd rB)]) (.c (.s .d .d) .d)) (.s (.r [(0, .ty rSl), (2, .ty rSl)]) .d)))
theorem slices_Clone_api_Entry_api_Entry_calls {s : Sl} {K : Sl → World → Prop} {w : World} (h : slices_Clone_api_Entry_api_Entry s K w) : callV Pr Sl.val 23 #[s.val] w K :=
  calls_of Pr_plain Pr_mixed Pr_func23 slices_Clone_api_Entry_api_Entry_ann rSl (args := [s.val]) (by kernel_rfl) h

/- changeover/entry.Find -/
def entry_Find (l : Sl) (index : Int) (K : (ApiEntry × Bool) → World → Prop) (w : World) : Prop :=
  newV (fun b1 w2 =>
  callV Pr (tval2 (Value.int .i64) Value.bool) 31 #[l.val, (.int .i64 index)] w2 fun t3 w4 =>
  kp b1 w2 w4 <|
  ifB (!t3.2)
  (wrM b1 (fun w5 =>
  K ((ApiEntry.mk 0 (ApiBallot.mk 0 0) (ApiCmd.mk 0 0 0 [] [] [] 0)), false) w5) w4)
  (opRd Pr (Instr.indexAt 22 l.val (.int .i64 t3.1)) pav (fun t6 =>
  opRd Pr (Instr.loadAt 38 (.pointer (some t6))) ApiEntry.val (fun t7 =>
  wrM b1 (fun w8 =>
  K (t7, true) w8) w4) w4) w4)) w
def entry_Find_ann : Ann := (.s (.r [(0, .nl 4)]) (.s (.r [(2, .call (rT2 (rI .i64) rB))]) (.s (.s .d (.c (.s (.r [(1, .ls 4)]) .d) .d)) (.s (.r [(2, .rd rPA), (3, .rd rApiEntry), (4, .ls 4)]) .d))))
theorem entry_Find_calls {l : Sl} {index : Int} {K : (ApiEntry × Bool) → World → Prop} {w : World} (h : entry_Find l index K w) : callV Pr (tval2 ApiEntry.val Value.bool) 24 #[l.val, (.int .i64 index)] w K :=
  calls_of Pr_plain Pr_mixed Pr_func24 entry_Find_ann (rT2 rApiEntry rB) (args := [l.val, (.int .i64 index)]) (by kernel_rfl) h

/- changeover/entry.With -/
def entry_With (l : Sl) (e : ApiEntry) (K : Sl → World → Prop) (w : World) : Prop :=
  newV (fun b1 w2 =>
  callV Pr (tval2 (Value.int .i64) Value.bool) 31 #[l.val, (.int .i64 e.Index)] w2 fun t3 w4 =>
  kp b1 w2 w4 <|
  callV Pr Sl.val 23 #[l.val] w4 fun out5 w6 =>
  kp b1 w4 w6 <|
  ifB t3.2
  (opRd Pr (Instr.indexAt 22 out5.val (.int .i64 t3.1)) pav (fun t7 =>
  opUn Pr (Instr.storeAt 38 (.pointer (some t7)) (.agg ⟨[(.int .i64 e.Index), (.int .i64 e.Ballot.Round), (.int .i64 e.Ballot.Node), (.int .i64 e.Cmd.Kind), (.int .i64 e.Cmd.Client), (.int .i64 e.Cmd.Seq), (sval e.Cmd.Key), (sval e.Cmd.Val), (sval e.Cmd.Old), (.int .i64 e.Cmd.Node)]⟩)) (fun w8 =>
  kp b1 w6 w8 <|
  K out5 w8) w6) w6)
  (opTy Pr (Instr.buildSlice 22 1 #[(0, (.agg ⟨[(.int .i64 e.Index), (.int .i64 e.Ballot.Round), (.int .i64 e.Ballot.Node), (.int .i64 e.Cmd.Kind), (.int .i64 e.Cmd.Client), (.int .i64 e.Cmd.Seq), (sval e.Cmd.Key), (sval e.Cmd.Val), (sval e.Cmd.Old), (.int .i64 e.Cmd.Node)]⟩))]) Sl.val (fun t9 w10 =>
  kp b1 w6 w10 <|
  callV Pr Sl.val 32 #[out5.val, (.int .i64 t3.1), t9.val] w10 fun t11 w12 =>
  kp b1 w10 w12 <|
  K t11 w12) w6)) w
def entry_With_ann : Ann := (.s (.r [(0, .nl 3)]) (.s (.r [(3, .call (rT2 (rI .i64) rB))]) (.s (.r [(1, .call rSl)]) (.s (.s .d (.c (.s (.r [(3, .rd rPA), (4, .un)]) (.s .d .d)) .d)) (.s (.r [(3, .ty rSl), (4, .call rSl)]) .d)))))
theorem entry_With_calls {l : Sl} {e : ApiEntry} {K : Sl → World → Prop} {w : World} (h : entry_With l e K w) : callV Pr Sl.val 25 #[l.val, (.agg ⟨e.cs⟩)] w K :=
  calls_of Pr_plain Pr_mixed Pr_func25 entry_With_ann rSl (args := [l.val, (.agg ⟨e.cs⟩)]) (by kernel_rfl) h

/- slices.ContainsFunc[[]changeover/api.Entry,changeover/api.Entry] -/
def slices_ContainsFunc_api_Entry_api_Entry (s : Sl) (f : Value) (K : Bool → World → Prop) (w : World) : Prop :=
  callV Pr (Value.int .i64) 33 #[s.val, f] w fun t1 w2 =>
  K (decide (t1 ≥ 0)) w2
def slices_ContainsFunc_api_Entry_api_Entry_ann : Ann := (.s .d (.s (.r [(2, .call (rI .i64))]) .d))
theorem slices_ContainsFunc_api_Entry_api_Entry_calls {s : Sl} {f : Value} {K : Bool → World → Prop} {w : World} (h : slices_ContainsFunc_api_Entry_api_Entry s f K w) : callV Pr Value.bool 26 #[s.val, f] w K :=
  calls_of Pr_plain Pr_mixed Pr_func26 slices_ContainsFunc_api_Entry_api_Entry_ann rB (args := [s.val, f]) (by kernel_rfl) h

/- changeover/ledger.Agree$1 -/
def ledger_Agree_1 (e : ApiEntry) (c_x0 : Addr) (K : Bool → World → Prop) (w : World) : Prop :=
  newV (fun b1 w2 =>
  opRd Pr (Instr.loadAt 22 (.pointer (some c_x0))) Sl.val (fun t3 =>
  callV Pr (tval2 ApiEntry.val Value.bool) 24 #[t3.val, (.int .i64 e.Index)] w2 fun t4 w5 =>
  kp b1 w2 w5 <|
  newV (fun b6 w7 =>
  wrM b6 (fun w8 =>
  ifB t4.2
  (opRd Pr (binSem .neq 34 (.tmp 16) (.tmp 18) (.agg ⟨[(.int .i64 t4.1.Cmd.Kind), (.int .i64 t4.1.Cmd.Client), (.int .i64 t4.1.Cmd.Seq), (sval t4.1.Cmd.Key), (sval t4.1.Cmd.Val), (sval t4.1.Cmd.Old), (.int .i64 t4.1.Cmd.Node)]⟩) (.agg ⟨[(.int .i64 e.Cmd.Kind), (.int .i64 e.Cmd.Client), (.int .i64 e.Cmd.Seq), (sval e.Cmd.Key), (sval e.Cmd.Val), (sval e.Cmd.Old), (.int .i64 e.Cmd.Node)]⟩)) Value.bool (fun t9 =>
  K t9 w8) w8)
  (K false w8)) w7) w5) w2) w
def ledger_Agree_1_ann : Ann := (.s (.r [(0, .nl 2)]) (.s (.r [(0, .rd rSl), (3, .call (rT2 rApiEntry rB)), (7, .nl 4), (8, .ls 4)]) (.s (.r [(6, .rd rB)]) .d)))
theorem ledger_Agree_1_calls {e : ApiEntry} {c_x0 : Addr} {K : Bool → World → Prop} {w : World} (h : ledger_Agree_1 e c_x0 K w) : callV Pr Value.bool 27 #[(.agg ⟨e.cs⟩), (.pointer (some c_x0))] w K :=
  calls_of Pr_plain Pr_mixed Pr_func27 ledger_Agree_1_ann rB (args := [(.agg ⟨e.cs⟩), (.pointer (some c_x0))]) (by kernel_rfl) h

/- changeover/changeoverref12.Find -/
def ref12_Find (l : Sl) (index : Int) (K : Int → World → Prop) (w : World) : Prop :=
  loop1 (0 : Int) (fun i1 k2 w3 =>
  ifB (decide (i1 < (l.len : Int)))
  (opRd Pr (Instr.indexAt 22 l.val (.int .i64 i1)) pav (fun t4 =>
  opRd Pr (Instr.loadAt 3 (.pointer (some (t4.add 0)))) (Value.int .i64) (fun t5 =>
  ifB (t5 == index)
  (K i1 w3)
  (k2 (i64 (i1 + 1)) w3)) w3) w3)
  (K (-1) w3)) w
def ref12_Find_ann : Ann := (.s .d (.s (.s .d (.b (.l [(.s 5, (rI .i64))] (.s (.s .d (.c .d .d)) (.s (.b (.s (.r [(2, .rd rPA), (4, .rd (rI .i64))]) (.c (.s .d .d) .d))) .d))))) (.s .d .d)))
theorem ref12_Find_calls {l : Sl} {index : Int} {K : Int → World → Prop} {w : World} (h : ref12_Find l index K w) : callV Pr (Value.int .i64) 28 #[l.val, (.int .i64 index)] w K :=
  calls_of Pr_plain Pr_mixed Pr_func28 ref12_Find_ann (rI .i64) (args := [l.val, (.int .i64 index)]) (by kernel_rfl) h

/- changeover/changeoverref12.With -/
def ref12_With (l : Sl) (e : ApiEntry) (K : Sl → World → Prop) (w : World) : Prop :=
  newV (fun b1 w2 =>
  loop3 (Sl.nil : Sl) (false : Bool) (0 : Int) (fun out3 done4 i5 k6 w7 =>
  ifB (decide (i5 < (l.len : Int)))
  (join2 (fun (j8 : Sl → Bool → World → Prop) =>
  drewM (fun w9 =>
  ifB (!done4)
  (opRd Pr (Instr.indexAt 22 l.val (.int .i64 i5)) pav (fun t10 =>
  opRd Pr (Instr.loadAt 3 (.pointer (some (t10.add 0)))) (Value.int .i64) (fun t11 =>
  ifB (decide (t11 ≥ e.Index))
  (opTy Pr (Instr.buildSlice 22 1 #[(0, (.agg ⟨[(.int .i64 e.Index), (.int .i64 e.Ballot.Round), (.int .i64 e.Ballot.Node), (.int .i64 e.Cmd.Kind), (.int .i64 e.Cmd.Client), (.int .i64 e.Cmd.Seq), (sval e.Cmd.Key), (sval e.Cmd.Val), (sval e.Cmd.Old), (.int .i64 e.Cmd.Node)]⟩))]) Sl.val (fun t12 w13 =>
  kp b1 w9 w13 <|
  opTy Pr (Builtin.append_ #[22, 22] 22 #[out3.val, t12.val]) Sl.val (fun out14 w15 =>
  kp b1 w13 w15 <|
  j8 out14 true w15) w13) w9)
  (j8 out3 done4 w9)) w9) w9)
  (j8 out3 done4 w9)) w7)
  (fun out16 done17 w18 =>
  drewM (fun w19 =>
  opRd Pr (Instr.indexAt 22 l.val (.int .i64 i5)) pav (fun t20 =>
  opRd Pr (Instr.loadAt 3 (.pointer (some (t20.add 0)))) (Value.int .i64) (fun t21 =>
  ifB (t21 != e.Index)
  (opRd Pr (Instr.indexAt 22 l.val (.int .i64 i5)) pav (fun t22 =>
  opRd Pr (Instr.loadAt 38 (.pointer (some t22))) ApiEntry.val (fun t23 =>
  opTy Pr (Instr.buildSlice 22 1 #[(0, (.agg ⟨t23.cs⟩))]) Sl.val (fun t24 w25 =>
  kp b1 w19 w25 <|
  opTy Pr (Builtin.append_ #[22, 22] 22 #[out16.val, t24.val]) Sl.val (fun out26 w27 =>
  kp b1 w25 w27 <|
  k6 out26 done17 (i64 (i5 + 1)) w27) w25) w19) w19) w19)
  (k6 out16 done17 (i64 (i5 + 1)) w19)) w19) w19) w18))
  (ifB (!done4)
  (opTy Pr (Instr.buildSlice 22 1 #[(0, (.agg ⟨[(.int .i64 e.Index), (.int .i64 e.Ballot.Round), (.int .i64 e.Ballot.Node), (.int .i64 e.Cmd.Kind), (.int .i64 e.Cmd.Client), (.int .i64 e.Cmd.Seq), (sval e.Cmd.Key), (sval e.Cmd.Val), (sval e.Cmd.Old), (.int .i64 e.Cmd.Node)]⟩))]) Sl.val (fun t28 w29 =>
  kp b1 w7 w29 <|
  opTy Pr (Builtin.append_ #[22, 22] 22 #[out3.val, t28.val]) Sl.val (fun out30 w31 =>
  kp b1 w29 w31 <|
  K out30 w31) w29) w7)
  (K out3 w7))) w2) w
def ref12_With_ann : Ann := (.s (.r [(0, .nl 3)]) (.s .d (.s .d (.s (.s .d (.b (.l [(.s 5, rSl), (.s 6, rB), (.s 7, (rI .i64))] (.s (.s .d (.c .d .d)) (.s (.b (.sj [(.s 5, rSl), (.s 6, rB)] (.s (.r [(5, .rd rPA), (7, .rd (rI .i64))]) (.c (.s (.r [(2, .ty rSl), (3, .ty rSl)]) .d) .d)) (.s (.r [(2, .rd rPA), (4, .rd (rI .i64))]) (.c (.r [(3, .rd rPA), (4, .rd rApiEntry), (5, .ty rSl), (6, .ty rSl)]) .d)))) .d))))) (.s (.s .d (.c (.r [(2, .ty rSl), (3, .ty rSl)]) .d)) (.s .d .d))))))
theorem ref12_With_calls {l : Sl} {e : ApiEntry} {K : Sl → World → Prop} {w : World} (h : ref12_With l e K w) : callV Pr Sl.val 29 #[l.val, (.agg ⟨e.cs⟩)] w K :=
  calls_of Pr_plain Pr_mixed Pr_func29 ref12_With_ann rSl (args := [l.val, (.agg ⟨e.cs⟩)]) (by kernel_rfl) h

/- changeover/ledger.behind$1 -/
def ledger_behind_1 (yield : Value) (c_x0 : Addr) (c_x1 : Addr) (K : Unit → World → Prop) (w : World) : Prop :=
  opRd Pr (Instr.loadAt 22 (.pointer (some c_x0))) Sl.val (fun t1 =>
  opRd Pr (Instr.loadAt 3 (.pointer (some c_x1))) (Value.int .i64) (fun t2 =>
  callV Pr Sl.val 22 #[t1.val, (.int .i64 (i64 (t2 + 1)))] w fun t3 w4 =>
  loop1 (0 : Int) (fun t5 k6 w7 =>
  ifB (decide (t5 < (t3.len : Int)))
  (opRd Pr (Instr.indexAt 22 t3.val (.int .i64 t5)) pav (fun t8 =>
  opRd Pr (Instr.loadAt 38 (.pointer (some t8))) ApiEntry.val (fun t9 =>
  newV (fun b10 w11 =>
  wrM b10 (fun w12 =>
  opRd Pr (Instr.loadAt 3 (.pointer (some c_x1))) (Value.int .i64) (fun t13 =>
  ifB (t9.Index != (i64 (t13 + 1)))
  (K () w12)
  (callF Pr Value.bool yield #[(.agg ⟨[(.int .i64 t9.Index), (.int .i64 t9.Ballot.Round), (.int .i64 t9.Ballot.Node), (.int .i64 t9.Cmd.Kind), (.int .i64 t9.Cmd.Client), (.int .i64 t9.Cmd.Seq), (sval t9.Cmd.Key), (sval t9.Cmd.Val), (sval t9.Cmd.Old), (.int .i64 t9.Cmd.Node)]⟩)] w12 fun t14 w15 =>
  kp b10 w12 w15 <|
  ifB (!t14)
  (K () w15)
  (opRd Pr (Instr.loadAt 3 (.pointer (some c_x1))) (Value.int .i64) (fun t16 =>
  opUn Pr (Instr.storeAt 3 (.pointer (some c_x1)) (.int .i64 (i64 (t16 + 1)))) (fun w17 =>
  kp b10 w15 w17 <|
  k6 (i64 (t5 + 1)) w17) w15) w15))) w12) w11) w7) w7) w7)
  (K () w7)) w4) w) w
def ledger_behind_1_ann : Ann := (.s (.r [(0, .rd rSl), (1, .rd (rI .i64)), (3, .call rSl)]) (.b (.l [(.s 11, (rI .i64))] (.s .d (.s (.c .d .d) (.s (.b (.s (.r [(0, .rd rPA), (1, .rd rApiEntry), (2, .nl 5), (3, .ls 5)]) (.s (.s (.r [(2, .rd (rI .i64)), (8, .callf rB)]) (.c .d .d)) (.r [(0, .rd (rI .i64)), (2, .un)])))) .d))))))
theorem ledger_behind_1_calls {yield : Value} {c_x0 : Addr} {c_x1 : Addr} {K : Unit → World → Prop} {w : World} (h : ledger_behind_1 yield c_x0 c_x1 K w) : callV Pr uval 30 #[yield, (.pointer (some c_x0)), (.pointer (some c_x1))] w K :=
  calls_of Pr_plain Pr_mixed Pr_func30 ledger_behind_1_ann rU (args := [yield, (.pointer (some c_x0)), (.pointer (some c_x1))]) (by kernel_rfl) h

/- changeover/entry.place -/
def entry_place (l : Sl) (index : Int) (K : (Int × Bool) → World → Prop) (w : World) : Prop :=
  callV Pr (tval2 (Value.int .i64) Value.bool) 34 #[l.val, (.int .i64 index), (.func (.func 35) #[] #[])] w fun t1 w2 =>
  K (t1.1, t1.2) w2
def entry_place_ann : Ann := (.s .d (.s (.r [(2, .call (rT2 (rI .i64) rB))]) .d))
theorem entry_place_calls {l : Sl} {index : Int} {K : (Int × Bool) → World → Prop} {w : World} (h : entry_place l index K w) : callV Pr (tval2 (Value.int .i64) Value.bool) 31 #[l.val, (.int .i64 index)] w K :=
  calls_of Pr_plain Pr_mixed Pr_func31 entry_place_ann (rT2 (rI .i64) rB) (args := [l.val, (.int .i64 index)]) (by kernel_rfl) h

/- slices.Insert[[]changeover/api.Entry,changeover/api.Entry] -/
def slices_Insert_api_Entry_api_Entry (s : Sl) (i : Int) (v : Sl) (K : Sl → World → Prop) (w : World) : Prop :=
  opRd Pr (Instr.sliceAt 22 s.val (some (.int .i64 i)) none none) Sl.val (fun t1 =>
  ifB ((v.len : Int) == 0)
  (K s w)
  (ifB (i == (s.len : Int))
  (opTy Pr (Builtin.append_ #[22, 22] 22 #[s.val, v.val]) Sl.val (fun t2 w3 =>
  K t2 w3) w)
  (ifB (decide ((i64 ((s.len : Int) + (v.len : Int))) > (s.cap : Int)))
  (opRd Pr (Instr.sliceAt 22 s.val none (some (.int .i64 i)) none) Sl.val (fun t4 =>
  opTy Pr (Builtin.append_ #[22, 3] 22 #[t4.val, (.int .i64 (i64 ((i64 ((s.len : Int) + (v.len : Int))) - i)))]) Sl.val (fun s25 w6 =>
  opRd Pr (Instr.sliceAt 22 s25.val (some (.int .i64 i)) none none) Sl.val (fun t7 =>
  opTy Pr (Builtin.copy_ #[22, 22] 3 #[t7.val, v.val]) (Value.int .i64) (fun t8 w9 =>
  heldM (fun S11 w10 =>
  opH Pr S11 (Instr.sliceAt 22 s25.val (some (.int .i64 (i64 (i + (v.len : Int))))) none none) Sl.val (fun t12 =>
  opH Pr S11 (Instr.sliceAt 22 s.val (some (.int .i64 i)) none none) Sl.val (fun t13 =>
  opTy Pr (Builtin.copy_ #[22, 22] 3 #[t12.val, t13.val]) (Value.int .i64) (fun t14 w15 =>
  (S11 w15) ∧
  (K s25 w15)) w10))) w9) w6) w6) w) w)
  (opRd Pr (Instr.sliceAt 22 s.val none (some (.int .i64 (i64 ((s.len : Int) + (v.len : Int))))) none) Sl.val (fun s16 =>
  opRd Pr (Instr.sliceAt 22 s16.val (some (.int .i64 (i64 (i + (v.len : Int))))) none none) Sl.val (fun t17 =>
  opEx Pr 37 #[v.val, t17.val] Value.bool (fun t18 w19 =>
  ifB (!t18)
  (heldM (fun S21 w20 =>
  opH Pr S21 (Instr.sliceAt 22 s16.val (some (.int .i64 (i64 (i + (v.len : Int))))) none none) Sl.val (fun t22 =>
  opH Pr S21 (Instr.sliceAt 22 s16.val (some (.int .i64 i)) none none) Sl.val (fun t23 =>
  opTy Pr (Builtin.copy_ #[22, 22] 3 #[t22.val, t23.val]) (Value.int .i64) (fun t24 w25 =>
  (S21 w25) ∧
  (opRd Pr (Instr.sliceAt 22 s16.val (some (.int .i64 i)) none none) Sl.val (fun t26 =>
  opTy Pr (Builtin.copy_ #[22, 22] 3 #[t26.val, v.val]) (Value.int .i64) (fun t27 w28 =>
  K s16 w28) w25) w25)) w20))) w19)
  (opRd Pr (Instr.sliceAt 22 s16.val (some (.int .i64 (s.len : Int))) none none) Sl.val (fun t29 =>
  opTy Pr (Builtin.copy_ #[22, 22] 3 #[t29.val, v.val]) (Value.int .i64) (fun t30 w31 =>
  opRd Pr (Instr.sliceAt 22 s16.val (some (.int .i64 i)) none none) Sl.val (fun t32 =>
  callV Pr uval 38 #[t32.val, (.int .i64 (v.len : Int))] w31 fun t33 w34 =>
  K s16 w34) w31) w19) w19)) w) w) w)))) w
def slices_Insert_api_Entry_api_Entry_ann : Ann := (.s .d (.s (.r [(2, .rd rSl)]) (.s .d (.s (.s .d (.c (.s .d .d) .d)) (.s .d (.s (.s .d (.c (.s (.r [(2, .ty rSl)]) .d) .d)) (.s (.s .d (.c (.s (.r [(2, .rd rSl), (8, .ty rSl)]) (.s (.r [(2, .rd rSl), (4, .ty (rI .i64))]) (.s (.h (.take 0 (.take 1 (.take 2 (.take 3 (.take 4 (.take 5 (.take 6 (.take 7 (.one 8 .done))))))))) [(4, .rd rSl), (7, .rd rSl), (8, .ty (rI .i64))]) (.s .d .d)))) .d)) (.s (.r [(4, .rd rSl)]) (.s (.s (.r [(5, .rd rSl), (6, .ext rB)]) (.c (.s (.h (.take 0 (.take 1 (.take 2 (.take 3 (.take 4 (.take 5 (.take 6 (.take 7 (.one 8 .done))))))))) [(4, .rd rSl), (7, .rd rSl), (8, .ty (rI .i64))]) (.s (.r [(2, .rd rSl), (4, .ty (rI .i64))]) (.s .d .d))) .d)) (.s (.r [(2, .rd rSl), (4, .ty (rI .i64))]) (.s (.r [(2, .rd rSl), (4, .call rU)]) (.s .d .d))))))))))))
theorem slices_Insert_api_Entry_api_Entry_calls {s : Sl} {i : Int} {v : Sl} {K : Sl → World → Prop} {w : World} (h : slices_Insert_api_Entry_api_Entry s i v K w) : callV Pr Sl.val 32 #[s.val, (.int .i64 i), v.val] w K :=
  calls_of Pr_plain Pr_mixed Pr_func32 slices_Insert_api_Entry_api_Entry_ann rSl (args := [s.val, (.int .i64 i), v.val]) (by kernel_rfl) h

/- changeover/entry.place$1 -/
def entry_place_1 (e : ApiEntry) (n : Int) (K : Int → World → Prop) (w : World) : Prop :=
  newV (fun b1 w2 =>
  callV Pr (Value.int .i64) 36 #[(.int .i64 e.Index), (.int .i64 n)] w2 fun t3 w4 =>
  kp b1 w2 w4 <|
  K t3 w4) w
def entry_place_1_ann : Ann := (.s (.r [(0, .nl 2)]) (.s (.r [(3, .call (rI .i64))]) .d))
theorem entry_place_1_calls {e : ApiEntry} {n : Int} {K : Int → World → Prop} {w : World} (h : entry_place_1 e n K w) : callV Pr (Value.int .i64) 35 #[(.agg ⟨e.cs⟩), (.int .i64 n)] w K :=
  calls_of Pr_plain Pr_mixed Pr_func35 entry_place_1_ann (rI .i64) (args := [(.agg ⟨e.cs⟩), (.int .i64 n)]) (by kernel_rfl) h

/- cmp.Compare[int] -/
def cmp_Compare_int (x : Int) (y : Int) (K : Int → World → Prop) (w : World) : Prop :=
  callV Pr Value.bool 39 #[(.int .i64 x)] w fun xNaN1 w2 =>
  callV Pr Value.bool 39 #[(.int .i64 y)] w2 fun yNaN3 w4 =>
  ifB xNaN1
  (ifB yNaN3
  (K 0 w4)
  (K (-1) w4))
  (ifB yNaN3
  (K 1 w4)
  (ifB (decide (x < y))
  (K (-1) w4)
  (ifB (decide (x > y))
  (K 1 w4)
  (K 0 w4))))
def cmp_Compare_int_ann : Ann := (.s .d (.s (.r [(1, .call rB)]) (.s (.r [(1, .call rB)]) (.s (.s .d (.c (.s (.s .d (.c (.s .d .d) .d)) (.s .d .d)) .d)) (.s (.s .d (.c (.s .d .d) .d)) (.s (.s .d (.c (.s .d .d) .d)) (.s (.s .d (.c (.s .d .d) .d)) (.s .d .d))))))))
theorem cmp_Compare_int_calls {x : Int} {y : Int} {K : Int → World → Prop} {w : World} (h : cmp_Compare_int x y K w) : callV Pr (Value.int .i64) 36 #[(.int .i64 x), (.int .i64 y)] w K :=
  calls_of Pr_plain Pr_mixed Pr_func36 cmp_Compare_int_ann (rI .i64) (args := [(.int .i64 x), (.int .i64 y)]) (by kernel_rfl) h

/- slices.rotateRight[changeover/api.Entry] -/
def slices_rotateRight_api_Entry (s : Sl) (r : Int) (K : Unit → World → Prop) (w : World) : Prop :=
  callV Pr uval 40 #[s.val, (.int .i64 (i64 ((s.len : Int) - r)))] w fun t1 w2 =>
  K () w2
def slices_rotateRight_api_Entry_ann : Ann := (.r [(5, .call rU)])
theorem slices_rotateRight_api_Entry_calls {s : Sl} {r : Int} {K : Unit → World → Prop} {w : World} (h : slices_rotateRight_api_Entry s r K w) : callV Pr uval 38 #[s.val, (.int .i64 r)] w K :=
  calls_of Pr_plain Pr_mixed Pr_func38 slices_rotateRight_api_Entry_ann rU (args := [s.val, (.int .i64 r)]) (by kernel_rfl) h

/- cmp.isNaN[int] -/
def cmp_isNaN_int (x : Int) (K : Bool → World → Prop) (w : World) : Prop :=
  K (x != x) w
def cmp_isNaN_int_ann : Ann := (.s .d (.s .d .d))
theorem cmp_isNaN_int_calls {x : Int} {K : Bool → World → Prop} {w : World} (h : cmp_isNaN_int x K w) : callV Pr Value.bool 39 #[(.int .i64 x)] w K :=
  calls_of Pr_plain Pr_mixed Pr_func39 cmp_isNaN_int_ann rB (args := [(.int .i64 x)]) (by kernel_rfl) h

/- slices.rotateLeft[changeover/api.Entry] -/
def slices_rotateLeft_api_Entry (s : Sl) (r : Int) (K : Unit → World → Prop) (w : World) : Prop :=
  opRd Pr (Instr.sliceAt 22 s.val none (some (.int .i64 r)) none) Sl.val (fun t1 =>
  callV Pr uval 41 #[t1.val] w fun t2 w3 =>
  opRd Pr (Instr.sliceAt 22 s.val (some (.int .i64 r)) none none) Sl.val (fun t4 =>
  callV Pr uval 41 #[t4.val] w3 fun t5 w6 =>
  callV Pr uval 41 #[s.val] w6 fun t7 w8 =>
  K () w8) w3) w
def slices_rotateLeft_api_Entry_ann : Ann := (.s (.r [(2, .rd rSl), (3, .call rU)]) (.s (.r [(2, .rd rSl), (3, .call rU)]) (.r [(1, .call rU)])))
theorem slices_rotateLeft_api_Entry_calls {s : Sl} {r : Int} {K : Unit → World → Prop} {w : World} (h : slices_rotateLeft_api_Entry s r K w) : callV Pr uval 40 #[s.val, (.int .i64 r)] w K :=
  calls_of Pr_plain Pr_mixed Pr_func40 slices_rotateLeft_api_Entry_ann rU (args := [s.val, (.int .i64 r)]) (by kernel_rfl) h

/- slices.Reverse[[]changeover/api.Entry,changeover/api.Entry] -/
def slices_Reverse_api_Entry_api_Entry (s : Sl) (K : Unit → World → Prop) (w : World) : Prop :=
  loop2 (0 : Int) ((i64 ((s.len : Int) - 1)) : Int) (fun i1 j2 k3 w4 =>
  ifB (decide (i1 < j2))
  (heldM (fun S6 w5 =>
  opH Pr S6 (Instr.indexAt 22 s.val (.int .i64 j2)) pav (fun t7 =>
  opH Pr S6 (Instr.indexAt 22 s.val (.int .i64 i1)) pav (fun t8 =>
  (opRd Pr (Instr.loadAt 38 (.pointer (some t7))) ApiEntry.val (fun t9 =>
  (S6 w5) ∧
  (opRd Pr (Instr.loadAt 38 (.pointer (some t8))) ApiEntry.val (fun t10 =>
  (S6 w5) ∧
  (opH Pr S6 (Instr.indexAt 22 s.val (.int .i64 i1)) pav (fun t11 =>
  opUn Pr (Instr.storeAt 38 (.pointer (some t11)) (.agg ⟨t9.cs⟩)) (fun w12 =>
  (S6 w12) ∧
  (opH Pr S6 (Instr.indexAt 22 s.val (.int .i64 j2)) pav (fun t13 =>
  opUn Pr (Instr.storeAt 38 (.pointer (some t13)) (.agg ⟨t10.cs⟩)) (fun w14 =>
  (S6 w14) ∧
  (k3 (i64 (i1 + 1)) (i64 (j2 - 1)) w14)) w12))) w5))) w5)) w5) ∧
  (opRd Pr (Instr.loadAt 38 (.pointer (some t8))) ApiEntry.val (fun t15 =>
  (S6 w5) ∧
  (opRd Pr (Instr.loadAt 38 (.pointer (some t7))) ApiEntry.val (fun t16 =>
  (S6 w5) ∧
  (opH Pr S6 (Instr.indexAt 22 s.val (.int .i64 i1)) pav (fun t17 =>
  opUn Pr (Instr.storeAt 38 (.pointer (some t17)) (.agg ⟨t16.cs⟩)) (fun w18 =>
  (S6 w18) ∧
  (opH Pr S6 (Instr.indexAt 22 s.val (.int .i64 j2)) pav (fun t19 =>
  opUn Pr (Instr.storeAt 38 (.pointer (some t19)) (.agg ⟨t15.cs⟩)) (fun w20 =>
  (S6 w20) ∧
  (k3 (i64 (i1 + 1)) (i64 (j2 - 1)) w20)) w18))) w5))) w5)) w5)))) w4)
  (K () w4)) w
def slices_Reverse_api_Entry_api_Entry_ann : Ann := (.s .d (.b (.l [(.s 2, (rI .i64)), (.s 3, (rI .i64))] (.s (.s .d (.c .d .d)) (.s (.b (.h (.take 0 (.take 1 (.take 2 (.take 3 (.take 4 (.take 5 (.take 6 (.take 8 (.take 9 (.take 10 (.two 7 (.one 11 (.take 12 (.one 13 (.take 14 (.one 15 .done))))) 11 (.one 7 (.take 12 (.one 13 (.take 14 (.one 15 .done)))))))))))))))) [(6, .rd rPA), (7, .rd rApiEntry), (10, .rd rPA), (11, .rd rApiEntry), (12, .rd rPA), (13, .un), (14, .rd rPA), (15, .un)])) .d)))))
theorem slices_Reverse_api_Entry_api_Entry_calls {s : Sl} {K : Unit → World → Prop} {w : World} (h : slices_Reverse_api_Entry_api_Entry s K w) : callV Pr uval 41 #[s.val] w K :=
  calls_of Pr_plain Pr_mixed Pr_func41 slices_Reverse_api_Entry_api_Entry_ann rU (args := [s.val]) (by kernel_rfl) h

/- slices.BinarySearchFunc[[]changeover/api.Entry,changeover/api.Entry,int] -/
def slices_BinarySearchFunc_api_Entry_api_Entry_int_place (x : Sl) (target : Int) (K : (Int × Bool) → World → Prop) (w : World) : Prop :=
  loop2 (0 : Int) ((x.len : Int) : Int) (fun i1 j2 k3 w4 =>
  ifB (decide (i1 < j2))
  (opRd Pr (Instr.indexAt 22 x.val (.int .i64 (IntKind.i64.wrap (shR .u64 (IntKind.u64.wrap (i64 (i1 + j2))) 1)))) pav (fun t5 =>
  opRd Pr (Instr.loadAt 38 (.pointer (some t5))) ApiEntry.val (fun t6 =>
  callV Pr (Value.int .i64) 35 #[(.agg ⟨t6.cs⟩), (.int .i64 target)] w4 fun t7 w8 =>
  ifB (decide (t7 < 0))
  (k3 (i64 ((IntKind.i64.wrap (shR .u64 (IntKind.u64.wrap (i64 (i1 + j2))) 1)) + 1)) j2 w8)
  (k3 i1 (IntKind.i64.wrap (shR .u64 (IntKind.u64.wrap (i64 (i1 + j2))) 1)) w8)) w4) w4)
  (ifB (decide (i1 < (x.len : Int)))
  (opRd Pr (Instr.indexAt 22 x.val (.int .i64 i1)) pav (fun t9 =>
  opRd Pr (Instr.loadAt 38 (.pointer (some t9))) ApiEntry.val (fun t10 =>
  callV Pr (Value.int .i64) 35 #[(.agg ⟨t10.cs⟩), (.int .i64 target)] w4 fun t11 w12 =>
  K (i1, (t11 == 0)) w12) w4) w4)
  (K (i1, false) w4))) w
def slices_BinarySearchFunc_api_Entry_api_Entry_int_place_ann : Ann := (.s .d (.s .d (.s .d (.s (.b (.l [(.s 9, (rI .i64)), (.s 10, (rI .i64))] (.s (.s .d (.c .d .d)) (.b (.s .d (.s (.r [(3, .rd rPA), (4, .rd rApiEntry), (6, .call (rI .i64))]) (.c .d .d))))))) (.s (.r [(8, .rd rPA), (9, .rd rApiEntry), (11, .call (rI .i64))]) .d)))))
theorem slices_BinarySearchFunc_api_Entry_api_Entry_int_place_calls {x : Sl} {target : Int} {K : (Int × Bool) → World → Prop} {w : World} (h : slices_BinarySearchFunc_api_Entry_api_Entry_int_place x target K w) : callV Pr (tval2 (Value.int .i64) Value.bool) 34 #[x.val, (.int .i64 target), (.func (.func 35) #[] #[])] w K :=
  calls_of Pr_plain Pr_mixed Pr_func34 slices_BinarySearchFunc_api_Entry_api_Entry_int_place_ann (rT2 (rI .i64) rB) (args := [x.val, (.int .i64 target), (.func (.func 35) #[] #[])]) (by kernel_rfl) h

/- slices.IndexFunc[[]changeover/api.Entry,changeover/api.Entry] -/
def slices_IndexFunc_api_Entry_api_Entry_Agree (s : Sl) (c27x0 : Addr) (K : Int → World → Prop) (w : World) : Prop :=
  loop1 (0 : Int) (fun t1 k2 w3 =>
  ifB (decide (t1 < (s.len : Int)))
  (opRd Pr (Instr.indexAt 22 s.val (.int .i64 t1)) pav (fun t4 =>
  opRd Pr (Instr.loadAt 38 (.pointer (some t4))) ApiEntry.val (fun t5 =>
  callV Pr Value.bool 27 #[(.agg ⟨t5.cs⟩), (.pointer (some c27x0))] w3 fun t6 w7 =>
  ifB t6
  (K t1 w7)
  (k2 (i64 (t1 + 1)) w7)) w3) w3)
  (K (-1) w3)) w
def slices_IndexFunc_api_Entry_api_Entry_Agree_ann : Ann := (.s .d (.s (.s .d (.b (.l [(.s 8, (rI .i64))] (.s .d (.s (.c .d .d) (.s (.b (.s .d (.s (.r [(3, .rd rPA), (4, .rd rApiEntry), (5, .call rB)]) (.c (.s .d .d) .d)))) .d)))))) (.s .d .d)))
theorem slices_IndexFunc_api_Entry_api_Entry_Agree_calls {s : Sl} {c27x0 : Addr} {K : Int → World → Prop} {w : World} (h : slices_IndexFunc_api_Entry_api_Entry_Agree s c27x0 K w) : callV Pr (Value.int .i64) 33 #[s.val, (.func (.func 27) #[] #[(.pointer (some c27x0))])] w K :=
  calls_of Pr_plain Pr_mixed Pr_func33 slices_IndexFunc_api_Entry_api_Entry_Agree_ann (rI .i64) (args := [s.val, (.func (.func 27) #[] #[(.pointer (some c27x0))])]) (by kernel_rfl) h

end Go.Chg
