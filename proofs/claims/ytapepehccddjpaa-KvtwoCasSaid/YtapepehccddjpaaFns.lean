/-
  Functions of the program, told by a program of ours (gen.py), each held by the kernel to what is to be shown of its code.
-/
import Derived.Test.YtapepehccddjpaaTy
set_option maxRecDepth 100000
set_option linter.unusedVariables false
namespace Go.Chg
open Go.Vc

/- changeover/changeoverlaw22.SessWhich -/
def law22_SessWhich (l : Sl) (client : Int) (seq : Int) (K : Bool → World → Prop) (w : World) : Prop :=
  callV Pr Value.bool 9 #[l.val] w fun t1 w2 =>
  ifB t1
  (callV Pr Value.bool 11 #[] w2 fun t3 w4 =>
  K t3 w4)
  (callV Pr Value.bool 10 #[l.val] w2 fun t5 w6 =>
  ifB (!t5)
  (callV Pr Value.bool 11 #[] w6 fun t7 w8 =>
  K t7 w8)
  (callV Pr (tval2 (Value.int .i64) ApiAnswer.val) 12 #[l.val, (.int .i64 client), (.int .i64 seq)] w6 fun t9 w10 =>
  newV (fun b11 w12 =>
  wrM b11 (fun w13 =>
  callV Pr (tval2 (Value.int .i64) ApiAnswer.val) 13 #[l.val, (.int .i64 client)] w13 fun t14 w15 =>
  kp b11 w13 w15 <|
  newV (fun b16 w17 =>
  wrM b16 (fun w18 =>
  join1 (fun (j19 : Int → World → Prop) =>
  callV Pr Value.bool 14 #[l.val, (.int .i64 client)] w18 fun t20 w21 =>
  kp b16 w18 w21 <|
  kp b11 w18 w21 <|
  ifB t20
  (ifB (decide (seq ≤ t14.1))
  (ifB (seq == t14.1)
  (j19 1 w21)
  (j19 2 w21))
  (j19 0 w21))
  (j19 0 w21))
  (fun want22 w23 =>
  join1 (fun (j24 : ApiAnswer → World → Prop) =>
  ifB (want22 != 1)
  (wrM b16 (fun w25 =>
  j24 (ApiAnswer.mk 0 0 0 false [] 0) w25) w23)
  (j24 (ApiAnswer.mk t14.2.Client t14.2.Seq t14.2.Err t14.2.Found t14.2.Val t14.2.Rev) w23))
  (fun x26 w27 =>
  ifB (t9.1 == want22)
  (opRd Pr (binSem .eql 27 (.tmp 51) (.tmp 52) (.agg ⟨[(.int .i64 t9.2.Client), (.int .i64 t9.2.Seq), (.int .i64 t9.2.Err), (.bool t9.2.Found), (sval t9.2.Val), (.int .i64 t9.2.Rev)]⟩) (.agg ⟨[(.int .i64 x26.Client), (.int .i64 x26.Seq), (.int .i64 x26.Err), (.bool x26.Found), (sval x26.Val), (.int .i64 x26.Rev)]⟩)) Value.bool (fun t28 =>
  ifB t28
  (callV Pr (Value.int .i64) 15 #[l.val, (.int .i64 client)] w27 fun t29 w30 =>
  kp b16 w27 w30 <|
  kp b11 w27 w30 <|
  ifB (t29 == t14.1)
  (callV Pr Value.bool 11 #[] w30 fun t31 w32 =>
  kp b16 w30 w32 <|
  kp b11 w30 w32 <|
  K t31 w32)
  (K false w30))
  (K false w27)) w27)
  (K false w27)))) w17) w15) w12) w10))
def law22_SessWhich_ann : Ann := (.s .d (.s (.s (.r [(1, .call rB), (4, .call rB)]) (.c (.s (.r [(0, .call rB)]) .d) .d)) (.s (.r [(3, .call (rT2 (rI .i64) rApiAnswer)), (7, .nl 8), (9, .ls 8)]) (.s (.r [(2, .call (rT2 (rI .i64) rApiAnswer)), (6, .nl 10), (8, .ls 10)]) (.s .d (.sj [(.s 11, (rI .i64))] (.s (.r [(2, .call rB)]) (.c (.s .d (.s .d (.c .d .d))) .d)) (.sj [(.h 10, rApiAnswer)] (.s .d (.c (.r [(1, .ls 10)]) .d)) (.s (.r [(6, .rd rB), (11, .call (rI .i64)), (16, .call rB)]) .d))))))))
theorem law22_SessWhich_calls {l : Sl} {client : Int} {seq : Int} {K : Bool → World → Prop} {w : World} (h : law22_SessWhich l client seq K w) : callV Pr Value.bool 3 #[l.val, (.int .i64 client), (.int .i64 seq)] w K :=
  calls_of Pr_plain Pr_mixed Pr_func3 law22_SessWhich_ann rB (args := [l.val, (.int .i64 client), (.int .i64 seq)]) (by kernel_rfl) h

/- changeover/changeoverlaw22.SessWith -/
def law22_SessWith (l : Sl) (a : ApiAnswer) (less : Int) (K : Bool → World → Prop) (w : World) : Prop :=
  newV (fun b1 w2 =>
  callV Pr Value.bool 9 #[l.val] w2 fun t3 w4 =>
  kp b1 w2 w4 <|
  ifB t3
  (callV Pr Value.bool 11 #[] w4 fun t5 w6 =>
  kp b1 w4 w6 <|
  K t5 w6)
  (ifB (decide (((a.Val : List UInt8).length : Int) > 200))
  (callV Pr Value.bool 11 #[] w4 fun t7 w8 =>
  kp b1 w4 w8 <|
  K t7 w8)
  (callV Pr Value.bool 10 #[l.val] w4 fun t9 w10 =>
  kp b1 w4 w10 <|
  ifB (!t9)
  (callV Pr Value.bool 11 #[] w10 fun t11 w12 =>
  kp b1 w10 w12 <|
  K t11 w12)
  (callV Pr Sl.val 16 #[l.val, (.agg ⟨[(.int .i64 a.Client), (.int .i64 a.Seq), (.int .i64 a.Err), (.bool a.Found), (sval a.Val), (.int .i64 a.Rev)]⟩)] w10 fun x13 w14 =>
  kp b1 w10 w14 <|
  callV Pr (tval2 (Value.int .i64) ApiAnswer.val) 12 #[x13.val, (.int .i64 a.Client), (.int .i64 a.Seq)] w14 fun t15 w16 =>
  kp b1 w14 w16 <|
  newV (fun b17 w18 =>
  wrM b17 (fun w19 =>
  callV Pr Sl.val 18 #[l.val, (.agg ⟨[(.int .i64 a.Client), (.int .i64 a.Seq), (.int .i64 a.Err), (.bool a.Found), (sval a.Val), (.int .i64 a.Rev)]⟩)] w19 fun t20 w21 =>
  kp b17 w19 w21 <|
  kp b1 w19 w21 <|
  callV Pr Value.bool 17 #[x13.val, t20.val] w21 fun t22 w23 =>
  kp b17 w21 w23 <|
  kp b1 w21 w23 <|
  ifB (!t22)
  (K false w23)
  (ifB (t15.1 != 1)
  (K false w23)
  (opRd Pr (binSem .neq 27 (.tmp 49) (.tmp 50) (.agg ⟨[(.int .i64 t15.2.Client), (.int .i64 t15.2.Seq), (.int .i64 t15.2.Err), (.bool t15.2.Found), (sval t15.2.Val), (.int .i64 t15.2.Rev)]⟩) (.agg ⟨[(.int .i64 a.Client), (.int .i64 a.Seq), (.int .i64 a.Err), (.bool a.Found), (sval a.Val), (.int .i64 a.Rev)]⟩)) Value.bool (fun t24 =>
  ifB t24
  (K false w23)
  (ifB (decide (a.Seq ≥ (-4611686018427387904)))
  (callV Pr (tval2 (Value.int .i64) ApiAnswer.val) 12 #[x13.val, (.int .i64 a.Client), (.int .i64 (i64 ((i64 (a.Seq - 1)) - (IntKind.i64.wrap less))))] w23 fun t25 w26 =>
  kp b17 w23 w26 <|
  kp b1 w23 w26 <|
  newV (fun b27 w28 =>
  wrM b27 (fun w29 =>
  ifB (t25.1 != 2)
  (K false w29)
  (callV Pr Value.bool 11 #[] w29 fun t30 w31 =>
  kp b27 w29 w31 <|
  kp b17 w29 w31 <|
  kp b1 w29 w31 <|
  K t30 w31)) w28) w26)
  (callV Pr Value.bool 11 #[] w23 fun t32 w33 =>
  kp b17 w23 w33 <|
  kp b1 w23 w33 <|
  K t32 w33))) w23))) w18) w16)))) w
def law22_SessWith_ann : Ann := (.s (.r [(0, .nl 4)]) (.s (.s (.r [(1, .call rB), (10, .call rB)]) (.c (.s (.r [(0, .call rB)]) .d) .d)) (.s (.r [(2, .call rSl)]) (.s (.r [(5, .call (rT2 (rI .i64) rApiAnswer)), (9, .nl 9), (11, .ls 9)]) (.s (.s (.r [(3, .call rSl), (4, .call rB), (13, .rd rB)]) (.c (.s .d .d) .d)) (.s (.s .d (.c (.s (.r [(9, .call (rT2 (rI .i64) rApiAnswer)), (13, .nl 11), (15, .ls 11)]) (.s .d (.c (.s .d .d) .d))) .d)) (.s (.r [(0, .call rB)]) .d)))))))
theorem law22_SessWith_calls {l : Sl} {a : ApiAnswer} {less : Int} {K : Bool → World → Prop} {w : World} (h : law22_SessWith l a less K w) : callV Pr Value.bool 4 #[l.val, (.agg ⟨a.cs⟩), (.int .u8 less)] w K :=
  calls_of Pr_plain Pr_mixed Pr_func4 law22_SessWith_ann rB (args := [l.val, (.agg ⟨a.cs⟩), (.int .u8 less)]) (by kernel_rfl) h

/- changeover/changeoverlaw23.KvoneKeeps -/
def law23_KvoneKeeps (l : Sl) (c : ApiCmd) (other : List UInt8) (K : Bool → World → Prop) (w : World) : Prop :=
  newV (fun b1 w2 =>
  callV Pr Value.bool 19 #[l.val] w2 fun t3 w4 =>
  kp b1 w2 w4 <|
  ifB t3
  (callV Pr Value.bool 22 #[] w4 fun t5 w6 =>
  kp b1 w4 w6 <|
  K t5 w6)
  (callV Pr Value.bool 20 #[(.agg ⟨[(.int .i64 c.Kind), (.int .i64 c.Client), (.int .i64 c.Seq), (sval c.Key), (sval c.Val), (sval c.Old), (.int .i64 c.Node)]⟩)] w4 fun t7 w8 =>
  kp b1 w4 w8 <|
  ifB t7
  (callV Pr Value.bool 22 #[] w8 fun t9 w10 =>
  kp b1 w8 w10 <|
  K t9 w10)
  (ifB (decide (((other : List UInt8).length : Int) > 200))
  (callV Pr Value.bool 22 #[] w8 fun t11 w12 =>
  kp b1 w8 w12 <|
  K t11 w12)
  (callV Pr Value.bool 21 #[l.val] w8 fun t13 w14 =>
  kp b1 w8 w14 <|
  ifB (!t13)
  (callV Pr Value.bool 22 #[] w14 fun t15 w16 =>
  kp b1 w14 w16 <|
  K t15 w16)
  (callV Pr (tval2 Sl.val ApiAnswer.val) 23 #[l.val, (.agg ⟨[(.int .i64 c.Kind), (.int .i64 c.Client), (.int .i64 c.Seq), (sval c.Key), (sval c.Val), (sval c.Old), (.int .i64 c.Node)]⟩)] w14 fun t17 w18 =>
  kp b1 w14 w18 <|
  newV (fun b19 w20 =>
  wrM b19 (fun w21 =>
  callV Pr (tval2 ApiPair.val Value.bool) 24 #[t17.1.val, (sval c.Key)] w21 fun t22 w23 =>
  kp b19 w21 w23 <|
  kp b1 w21 w23 <|
  newV (fun b24 w25 =>
  wrM b24 (fun w26 =>
  callV Pr (tval2 ApiPair.val Value.bool) 24 #[t17.1.val, (sval other)] w26 fun t27 w28 =>
  kp b24 w26 w28 <|
  kp b19 w26 w28 <|
  kp b1 w26 w28 <|
  newV (fun b29 w30 =>
  wrM b29 (fun w31 =>
  callV Pr (tval2 ApiPair.val Value.bool) 24 #[l.val, (sval other)] w31 fun t32 w33 =>
  kp b29 w31 w33 <|
  kp b24 w31 w33 <|
  kp b19 w31 w33 <|
  kp b1 w31 w33 <|
  newV (fun b34 w35 =>
  wrM b34 (fun w36 =>
  join0 (fun (j37 : World → Prop) =>
  ifB (!(strEq other c.Key))
  (opRd Pr (binSem .neq 45 (.tmp 63) (.tmp 64) (.agg ⟨[(sval t27.1.Key), (sval t27.1.Val), (.int .i64 t27.1.Rev)]⟩) (.agg ⟨[(sval t32.1.Key), (sval t32.1.Val), (.int .i64 t32.1.Rev)]⟩)) Value.bool (fun t38 =>
  ifB t38
  (K false w36)
  (ifB (!(t27.2 == t32.2))
  (K false w36)
  (ifB (c.Kind == 2)
  (ifB (t17.2.Err == 0)
  (ifB (!t22.2)
  (K false w36)
  (ifB (!(strEq t22.1.Val c.Val))
  (K false w36)
  (ifB (c.Kind == 4)
  (ifB t22.2
  (K false w36)
  (j37 w36))
  (j37 w36))))
  (ifB (c.Kind == 4)
  (ifB t22.2
  (K false w36)
  (j37 w36))
  (j37 w36)))
  (ifB (c.Kind == 4)
  (ifB t22.2
  (K false w36)
  (j37 w36))
  (j37 w36))))) w36)
  (ifB (c.Kind == 2)
  (ifB (t17.2.Err == 0)
  (ifB (!t22.2)
  (K false w36)
  (ifB (!(strEq t22.1.Val c.Val))
  (K false w36)
  (ifB (c.Kind == 4)
  (ifB t22.2
  (K false w36)
  (j37 w36))
  (j37 w36))))
  (ifB (c.Kind == 4)
  (ifB t22.2
  (K false w36)
  (j37 w36))
  (j37 w36)))
  (ifB (c.Kind == 4)
  (ifB t22.2
  (K false w36)
  (j37 w36))
  (j37 w36))))
  (fun w39 =>
  callV Pr Value.bool 25 #[(.int .i64 1), l.val] w39 fun t40 w41 =>
  kp b34 w39 w41 <|
  kp b29 w39 w41 <|
  kp b24 w39 w41 <|
  kp b19 w39 w41 <|
  kp b1 w39 w41 <|
  ifB (!t40)
  (callV Pr Value.bool 22 #[] w41 fun t42 w43 =>
  kp b34 w41 w43 <|
  kp b29 w41 w43 <|
  kp b24 w41 w43 <|
  kp b19 w41 w43 <|
  kp b1 w41 w43 <|
  K t42 w43)
  (ifB (c.Kind == 2)
  (opTy Pr (Instr.buildSlice 37 1 #[(0, (.agg ⟨[(sval c.Key), (sval c.Val), (.int .i64 0)]⟩))]) Sl.val (fun t44 w45 =>
  kp b34 w41 w45 <|
  kp b29 w41 w45 <|
  kp b24 w41 w45 <|
  kp b19 w41 w45 <|
  kp b1 w41 w45 <|
  callV Pr Value.bool 25 #[(.int .i64 1), t44.val] w45 fun t46 w47 =>
  kp b34 w45 w47 <|
  kp b29 w45 w47 <|
  kp b24 w45 w47 <|
  kp b19 w45 w47 <|
  kp b1 w45 w47 <|
  ifB (!t46)
  (callV Pr Value.bool 22 #[] w47 fun t48 w49 =>
  kp b34 w47 w49 <|
  kp b29 w47 w49 <|
  kp b24 w47 w49 <|
  kp b19 w47 w49 <|
  kp b1 w47 w49 <|
  K t48 w49)
  (callV Pr Value.bool 25 #[(.int .i64 1), t17.1.val] w47 fun t50 w51 =>
  kp b34 w47 w51 <|
  kp b29 w47 w51 <|
  kp b24 w47 w51 <|
  kp b19 w47 w51 <|
  kp b1 w47 w51 <|
  ifB t50
  (callV Pr Value.bool 22 #[] w51 fun t52 w53 =>
  kp b34 w51 w53 <|
  kp b29 w51 w53 <|
  kp b24 w51 w53 <|
  kp b19 w51 w53 <|
  kp b1 w51 w53 <|
  K t52 w53)
  (K false w51))) w41)
  (callV Pr Value.bool 25 #[(.int .i64 1), t17.1.val] w41 fun t54 w55 =>
  kp b34 w41 w55 <|
  kp b29 w41 w55 <|
  kp b24 w41 w55 <|
  kp b19 w41 w55 <|
  kp b1 w41 w55 <|
  ifB t54
  (callV Pr Value.bool 22 #[] w55 fun t56 w57 =>
  kp b34 w55 w57 <|
  kp b29 w55 w57 <|
  kp b24 w55 w57 <|
  kp b19 w55 w57 <|
  kp b1 w55 w57 <|
  K t56 w57)
  (K false w55))))) w35) w33) w30) w28) w25) w23) w20) w18))))) w
def law23_KvoneKeeps_ann : Ann := (.s (.r [(0, .nl 4)]) (.s (.s (.r [(1, .call rB), (4, .call rB), (13, .call rB)]) (.c (.s (.r [(0, .call rB)]) .d) .d)) (.s (.r [(2, .call (rT2 rSl rApiAnswer)), (6, .nl 8), (8, .ls 8)]) (.s (.r [(3, .call (rT2 rApiPair rB)), (7, .nl 9), (8, .ls 9)]) (.s (.r [(2, .call (rT2 rApiPair rB)), (6, .nl 11), (7, .ls 11)]) (.s (.r [(2, .call (rT2 rApiPair rB)), (6, .nl 13), (7, .ls 13)]) (.sj [] (.s (.r [(7, .rd rB)]) (.c (.s .d .d) .d)) (.s (.r [(1, .call rB), (13, .ty rSl), (14, .call rB)]) (.s (.r [(3, .call rB), (6, .call rB)]) .d)))))))))
theorem law23_KvoneKeeps_calls {l : Sl} {c : ApiCmd} {other : List UInt8} {K : Bool → World → Prop} {w : World} (h : law23_KvoneKeeps l c other K w) : callV Pr Value.bool 5 #[l.val, (.agg ⟨c.cs⟩), (sval other)] w K :=
  calls_of Pr_plain Pr_mixed Pr_func5 law23_KvoneKeeps_ann rB (args := [l.val, (.agg ⟨c.cs⟩), (sval other)]) (by kernel_rfl) h

/- changeover/changeoverlaw24.KvtwoCas -/
def law24_KvtwoCas (l : Sl) (c : ApiCmd) (K : Bool → World → Prop) (w : World) : Prop :=
  newV (fun b1 w2 =>
  callV Pr Value.bool 19 #[l.val] w2 fun t3 w4 =>
  kp b1 w2 w4 <|
  ifB t3
  (callV Pr Value.bool 27 #[] w4 fun t5 w6 =>
  kp b1 w4 w6 <|
  K t5 w6)
  (callV Pr Value.bool 26 #[(.agg ⟨[(.int .i64 c.Kind), (.int .i64 c.Client), (.int .i64 c.Seq), (sval c.Key), (sval c.Val), (sval c.Old), (.int .i64 c.Node)]⟩)] w4 fun t7 w8 =>
  kp b1 w4 w8 <|
  ifB t7
  (callV Pr Value.bool 27 #[] w8 fun t9 w10 =>
  kp b1 w8 w10 <|
  K t9 w10)
  (callV Pr Value.bool 25 #[(.int .i64 2), l.val] w8 fun t11 w12 =>
  kp b1 w8 w12 <|
  ifB (!t11)
  (callV Pr Value.bool 27 #[] w12 fun t13 w14 =>
  kp b1 w12 w14 <|
  K t13 w14)
  (wrM b1 (fun w15 =>
  callV Pr (tval2 Sl.val ApiAnswer.val) 28 #[l.val, (.agg ⟨[(.int .i64 5), (.int .i64 c.Client), (.int .i64 c.Seq), (sval c.Key), (sval c.Val), (sval c.Old), (.int .i64 c.Node)]⟩)] w15 fun t16 w17 =>
  kp b1 w15 w17 <|
  newV (fun b18 w19 =>
  wrM b18 (fun w20 =>
  callV Pr (Value.int .i64) 29 #[l.val, (sval c.Key)] w20 fun at21 w22 =>
  kp b18 w20 w22 <|
  kp b1 w20 w22 <|
  drewM (fun w23 =>
  ifB (decide (at21 ≥ 0))
  (opRd Pr (Instr.indexAt 37 l.val (.int .i64 at21)) pav (fun t24 =>
  opRd Pr (Instr.loadAt 9 (.pointer (some (t24.add 1)))) sval (fun t25 =>
  join0 (fun (j26 : World → Prop) =>
  ifB (!((t16.2.Err == 0) == (strEq t25 c.Old)))
  (K false w23)
  (ifB (!(strEq t25 c.Old))
  (callV Pr Value.bool 30 #[t16.1.val, l.val] w23 fun t27 w28 =>
  kp b18 w23 w28 <|
  kp b1 w23 w28 <|
  ifB (!t27)
  (K false w28)
  (ifB ((t16.1.len : Int) != (l.len : Int))
  (K false w28)
  (j26 w28)))
  (ifB ((t16.1.len : Int) != (l.len : Int))
  (K false w23)
  (j26 w23))))
  (fun w29 =>
  loop1 (0 : Int) (fun i30 k31 w32 =>
  ifB (decide (i30 < (l.len : Int)))
  (drewM (fun w33 =>
  opRd Pr (Instr.indexAt 37 t16.1.val (.int .i64 i30)) pav (fun t34 =>
  opRd Pr (Instr.loadAt 9 (.pointer (some (t34.add 0)))) sval (fun t35 =>
  opRd Pr (Instr.indexAt 37 l.val (.int .i64 i30)) pav (fun t36 =>
  opRd Pr (Instr.loadAt 9 (.pointer (some (t36.add 0)))) sval (fun t37 =>
  ifB (!(strEq t35 t37))
  (K false w33)
  (opRd Pr (Instr.indexAt 37 t16.1.val (.int .i64 i30)) pav (fun t38 =>
  opRd Pr (Instr.loadAt 3 (.pointer (some (t38.add 2)))) (Value.int .i64) (fun t39 =>
  opRd Pr (Instr.indexAt 37 l.val (.int .i64 i30)) pav (fun t40 =>
  opRd Pr (Instr.loadAt 3 (.pointer (some (t40.add 2)))) (Value.int .i64) (fun t41 =>
  ifB (decide (t39 < t41))
  (K false w33)
  (ifB (i30 != at21)
  (opRd Pr (Instr.indexAt 37 t16.1.val (.int .i64 i30)) pav (fun t42 =>
  opRd Pr (Instr.loadAt 45 (.pointer (some t42))) ApiPair.val (fun t43 =>
  opRd Pr (Instr.indexAt 37 l.val (.int .i64 i30)) pav (fun t44 =>
  opRd Pr (Instr.loadAt 45 (.pointer (some t44))) ApiPair.val (fun t45 =>
  opRd Pr (binSem .neq 45 (.tmp 105) (.tmp 109) (.agg ⟨t43.cs⟩) (.agg ⟨t45.cs⟩)) Value.bool (fun t46 =>
  ifB t46
  (K false w33)
  (ifB (i30 == at21)
  (ifB (strEq t25 c.Old)
  (opRd Pr (Instr.indexAt 37 t16.1.val (.int .i64 i30)) pav (fun t47 =>
  opRd Pr (Instr.loadAt 9 (.pointer (some (t47.add 1)))) sval (fun t48 =>
  ifB (!(strEq t48 c.Val))
  (K false w33)
  (k31 (i64 (i30 + 1)) w33)) w33) w33)
  (k31 (i64 (i30 + 1)) w33))
  (k31 (i64 (i30 + 1)) w33))) w33) w33) w33) w33) w33)
  (ifB (i30 == at21)
  (ifB (strEq t25 c.Old)
  (opRd Pr (Instr.indexAt 37 t16.1.val (.int .i64 i30)) pav (fun t49 =>
  opRd Pr (Instr.loadAt 9 (.pointer (some (t49.add 1)))) sval (fun t50 =>
  ifB (!(strEq t50 c.Val))
  (K false w33)
  (k31 (i64 (i30 + 1)) w33)) w33) w33)
  (k31 (i64 (i30 + 1)) w33))
  (k31 (i64 (i30 + 1)) w33)))) w33) w33) w33) w33)) w33) w33) w33) w33) w32)
  (callV Pr Value.bool 27 #[] w32 fun t51 w52 =>
  kp b18 w32 w52 <|
  kp b1 w32 w52 <|
  K t51 w52)) w29)) w23) w23)
  (join0 (fun (j53 : World → Prop) =>
  ifB (!((t16.2.Err == 0) == false))
  (K false w23)
  (ifB (!false)
  (callV Pr Value.bool 30 #[t16.1.val, l.val] w23 fun t54 w55 =>
  kp b18 w23 w55 <|
  kp b1 w23 w55 <|
  ifB (!t54)
  (K false w55)
  (ifB ((t16.1.len : Int) != (l.len : Int))
  (K false w55)
  (j53 w55)))
  (ifB ((t16.1.len : Int) != (l.len : Int))
  (K false w23)
  (j53 w23))))
  (fun w56 =>
  loop1 (0 : Int) (fun i57 k58 w59 =>
  ifB (decide (i57 < (l.len : Int)))
  (drewM (fun w60 =>
  opRd Pr (Instr.indexAt 37 t16.1.val (.int .i64 i57)) pav (fun t61 =>
  opRd Pr (Instr.loadAt 9 (.pointer (some (t61.add 0)))) sval (fun t62 =>
  opRd Pr (Instr.indexAt 37 l.val (.int .i64 i57)) pav (fun t63 =>
  opRd Pr (Instr.loadAt 9 (.pointer (some (t63.add 0)))) sval (fun t64 =>
  ifB (!(strEq t62 t64))
  (K false w60)
  (opRd Pr (Instr.indexAt 37 t16.1.val (.int .i64 i57)) pav (fun t65 =>
  opRd Pr (Instr.loadAt 3 (.pointer (some (t65.add 2)))) (Value.int .i64) (fun t66 =>
  opRd Pr (Instr.indexAt 37 l.val (.int .i64 i57)) pav (fun t67 =>
  opRd Pr (Instr.loadAt 3 (.pointer (some (t67.add 2)))) (Value.int .i64) (fun t68 =>
  ifB (decide (t66 < t68))
  (K false w60)
  (ifB (i57 != at21)
  (opRd Pr (Instr.indexAt 37 t16.1.val (.int .i64 i57)) pav (fun t69 =>
  opRd Pr (Instr.loadAt 45 (.pointer (some t69))) ApiPair.val (fun t70 =>
  opRd Pr (Instr.indexAt 37 l.val (.int .i64 i57)) pav (fun t71 =>
  opRd Pr (Instr.loadAt 45 (.pointer (some t71))) ApiPair.val (fun t72 =>
  opRd Pr (binSem .neq 45 (.tmp 105) (.tmp 109) (.agg ⟨t70.cs⟩) (.agg ⟨t72.cs⟩)) Value.bool (fun t73 =>
  ifB t73
  (K false w60)
  (ifB (i57 == at21)
  (k58 (i64 (i57 + 1)) w60)
  (k58 (i64 (i57 + 1)) w60))) w60) w60) w60) w60) w60)
  (ifB (i57 == at21)
  (k58 (i64 (i57 + 1)) w60)
  (k58 (i64 (i57 + 1)) w60)))) w60) w60) w60) w60)) w60) w60) w60) w60) w59)
  (callV Pr Value.bool 27 #[] w59 fun t74 w75 =>
  kp b18 w59 w75 <|
  kp b1 w59 w75 <|
  K t74 w75)) w56))) w22) w19) w17) w12)))) w
def law24_KvtwoCas_ann : Ann := (.s (.r [(0, .nl 3)]) (.s (.s (.r [(1, .call rB), (4, .call rB), (8, .call rB)]) (.c (.s (.r [(0, .call rB)]) .d) .d)) (.s (.r [(1, .ls 3)]) (.s (.r [(2, .call (rT2 rSl rApiAnswer)), (6, .nl 6), (8, .ls 6)]) (.s (.r [(3, .call (rI .i64))]) (.s (.r [(5, .rd rPA), (7, .rd rS)]) (.sj [] (.s (.r [(11, .call rB)]) (.c (.s .d .d) .d)) (.s (.s .d (.b (.l [(.s 9, (rI .i64))] (.s (.s .d (.c .d .d)) (.s (.b (.s (.r [(2, .rd rPA), (4, .rd rS), (7, .rd rPA), (9, .rd rS), (14, .rd rPA), (16, .rd (rI .i64)), (19, .rd rPA), (21, .rd (rI .i64)), (31, .rd rPA), (32, .rd rApiPair), (35, .rd rPA), (36, .rd rApiPair), (37, .rd rB), (50, .rd rPA), (52, .rd rS)]) (.c (.s .d .d) .d))) .d))))) (.s (.r [(0, .call rB)]) .d)))))))))
theorem law24_KvtwoCas_calls {l : Sl} {c : ApiCmd} {K : Bool → World → Prop} {w : World} (h : law24_KvtwoCas l c K w) : callV Pr Value.bool 6 #[l.val, (.agg ⟨c.cs⟩)] w K :=
  calls_of Pr_plain Pr_mixed Pr_func6 law24_KvtwoCas_ann rB (args := [l.val, (.agg ⟨c.cs⟩)]) (by kernel_rfl) h

/- changeover/changeoverlaw32.LedgerAgrees -/
def law32_LedgerAgrees (a : Sl) (b : Sl) (K : Bool → World → Prop) (w : World) : Prop :=
  callV Pr Value.bool 31 #[a.val] w fun t1 w2 =>
  ifB t1
  (callV Pr Value.bool 33 #[] w2 fun t3 w4 =>
  K t3 w4)
  (callV Pr Value.bool 31 #[b.val] w2 fun t5 w6 =>
  ifB t5
  (callV Pr Value.bool 33 #[] w6 fun t7 w8 =>
  K t7 w8)
  (callV Pr Value.bool 32 #[a.val] w6 fun t9 w10 =>
  ifB (!t9)
  (callV Pr Value.bool 33 #[] w10 fun t11 w12 =>
  K t11 w12)
  (callV Pr Value.bool 32 #[b.val] w10 fun t13 w14 =>
  ifB (!t13)
  (callV Pr Value.bool 33 #[] w14 fun t15 w16 =>
  K t15 w16)
  (callV Pr Sl.val 34 #[a.val, b.val] w14 fun m17 w18 =>
  callV Pr Value.bool 35 #[a.val, b.val] w18 fun is19 w20 =>
  join0 (fun (j21 : World → Prop) =>
  callV Pr Value.bool 36 #[a.val, b.val] w20 fun t22 w23 =>
  ifB (!(is19 == t22))
  (K false w23)
  (callV Pr Sl.val 38 #[a.val, b.val] w23 fun t24 w25 =>
  callV Pr Value.bool 37 #[m17.val, t24.val] w25 fun t26 w27 =>
  ifB (!t26)
  (K false w27)
  (callV Pr Value.bool 36 #[a.val, m17.val] w27 fun t28 w29 =>
  ifB (!t28)
  (K false w29)
  (ifB is19
  (callV Pr Value.bool 35 #[m17.val, b.val] w29 fun t30 w31 =>
  ifB (!t30)
  (K false w31)
  (j21 w31))
  (j21 w29)))))
  (fun w32 =>
  callV Pr Value.bool 35 #[b.val, a.val] w32 fun t33 w34 =>
  ifB (t33 == is19)
  (callV Pr Value.bool 32 #[m17.val] w34 fun t35 w36 =>
  ifB t35
  (callV Pr Value.bool 33 #[] w36 fun t37 w38 =>
  K t37 w38)
  (K false w36))
  (K false w34))))))
def law32_LedgerAgrees_ann : Ann := (.s .d (.s (.s (.r [(1, .call rB), (4, .call rB), (8, .call rB), (13, .call rB)]) (.c (.s (.r [(0, .call rB)]) .d) .d)) (.s (.r [(2, .call rSl)]) (.s (.r [(2, .call rB)]) (.sj [] (.s (.r [(3, .call rB), (9, .call rSl), (10, .call rB), (16, .call rB), (24, .call rB)]) (.c (.s .d .d) .d)) (.s (.r [(2, .call rB), (7, .call rB), (10, .call rB)]) .d))))))
theorem law32_LedgerAgrees_calls {a : Sl} {b : Sl} {K : Bool → World → Prop} {w : World} (h : law32_LedgerAgrees a b K w) : callV Pr Value.bool 7 #[a.val, b.val] w K :=
  calls_of Pr_plain Pr_mixed Pr_func7 law32_LedgerAgrees_ann rB (args := [a.val, b.val]) (by kernel_rfl) h

/- changeover/changeoverlaw24.KvtwoOlder -/
def law24_KvtwoOlder (l : Sl) (c : ApiCmd) (K : Bool → World → Prop) (w : World) : Prop :=
  newV (fun b1 w2 =>
  callV Pr Value.bool 19 #[l.val] w2 fun t3 w4 =>
  kp b1 w2 w4 <|
  ifB t3
  (callV Pr Value.bool 27 #[] w4 fun t5 w6 =>
  kp b1 w4 w6 <|
  K t5 w6)
  (callV Pr Value.bool 26 #[(.agg ⟨[(.int .i64 c.Kind), (.int .i64 c.Client), (.int .i64 c.Seq), (sval c.Key), (sval c.Val), (sval c.Old), (.int .i64 c.Node)]⟩)] w4 fun t7 w8 =>
  kp b1 w4 w8 <|
  ifB t7
  (callV Pr Value.bool 27 #[] w8 fun t9 w10 =>
  kp b1 w8 w10 <|
  K t9 w10)
  (callV Pr Value.bool 21 #[l.val] w8 fun t11 w12 =>
  kp b1 w8 w12 <|
  ifB (!t11)
  (callV Pr Value.bool 27 #[] w12 fun t13 w14 =>
  kp b1 w12 w14 <|
  K t13 w14)
  (ifB (c.Kind == 5)
  (callV Pr Value.bool 27 #[] w12 fun t15 w16 =>
  kp b1 w12 w16 <|
  K t15 w16)
  (callV Pr (tval2 Sl.val ApiAnswer.val) 28 #[l.val, (.agg ⟨[(.int .i64 c.Kind), (.int .i64 c.Client), (.int .i64 c.Seq), (sval c.Key), (sval c.Val), (sval c.Old), (.int .i64 c.Node)]⟩)] w12 fun t17 w18 =>
  kp b1 w12 w18 <|
  newV (fun b19 w20 =>
  wrM b19 (fun w21 =>
  heldM (fun S23 w22 =>
  (callV Pr Sl.val 39 #[l.val] w22 fun t24 w25 =>
  kp b19 w22 w25 <|
  kp b1 w22 w25 <|
  (S23 w25) ∧
  ((callV Pr (tval2 Sl.val ApiAnswer.val) 23 #[t24.val, (.agg ⟨[(.int .i64 c.Kind), (.int .i64 c.Client), (.int .i64 c.Seq), (sval c.Key), (sval c.Val), (sval c.Old), (.int .i64 c.Node)]⟩)] w25 fun t26 w27 =>
  kp b19 w25 w27 <|
  kp b1 w25 w27 <|
  (S23 w27) ∧
  (newV (fun b28 w29 =>
  (S23 w29) ∧
  (wrM b28 (fun w30 =>
  (S23 w30) ∧
  (callV Pr Sl.val 39 #[t17.1.val] w30 fun t31 w32 =>
  kp b28 w30 w32 <|
  kp b19 w30 w32 <|
  kp b1 w30 w32 <|
  callV Pr Value.bool 30 #[t31.val, t26.1.val] w32 fun t33 w34 =>
  kp b28 w32 w34 <|
  kp b19 w32 w34 <|
  kp b1 w32 w34 <|
  ifB t33
  (opRd Pr (binSem .eql 27 (.tmp 44) (.tmp 45) (.agg ⟨[(.int .i64 t17.2.Client), (.int .i64 t17.2.Seq), (.int .i64 t17.2.Err), (.bool t17.2.Found), (sval t17.2.Val), (.int .i64 t17.2.Rev)]⟩) (.agg ⟨[(.int .i64 t26.2.Client), (.int .i64 t26.2.Seq), (.int .i64 t26.2.Err), (.bool t26.2.Found), (sval t26.2.Val), (.int .i64 t26.2.Rev)]⟩)) Value.bool (fun t35 =>
  ifB t35
  (callV Pr Value.bool 27 #[] w34 fun t36 w37 =>
  kp b28 w34 w37 <|
  kp b19 w34 w37 <|
  kp b1 w34 w37 <|
  K t36 w37)
  (K false w34)) w34)
  (K false w34))) w29)) w27)) ∧
  (newV (fun b38 w39 =>
  (S23 w39) ∧
  (callV Pr (tval2 Sl.val ApiAnswer.val) 23 #[t24.val, (.agg ⟨[(.int .i64 c.Kind), (.int .i64 c.Client), (.int .i64 c.Seq), (sval c.Key), (sval c.Val), (sval c.Old), (.int .i64 c.Node)]⟩)] w39 fun t40 w41 =>
  kp b38 w39 w41 <|
  kp b19 w39 w41 <|
  kp b1 w39 w41 <|
  (S23 w41) ∧
  (wrM b38 (fun w42 =>
  (S23 w42) ∧
  (callV Pr Sl.val 39 #[t17.1.val] w42 fun t43 w44 =>
  kp b38 w42 w44 <|
  kp b19 w42 w44 <|
  kp b1 w42 w44 <|
  callV Pr Value.bool 30 #[t43.val, t40.1.val] w44 fun t45 w46 =>
  kp b38 w44 w46 <|
  kp b19 w44 w46 <|
  kp b1 w44 w46 <|
  ifB t45
  (opRd Pr (binSem .eql 27 (.tmp 44) (.tmp 45) (.agg ⟨[(.int .i64 t17.2.Client), (.int .i64 t17.2.Seq), (.int .i64 t17.2.Err), (.bool t17.2.Found), (sval t17.2.Val), (.int .i64 t17.2.Rev)]⟩) (.agg ⟨[(.int .i64 t40.2.Client), (.int .i64 t40.2.Seq), (.int .i64 t40.2.Err), (.bool t40.2.Found), (sval t40.2.Val), (.int .i64 t40.2.Rev)]⟩)) Value.bool (fun t47 =>
  ifB t47
  (callV Pr Value.bool 27 #[] w46 fun t48 w49 =>
  kp b38 w46 w49 <|
  kp b19 w46 w49 <|
  kp b1 w46 w49 <|
  K t48 w49)
  (K false w46)) w46)
  (K false w46))) w41))) w25))) ∧
  (newV (fun b50 w51 =>
  (S23 w51) ∧
  (callV Pr Sl.val 39 #[l.val] w51 fun t52 w53 =>
  kp b50 w51 w53 <|
  kp b19 w51 w53 <|
  kp b1 w51 w53 <|
  (S23 w53) ∧
  (callV Pr (tval2 Sl.val ApiAnswer.val) 23 #[t52.val, (.agg ⟨[(.int .i64 c.Kind), (.int .i64 c.Client), (.int .i64 c.Seq), (sval c.Key), (sval c.Val), (sval c.Old), (.int .i64 c.Node)]⟩)] w53 fun t54 w55 =>
  kp b50 w53 w55 <|
  kp b19 w53 w55 <|
  kp b1 w53 w55 <|
  (S23 w55) ∧
  (wrM b50 (fun w56 =>
  (S23 w56) ∧
  (callV Pr Sl.val 39 #[t17.1.val] w56 fun t57 w58 =>
  kp b50 w56 w58 <|
  kp b19 w56 w58 <|
  kp b1 w56 w58 <|
  callV Pr Value.bool 30 #[t57.val, t54.1.val] w58 fun t59 w60 =>
  kp b50 w58 w60 <|
  kp b19 w58 w60 <|
  kp b1 w58 w60 <|
  ifB t59
  (opRd Pr (binSem .eql 27 (.tmp 44) (.tmp 45) (.agg ⟨[(.int .i64 t17.2.Client), (.int .i64 t17.2.Seq), (.int .i64 t17.2.Err), (.bool t17.2.Found), (sval t17.2.Val), (.int .i64 t17.2.Rev)]⟩) (.agg ⟨[(.int .i64 t54.2.Client), (.int .i64 t54.2.Seq), (.int .i64 t54.2.Err), (.bool t54.2.Found), (sval t54.2.Val), (.int .i64 t54.2.Rev)]⟩)) Value.bool (fun t61 =>
  ifB t61
  (callV Pr Value.bool 27 #[] w60 fun t62 w63 =>
  kp b50 w60 w63 <|
  kp b19 w60 w63 <|
  kp b1 w60 w63 <|
  K t62 w63)
  (K false w60)) w60)
  (K false w60))) w55)))) w22)) w21) w20) w18))))) w
def law24_KvtwoOlder_ann : Ann := (.s (.r [(0, .nl 3)]) (.s (.s (.r [(1, .call rB), (4, .call rB), (8, .call rB)]) (.c (.s (.r [(0, .call rB)]) .d) .d)) (.s (.r [(2, .call (rT2 rSl rApiAnswer)), (6, .nl 6), (8, .ls 6)]) (.s (.h (.take 0 (.take 2 (.two 1 (.two 3 (.take 4 (.take 5 (.take 6 (.one 7 (.take 8 (.one 9 .done)))))) 7 (.one 3 (.take 4 (.take 5 (.take 6 (.take 8 (.one 9 .done))))))) 7 (.one 1 (.one 3 (.take 4 (.take 5 (.take 6 (.take 8 (.one 9 .done)))))))))) [(1, .call rSl), (3, .call (rT2 rSl rApiAnswer)), (7, .nl 8), (9, .ls 8)]) (.s (.r [(1, .call rSl), (3, .call rB), (7, .rd rB), (10, .call rB)]) .d)))))
theorem law24_KvtwoOlder_calls {l : Sl} {c : ApiCmd} {K : Bool → World → Prop} {w : World} (h : law24_KvtwoOlder l c K w) : callV Pr Value.bool 8 #[l.val, (.agg ⟨c.cs⟩)] w K :=
  calls_of Pr_plain Pr_mixed Pr_func8 law24_KvtwoOlder_ann rB (args := [l.val, (.agg ⟨c.cs⟩)]) (by kernel_rfl) h

/- changeover/changeoverref22.Large -/
def ref22_Large (l : Sl) (K : Bool → World → Prop) (w : World) : Prop :=
  loop1 (0 : Int) (fun i1 k2 w3 =>
  ifB (decide (i1 < (l.len : Int)))
  (ifB (decide (i1 < 40))
  (opRd Pr (Instr.indexAt 22 l.val (.int .i64 i1)) pav (fun t4 =>
  opRd Pr (Instr.loadAt 9 (.pointer (some ((t4.add 2).add 4)))) sval (fun t5 =>
  ifB (decide (((t5 : List UInt8).length : Int) > 200))
  (K true w3)
  (k2 (i64 (i1 + 1)) w3)) w3) w3)
  (K (decide ((l.len : Int) > 40)) w3))
  (K (decide ((l.len : Int) > 40)) w3)) w
def ref22_Large_ann : Ann := (.s .d (.s (.s .d (.b (.l [(.s 3, (rI .i64))] (.s (.s .d (.c .d .d)) (.s (.b (.s (.r [(2, .rd rPA), (5, .rd rS)]) (.c (.s .d .d) .d))) .d))))) (.s .d .d)))
theorem ref22_Large_calls {l : Sl} {K : Bool → World → Prop} {w : World} (h : ref22_Large l K w) : callV Pr Value.bool 9 #[l.val] w K :=
  calls_of Pr_plain Pr_mixed Pr_func9 ref22_Large_ann rB (args := [l.val]) (by kernel_rfl) h

/- changeover/changeoverref22.Rise -/
def ref22_Rise (l : Sl) (K : Bool → World → Prop) (w : World) : Prop :=
  loop1 (1 : Int) (fun i1 k2 w3 =>
  ifB (decide (i1 < (l.len : Int)))
  (drewM (fun w4 =>
  opRd Pr (Instr.indexAt 22 l.val (.int .i64 i1)) pav (fun t5 =>
  opRd Pr (Instr.loadAt 3 (.pointer (some (t5.add 0)))) (Value.int .i64) (fun t6 =>
  opRd Pr (Instr.indexAt 22 l.val (.int .i64 (i64 (i1 - 1)))) pav (fun t7 =>
  opRd Pr (Instr.loadAt 3 (.pointer (some (t7.add 0)))) (Value.int .i64) (fun t8 =>
  ifB (decide (t6 ≤ t8))
  (K false w4)
  (k2 (i64 (i1 + 1)) w4)) w4) w4) w4) w4) w3)
  (K true w3)) w
def ref22_Rise_ann : Ann := (.s .d (.s (.s .d (.b (.l [(.s 3, (rI .i64))] (.s (.s .d (.c .d .d)) (.s (.b (.s (.r [(2, .rd rPA), (4, .rd (rI .i64)), (8, .rd rPA), (10, .rd (rI .i64))]) (.c (.s .d .d) .d))) .d))))) (.s .d .d)))
theorem ref22_Rise_calls {l : Sl} {K : Bool → World → Prop} {w : World} (h : ref22_Rise l K w) : callV Pr Value.bool 10 #[l.val] w K :=
  calls_of Pr_plain Pr_mixed Pr_func10 ref22_Rise_ann rB (args := [l.val]) (by kernel_rfl) h

/- changeover/changeoverlaw22.awake -/
def law22_awake (K : Bool → World → Prop) (w : World) : Prop :=
  callV Pr Sl.val 16 #[Sl.nil.val, (.agg ⟨[(.int .i64 2), (.int .i64 5), (.int .i64 0), (.bool false), (sval []), (.int .i64 0)]⟩)] w fun l1 w2 =>
  callV Pr (tval2 (Value.int .i64) ApiAnswer.val) 12 #[l1.val, (.int .i64 2), (.int .i64 5)] w2 fun t3 w4 =>
  newV (fun b5 w6 =>
  wrM b5 (fun w7 =>
  ifB ((l1.len : Int) == 1)
  (ifB (t3.1 == 1)
  (ifB (t3.2.Seq == 5)
  (callV Pr (Value.int .i64) 15 #[l1.val, (.int .i64 2)] w7 fun t8 w9 =>
  kp b5 w7 w9 <|
  K (t8 == 5) w9)
  (K false w7))
  (K false w7))
  (K false w7)) w6) w4
def law22_awake_ann : Ann := (.s .d (.s (.r [(1, .call rSl)]) (.s (.r [(1, .call (rT2 (rI .i64) rApiAnswer)), (5, .nl 3), (7, .ls 3)]) (.s (.r [(14, .call (rI .i64))]) .d))))
theorem law22_awake_calls {K : Bool → World → Prop} {w : World} (h : law22_awake K w) : callV Pr Value.bool 11 #[] w K :=
  calls_of Pr_plain Pr_mixed Pr_func11 law22_awake_ann rB (args := []) (by kernel_rfl) h

/- changeover/sess.Which -/
def sess_Which (l : Sl) (client : Int) (seq : Int) (K : (Int × ApiAnswer) → World → Prop) (w : World) : Prop :=
  newV (fun b1 w2 =>
  callV Pr (tval2 (Value.int .i64) Value.bool) 40 #[l.val, (.int .i64 client)] w2 fun t3 w4 =>
  kp b1 w2 w4 <|
  ifB (!t3.2)
  (wrM b1 (fun w5 =>
  K (0, (ApiAnswer.mk 0 0 0 false [] 0)) w5) w4)
  (opRd Pr (Instr.indexAt 22 l.val (.int .i64 t3.1)) pav (fun t6 =>
  opRd Pr (Instr.loadAt 3 (.pointer (some (t6.add 1)))) (Value.int .i64) (fun t7 =>
  ifB (decide (seq > t7))
  (wrM b1 (fun w8 =>
  K (0, (ApiAnswer.mk 0 0 0 false [] 0)) w8) w4)
  (opRd Pr (Instr.indexAt 22 l.val (.int .i64 t3.1)) pav (fun t9 =>
  opRd Pr (Instr.loadAt 3 (.pointer (some (t9.add 1)))) (Value.int .i64) (fun t10 =>
  ifB (seq == t10)
  (heldM (fun S12 w11 =>
  opH Pr S12 (Instr.indexAt 22 l.val (.int .i64 t3.1)) pav (fun t13 =>
  opH Pr S12 (Instr.loadAt 27 (.pointer (some (t13.add 2)))) ApiAnswer.val (fun t14 =>
  wrM b1 (fun w15 =>
  (S12 w15) ∧
  (K (1, t14) w15)) w11))) w4)
  (wrM b1 (fun w16 =>
  K (2, (ApiAnswer.mk 0 0 0 false [] 0)) w16) w4)) w4) w4)) w4) w4)) w
def sess_Which_ann : Ann := (.s (.r [(1, .nl 7)]) (.s (.r [(2, .call (rT2 (rI .i64) rB))]) (.s (.b (.s (.r [(6, .rd rPA), (8, .rd (rI .i64))]) (.c (.s (.r [(2, .ls 7)]) .d) (.s (.r [(3, .rd rPA), (5, .rd (rI .i64))]) (.c (.s (.h (.take 0 (.take 1 (.take 2 (.take 3 (.take 4 (.take 5 (.one 6 .done))))))) [(2, .rd rPA), (4, .rd rApiAnswer), (6, .ls 7)]) .d) .d))))) (.s (.r [(2, .ls 7)]) .d))))
theorem sess_Which_calls {l : Sl} {client : Int} {seq : Int} {K : (Int × ApiAnswer) → World → Prop} {w : World} (h : sess_Which l client seq K w) : callV Pr (tval2 (Value.int .i64) ApiAnswer.val) 12 #[l.val, (.int .i64 client), (.int .i64 seq)] w K :=
  calls_of Pr_plain Pr_mixed Pr_func12 sess_Which_ann (rT2 (rI .i64) rApiAnswer) (args := [l.val, (.int .i64 client), (.int .i64 seq)]) (by kernel_rfl) h

/- changeover/changeoverref22.Last -/
def ref22_Last (l : Sl) (client : Int) (K : (Int × ApiAnswer) → World → Prop) (w : World) : Prop :=
  newV (fun b1 w2 =>
  loop2 (0 : Int) ((ApiAnswer.mk 0 0 0 false [] 0) : ApiAnswer) (fun i3 t4 k5 w6 =>
  ifB (decide (i3 < (l.len : Int)))
  (opRd Pr (Instr.indexAt 22 l.val (.int .i64 i3)) pav (fun t7 =>
  opRd Pr (Instr.loadAt 3 (.pointer (some (t7.add 0)))) (Value.int .i64) (fun t8 =>
  ifB (t8 == client)
  (heldM (fun S10 w9 =>
  opH Pr S10 (Instr.indexAt 22 l.val (.int .i64 i3)) pav (fun t11 =>
  opH Pr S10 (Instr.loadAt 3 (.pointer (some (t11.add 1)))) (Value.int .i64) (fun t12 =>
  opH Pr S10 (Instr.indexAt 22 l.val (.int .i64 i3)) pav (fun t13 =>
  opH Pr S10 (Instr.loadAt 27 (.pointer (some (t13.add 2)))) ApiAnswer.val (fun t14 =>
  wrM b1 (fun w15 =>
  (S10 w15) ∧
  (K (t12, t14) w15)) w9))))) w6)
  (k5 (i64 (i3 + 1)) t4 w6)) w6) w6)
  (wrM b1 (fun w16 =>
  K (0, (ApiAnswer.mk 0 0 0 false [] 0)) w16) w6)) w2) w
def ref22_Last_ann : Ann := (.s (.r [(1, .nl 5)]) (.s (.s .d (.b (.l [(.s 6, (rI .i64)), (.h 5, rApiAnswer)] (.s (.s .d (.c .d .d)) (.s (.b (.s (.r [(2, .rd rPA), (4, .rd (rI .i64))]) (.c (.s (.h (.take 0 (.take 1 (.take 2 (.take 3 (.take 4 (.take 5 (.take 6 (.take 7 (.take 8 (.take 9 (.take 10 (.one 11 .done)))))))))))) [(2, .rd rPA), (4, .rd (rI .i64)), (7, .rd rPA), (9, .rd rApiAnswer), (11, .ls 5)]) .d) .d))) .d))))) (.s (.r [(2, .ls 5)]) .d)))
theorem ref22_Last_calls {l : Sl} {client : Int} {K : (Int × ApiAnswer) → World → Prop} {w : World} (h : ref22_Last l client K w) : callV Pr (tval2 (Value.int .i64) ApiAnswer.val) 13 #[l.val, (.int .i64 client)] w K :=
  calls_of Pr_plain Pr_mixed Pr_func13 ref22_Last_ann (rT2 (rI .i64) rApiAnswer) (args := [l.val, (.int .i64 client)]) (by kernel_rfl) h

/- changeover/changeoverref22.Has -/
def ref22_Has (l : Sl) (client : Int) (K : Bool → World → Prop) (w : World) : Prop :=
  loop1 (0 : Int) (fun i1 k2 w3 =>
  ifB (decide (i1 < (l.len : Int)))
  (opRd Pr (Instr.indexAt 22 l.val (.int .i64 i1)) pav (fun t4 =>
  opRd Pr (Instr.loadAt 3 (.pointer (some (t4.add 0)))) (Value.int .i64) (fun t5 =>
  ifB (t5 == client)
  (K true w3)
  (k2 (i64 (i1 + 1)) w3)) w3) w3)
  (K false w3)) w
def ref22_Has_ann : Ann := (.s .d (.s (.s .d (.b (.l [(.s 5, (rI .i64))] (.s (.s .d (.c .d .d)) (.s (.b (.s (.r [(2, .rd rPA), (4, .rd (rI .i64))]) (.c (.s .d .d) .d))) .d))))) (.s .d .d)))
theorem ref22_Has_calls {l : Sl} {client : Int} {K : Bool → World → Prop} {w : World} (h : ref22_Has l client K w) : callV Pr Value.bool 14 #[l.val, (.int .i64 client)] w K :=
  calls_of Pr_plain Pr_mixed Pr_func14 ref22_Has_ann rB (args := [l.val, (.int .i64 client)]) (by kernel_rfl) h

/- changeover/sess.Last -/
def sess_Last (l : Sl) (client : Int) (K : Int → World → Prop) (w : World) : Prop :=
  callV Pr (tval2 (Value.int .i64) Value.bool) 40 #[l.val, (.int .i64 client)] w fun t1 w2 =>
  ifB t1.2
  (opRd Pr (Instr.indexAt 22 l.val (.int .i64 t1.1)) pav (fun t3 =>
  opRd Pr (Instr.loadAt 3 (.pointer (some (t3.add 1)))) (Value.int .i64) (fun t4 =>
  K t4 w2) w2) w2)
  (K 0 w2)
def sess_Last_ann : Ann := (.s .d (.s (.s (.r [(2, .call (rT2 (rI .i64) rB))]) (.s .d (.c (.s (.r [(2, .rd rPA), (4, .rd (rI .i64))]) .d) .d))) (.s .d .d)))
theorem sess_Last_calls {l : Sl} {client : Int} {K : Int → World → Prop} {w : World} (h : sess_Last l client K w) : callV Pr (Value.int .i64) 15 #[l.val, (.int .i64 client)] w K :=
  calls_of Pr_plain Pr_mixed Pr_func15 sess_Last_ann (rI .i64) (args := [l.val, (.int .i64 client)]) (by kernel_rfl) h

/- changeover/sess.With -/
def sess_With (l : Sl) (a : ApiAnswer) (K : Sl → World → Prop) (w : World) : Prop :=
  newV (fun b1 w2 =>
  newV (fun b3 w4 =>
  wrM b3 (fun w5 =>
  callV Pr (tval2 (Value.int .i64) Value.bool) 40 #[l.val, (.int .i64 a.Client)] w5 fun t6 w7 =>
  kp b3 w5 w7 <|
  kp b1 w5 w7 <|
  callV Pr Sl.val 41 #[l.val] w7 fun out8 w9 =>
  kp b3 w7 w9 <|
  kp b1 w7 w9 <|
  ifB t6.2
  (opRd Pr (Instr.indexAt 22 out8.val (.int .i64 t6.1)) pav (fun t10 =>
  opUn Pr (Instr.storeAt 59 (.pointer (some t10)) (.agg ⟨[(.int .i64 a.Client), (.int .i64 a.Seq), (.int .i64 a.Client), (.int .i64 a.Seq), (.int .i64 a.Err), (.bool a.Found), (sval a.Val), (.int .i64 a.Rev)]⟩)) (fun w11 =>
  kp b3 w9 w11 <|
  kp b1 w9 w11 <|
  K out8 w11) w9) w9)
  (opTy Pr (Instr.buildSlice 22 1 #[(0, (.agg ⟨[(.int .i64 a.Client), (.int .i64 a.Seq), (.int .i64 a.Client), (.int .i64 a.Seq), (.int .i64 a.Err), (.bool a.Found), (sval a.Val), (.int .i64 a.Rev)]⟩))]) Sl.val (fun t12 w13 =>
  kp b3 w9 w13 <|
  kp b1 w9 w13 <|
  callV Pr Sl.val 42 #[out8.val, (.int .i64 t6.1), t12.val] w13 fun t14 w15 =>
  kp b3 w13 w15 <|
  kp b1 w13 w15 <|
  K t14 w15) w9)) w4) w2) w
def sess_With_ann : Ann := (.s (.r [(0, .nl 3)]) (.s (.r [(6, .nl 5), (7, .ls 5)]) (.s (.r [(3, .call (rT2 (rI .i64) rB))]) (.s (.r [(1, .call rSl)]) (.s (.s .d (.c (.s (.r [(3, .rd rPA), (4, .un)]) (.s .d .d)) .d)) (.s (.r [(3, .ty rSl), (4, .call rSl)]) .d))))))
theorem sess_With_calls {l : Sl} {a : ApiAnswer} {K : Sl → World → Prop} {w : World} (h : sess_With l a K w) : callV Pr Sl.val 16 #[l.val, (.agg ⟨a.cs⟩)] w K :=
  calls_of Pr_plain Pr_mixed Pr_func16 sess_With_ann rSl (args := [l.val, (.agg ⟨a.cs⟩)]) (by kernel_rfl) h

/- changeover/changeoverref22.Same -/
def ref22_Same (a : Sl) (b : Sl) (K : Bool → World → Prop) (w : World) : Prop :=
  ifB ((a.len : Int) != (b.len : Int))
  (K false w)
  (loop1 (0 : Int) (fun i1 k2 w3 =>
  ifB (decide (i1 < (a.len : Int)))
  (drewM (fun w4 =>
  opRd Pr (Instr.indexAt 22 a.val (.int .i64 i1)) pav (fun t5 =>
  opRd Pr (Instr.loadAt 59 (.pointer (some t5))) ApiSession.val (fun t6 =>
  opRd Pr (Instr.indexAt 22 b.val (.int .i64 i1)) pav (fun t7 =>
  opRd Pr (Instr.loadAt 59 (.pointer (some t7))) ApiSession.val (fun t8 =>
  opRd Pr (binSem .neq 59 (.tmp 20) (.tmp 24) (.agg ⟨t6.cs⟩) (.agg ⟨t8.cs⟩)) Value.bool (fun t9 =>
  ifB t9
  (K false w4)
  (k2 (i64 (i1 + 1)) w4)) w4) w4) w4) w4) w4) w3)
  (K true w3)) w)
def ref22_Same_ann : Ann := (.s .d (.s (.s .d (.c (.s .d .d) .d)) (.s (.s .d (.b (.l [(.s 5, (rI .i64))] (.s (.s .d (.c .d .d)) (.s (.b (.s (.r [(2, .rd rPA), (3, .rd rApiSession), (6, .rd rPA), (7, .rd rApiSession), (8, .rd rB)]) (.c (.s .d .d) .d))) .d))))) (.s .d .d))))
theorem ref22_Same_calls {a : Sl} {b : Sl} {K : Bool → World → Prop} {w : World} (h : ref22_Same a b K w) : callV Pr Value.bool 17 #[a.val, b.val] w K :=
  calls_of Pr_plain Pr_mixed Pr_func17 ref22_Same_ann rB (args := [a.val, b.val]) (by kernel_rfl) h

/- changeover/changeoverref22.With -/
def ref22_With (l : Sl) (a : ApiAnswer) (K : Sl → World → Prop) (w : World) : Prop :=
  newV (fun b1 w2 =>
  loop3 (Sl.nil : Sl) (false : Bool) (0 : Int) (fun out3 done4 i5 k6 w7 =>
  ifB (decide (i5 < (l.len : Int)))
  (join2 (fun (j8 : Sl → Bool → World → Prop) =>
  drewM (fun w9 =>
  ifB (!done4)
  (opRd Pr (Instr.indexAt 22 l.val (.int .i64 i5)) pav (fun t10 =>
  opRd Pr (Instr.loadAt 3 (.pointer (some (t10.add 0)))) (Value.int .i64) (fun t11 =>
  ifB (decide (t11 ≥ a.Client))
  (opTy Pr (Instr.buildSlice 22 1 #[(0, (.agg ⟨[(.int .i64 a.Client), (.int .i64 a.Seq), (.int .i64 a.Client), (.int .i64 a.Seq), (.int .i64 a.Err), (.bool a.Found), (sval a.Val), (.int .i64 a.Rev)]⟩))]) Sl.val (fun t12 w13 =>
  kp b1 w9 w13 <|
  opTy Pr (Builtin.append_ #[22, 22] 22 #[out3.val, t12.val]) Sl.val (fun out14 w15 =>
  kp b1 w13 w15 <|
  j8 out14 true w15) w13) w9)
  (j8 out3 done4 w9)) w9) w9)
  (j8 out3 done4 w9)) w7)
  (fun out16 done17 w18 =>
  drewM (fun w19 =>
  opRd Pr (Instr.indexAt 22 l.val (.int .i64 i5)) pav (fun t20 =>
  opRd Pr (Instr.loadAt 3 (.pointer (some (t20.add 0)))) (Value.int .i64) (fun t21 =>
  ifB (t21 != a.Client)
  (opRd Pr (Instr.indexAt 22 l.val (.int .i64 i5)) pav (fun t22 =>
  opRd Pr (Instr.loadAt 59 (.pointer (some t22))) ApiSession.val (fun t23 =>
  opTy Pr (Instr.buildSlice 22 1 #[(0, (.agg ⟨t23.cs⟩))]) Sl.val (fun t24 w25 =>
  kp b1 w19 w25 <|
  opTy Pr (Builtin.append_ #[22, 22] 22 #[out16.val, t24.val]) Sl.val (fun out26 w27 =>
  kp b1 w25 w27 <|
  k6 out26 done17 (i64 (i5 + 1)) w27) w25) w19) w19) w19)
  (k6 out16 done17 (i64 (i5 + 1)) w19)) w19) w19) w18))
  (ifB (!done4)
  (opTy Pr (Instr.buildSlice 22 1 #[(0, (.agg ⟨[(.int .i64 a.Client), (.int .i64 a.Seq), (.int .i64 a.Client), (.int .i64 a.Seq), (.int .i64 a.Err), (.bool a.Found), (sval a.Val), (.int .i64 a.Rev)]⟩))]) Sl.val (fun t28 w29 =>
  kp b1 w7 w29 <|
  opTy Pr (Builtin.append_ #[22, 22] 22 #[out3.val, t28.val]) Sl.val (fun out30 w31 =>
  kp b1 w29 w31 <|
  K out30 w31) w29) w7)
  (K out3 w7))) w2) w
def ref22_With_ann : Ann := (.s (.r [(0, .nl 3)]) (.s .d (.s .d (.s (.s .d (.b (.l [(.s 5, rSl), (.s 6, rB), (.s 7, (rI .i64))] (.s (.s .d (.c .d .d)) (.s (.b (.sj [(.s 5, rSl), (.s 6, rB)] (.s (.r [(5, .rd rPA), (7, .rd (rI .i64))]) (.c (.s (.r [(7, .ty rSl), (8, .ty rSl)]) .d) .d)) (.s (.r [(2, .rd rPA), (4, .rd (rI .i64))]) (.c (.r [(3, .rd rPA), (4, .rd rApiSession), (5, .ty rSl), (6, .ty rSl)]) .d)))) .d))))) (.s (.s .d (.c (.r [(7, .ty rSl), (8, .ty rSl)]) .d)) (.s .d .d))))))
theorem ref22_With_calls {l : Sl} {a : ApiAnswer} {K : Sl → World → Prop} {w : World} (h : ref22_With l a K w) : callV Pr Sl.val 18 #[l.val, (.agg ⟨a.cs⟩)] w K :=
  calls_of Pr_plain Pr_mixed Pr_func18 ref22_With_ann rSl (args := [l.val, (.agg ⟨a.cs⟩)]) (by kernel_rfl) h

/- changeover/changeoverref23.Large -/
def ref23_Large (l : Sl) (K : Bool → World → Prop) (w : World) : Prop :=
  loop1 (0 : Int) (fun i1 k2 w3 =>
  ifB (decide (i1 < (l.len : Int)))
  (ifB (decide (i1 < 80))
  (opRd Pr (Instr.indexAt 37 l.val (.int .i64 i1)) pav (fun t4 =>
  opRd Pr (Instr.loadAt 9 (.pointer (some (t4.add 0)))) sval (fun t5 =>
  ifB (decide (((t5 : List UInt8).length : Int) > 200))
  (K true w3)
  (opRd Pr (Instr.indexAt 37 l.val (.int .i64 i1)) pav (fun t6 =>
  opRd Pr (Instr.loadAt 9 (.pointer (some (t6.add 1)))) sval (fun t7 =>
  ifB (decide (((t7 : List UInt8).length : Int) > 200))
  (K true w3)
  (k2 (i64 (i1 + 1)) w3)) w3) w3)) w3) w3)
  (K (decide ((l.len : Int) > 80)) w3))
  (K (decide ((l.len : Int) > 80)) w3)) w
def ref23_Large_ann : Ann := (.s .d (.s (.s .d (.b (.l [(.s 3, (rI .i64))] (.s (.s .d (.c .d .d)) (.s (.b (.s (.r [(2, .rd rPA), (4, .rd rS), (10, .rd rPA), (12, .rd rS)]) (.c (.s .d .d) .d))) .d))))) (.s .d .d)))
theorem ref23_Large_calls {l : Sl} {K : Bool → World → Prop} {w : World} (h : ref23_Large l K w) : callV Pr Value.bool 19 #[l.val] w K :=
  calls_of Pr_plain Pr_mixed Pr_func19 ref23_Large_ann rB (args := [l.val]) (by kernel_rfl) h

/- changeover/changeoverlaw23.large -/
def law23_large (c : ApiCmd) (K : Bool → World → Prop) (w : World) : Prop :=
  newV (fun b1 w2 =>
  ifB (decide (((c.Key : List UInt8).length : Int) > 200))
  (K true w2)
  (ifB (decide (((c.Val : List UInt8).length : Int) > 200))
  (K true w2)
  (K (decide (((c.Old : List UInt8).length : Int) > 200)) w2))) w
def law23_large_ann : Ann := (.s (.r [(0, .nl 1)]) (.s .d .d))
theorem law23_large_calls {c : ApiCmd} {K : Bool → World → Prop} {w : World} (h : law23_large c K w) : callV Pr Value.bool 20 #[(.agg ⟨c.cs⟩)] w K :=
  calls_of Pr_plain Pr_mixed Pr_func20 law23_large_ann rB (args := [(.agg ⟨c.cs⟩)]) (by kernel_rfl) h

/- changeover/changeoverref23.Rise -/
def ref23_Rise (l : Sl) (K : Bool → World → Prop) (w : World) : Prop :=
  loop1 (1 : Int) (fun i1 k2 w3 =>
  ifB (decide (i1 < (l.len : Int)))
  (drewM (fun w4 =>
  opRd Pr (Instr.indexAt 37 l.val (.int .i64 i1)) pav (fun t5 =>
  opRd Pr (Instr.loadAt 9 (.pointer (some (t5.add 0)))) sval (fun t6 =>
  opRd Pr (Instr.indexAt 37 l.val (.int .i64 (i64 (i1 - 1)))) pav (fun t7 =>
  opRd Pr (Instr.loadAt 9 (.pointer (some (t7.add 0)))) sval (fun t8 =>
  ifB ((strLt t6 t8) || (strEq t6 t8))
  (K false w4)
  (k2 (i64 (i1 + 1)) w4)) w4) w4) w4) w4) w3)
  (K true w3)) w
def ref23_Rise_ann : Ann := (.s .d (.s (.s .d (.b (.l [(.s 3, (rI .i64))] (.s (.s .d (.c .d .d)) (.s (.b (.s (.r [(2, .rd rPA), (4, .rd rS), (8, .rd rPA), (10, .rd rS)]) (.c (.s .d .d) .d))) .d))))) (.s .d .d)))
theorem ref23_Rise_calls {l : Sl} {K : Bool → World → Prop} {w : World} (h : ref23_Rise l K w) : callV Pr Value.bool 21 #[l.val] w K :=
  calls_of Pr_plain Pr_mixed Pr_func21 ref23_Rise_ann rB (args := [l.val]) (by kernel_rfl) h

/- changeover/changeoverlaw23.awake -/
def law23_awake (K : Bool → World → Prop) (w : World) : Prop :=
  callV Pr (tval2 Sl.val ApiAnswer.val) 23 #[Sl.nil.val, (.agg ⟨[(.int .i64 2), (.int .i64 1), (.int .i64 1), (sval [97]), (sval [49]), (sval []), (.int .i64 0)]⟩)] w fun t1 w2 =>
  newV (fun b3 w4 =>
  wrM b3 (fun w5 =>
  callV Pr (tval2 Sl.val ApiAnswer.val) 23 #[t1.1.val, (.agg ⟨[(.int .i64 3), (.int .i64 1), (.int .i64 2), (sval [97]), (sval []), (sval []), (.int .i64 0)]⟩)] w5 fun t6 w7 =>
  kp b3 w5 w7 <|
  newV (fun b8 w9 =>
  wrM b8 (fun w10 =>
  ifB ((t1.1.len : Int) == 1)
  (ifB t6.2.Found
  (K (strEq t6.2.Val [49]) w10)
  (K false w10))
  (K false w10)) w9) w7) w4) w2
def law23_awake_ann : Ann := (.s .d (.s (.r [(1, .call (rT2 rSl rApiAnswer)), (5, .nl 2), (7, .ls 2)]) (.s (.r [(2, .call (rT2 rSl rApiAnswer)), (6, .nl 4), (8, .ls 4)]) (.s .d .d))))
theorem law23_awake_calls {K : Bool → World → Prop} {w : World} (h : law23_awake K w) : callV Pr Value.bool 22 #[] w K :=
  calls_of Pr_plain Pr_mixed Pr_func22 law23_awake_ann rB (args := []) (by kernel_rfl) h

/- changeover/kvone.Do -/
def kvone_Do (l : Sl) (c : ApiCmd) (K : (Sl × ApiAnswer) → World → Prop) (w : World) : Prop :=
  newV (fun b1 w2 =>
  newV (fun b3 w4 =>
  callV Pr Sl.val 43 #[l.val] w4 fun out5 w6 =>
  kp b3 w4 w6 <|
  kp b1 w4 w6 <|
  newV (fun b7 w8 =>
  wrM b7 (fun w9 =>
  callV Pr (tval2 ApiPair.val Value.bool) 24 #[l.val, (sval c.Key)] w9 fun t10 w11 =>
  kp b7 w9 w11 <|
  kp b3 w9 w11 <|
  kp b1 w9 w11 <|
  newV (fun b12 w13 =>
  wrM b12 (fun w14 =>
  join3 (fun (j15 : Sl → ApiAnswer → ApiAnswer → World → Prop) =>
  ifB (c.Kind == 2)
  (callV Pr (tval2 Sl.val Value.bool) 44 #[out5.val, (.agg ⟨[(sval c.Key), (sval c.Val), (.int .i64 0)]⟩)] w14 fun t16 w17 =>
  kp b12 w14 w17 <|
  kp b7 w14 w17 <|
  kp b3 w14 w17 <|
  kp b1 w14 w17 <|
  ifB (!t16.2)
  (wrM b7 (fun w18 =>
  heldM (fun S20 w19 =>
  wrM b3 (fun w21 =>
  (S20 w21) ∧
  (K (out5, (ApiAnswer.mk c.Client c.Seq 11 false [] 0)) w21)) w19) w18) w17)
  (j15 t16.1 (ApiAnswer.mk 0 0 0 false [] 0) (ApiAnswer.mk c.Client c.Seq 0 false [] 0) w17))
  (ifB (c.Kind == 3)
  (j15 out5 (ApiAnswer.mk 0 0 0 false [] 0) (ApiAnswer.mk c.Client c.Seq 0 false [] 0) w14)
  (ifB (c.Kind == 4)
  (callV Pr Sl.val 45 #[out5.val, (sval c.Key)] w14 fun out22 w23 =>
  kp b12 w14 w23 <|
  kp b7 w14 w23 <|
  kp b3 w14 w23 <|
  kp b1 w14 w23 <|
  j15 out22 (ApiAnswer.mk 0 0 0 false [] 0) (ApiAnswer.mk c.Client c.Seq 0 false [] 0) w23)
  (wrM b7 (fun w24 =>
  heldM (fun S26 w25 =>
  wrM b3 (fun w27 =>
  (S26 w27) ∧
  (K (out5, (ApiAnswer.mk c.Client c.Seq 8 false [] 0)) w27)) w25) w24) w14))))
  (fun out28 t29 a30 w31 =>
  heldM (fun S33 w32 =>
  wrM b7 (fun w34 =>
  (S33 w34) ∧
  (wrM b7 (fun w35 =>
  (S33 w35) ∧
  (heldM (fun S37 w36 =>
  wrM b3 (fun w38 =>
  (S37 w38) ∧
  (K (out28, (ApiAnswer.mk a30.Client a30.Seq a30.Err t10.2 t10.1.Val a30.Rev)) w38)) w36) w35)) w34)) w32) w31)) w13) w11) w8) w6) w2) w
def kvone_Do_ann : Ann := (.s (.r [(0, .nl 3), (2, .nl 5)]) (.s (.r [(1, .call rSl)]) (.s (.r [(5, .nl 7), (6, .ls 7)]) (.s (.r [(3, .call (rT2 rApiPair rB)), (7, .nl 8), (8, .ls 8)]) (.sj [(.s 6, rSl), (.h 5, rApiAnswer), (.h 7, rApiAnswer)] (.s .d (.b (.s .d (.c (.s (.r [(6, .call (rT2 rSl rB))]) (.s (.s .d (.c (.s (.r [(1, .ls 7)]) (.s (.h (.take 0 (.take 1 (.take 2 (.one 3 .done)))) [(3, .ls 5)]) .d)) .d)) .d)) (.s .d (.c .d (.s .d (.c (.r [(3, .call rSl)]) (.s (.r [(1, .ls 7)]) (.s (.h (.take 0 (.take 1 (.take 2 (.one 3 .done)))) [(3, .ls 5)]) .d)))))))))) (.s (.h (.take 0 (.take 1 (.take 2 (.take 3 (.one 4 (.take 5 (.one 6 .done))))))) [(4, .ls 7), (6, .ls 7)]) (.s (.h (.take 0 (.take 1 (.take 2 (.one 3 .done)))) [(3, .ls 5)]) .d)))))))
theorem kvone_Do_calls {l : Sl} {c : ApiCmd} {K : (Sl × ApiAnswer) → World → Prop} {w : World} (h : kvone_Do l c K w) : callV Pr (tval2 Sl.val ApiAnswer.val) 23 #[l.val, (.agg ⟨c.cs⟩)] w K :=
  calls_of Pr_plain Pr_mixed Pr_func23 kvone_Do_ann (rT2 rSl rApiAnswer) (args := [l.val, (.agg ⟨c.cs⟩)]) (by kernel_rfl) h

/- changeover/kvone.Find -/
def kvone_Find (l : Sl) (key : List UInt8) (K : (ApiPair × Bool) → World → Prop) (w : World) : Prop :=
  newV (fun b1 w2 =>
  callV Pr (tval2 (Value.int .i64) Value.bool) 46 #[l.val, (sval key)] w2 fun t3 w4 =>
  kp b1 w2 w4 <|
  ifB (!t3.2)
  (wrM b1 (fun w5 =>
  K ((ApiPair.mk [] [] 0), false) w5) w4)
  (opRd Pr (Instr.indexAt 37 l.val (.int .i64 t3.1)) pav (fun t6 =>
  opRd Pr (Instr.loadAt 45 (.pointer (some t6))) ApiPair.val (fun t7 =>
  wrM b1 (fun w8 =>
  K (t7, true) w8) w4) w4) w4)) w
def kvone_Find_ann : Ann := (.s (.r [(0, .nl 4)]) (.s (.r [(2, .call (rT2 (rI .i64) rB))]) (.s (.s .d (.c (.s (.r [(1, .ls 4)]) .d) .d)) (.s (.r [(2, .rd rPA), (3, .rd rApiPair), (4, .ls 4)]) .d))))
theorem kvone_Find_calls {l : Sl} {key : List UInt8} {K : (ApiPair × Bool) → World → Prop} {w : World} (h : kvone_Find l key K w) : callV Pr (tval2 ApiPair.val Value.bool) 24 #[l.val, (sval key)] w K :=
  calls_of Pr_plain Pr_mixed Pr_func24 kvone_Find_ann (rT2 rApiPair rB) (args := [l.val, (sval key)]) (by kernel_rfl) h

/- changeover/changeoverref23.Check -/
def ref23_Check (schema : Int) (l : Sl) (K : Bool → World → Prop) (w : World) : Prop :=
  loop1 (0 : Int) (fun i1 k2 w3 =>
  ifB (decide (i1 < (l.len : Int)))
  (opRd Pr (Instr.indexAt 37 l.val (.int .i64 i1)) pav (fun t4 =>
  opRd Pr (Instr.loadAt 9 (.pointer (some (t4.add 0)))) sval (fun t5 =>
  callV Pr Value.bool 47 #[(sval t5)] w3 fun t6 w7 =>
  ifB (!t6)
  (K false w7)
  (opRd Pr (Instr.indexAt 37 l.val (.int .i64 i1)) pav (fun t8 =>
  opRd Pr (Instr.loadAt 9 (.pointer (some (t8.add 1)))) sval (fun t9 =>
  callV Pr Value.bool 48 #[(sval t9)] w7 fun t10 w11 =>
  ifB (!t10)
  (K false w11)
  (ifB (schema == 1)
  (opRd Pr (Instr.indexAt 37 l.val (.int .i64 i1)) pav (fun t12 =>
  opRd Pr (Instr.loadAt 3 (.pointer (some (t12.add 2)))) (Value.int .i64) (fun t13 =>
  ifB (t13 != 0)
  (K false w11)
  (ifB (schema == 2)
  (opRd Pr (Instr.indexAt 37 l.val (.int .i64 i1)) pav (fun t14 =>
  opRd Pr (Instr.loadAt 3 (.pointer (some (t14.add 2)))) (Value.int .i64) (fun t15 =>
  ifB (decide (t15 < 1))
  (K false w11)
  (opRd Pr (Instr.indexAt 37 l.val (.int .i64 i1)) pav (fun t16 =>
  opRd Pr (Instr.loadAt 3 (.pointer (some (t16.add 2)))) (Value.int .i64) (fun t17 =>
  ifB (decide (t17 > 4294967296))
  (K false w11)
  (k2 (i64 (i1 + 1)) w11)) w11) w11)) w11) w11)
  (k2 (i64 (i1 + 1)) w11))) w11) w11)
  (ifB (schema == 2)
  (opRd Pr (Instr.indexAt 37 l.val (.int .i64 i1)) pav (fun t18 =>
  opRd Pr (Instr.loadAt 3 (.pointer (some (t18.add 2)))) (Value.int .i64) (fun t19 =>
  ifB (decide (t19 < 1))
  (K false w11)
  (opRd Pr (Instr.indexAt 37 l.val (.int .i64 i1)) pav (fun t20 =>
  opRd Pr (Instr.loadAt 3 (.pointer (some (t20.add 2)))) (Value.int .i64) (fun t21 =>
  ifB (decide (t21 > 4294967296))
  (K false w11)
  (k2 (i64 (i1 + 1)) w11)) w11) w11)) w11) w11)
  (k2 (i64 (i1 + 1)) w11)))) w7) w7)) w3) w3)
  (ifB (decide ((l.len : Int) ≤ 64))
  (callV Pr Value.bool 21 #[l.val] w3 fun t22 w23 =>
  K t22 w23)
  (K false w3))) w
def ref23_Check_ann : Ann := (.s .d (.s (.s .d (.b (.l [(.s 5, (rI .i64))] (.s (.s .d (.c .d .d)) (.s (.b (.s (.s (.r [(2, .rd rPA), (4, .rd rS), (5, .call rB), (10, .rd rPA), (12, .rd rS), (13, .call rB)]) (.c (.s .d .d) .d)) (.s (.r [(5, .rd rPA), (7, .rd (rI .i64)), (16, .rd rPA), (18, .rd (rI .i64)), (23, .rd rPA), (25, .rd (rI .i64))]) (.c (.s .d .d) .d)))) .d))))) (.s (.r [(5, .call rB)]) .d)))
theorem ref23_Check_calls {schema : Int} {l : Sl} {K : Bool → World → Prop} {w : World} (h : ref23_Check schema l K w) : callV Pr Value.bool 25 #[(.int .i64 schema), l.val] w K :=
  calls_of Pr_plain Pr_mixed Pr_func25 ref23_Check_ann rB (args := [(.int .i64 schema), l.val]) (by kernel_rfl) h

/- changeover/changeoverlaw24.large -/
def law24_large (c : ApiCmd) (K : Bool → World → Prop) (w : World) : Prop :=
  newV (fun b1 w2 =>
  ifB (decide (((c.Key : List UInt8).length : Int) > 200))
  (K true w2)
  (ifB (decide (((c.Val : List UInt8).length : Int) > 200))
  (K true w2)
  (K (decide (((c.Old : List UInt8).length : Int) > 200)) w2))) w
def law24_large_ann : Ann := (.s (.r [(0, .nl 1)]) (.s .d .d))
theorem law24_large_calls {c : ApiCmd} {K : Bool → World → Prop} {w : World} (h : law24_large c K w) : callV Pr Value.bool 26 #[(.agg ⟨c.cs⟩)] w K :=
  calls_of Pr_plain Pr_mixed Pr_func26 law24_large_ann rB (args := [(.agg ⟨c.cs⟩)]) (by kernel_rfl) h

/- changeover/changeoverlaw24.awake -/
def law24_awake (K : Bool → World → Prop) (w : World) : Prop :=
  callV Pr (tval2 Sl.val ApiAnswer.val) 28 #[Sl.nil.val, (.agg ⟨[(.int .i64 2), (.int .i64 1), (.int .i64 1), (sval [97]), (sval [49]), (sval []), (.int .i64 0)]⟩)] w fun t1 w2 =>
  newV (fun b3 w4 =>
  wrM b3 (fun w5 =>
  callV Pr (tval2 Sl.val ApiAnswer.val) 28 #[t1.1.val, (.agg ⟨[(.int .i64 5), (.int .i64 1), (.int .i64 2), (sval [97]), (sval [50]), (sval [49]), (.int .i64 0)]⟩)] w5 fun t6 w7 =>
  kp b3 w5 w7 <|
  newV (fun b8 w9 =>
  wrM b8 (fun w10 =>
  ifB ((t6.1.len : Int) == 1)
  (opRd Pr (Instr.indexAt 37 t6.1.val (.int .i64 0)) pav (fun t11 =>
  opRd Pr (Instr.loadAt 3 (.pointer (some (t11.add 2)))) (Value.int .i64) (fun t12 =>
  ifB (t12 == 2)
  (ifB t6.2.Found
  (ifB (strEq t6.2.Val [49])
  (K (t6.2.Rev == 2) w10)
  (K false w10))
  (K false w10))
  (K false w10)) w10) w10)
  (K false w10)) w9) w7) w4) w2
def law24_awake_ann : Ann := (.s .d (.s (.r [(1, .call (rT2 rSl rApiAnswer)), (5, .nl 2), (7, .ls 2)]) (.s (.r [(2, .call (rT2 rSl rApiAnswer)), (6, .nl 3), (8, .ls 3)]) (.s (.r [(5, .rd rPA), (7, .rd (rI .i64))]) .d))))
theorem law24_awake_calls {K : Bool → World → Prop} {w : World} (h : law24_awake K w) : callV Pr Value.bool 27 #[] w K :=
  calls_of Pr_plain Pr_mixed Pr_func27 law24_awake_ann rB (args := []) (by kernel_rfl) h

/- changeover/kvtwo.Do -/
def kvtwo_Do (l : Sl) (c : ApiCmd) (K : (Sl × ApiAnswer) → World → Prop) (w : World) : Prop :=
  newV (fun b1 w2 =>
  newV (fun b3 w4 =>
  callV Pr Sl.val 43 #[l.val] w4 fun out5 w6 =>
  kp b3 w4 w6 <|
  kp b1 w4 w6 <|
  ifB (c.Kind == 5)
  (callV Pr (tval2 Sl.val ApiAnswer.val) 49 #[out5.val, (.agg ⟨[(.int .i64 c.Kind), (.int .i64 c.Client), (.int .i64 c.Seq), (sval c.Key), (sval c.Val), (sval c.Old), (.int .i64 c.Node)]⟩)] w6 fun t7 w8 =>
  kp b3 w6 w8 <|
  kp b1 w6 w8 <|
  wrM b3 (fun w9 =>
  K (t7.1, (ApiAnswer.mk t7.2.Client t7.2.Seq t7.2.Err t7.2.Found t7.2.Val t7.2.Rev)) w9) w8)
  (callV Pr (tval2 ApiPair.val Value.bool) 24 #[out5.val, (sval c.Key)] w6 fun t10 w11 =>
  kp b3 w6 w11 <|
  kp b1 w6 w11 <|
  newV (fun b12 w13 =>
  wrM b12 (fun w14 =>
  callV Pr (tval2 Sl.val ApiAnswer.val) 23 #[out5.val, (.agg ⟨[(.int .i64 c.Kind), (.int .i64 c.Client), (.int .i64 c.Seq), (sval c.Key), (sval c.Val), (sval c.Old), (.int .i64 c.Node)]⟩)] w14 fun t15 w16 =>
  kp b12 w14 w16 <|
  kp b3 w14 w16 <|
  kp b1 w14 w16 <|
  newV (fun b17 w18 =>
  wrM b17 (fun w19 =>
  ifB (c.Kind == 2)
  (ifB (t15.2.Err == 0)
  (heldM (fun S21 w20 =>
  callV Pr (Value.int .i64) 51 #[(.int .i64 t10.1.Rev)] w20 fun t22 w23 =>
  kp b17 w20 w23 <|
  kp b12 w20 w23 <|
  kp b3 w20 w23 <|
  kp b1 w20 w23 <|
  (S21 w23) ∧
  (callV Pr Sl.val 50 #[t15.1.val, (.agg ⟨[(sval c.Key), (sval c.Val), (.int .i64 t22)]⟩)] w23 fun after24 w25 =>
  kp b17 w23 w25 <|
  kp b12 w23 w25 <|
  kp b3 w23 w25 <|
  kp b1 w23 w25 <|
  (S21 w25) ∧
  (heldM (fun S27 w26 =>
  wrM b3 (fun w28 =>
  (S27 w28) ∧
  (K (after24, (ApiAnswer.mk t15.2.Client t15.2.Seq t15.2.Err t15.2.Found t15.2.Val t15.2.Rev)) w28)) w26) w25))) w19)
  (heldM (fun S30 w29 =>
  wrM b3 (fun w31 =>
  (S30 w31) ∧
  (K (t15.1, (ApiAnswer.mk t15.2.Client t15.2.Seq t15.2.Err t15.2.Found t15.2.Val t15.2.Rev)) w31)) w29) w19))
  (heldM (fun S33 w32 =>
  wrM b3 (fun w34 =>
  (S33 w34) ∧
  (K (t15.1, (ApiAnswer.mk t15.2.Client t15.2.Seq t15.2.Err t15.2.Found t15.2.Val t15.2.Rev)) w34)) w32) w19)) w18) w16) w13) w11)) w2) w
def kvtwo_Do_ann : Ann := (.s (.r [(0, .nl 3), (2, .nl 5)]) (.s (.r [(1, .call rSl)]) (.s (.s .d (.c (.s (.r [(2, .call (rT2 rSl rApiAnswer)), (6, .ls 5)]) .d) .d)) (.s (.r [(3, .call (rT2 rApiPair rB)), (7, .nl 7), (8, .ls 7)]) (.s (.r [(2, .call (rT2 rSl rApiAnswer)), (6, .nl 10), (8, .ls 10)]) (.s (.s .d (.c (.h (.take 0 (.take 1 (.take 2 (.take 3 (.take 4 (.take 5 (.take 6 (.one 7 (.take 8 (.one 9 (.take 10 .done))))))))))) [(7, .call (rI .i64)), (9, .call rSl)]) .d)) (.s (.h (.take 0 (.take 1 (.take 2 (.one 3 .done)))) [(3, .ls 5)]) .d)))))))
theorem kvtwo_Do_calls {l : Sl} {c : ApiCmd} {K : (Sl × ApiAnswer) → World → Prop} {w : World} (h : kvtwo_Do l c K w) : callV Pr (tval2 Sl.val ApiAnswer.val) 28 #[l.val, (.agg ⟨c.cs⟩)] w K :=
  calls_of Pr_plain Pr_mixed Pr_func28 kvtwo_Do_ann (rT2 rSl rApiAnswer) (args := [l.val, (.agg ⟨c.cs⟩)]) (by kernel_rfl) h

/- changeover/changeoverref23.Place -/
def ref23_Place (l : Sl) (key : List UInt8) (K : Int → World → Prop) (w : World) : Prop :=
  loop1 (0 : Int) (fun i1 k2 w3 =>
  ifB (decide (i1 < (l.len : Int)))
  (opRd Pr (Instr.indexAt 37 l.val (.int .i64 i1)) pav (fun t4 =>
  opRd Pr (Instr.loadAt 9 (.pointer (some (t4.add 0)))) sval (fun t5 =>
  ifB (strEq t5 key)
  (K i1 w3)
  (k2 (i64 (i1 + 1)) w3)) w3) w3)
  (K (-1) w3)) w
def ref23_Place_ann : Ann := (.s .d (.s (.s .d (.b (.l [(.s 5, (rI .i64))] (.s (.s .d (.c .d .d)) (.s (.b (.s (.r [(2, .rd rPA), (4, .rd rS)]) (.c (.s .d .d) .d))) .d))))) (.s .d .d)))
theorem ref23_Place_calls {l : Sl} {key : List UInt8} {K : Int → World → Prop} {w : World} (h : ref23_Place l key K w) : callV Pr (Value.int .i64) 29 #[l.val, (sval key)] w K :=
  calls_of Pr_plain Pr_mixed Pr_func29 ref23_Place_ann (rI .i64) (args := [l.val, (sval key)]) (by kernel_rfl) h

/- changeover/changeoverref23.Same -/
def ref23_Same (a : Sl) (b : Sl) (K : Bool → World → Prop) (w : World) : Prop :=
  ifB ((a.len : Int) != (b.len : Int))
  (K false w)
  (loop1 (0 : Int) (fun i1 k2 w3 =>
  ifB (decide (i1 < (a.len : Int)))
  (drewM (fun w4 =>
  opRd Pr (Instr.indexAt 37 a.val (.int .i64 i1)) pav (fun t5 =>
  opRd Pr (Instr.loadAt 45 (.pointer (some t5))) ApiPair.val (fun t6 =>
  opRd Pr (Instr.indexAt 37 b.val (.int .i64 i1)) pav (fun t7 =>
  opRd Pr (Instr.loadAt 45 (.pointer (some t7))) ApiPair.val (fun t8 =>
  opRd Pr (binSem .neq 45 (.tmp 20) (.tmp 24) (.agg ⟨t6.cs⟩) (.agg ⟨t8.cs⟩)) Value.bool (fun t9 =>
  ifB t9
  (K false w4)
  (k2 (i64 (i1 + 1)) w4)) w4) w4) w4) w4) w4) w3)
  (K true w3)) w)
def ref23_Same_ann : Ann := (.s .d (.s (.s .d (.c (.s .d .d) .d)) (.s (.s .d (.b (.l [(.s 5, (rI .i64))] (.s (.s .d (.c .d .d)) (.s (.b (.s (.r [(2, .rd rPA), (3, .rd rApiPair), (6, .rd rPA), (7, .rd rApiPair), (8, .rd rB)]) (.c (.s .d .d) .d))) .d))))) (.s .d .d))))
theorem ref23_Same_calls {a : Sl} {b : Sl} {K : Bool → World → Prop} {w : World} (h : ref23_Same a b K w) : callV Pr Value.bool 30 #[a.val, b.val] w K :=
  calls_of Pr_plain Pr_mixed Pr_func30 ref23_Same_ann rB (args := [a.val, b.val]) (by kernel_rfl) h

/- changeover/changeoverref12.Large -/
def ref12_Large (l : Sl) (K : Bool → World → Prop) (w : World) : Prop :=
  loop1 (0 : Int) (fun i1 k2 w3 =>
  ifB (decide (i1 < (l.len : Int)))
  (ifB (decide (i1 < 40))
  (opRd Pr (Instr.indexAt 53 l.val (.int .i64 i1)) pav (fun t4 =>
  opRd Pr (Instr.loadAt 9 (.pointer (some ((t4.add 3).add 3)))) sval (fun t5 =>
  ifB (decide (((t5 : List UInt8).length : Int) > 200))
  (K true w3)
  (opRd Pr (Instr.indexAt 53 l.val (.int .i64 i1)) pav (fun t6 =>
  opRd Pr (Instr.loadAt 9 (.pointer (some ((t6.add 3).add 4)))) sval (fun t7 =>
  ifB (decide (((t7 : List UInt8).length : Int) > 200))
  (K true w3)
  (opRd Pr (Instr.indexAt 53 l.val (.int .i64 i1)) pav (fun t8 =>
  opRd Pr (Instr.loadAt 9 (.pointer (some ((t8.add 3).add 5)))) sval (fun t9 =>
  ifB (decide (((t9 : List UInt8).length : Int) > 200))
  (K true w3)
  (k2 (i64 (i1 + 1)) w3)) w3) w3)) w3) w3)) w3) w3)
  (K (decide ((l.len : Int) > 40)) w3))
  (K (decide ((l.len : Int) > 40)) w3)) w
def ref12_Large_ann : Ann := (.s .d (.s (.s .d (.b (.l [(.s 3, (rI .i64))] (.s (.s .d (.c .d .d)) (.s (.b (.s (.r [(2, .rd rPA), (5, .rd rS), (11, .rd rPA), (14, .rd rS), (21, .rd rPA), (24, .rd rS)]) (.c (.s .d .d) .d))) .d))))) (.s .d .d)))
theorem ref12_Large_calls {l : Sl} {K : Bool → World → Prop} {w : World} (h : ref12_Large l K w) : callV Pr Value.bool 31 #[l.val] w K :=
  calls_of Pr_plain Pr_mixed Pr_func31 ref12_Large_ann rB (args := [l.val]) (by kernel_rfl) h

/- changeover/changeoverref12.Rise -/
def ref12_Rise (l : Sl) (K : Bool → World → Prop) (w : World) : Prop :=
  loop1 (1 : Int) (fun i1 k2 w3 =>
  ifB (decide (i1 < (l.len : Int)))
  (drewM (fun w4 =>
  opRd Pr (Instr.indexAt 53 l.val (.int .i64 i1)) pav (fun t5 =>
  opRd Pr (Instr.loadAt 3 (.pointer (some (t5.add 0)))) (Value.int .i64) (fun t6 =>
  opRd Pr (Instr.indexAt 53 l.val (.int .i64 (i64 (i1 - 1)))) pav (fun t7 =>
  opRd Pr (Instr.loadAt 3 (.pointer (some (t7.add 0)))) (Value.int .i64) (fun t8 =>
  ifB (decide (t6 ≤ t8))
  (K false w4)
  (k2 (i64 (i1 + 1)) w4)) w4) w4) w4) w4) w3)
  (K true w3)) w
def ref12_Rise_ann : Ann := (.s .d (.s (.s .d (.b (.l [(.s 3, (rI .i64))] (.s (.s .d (.c .d .d)) (.s (.b (.s (.r [(2, .rd rPA), (4, .rd (rI .i64)), (8, .rd rPA), (10, .rd (rI .i64))]) (.c (.s .d .d) .d))) .d))))) (.s .d .d)))
theorem ref12_Rise_calls {l : Sl} {K : Bool → World → Prop} {w : World} (h : ref12_Rise l K w) : callV Pr Value.bool 32 #[l.val] w K :=
  calls_of Pr_plain Pr_mixed Pr_func32 ref12_Rise_ann rB (args := [l.val]) (by kernel_rfl) h

/- changeover/changeoverlaw32.awake -/
def law32_awake (K : Bool → World → Prop) (w : World) : Prop :=
  opTy Pr (Instr.buildSlice 53 3 #[(0, (.agg ⟨[(.int .i64 4), (.int .i64 0), (.int .i64 0), (.int .i64 0), (.int .i64 0), (.int .i64 0), (sval []), (sval []), (sval []), (.int .i64 0)]⟩)), (1, (.agg ⟨[(.int .i64 5), (.int .i64 0), (.int .i64 0), (.int .i64 0), (.int .i64 0), (.int .i64 0), (sval []), (sval []), (sval []), (.int .i64 0)]⟩)), (2, (.agg ⟨[(.int .i64 7), (.int .i64 0), (.int .i64 0), (.int .i64 0), (.int .i64 0), (.int .i64 0), (sval []), (sval []), (sval []), (.int .i64 0)]⟩))]) Sl.val (fun l1 w2 =>
  callV Pr Sl.val 52 #[l1.val, (.int .i64 3)] w2 fun t3 w4 =>
  ifB ((t3.len : Int) == 2)
  (callV Pr Sl.val 54 #[l1.val, (.int .i64 3)] w4 fun t5 w6 =>
  opTy Pr (Instr.buildSlice 77 1 #[(0, (.int .i64 6))]) Sl.val (fun t7 w8 =>
  callV Pr Value.bool 53 #[t5.val, t7.val] w8 fun t9 w10 =>
  ifB t9
  (callV Pr (Value.int .i64) 55 #[l1.val, (.int .i64 3)] w10 fun t11 w12 =>
  K (t11 == 7) w12)
  (K false w10)) w6)
  (K false w4)) w
def law32_awake_ann : Ann := (.s .d (.s (.r [(3, .ty rSl)]) (.s (.r [(1, .call rSl), (6, .call rSl), (7, .ty rSl), (8, .call rB), (12, .call (rI .i64))]) .d)))
theorem law32_awake_calls {K : Bool → World → Prop} {w : World} (h : law32_awake K w) : callV Pr Value.bool 33 #[] w K :=
  calls_of Pr_plain Pr_mixed Pr_func33 law32_awake_ann rB (args := []) (by kernel_rfl) h

/- changeover/ledger.Merge -/
def ledger_Merge (a : Sl) (b : Sl) (K : Sl → World → Prop) (w : World) : Prop :=
  callV Pr Sl.val 56 #[a.val] w fun out1 w2 =>
  loop2 (out1 : Sl) (0 : Int) (fun out3 t4 k5 w6 =>
  ifB (decide (t4 < (b.len : Int)))
  (opRd Pr (Instr.indexAt 53 b.val (.int .i64 t4)) pav (fun t7 =>
  opRd Pr (Instr.loadAt 74 (.pointer (some t7))) ApiEntry.val (fun t8 =>
  newV (fun b9 w10 =>
  wrM b9 (fun w11 =>
  callV Pr (tval2 ApiEntry.val Value.bool) 57 #[out3.val, (.int .i64 t8.Index)] w11 fun t12 w13 =>
  kp b9 w11 w13 <|
  newV (fun b14 w15 =>
  wrM b14 (fun w16 =>
  ifB (!t12.2)
  (callV Pr Sl.val 58 #[out3.val, (.agg ⟨[(.int .i64 t8.Index), (.int .i64 t8.Ballot.Round), (.int .i64 t8.Ballot.Node), (.int .i64 t8.Cmd.Kind), (.int .i64 t8.Cmd.Client), (.int .i64 t8.Cmd.Seq), (sval t8.Cmd.Key), (sval t8.Cmd.Val), (sval t8.Cmd.Old), (.int .i64 t8.Cmd.Node)]⟩)] w16 fun out17 w18 =>
  kp b14 w16 w18 <|
  kp b9 w16 w18 <|
  k5 out17 (i64 (t4 + 1)) w18)
  (k5 out3 (i64 (t4 + 1)) w16)) w15) w13) w10) w6) w6) w6)
  (K out3 w6)) w2
def ledger_Merge_ann : Ann := (.s .d (.s (.r [(1, .call rSl)]) (.s (.s .d (.b (.l [(.s 5, rSl), (.s 14, (rI .i64))] (.s .d (.s (.c .d .d) (.s (.b (.s (.r [(0, .rd rPA), (1, .rd rApiEntry), (2, .nl 7), (3, .ls 7)]) (.s (.r [(3, .call (rT2 rApiEntry rB)), (7, .nl 8), (8, .ls 8)]) (.s .d (.c (.r [(2, .call rSl)]) .d))))) .d)))))) (.s .d .d))))
theorem ledger_Merge_calls {a : Sl} {b : Sl} {K : Sl → World → Prop} {w : World} (h : ledger_Merge a b K w) : callV Pr Sl.val 34 #[a.val, b.val] w K :=
  calls_of Pr_plain Pr_mixed Pr_func34 ledger_Merge_ann rSl (args := [a.val, b.val]) (by kernel_rfl) h

/- changeover/ledger.Agree -/
def ledger_Agree (a : Sl) (b : Sl) (K : Bool → World → Prop) (w : World) : Prop :=
  opTy Pr (Instr.box 53 b.val) pav (fun b1 w2 =>
  callV Pr Value.bool 59 #[a.val, (.func (.func 60) #[] #[(.pointer (some b1))])] w2 fun t3 w4 =>
  K (!t3) w4) w
def ledger_Agree_ann : Ann := (.s (.r [(0, .ty rPA)]) (.s (.r [(2, .call rB)]) .d))
theorem ledger_Agree_calls {a : Sl} {b : Sl} {K : Bool → World → Prop} {w : World} (h : ledger_Agree a b K w) : callV Pr Value.bool 35 #[a.val, b.val] w K :=
  calls_of Pr_plain Pr_mixed Pr_func35 ledger_Agree_ann rB (args := [a.val, b.val]) (by kernel_rfl) h

/- changeover/changeoverref32.Agree -/
def ref32_Agree (a : Sl) (b : Sl) (K : Bool → World → Prop) (w : World) : Prop :=
  loop1 (0 : Int) (fun i1 k2 w3 =>
  ifB (decide (i1 < (a.len : Int)))
  (opRd Pr (Instr.indexAt 53 a.val (.int .i64 i1)) pav (fun t4 =>
  opRd Pr (Instr.loadAt 3 (.pointer (some (t4.add 0)))) (Value.int .i64) (fun t5 =>
  callV Pr (Value.int .i64) 61 #[b.val, (.int .i64 t5)] w3 fun at6 w7 =>
  drewM (fun w8 =>
  ifB (decide (at6 ≥ 0))
  (opRd Pr (Instr.indexAt 53 b.val (.int .i64 at6)) pav (fun t9 =>
  opRd Pr (Instr.loadAt 39 (.pointer (some (t9.add 3)))) ApiCmd.val (fun t10 =>
  opRd Pr (Instr.indexAt 53 a.val (.int .i64 i1)) pav (fun t11 =>
  opRd Pr (Instr.loadAt 39 (.pointer (some (t11.add 3)))) ApiCmd.val (fun t12 =>
  opRd Pr (binSem .neq 39 (.tmp 27) (.tmp 32) (.agg ⟨t10.cs⟩) (.agg ⟨t12.cs⟩)) Value.bool (fun t13 =>
  ifB t13
  (K false w8)
  (k2 (i64 (i1 + 1)) w8)) w8) w8) w8) w8) w8)
  (k2 (i64 (i1 + 1)) w8)) w7) w3) w3)
  (K true w3)) w
def ref32_Agree_ann : Ann := (.s .d (.s (.s .d (.b (.l [(.s 5, (rI .i64))] (.s (.s .d (.c .d .d)) (.s (.b (.s (.r [(3, .rd rPA), (5, .rd (rI .i64)), (6, .call (rI .i64))]) (.s (.r [(5, .rd rPA), (7, .rd rApiCmd), (10, .rd rPA), (12, .rd rApiCmd), (13, .rd rB)]) (.c (.s .d .d) .d)))) .d))))) (.s .d .d)))
theorem ref32_Agree_calls {a : Sl} {b : Sl} {K : Bool → World → Prop} {w : World} (h : ref32_Agree a b K w) : callV Pr Value.bool 36 #[a.val, b.val] w K :=
  calls_of Pr_plain Pr_mixed Pr_func36 ref32_Agree_ann rB (args := [a.val, b.val]) (by kernel_rfl) h

/- changeover/changeoverref12.Same -/
def ref12_Same (a : Sl) (b : Sl) (K : Bool → World → Prop) (w : World) : Prop :=
  ifB ((a.len : Int) != (b.len : Int))
  (K false w)
  (loop1 (0 : Int) (fun i1 k2 w3 =>
  ifB (decide (i1 < (a.len : Int)))
  (drewM (fun w4 =>
  opRd Pr (Instr.indexAt 53 a.val (.int .i64 i1)) pav (fun t5 =>
  opRd Pr (Instr.loadAt 74 (.pointer (some t5))) ApiEntry.val (fun t6 =>
  opRd Pr (Instr.indexAt 53 b.val (.int .i64 i1)) pav (fun t7 =>
  opRd Pr (Instr.loadAt 74 (.pointer (some t7))) ApiEntry.val (fun t8 =>
  opRd Pr (binSem .neq 74 (.tmp 20) (.tmp 24) (.agg ⟨t6.cs⟩) (.agg ⟨t8.cs⟩)) Value.bool (fun t9 =>
  ifB t9
  (K false w4)
  (k2 (i64 (i1 + 1)) w4)) w4) w4) w4) w4) w4) w3)
  (K true w3)) w)
def ref12_Same_ann : Ann := (.s .d (.s (.s .d (.c (.s .d .d) .d)) (.s (.s .d (.b (.l [(.s 5, (rI .i64))] (.s (.s .d (.c .d .d)) (.s (.b (.s (.r [(2, .rd rPA), (3, .rd rApiEntry), (6, .rd rPA), (7, .rd rApiEntry), (8, .rd rB)]) (.c (.s .d .d) .d))) .d))))) (.s .d .d))))
theorem ref12_Same_calls {a : Sl} {b : Sl} {K : Bool → World → Prop} {w : World} (h : ref12_Same a b K w) : callV Pr Value.bool 37 #[a.val, b.val] w K :=
  calls_of Pr_plain Pr_mixed Pr_func37 ref12_Same_ann rB (args := [a.val, b.val]) (by kernel_rfl) h

/- changeover/changeoverref32.Merge -/
def ref32_Merge (a : Sl) (b : Sl) (K : Sl → World → Prop) (w : World) : Prop :=
  loop2 (a : Sl) (0 : Int) (fun out1 i2 k3 w4 =>
  ifB (decide (i2 < (b.len : Int)))
  (opRd Pr (Instr.indexAt 53 b.val (.int .i64 i2)) pav (fun t5 =>
  opRd Pr (Instr.loadAt 3 (.pointer (some (t5.add 0)))) (Value.int .i64) (fun t6 =>
  callV Pr (Value.int .i64) 61 #[out1.val, (.int .i64 t6)] w4 fun t7 w8 =>
  ifB (decide (t7 < 0))
  (opRd Pr (Instr.indexAt 53 b.val (.int .i64 i2)) pav (fun t9 =>
  opRd Pr (Instr.loadAt 74 (.pointer (some t9))) ApiEntry.val (fun t10 =>
  callV Pr Sl.val 62 #[out1.val, (.agg ⟨t10.cs⟩)] w8 fun out11 w12 =>
  k3 out11 (i64 (i2 + 1)) w12) w8) w8)
  (k3 out1 (i64 (i2 + 1)) w8)) w4) w4)
  (K out1 w4)) w
def ref32_Merge_ann : Ann := (.s .d (.s .d (.s (.s .d (.b (.l [(.s 5, rSl), (.s 6, (rI .i64))] (.s (.s .d (.c .d .d)) (.s (.b (.s (.r [(3, .rd rPA), (5, .rd (rI .i64)), (6, .call (rI .i64))]) (.c (.r [(3, .rd rPA), (4, .rd rApiEntry), (5, .call rSl)]) .d))) .d))))) (.s .d .d))))
theorem ref32_Merge_calls {a : Sl} {b : Sl} {K : Sl → World → Prop} {w : World} (h : ref32_Merge a b K w) : callV Pr Sl.val 38 #[a.val, b.val] w K :=
  calls_of Pr_plain Pr_mixed Pr_func38 ref32_Merge_ann rSl (args := [a.val, b.val]) (by kernel_rfl) h

/- changeover/kvtwo.Plain -/
def kvtwo_Plain (l : Sl) (K : Sl → World → Prop) (w : World) : Prop :=
  callV Pr Sl.val 43 #[l.val] w fun out1 w2 =>
  loop1 (0 : Int) (fun t3 k4 w5 =>
  ifB (decide (t3 < (out1.len : Int)))
  (opRd Pr (Instr.indexAt 37 out1.val (.int .i64 t3)) pav (fun t6 =>
  opUn Pr (Instr.storeAt 3 (.pointer (some (t6.add 2))) (.int .i64 0)) (fun w7 =>
  k4 (i64 (t3 + 1)) w7) w5) w5)
  (K out1 w5)) w2
def kvtwo_Plain_ann : Ann := (.s .d (.s (.r [(1, .call rSl)]) (.s (.s .d (.b (.l [(.s 9, (rI .i64))] (.s .d (.s (.c .d .d) (.s (.b (.s .d (.r [(2, .rd rPA), (4, .un)]))) .d)))))) (.s .d .d))))
theorem kvtwo_Plain_calls {l : Sl} {K : Sl → World → Prop} {w : World} (h : kvtwo_Plain l K w) : callV Pr Sl.val 39 #[l.val] w K :=
  calls_of Pr_plain Pr_mixed Pr_func39 kvtwo_Plain_ann rSl (args := [l.val]) (by kernel_rfl) h

/- changeover/sess.place -/
def sess_place (l : Sl) (client : Int) (K : (Int × Bool) → World → Prop) (w : World) : Prop :=
  callV Pr (tval2 (Value.int .i64) Value.bool) 63 #[l.val, (.int .i64 client), (.func (.func 64) #[] #[])] w fun t1 w2 =>
  K (t1.1, t1.2) w2
def sess_place_ann : Ann := (.s .d (.s (.r [(2, .call (rT2 (rI .i64) rB))]) .d))
theorem sess_place_calls {l : Sl} {client : Int} {K : (Int × Bool) → World → Prop} {w : World} (h : sess_place l client K w) : callV Pr (tval2 (Value.int .i64) Value.bool) 40 #[l.val, (.int .i64 client)] w K :=
  calls_of Pr_plain Pr_mixed Pr_func40 sess_place_ann (rT2 (rI .i64) rB) (args := [l.val, (.int .i64 client)]) (by kernel_rfl) h

/- slices.Clone[[]changeover/api.Session,changeover/api.Session] -/
def slices_Clone_api_Session_api_Session (s : Sl) (K : Sl → World → Prop) (w : World) : Prop :=
  opRd Pr (binSem .eql 22 (.tmp 3) (.const Sl.nil.val) s.val Sl.nil.val) Value.bool (fun t1 =>
  ifB t1
  (K Sl.nil w)
  (opTy Pr (Instr.buildSlice 22 0 #[]) Sl.val (fun t2 w3 =>
  opTy Pr (Builtin.append_ #[22, 22] 22 #[t2.val, s.val]) Sl.val (fun t4 w5 =>
  K t4 w5) w3) w)) w
def slices_Clone_api_Session_api_Session_ann : Ann := (.s .d (.s (.s (.r [(1, .rd rB)]) (.c (.s .d .d) .d)) (.s (.r [(0, .ty rSl), (2, .ty rSl)]) .d)))
theorem slices_Clone_api_Session_api_Session_calls {s : Sl} {K : Sl → World → Prop} {w : World} (h : slices_Clone_api_Session_api_Session s K w) : callV Pr Sl.val 41 #[s.val] w K :=
  calls_of Pr_plain Pr_mixed Pr_func41 slices_Clone_api_Session_api_Session_ann rSl (args := [s.val]) (by kernel_rfl) h

/- slices.Insert[[]changeover/api.Session,changeover/api.Session] -/
def slices_Insert_api_Session_api_Session (s : Sl) (i : Int) (v : Sl) (K : Sl → World → Prop) (w : World) : Prop :=
  opRd Pr (Instr.sliceAt 22 s.val (some (.int .i64 i)) none none) Sl.val (fun t1 =>
  ifB ((v.len : Int) == 0)
  (K s w)
  (ifB (i == (s.len : Int))
  (opTy Pr (Builtin.append_ #[22, 22] 22 #[s.val, v.val]) Sl.val (fun t2 w3 =>
  K t2 w3) w)
  (ifB (decide ((i64 ((s.len : Int) + (v.len : Int))) > (s.cap : Int)))
  (opRd Pr (Instr.sliceAt 22 s.val none (some (.int .i64 i)) none) Sl.val (fun t4 =>
  opTy Pr (Builtin.append_ #[22, 3] 22 #[t4.val, (.int .i64 (i64 ((i64 ((s.len : Int) + (v.len : Int))) - i)))]) Sl.val (fun s25 w6 =>
  opRd Pr (Instr.sliceAt 22 s25.val (some (.int .i64 i)) none none) Sl.val (fun t7 =>
  opTy Pr (Builtin.copy_ #[22, 22] 3 #[t7.val, v.val]) (Value.int .i64) (fun t8 w9 =>
  heldM (fun S11 w10 =>
  opH Pr S11 (Instr.sliceAt 22 s25.val (some (.int .i64 (i64 (i + (v.len : Int))))) none none) Sl.val (fun t12 =>
  opH Pr S11 (Instr.sliceAt 22 s.val (some (.int .i64 i)) none none) Sl.val (fun t13 =>
  opTy Pr (Builtin.copy_ #[22, 22] 3 #[t12.val, t13.val]) (Value.int .i64) (fun t14 w15 =>
  (S11 w15) ∧
  (K s25 w15)) w10))) w9) w6) w6) w) w)
  (opRd Pr (Instr.sliceAt 22 s.val none (some (.int .i64 (i64 ((s.len : Int) + (v.len : Int))))) none) Sl.val (fun s16 =>
  opRd Pr (Instr.sliceAt 22 s16.val (some (.int .i64 (i64 (i + (v.len : Int))))) none none) Sl.val (fun t17 =>
  opEx Pr 66 #[v.val, t17.val] Value.bool (fun t18 w19 =>
  ifB (!t18)
  (heldM (fun S21 w20 =>
  opH Pr S21 (Instr.sliceAt 22 s16.val (some (.int .i64 (i64 (i + (v.len : Int))))) none none) Sl.val (fun t22 =>
  opH Pr S21 (Instr.sliceAt 22 s16.val (some (.int .i64 i)) none none) Sl.val (fun t23 =>
  opTy Pr (Builtin.copy_ #[22, 22] 3 #[t22.val, t23.val]) (Value.int .i64) (fun t24 w25 =>
  (S21 w25) ∧
  (opRd Pr (Instr.sliceAt 22 s16.val (some (.int .i64 i)) none none) Sl.val (fun t26 =>
  opTy Pr (Builtin.copy_ #[22, 22] 3 #[t26.val, v.val]) (Value.int .i64) (fun t27 w28 =>
  K s16 w28) w25) w25)) w20))) w19)
  (opRd Pr (Instr.sliceAt 22 s16.val (some (.int .i64 (s.len : Int))) none none) Sl.val (fun t29 =>
  opTy Pr (Builtin.copy_ #[22, 22] 3 #[t29.val, v.val]) (Value.int .i64) (fun t30 w31 =>
  opRd Pr (Instr.sliceAt 22 s16.val (some (.int .i64 i)) none none) Sl.val (fun t32 =>
  callV Pr uval 67 #[t32.val, (.int .i64 (v.len : Int))] w31 fun t33 w34 =>
  K s16 w34) w31) w19) w19)) w) w) w)))) w
def slices_Insert_api_Session_api_Session_ann : Ann := (.s .d (.s (.r [(2, .rd rSl)]) (.s .d (.s (.s .d (.c (.s .d .d) .d)) (.s .d (.s (.s .d (.c (.s (.r [(2, .ty rSl)]) .d) .d)) (.s (.s .d (.c (.s (.r [(2, .rd rSl), (8, .ty rSl)]) (.s (.r [(2, .rd rSl), (4, .ty (rI .i64))]) (.s (.h (.take 0 (.take 1 (.take 2 (.take 3 (.take 4 (.take 5 (.take 6 (.take 7 (.one 8 .done))))))))) [(4, .rd rSl), (7, .rd rSl), (8, .ty (rI .i64))]) (.s .d .d)))) .d)) (.s (.r [(4, .rd rSl)]) (.s (.s (.r [(5, .rd rSl), (6, .ext rB)]) (.c (.s (.h (.take 0 (.take 1 (.take 2 (.take 3 (.take 4 (.take 5 (.take 6 (.take 7 (.one 8 .done))))))))) [(4, .rd rSl), (7, .rd rSl), (8, .ty (rI .i64))]) (.s (.r [(2, .rd rSl), (4, .ty (rI .i64))]) (.s .d .d))) .d)) (.s (.r [(2, .rd rSl), (4, .ty (rI .i64))]) (.s (.r [(2, .rd rSl), (4, .call rU)]) (.s .d .d))))))))))))
theorem slices_Insert_api_Session_api_Session_calls {s : Sl} {i : Int} {v : Sl} {K : Sl → World → Prop} {w : World} (h : slices_Insert_api_Session_api_Session s i v K w) : callV Pr Sl.val 42 #[s.val, (.int .i64 i), v.val] w K :=
  calls_of Pr_plain Pr_mixed Pr_func42 slices_Insert_api_Session_api_Session_ann rSl (args := [s.val, (.int .i64 i), v.val]) (by kernel_rfl) h

/- slices.Clone[[]changeover/api.Pair,changeover/api.Pair] -/
def slices_Clone_api_Pair_api_Pair (s : Sl) (K : Sl → World → Prop) (w : World) : Prop :=
  opRd Pr (binSem .eql 37 (.tmp 3) (.const Sl.nil.val) s.val Sl.nil.val) Value.bool (fun t1 =>
  ifB t1
  (K Sl.nil w)
  (opTy Pr (Instr.buildSlice 37 0 #[]) Sl.val (fun t2 w3 =>
  opTy Pr (Builtin.append_ #[37, 37] 37 #[t2.val, s.val]) Sl.val (fun t4 w5 =>
  K t4 w5) w3) w)) w
def slices_Clone_api_Pair_api_Pair_ann : Ann := (.s .d (.s (.s (.r [(1, .rd rB)]) (.c (.s .d .d) .d)) (.s (.r [(0, .ty rSl), (2, .ty rSl)]) .d)))
theorem slices_Clone_api_Pair_api_Pair_calls {s : Sl} {K : Sl → World → Prop} {w : World} (h : slices_Clone_api_Pair_api_Pair s K w) : callV Pr Sl.val 43 #[s.val] w K :=
  calls_of Pr_plain Pr_mixed Pr_func43 slices_Clone_api_Pair_api_Pair_ann rSl (args := [s.val]) (by kernel_rfl) h

/- changeover/kvone.put -/
def kvone_put (l : Sl) (p : ApiPair) (K : (Sl × Bool) → World → Prop) (w : World) : Prop :=
  newV (fun b1 w2 =>
  callV Pr (tval2 (Value.int .i64) Value.bool) 46 #[l.val, (sval p.Key)] w2 fun t3 w4 =>
  kp b1 w2 w4 <|
  ifB t3.2
  (opRd Pr (Instr.indexAt 37 l.val (.int .i64 t3.1)) pav (fun t5 =>
  opUn Pr (Instr.storeAt 45 (.pointer (some t5)) (.agg ⟨[(sval p.Key), (sval p.Val), (.int .i64 p.Rev)]⟩)) (fun w6 =>
  kp b1 w4 w6 <|
  K (l, true) w6) w4) w4)
  (ifB (decide ((l.len : Int) ≥ 64))
  (K (l, false) w4)
  (opTy Pr (Instr.buildSlice 37 1 #[(0, (.agg ⟨[(sval p.Key), (sval p.Val), (.int .i64 p.Rev)]⟩))]) Sl.val (fun t7 w8 =>
  kp b1 w4 w8 <|
  callV Pr Sl.val 68 #[l.val, (.int .i64 t3.1), t7.val] w8 fun l9 w10 =>
  kp b1 w8 w10 <|
  K (l9, true) w10) w4))) w
def kvone_put_ann : Ann := (.s (.r [(0, .nl 3)]) (.s (.r [(3, .call (rT2 (rI .i64) rB))]) (.s (.b (.s .d (.c (.r [(3, .rd rPA), (4, .un)]) (.s .d (.c (.s .d .d) (.r [(3, .ty rSl), (4, .call rSl)])))))) (.s .d .d))))
theorem kvone_put_calls {l : Sl} {p : ApiPair} {K : (Sl × Bool) → World → Prop} {w : World} (h : kvone_put l p K w) : callV Pr (tval2 Sl.val Value.bool) 44 #[l.val, (.agg ⟨p.cs⟩)] w K :=
  calls_of Pr_plain Pr_mixed Pr_func44 kvone_put_ann (rT2 rSl rB) (args := [l.val, (.agg ⟨p.cs⟩)]) (by kernel_rfl) h

/- changeover/kvone.del -/
def kvone_del (l : Sl) (key : List UInt8) (K : Sl → World → Prop) (w : World) : Prop :=
  callV Pr (tval2 (Value.int .i64) Value.bool) 46 #[l.val, (sval key)] w fun t1 w2 =>
  ifB t1.2
  (callV Pr Sl.val 69 #[l.val, (.int .i64 t1.1), (.int .i64 (i64 (t1.1 + 1)))] w2 fun t3 w4 =>
  K t3 w4)
  (K l w2)
def kvone_del_ann : Ann := (.s .d (.s (.s (.r [(2, .call (rT2 (rI .i64) rB))]) (.s .d (.c (.s (.r [(4, .call rSl)]) .d) .d))) (.s .d .d)))
theorem kvone_del_calls {l : Sl} {key : List UInt8} {K : Sl → World → Prop} {w : World} (h : kvone_del l key K w) : callV Pr Sl.val 45 #[l.val, (sval key)] w K :=
  calls_of Pr_plain Pr_mixed Pr_func45 kvone_del_ann rSl (args := [l.val, (sval key)]) (by kernel_rfl) h

/- changeover/kvone.place -/
def kvone_place (l : Sl) (key : List UInt8) (K : (Int × Bool) → World → Prop) (w : World) : Prop :=
  callV Pr (tval2 (Value.int .i64) Value.bool) 70 #[l.val, (sval key), (.func (.func 71) #[] #[])] w fun t1 w2 =>
  K (t1.1, t1.2) w2
def kvone_place_ann : Ann := (.s .d (.s (.r [(2, .call (rT2 (rI .i64) rB))]) .d))
theorem kvone_place_calls {l : Sl} {key : List UInt8} {K : (Int × Bool) → World → Prop} {w : World} (h : kvone_place l key K w) : callV Pr (tval2 (Value.int .i64) Value.bool) 46 #[l.val, (sval key)] w K :=
  calls_of Pr_plain Pr_mixed Pr_func46 kvone_place_ann (rT2 (rI .i64) rB) (args := [l.val, (sval key)]) (by kernel_rfl) h

/- changeover/changeoverref05.Key -/
def ref05_Key (s : List UInt8) (K : Bool → World → Prop) (w : World) : Prop :=
  ifB (decide (((s : List UInt8).length : Int) < 1))
  (K false w)
  (ifB (decide (((s : List UInt8).length : Int) > 24))
  (K false w)
  (loop1 (0 : Int) (fun i1 k2 w3 =>
  ifB (decide (i1 < ((s : List UInt8).length : Int)))
  (callV Pr (tval2 (Value.int .i64) (Value.int .i64)) 73 #[(sval s), (.int .i64 i1)] w3 fun t4 w5 =>
  ifB (t4.1 == 0)
  (K false w5)
  (callV Pr Value.bool 74 #[(.int .i64 t4.2)] w5 fun t6 w7 =>
  ifB (!t6)
  (K false w7)
  (k2 (i64 (i1 + t4.1)) w7)))
  (K true w3)) w))
def ref05_Key_ann : Ann := (.s .d (.s (.s .d (.c (.s .d .d) .d)) (.s .d (.s (.b (.l [(.s 3, (rI .i64))] (.s (.s .d (.c .d .d)) (.b (.s (.r [(2, .call (rT2 (rI .i64) (rI .i64)))]) (.s (.s (.r [(4, .call rB)]) (.c (.s .d .d) .d)) .d)))))) (.s .d .d)))))
theorem ref05_Key_calls {s : List UInt8} {K : Bool → World → Prop} {w : World} (h : ref05_Key s K w) : callV Pr Value.bool 47 #[(sval s)] w K :=
  calls_of Pr_plain Pr_mixed Pr_func47 ref05_Key_ann rB (args := [(sval s)]) (by kernel_rfl) h

/- changeover/changeoverref05.Val -/
def ref05_Val (s : List UInt8) (K : Bool → World → Prop) (w : World) : Prop :=
  ifB (decide (((s : List UInt8).length : Int) > 48))
  (K false w)
  (callV Pr (Value.int .i64) 75 #[(sval s)] w fun t1 w2 =>
  ifB (decide (t1 ≥ 0))
  (K false w2)
  (loop1 (0 : Int) (fun i3 k4 w5 =>
  ifB (decide (i3 < ((s : List UInt8).length : Int)))
  (opRd Pr (Instr.index 9 (sval s) (.int .i64 i3)) (Value.int .u8) (fun t6 =>
  ifB (decide (t6 < 32))
  (K false w5)
  (opRd Pr (Instr.index 9 (sval s) (.int .i64 i3)) (Value.int .u8) (fun t7 =>
  ifB (t7 == 127)
  (K false w5)
  (k4 (i64 (i3 + 1)) w5)) w5)) w5)
  (K true w5)) w2))
def ref05_Val_ann : Ann := (.s .d (.s (.s (.r [(5, .call (rI .i64))]) (.c (.s .d .d) .d)) (.s (.s .d (.b (.l [(.s 3, (rI .i64))] (.s (.s .d (.c .d .d)) (.s (.b (.s (.r [(2, .rd (rI .u8)), (7, .rd (rI .u8))]) (.c (.s .d .d) .d))) .d))))) (.s .d .d))))
theorem ref05_Val_calls {s : List UInt8} {K : Bool → World → Prop} {w : World} (h : ref05_Val s K w) : callV Pr Value.bool 48 #[(sval s)] w K :=
  calls_of Pr_plain Pr_mixed Pr_func48 ref05_Val_ann rB (args := [(sval s)]) (by kernel_rfl) h

/- changeover/kvtwo.cas -/
def kvtwo_cas (l : Sl) (c : ApiCmd) (K : (Sl × ApiAnswer) → World → Prop) (w : World) : Prop :=
  newV (fun b1 w2 =>
  newV (fun b3 w4 =>
  newV (fun b5 w6 =>
  wrM b5 (fun w7 =>
  callV Pr (tval2 ApiPair.val Value.bool) 24 #[l.val, (sval c.Key)] w7 fun t8 w9 =>
  kp b5 w7 w9 <|
  kp b3 w7 w9 <|
  kp b1 w7 w9 <|
  newV (fun b10 w11 =>
  wrM b10 (fun w12 =>
  ifB (!t8.2)
  (wrM b5 (fun w13 =>
  heldM (fun S15 w14 =>
  wrM b3 (fun w16 =>
  (S15 w16) ∧
  (K (l, (ApiAnswer.mk c.Client c.Seq 10 false [] 0)) w16)) w14) w13) w12)
  (heldM (fun S18 w17 =>
  wrM b5 (fun w19 =>
  (S18 w19) ∧
  (wrM b5 (fun w20 =>
  (S18 w20) ∧
  (wrM b5 (fun w21 =>
  (S18 w21) ∧
  (ifB (!(strEq t8.1.Val c.Old))
  (wrM b5 (fun w22 =>
  heldM (fun S24 w23 =>
  wrM b3 (fun w25 =>
  (S24 w25) ∧
  (K (l, (ApiAnswer.mk c.Client c.Seq 15 true t8.1.Val t8.1.Rev)) w25)) w23) w22) w21)
  (callV Pr (Value.int .i64) 51 #[(.int .i64 t8.1.Rev)] w21 fun t26 w27 =>
  kp b10 w21 w27 <|
  kp b5 w21 w27 <|
  kp b3 w21 w27 <|
  kp b1 w21 w27 <|
  wrM b5 (fun w28 =>
  heldM (fun S30 w29 =>
  callV Pr Sl.val 50 #[l.val, (.agg ⟨[(sval c.Key), (sval c.Val), (.int .i64 t26)]⟩)] w29 fun t31 w32 =>
  kp b10 w29 w32 <|
  kp b5 w29 w32 <|
  kp b3 w29 w32 <|
  kp b1 w29 w32 <|
  (S30 w32) ∧
  (wrM b3 (fun w33 =>
  (S30 w33) ∧
  (K (t31, (ApiAnswer.mk c.Client c.Seq 0 true t8.1.Val t26)) w33)) w32)) w28) w27))) w20)) w19)) w17) w12)) w11) w9) w6) w4) w2) w
def kvtwo_cas_ann : Ann := (.s (.r [(0, .nl 3), (2, .nl 5)]) (.s (.r [(5, .nl 6), (6, .ls 6)]) (.s (.r [(3, .call (rT2 rApiPair rB)), (7, .nl 7), (8, .ls 7)]) (.s (.s .d (.c (.s (.r [(1, .ls 6)]) (.s (.h (.take 0 (.take 1 (.take 2 (.one 3 .done)))) [(3, .ls 5)]) .d)) .d)) (.s (.h (.take 0 (.take 1 (.take 2 (.take 3 (.take 4 (.one 5 (.take 6 (.one 7 (.take 8 (.one 9 .done)))))))))) [(5, .ls 6), (7, .ls 6), (9, .ls 6)]) (.s (.s .d (.c (.s (.r [(1, .ls 6)]) (.s (.h (.take 0 (.take 1 (.take 2 (.one 3 .done)))) [(3, .ls 5)]) .d)) .d)) (.s (.r [(2, .call (rI .i64)), (4, .ls 6)]) (.s (.h (.take 0 (.take 1 (.take 2 (.take 3 (.take 4 (.take 5 (.take 6 (.take 7 (.take 9 (.one 8 (.take 10 (.one 11 .done)))))))))))) [(8, .call rSl), (11, .ls 5)]) .d))))))))
theorem kvtwo_cas_calls {l : Sl} {c : ApiCmd} {K : (Sl × ApiAnswer) → World → Prop} {w : World} (h : kvtwo_cas l c K w) : callV Pr (tval2 Sl.val ApiAnswer.val) 49 #[l.val, (.agg ⟨c.cs⟩)] w K :=
  calls_of Pr_plain Pr_mixed Pr_func49 kvtwo_cas_ann (rT2 rSl rApiAnswer) (args := [l.val, (.agg ⟨c.cs⟩)]) (by kernel_rfl) h

/- changeover/kvtwo.set -/
def kvtwo_set (l : Sl) (p : ApiPair) (K : Sl → World → Prop) (w : World) : Prop :=
  newV (fun b1 w2 =>
  callV Pr (tval2 (Value.int .i64) Value.bool) 76 #[l.val, (.agg ⟨[(sval p.Key), (sval p.Val), (.int .i64 p.Rev)]⟩), (.func (.func 77) #[] #[])] w2 fun t3 w4 =>
  kp b1 w2 w4 <|
  ifB (!t3.2)
  (opTy Pr (Instr.buildSlice 37 1 #[(0, (.agg ⟨[(sval p.Key), (sval p.Val), (.int .i64 p.Rev)]⟩))]) Sl.val (fun t5 w6 =>
  kp b1 w4 w6 <|
  callV Pr Sl.val 68 #[l.val, (.int .i64 t3.1), t5.val] w6 fun t7 w8 =>
  kp b1 w6 w8 <|
  K t7 w8) w4)
  (opRd Pr (Instr.indexAt 37 l.val (.int .i64 t3.1)) pav (fun t9 =>
  opUn Pr (Instr.storeAt 45 (.pointer (some t9)) (.agg ⟨[(sval p.Key), (sval p.Val), (.int .i64 p.Rev)]⟩)) (fun w10 =>
  kp b1 w4 w10 <|
  K l w10) w4) w4)) w
def kvtwo_set_ann : Ann := (.s (.r [(0, .nl 3)]) (.s (.r [(2, .call (rT2 (rI .i64) rB))]) (.s (.s .d (.c (.s (.r [(3, .ty rSl), (4, .call rSl)]) .d) .d)) (.s (.r [(3, .rd rPA), (4, .un)]) (.s .d .d)))))
theorem kvtwo_set_calls {l : Sl} {p : ApiPair} {K : Sl → World → Prop} {w : World} (h : kvtwo_set l p K w) : callV Pr Sl.val 50 #[l.val, (.agg ⟨p.cs⟩)] w K :=
  calls_of Pr_plain Pr_mixed Pr_func50 kvtwo_set_ann rSl (args := [l.val, (.agg ⟨p.cs⟩)]) (by kernel_rfl) h

/- changeover/kvtwo.next -/
def kvtwo_next (rev : Int) (K : Int → World → Prop) (w : World) : Prop :=
  K (i64 ((imin rev 4294967295) + 1)) w
def kvtwo_next_ann : Ann := (.s .d (.s .d .d))
theorem kvtwo_next_calls {rev : Int} {K : Int → World → Prop} {w : World} (h : kvtwo_next rev K w) : callV Pr (Value.int .i64) 51 #[(.int .i64 rev)] w K :=
  calls_of Pr_plain Pr_mixed Pr_func51 kvtwo_next_ann (rI .i64) (args := [(.int .i64 rev)]) (by kernel_rfl) h

/- changeover/changeoverref01.Ints -/
def ref01_Ints (a : Sl) (b : Sl) (K : Bool → World → Prop) (w : World) : Prop :=
  ifB ((a.len : Int) != (b.len : Int))
  (K false w)
  (loop1 (0 : Int) (fun i1 k2 w3 =>
  ifB (decide (i1 < (a.len : Int)))
  (drewM (fun w4 =>
  opRd Pr (Instr.indexAt 77 a.val (.int .i64 i1)) pav (fun t5 =>
  opRd Pr (Instr.loadAt 3 (.pointer (some t5))) (Value.int .i64) (fun t6 =>
  opRd Pr (Instr.indexAt 77 b.val (.int .i64 i1)) pav (fun t7 =>
  opRd Pr (Instr.loadAt 3 (.pointer (some t7))) (Value.int .i64) (fun t8 =>
  ifB (t6 != t8)
  (K false w4)
  (k2 (i64 (i1 + 1)) w4)) w4) w4) w4) w4) w3)
  (K true w3)) w)
def ref01_Ints_ann : Ann := (.s .d (.s (.s .d (.c (.s .d .d) .d)) (.s (.s .d (.b (.l [(.s 5, (rI .i64))] (.s (.s .d (.c .d .d)) (.s (.b (.s (.r [(2, .rd rPA), (3, .rd (rI .i64)), (6, .rd rPA), (7, .rd (rI .i64))]) (.c (.s .d .d) .d))) .d))))) (.s .d .d))))
theorem ref01_Ints_calls {a : Sl} {b : Sl} {K : Bool → World → Prop} {w : World} (h : ref01_Ints a b K w) : callV Pr Value.bool 53 #[a.val, b.val] w K :=
  calls_of Pr_plain Pr_mixed Pr_func53 ref01_Ints_ann rB (args := [a.val, b.val]) (by kernel_rfl) h

/- changeover/ledger.Holes -/
def ledger_Holes (l : Sl) (applied : Int) (K : Sl → World → Prop) (w : World) : Prop :=
  callV Pr Value.bool 78 #[(.int .i64 applied)] w fun t1 w2 =>
  ifB (!t1)
  (K Sl.nil w2)
  (callV Pr Sl.val 80 #[l.val, (.int .i64 (i64 (applied + 1)))] w2 fun t3 w4 =>
  loop3 (Sl.nil : Sl) ((i64 (applied + 1)) : Int) (0 : Int) (fun out5 at6 t7 k8 w9 =>
  ifB (decide (t7 < (t3.len : Int)))
  (opRd Pr (Instr.indexAt 53 t3.val (.int .i64 t7)) pav (fun t10 =>
  opRd Pr (Instr.loadAt 74 (.pointer (some t10))) ApiEntry.val (fun t11 =>
  newV (fun b12 w13 =>
  wrM b12 (fun w14 =>
  join1 (fun (j15 : Sl → World → Prop) =>
  loop2 (out5 : Sl) (at6 : Int) (fun out16 at17 k18 w19 =>
  ifB (decide (at17 < t11.Index))
  (ifB (decide ((out16.len : Int) < 4))
  (opTy Pr (Instr.buildSlice 77 1 #[(0, (.int .i64 at17))]) Sl.val (fun t20 w21 =>
  kp b12 w19 w21 <|
  opTy Pr (Builtin.append_ #[77, 77] 77 #[out16.val, t20.val]) Sl.val (fun out22 w23 =>
  kp b12 w21 w23 <|
  k18 out22 (i64 (at17 + 1)) w23) w21) w19)
  (j15 out16 w19))
  (j15 out16 w19)) w14)
  (fun out24 w25 =>
  ifB ((out24.len : Int) == 4)
  (K out24 w25)
  (ifB (t11.Index == 9223372036854775807)
  (K out24 w25)
  (k8 out24 (i64 (t11.Index + 1)) (i64 (t7 + 1)) w25)))) w13) w9) w9) w9)
  (K out5 w9)) w4)
def ledger_Holes_ann : Ann := (.s .d (.s .d (.s (.s (.r [(1, .call rB)]) (.c (.s .d .d) .d)) (.s .d (.s (.s (.r [(2, .call rSl)]) (.b (.l [(.s 5, rSl), (.s 6, (rI .i64)), (.s 19, (rI .i64))] (.s .d (.s (.c .d .d) (.s (.b (.s (.r [(0, .rd rPA), (1, .rd rApiEntry), (2, .nl 8), (3, .ls 8)]) (.sj [(.s 5, rSl)] (.b (.l [(.s 5, rSl), (.s 6, (rI .i64))] (.s (.s .d (.c .d .d)) (.s (.b (.r [(2, .ty rSl), (3, .ty rSl)])) .d)))) (.s (.s .d (.c .d .d)) .d)))) .d)))))) (.s .d .d))))))
theorem ledger_Holes_calls {l : Sl} {applied : Int} {K : Sl → World → Prop} {w : World} (h : ledger_Holes l applied K w) : callV Pr Sl.val 54 #[l.val, (.int .i64 applied)] w K :=
  calls_of Pr_plain Pr_mixed Pr_func54 ledger_Holes_ann rSl (args := [l.val, (.int .i64 applied)]) (by kernel_rfl) h

/- changeover/ledger.Top -/
def ledger_Top (l : Sl) (applied : Int) (K : Int → World → Prop) (w : World) : Prop :=
  ifB ((l.len : Int) == 0)
  (K applied w)
  (opRd Pr (Instr.indexAt 53 l.val (.int .i64 (i64 ((l.len : Int) - 1)))) pav (fun t1 =>
  opRd Pr (Instr.loadAt 3 (.pointer (some (t1.add 0)))) (Value.int .i64) (fun t2 =>
  K (imax applied t2) w) w) w)
def ledger_Top_ann : Ann := (.s .d (.s (.s .d (.c (.s .d .d) .d)) (.s (.r [(5, .rd rPA), (7, .rd (rI .i64))]) .d)))
theorem ledger_Top_calls {l : Sl} {applied : Int} {K : Int → World → Prop} {w : World} (h : ledger_Top l applied K w) : callV Pr (Value.int .i64) 55 #[l.val, (.int .i64 applied)] w K :=
  calls_of Pr_plain Pr_mixed Pr_func55 ledger_Top_ann (rI .i64) (args := [l.val, (.int .i64 applied)]) (by kernel_rfl) h

/- slices.Clone[[]changeover/api.Entry,changeover/api.Entry] -/
def slices_Clone_api_Entry_api_Entry (s : Sl) (K : Sl → World → Prop) (w : World) : Prop :=
  opRd Pr (binSem .eql 53 (.tmp 3) (.const Sl.nil.val) s.val Sl.nil.val) Value.bool (fun t1 =>
  ifB t1
  (K Sl.nil w)
  (opTy Pr (Instr.buildSlice 53 0 #[]) Sl.val (fun t2 w3 =>
  opTy Pr (Builtin.append_ #[53, 53] 53 #[t2.val, s.val]) Sl.val (fun t4 w5 =>
  K t4 w5) w3) w)) w
def slices_Clone_api_Entry_api_Entry_ann : Ann := (.s .d (.s (.s (.r [(1, .rd rB)]) (.c (.s .d .d) .d)) (.s (.r [(0, .ty rSl), (2, .ty rSl)]) .d)))
theorem slices_Clone_api_Entry_api_Entry_calls {s : Sl} {K : Sl → World → Prop} {w : World} (h : slices_Clone_api_Entry_api_Entry s K w) : callV Pr Sl.val 56 #[s.val] w K :=
  calls_of Pr_plain Pr_mixed Pr_func56 slices_Clone_api_Entry_api_Entry_ann rSl (args := [s.val]) (by kernel_rfl) h

/- changeover/entry.Find -/
def entry_Find (l : Sl) (index : Int) (K : (ApiEntry × Bool) → World → Prop) (w : World) : Prop :=
  newV (fun b1 w2 =>
  callV Pr (tval2 (Value.int .i64) Value.bool) 81 #[l.val, (.int .i64 index)] w2 fun t3 w4 =>
  kp b1 w2 w4 <|
  ifB (!t3.2)
  (wrM b1 (fun w5 =>
  K ((ApiEntry.mk 0 (ApiBallot.mk 0 0) (ApiCmd.mk 0 0 0 [] [] [] 0)), false) w5) w4)
  (opRd Pr (Instr.indexAt 53 l.val (.int .i64 t3.1)) pav (fun t6 =>
  opRd Pr (Instr.loadAt 74 (.pointer (some t6))) ApiEntry.val (fun t7 =>
  wrM b1 (fun w8 =>
  K (t7, true) w8) w4) w4) w4)) w
def entry_Find_ann : Ann := (.s (.r [(0, .nl 4)]) (.s (.r [(2, .call (rT2 (rI .i64) rB))]) (.s (.s .d (.c (.s (.r [(1, .ls 4)]) .d) .d)) (.s (.r [(2, .rd rPA), (3, .rd rApiEntry), (4, .ls 4)]) .d))))
theorem entry_Find_calls {l : Sl} {index : Int} {K : (ApiEntry × Bool) → World → Prop} {w : World} (h : entry_Find l index K w) : callV Pr (tval2 ApiEntry.val Value.bool) 57 #[l.val, (.int .i64 index)] w K :=
  calls_of Pr_plain Pr_mixed Pr_func57 entry_Find_ann (rT2 rApiEntry rB) (args := [l.val, (.int .i64 index)]) (by kernel_rfl) h

/- changeover/entry.With -/
def entry_With (l : Sl) (e : ApiEntry) (K : Sl → World → Prop) (w : World) : Prop :=
  newV (fun b1 w2 =>
  callV Pr (tval2 (Value.int .i64) Value.bool) 81 #[l.val, (.int .i64 e.Index)] w2 fun t3 w4 =>
  kp b1 w2 w4 <|
  callV Pr Sl.val 56 #[l.val] w4 fun out5 w6 =>
  kp b1 w4 w6 <|
  ifB t3.2
  (opRd Pr (Instr.indexAt 53 out5.val (.int .i64 t3.1)) pav (fun t7 =>
  opUn Pr (Instr.storeAt 74 (.pointer (some t7)) (.agg ⟨[(.int .i64 e.Index), (.int .i64 e.Ballot.Round), (.int .i64 e.Ballot.Node), (.int .i64 e.Cmd.Kind), (.int .i64 e.Cmd.Client), (.int .i64 e.Cmd.Seq), (sval e.Cmd.Key), (sval e.Cmd.Val), (sval e.Cmd.Old), (.int .i64 e.Cmd.Node)]⟩)) (fun w8 =>
  kp b1 w6 w8 <|
  K out5 w8) w6) w6)
  (opTy Pr (Instr.buildSlice 53 1 #[(0, (.agg ⟨[(.int .i64 e.Index), (.int .i64 e.Ballot.Round), (.int .i64 e.Ballot.Node), (.int .i64 e.Cmd.Kind), (.int .i64 e.Cmd.Client), (.int .i64 e.Cmd.Seq), (sval e.Cmd.Key), (sval e.Cmd.Val), (sval e.Cmd.Old), (.int .i64 e.Cmd.Node)]⟩))]) Sl.val (fun t9 w10 =>
  kp b1 w6 w10 <|
  callV Pr Sl.val 82 #[out5.val, (.int .i64 t3.1), t9.val] w10 fun t11 w12 =>
  kp b1 w10 w12 <|
  K t11 w12) w6)) w
def entry_With_ann : Ann := (.s (.r [(0, .nl 3)]) (.s (.r [(3, .call (rT2 (rI .i64) rB))]) (.s (.r [(1, .call rSl)]) (.s (.s .d (.c (.s (.r [(3, .rd rPA), (4, .un)]) (.s .d .d)) .d)) (.s (.r [(3, .ty rSl), (4, .call rSl)]) .d)))))
theorem entry_With_calls {l : Sl} {e : ApiEntry} {K : Sl → World → Prop} {w : World} (h : entry_With l e K w) : callV Pr Sl.val 58 #[l.val, (.agg ⟨e.cs⟩)] w K :=
  calls_of Pr_plain Pr_mixed Pr_func58 entry_With_ann rSl (args := [l.val, (.agg ⟨e.cs⟩)]) (by kernel_rfl) h

/- slices.ContainsFunc[[]changeover/api.Entry,changeover/api.Entry] -/
def slices_ContainsFunc_api_Entry_api_Entry (s : Sl) (f : Value) (K : Bool → World → Prop) (w : World) : Prop :=
  callV Pr (Value.int .i64) 83 #[s.val, f] w fun t1 w2 =>
  K (decide (t1 ≥ 0)) w2
def slices_ContainsFunc_api_Entry_api_Entry_ann : Ann := (.s .d (.s (.r [(2, .call (rI .i64))]) .d))
theorem slices_ContainsFunc_api_Entry_api_Entry_calls {s : Sl} {f : Value} {K : Bool → World → Prop} {w : World} (h : slices_ContainsFunc_api_Entry_api_Entry s f K w) : callV Pr Value.bool 59 #[s.val, f] w K :=
  calls_of Pr_plain Pr_mixed Pr_func59 slices_ContainsFunc_api_Entry_api_Entry_ann rB (args := [s.val, f]) (by kernel_rfl) h

/- changeover/ledger.Agree$1 -/
def ledger_Agree_1 (e : ApiEntry) (c_x0 : Addr) (K : Bool → World → Prop) (w : World) : Prop :=
  newV (fun b1 w2 =>
  opRd Pr (Instr.loadAt 53 (.pointer (some c_x0))) Sl.val (fun t3 =>
  callV Pr (tval2 ApiEntry.val Value.bool) 57 #[t3.val, (.int .i64 e.Index)] w2 fun t4 w5 =>
  kp b1 w2 w5 <|
  newV (fun b6 w7 =>
  wrM b6 (fun w8 =>
  ifB t4.2
  (opRd Pr (binSem .neq 39 (.tmp 16) (.tmp 18) (.agg ⟨[(.int .i64 t4.1.Cmd.Kind), (.int .i64 t4.1.Cmd.Client), (.int .i64 t4.1.Cmd.Seq), (sval t4.1.Cmd.Key), (sval t4.1.Cmd.Val), (sval t4.1.Cmd.Old), (.int .i64 t4.1.Cmd.Node)]⟩) (.agg ⟨[(.int .i64 e.Cmd.Kind), (.int .i64 e.Cmd.Client), (.int .i64 e.Cmd.Seq), (sval e.Cmd.Key), (sval e.Cmd.Val), (sval e.Cmd.Old), (.int .i64 e.Cmd.Node)]⟩)) Value.bool (fun t9 =>
  K t9 w8) w8)
  (K false w8)) w7) w5) w2) w
def ledger_Agree_1_ann : Ann := (.s (.r [(0, .nl 2)]) (.s (.r [(0, .rd rSl), (3, .call (rT2 rApiEntry rB)), (7, .nl 4), (8, .ls 4)]) (.s (.r [(6, .rd rB)]) .d)))
theorem ledger_Agree_1_calls {e : ApiEntry} {c_x0 : Addr} {K : Bool → World → Prop} {w : World} (h : ledger_Agree_1 e c_x0 K w) : callV Pr Value.bool 60 #[(.agg ⟨e.cs⟩), (.pointer (some c_x0))] w K :=
  calls_of Pr_plain Pr_mixed Pr_func60 ledger_Agree_1_ann rB (args := [(.agg ⟨e.cs⟩), (.pointer (some c_x0))]) (by kernel_rfl) h

/- changeover/changeoverref12.Find -/
def ref12_Find (l : Sl) (index : Int) (K : Int → World → Prop) (w : World) : Prop :=
  loop1 (0 : Int) (fun i1 k2 w3 =>
  ifB (decide (i1 < (l.len : Int)))
  (opRd Pr (Instr.indexAt 53 l.val (.int .i64 i1)) pav (fun t4 =>
  opRd Pr (Instr.loadAt 3 (.pointer (some (t4.add 0)))) (Value.int .i64) (fun t5 =>
  ifB (t5 == index)
  (K i1 w3)
  (k2 (i64 (i1 + 1)) w3)) w3) w3)
  (K (-1) w3)) w
def ref12_Find_ann : Ann := (.s .d (.s (.s .d (.b (.l [(.s 5, (rI .i64))] (.s (.s .d (.c .d .d)) (.s (.b (.s (.r [(2, .rd rPA), (4, .rd (rI .i64))]) (.c (.s .d .d) .d))) .d))))) (.s .d .d)))
theorem ref12_Find_calls {l : Sl} {index : Int} {K : Int → World → Prop} {w : World} (h : ref12_Find l index K w) : callV Pr (Value.int .i64) 61 #[l.val, (.int .i64 index)] w K :=
  calls_of Pr_plain Pr_mixed Pr_func61 ref12_Find_ann (rI .i64) (args := [l.val, (.int .i64 index)]) (by kernel_rfl) h

/- changeover/changeoverref12.With -/
def ref12_With (l : Sl) (e : ApiEntry) (K : Sl → World → Prop) (w : World) : Prop :=
  newV (fun b1 w2 =>
  loop3 (Sl.nil : Sl) (false : Bool) (0 : Int) (fun out3 done4 i5 k6 w7 =>
  ifB (decide (i5 < (l.len : Int)))
  (join2 (fun (j8 : Sl → Bool → World → Prop) =>
  drewM (fun w9 =>
  ifB (!done4)
  (opRd Pr (Instr.indexAt 53 l.val (.int .i64 i5)) pav (fun t10 =>
  opRd Pr (Instr.loadAt 3 (.pointer (some (t10.add 0)))) (Value.int .i64) (fun t11 =>
  ifB (decide (t11 ≥ e.Index))
  (opTy Pr (Instr.buildSlice 53 1 #[(0, (.agg ⟨[(.int .i64 e.Index), (.int .i64 e.Ballot.Round), (.int .i64 e.Ballot.Node), (.int .i64 e.Cmd.Kind), (.int .i64 e.Cmd.Client), (.int .i64 e.Cmd.Seq), (sval e.Cmd.Key), (sval e.Cmd.Val), (sval e.Cmd.Old), (.int .i64 e.Cmd.Node)]⟩))]) Sl.val (fun t12 w13 =>
  kp b1 w9 w13 <|
  opTy Pr (Builtin.append_ #[53, 53] 53 #[out3.val, t12.val]) Sl.val (fun out14 w15 =>
  kp b1 w13 w15 <|
  j8 out14 true w15) w13) w9)
  (j8 out3 done4 w9)) w9) w9)
  (j8 out3 done4 w9)) w7)
  (fun out16 done17 w18 =>
  drewM (fun w19 =>
  opRd Pr (Instr.indexAt 53 l.val (.int .i64 i5)) pav (fun t20 =>
  opRd Pr (Instr.loadAt 3 (.pointer (some (t20.add 0)))) (Value.int .i64) (fun t21 =>
  ifB (t21 != e.Index)
  (opRd Pr (Instr.indexAt 53 l.val (.int .i64 i5)) pav (fun t22 =>
  opRd Pr (Instr.loadAt 74 (.pointer (some t22))) ApiEntry.val (fun t23 =>
  opTy Pr (Instr.buildSlice 53 1 #[(0, (.agg ⟨t23.cs⟩))]) Sl.val (fun t24 w25 =>
  kp b1 w19 w25 <|
  opTy Pr (Builtin.append_ #[53, 53] 53 #[out16.val, t24.val]) Sl.val (fun out26 w27 =>
  kp b1 w25 w27 <|
  k6 out26 done17 (i64 (i5 + 1)) w27) w25) w19) w19) w19)
  (k6 out16 done17 (i64 (i5 + 1)) w19)) w19) w19) w18))
  (ifB (!done4)
  (opTy Pr (Instr.buildSlice 53 1 #[(0, (.agg ⟨[(.int .i64 e.Index), (.int .i64 e.Ballot.Round), (.int .i64 e.Ballot.Node), (.int .i64 e.Cmd.Kind), (.int .i64 e.Cmd.Client), (.int .i64 e.Cmd.Seq), (sval e.Cmd.Key), (sval e.Cmd.Val), (sval e.Cmd.Old), (.int .i64 e.Cmd.Node)]⟩))]) Sl.val (fun t28 w29 =>
  kp b1 w7 w29 <|
  opTy Pr (Builtin.append_ #[53, 53] 53 #[out3.val, t28.val]) Sl.val (fun out30 w31 =>
  kp b1 w29 w31 <|
  K out30 w31) w29) w7)
  (K out3 w7))) w2) w
def ref12_With_ann : Ann := (.s (.r [(0, .nl 3)]) (.s .d (.s .d (.s (.s .d (.b (.l [(.s 5, rSl), (.s 6, rB), (.s 7, (rI .i64))] (.s (.s .d (.c .d .d)) (.s (.b (.sj [(.s 5, rSl), (.s 6, rB)] (.s (.r [(5, .rd rPA), (7, .rd (rI .i64))]) (.c (.s (.r [(2, .ty rSl), (3, .ty rSl)]) .d) .d)) (.s (.r [(2, .rd rPA), (4, .rd (rI .i64))]) (.c (.r [(3, .rd rPA), (4, .rd rApiEntry), (5, .ty rSl), (6, .ty rSl)]) .d)))) .d))))) (.s (.s .d (.c (.r [(2, .ty rSl), (3, .ty rSl)]) .d)) (.s .d .d))))))
theorem ref12_With_calls {l : Sl} {e : ApiEntry} {K : Sl → World → Prop} {w : World} (h : ref12_With l e K w) : callV Pr Sl.val 62 #[l.val, (.agg ⟨e.cs⟩)] w K :=
  calls_of Pr_plain Pr_mixed Pr_func62 ref12_With_ann rSl (args := [l.val, (.agg ⟨e.cs⟩)]) (by kernel_rfl) h

/- changeover/sess.place$1 -/
def sess_place_1 (s : ApiSession) (n : Int) (K : Int → World → Prop) (w : World) : Prop :=
  newV (fun b1 w2 =>
  callV Pr (Value.int .i64) 65 #[(.int .i64 s.Client), (.int .i64 n)] w2 fun t3 w4 =>
  kp b1 w2 w4 <|
  K t3 w4) w
def sess_place_1_ann : Ann := (.s (.r [(0, .nl 2)]) (.s (.r [(3, .call (rI .i64))]) .d))
theorem sess_place_1_calls {s : ApiSession} {n : Int} {K : Int → World → Prop} {w : World} (h : sess_place_1 s n K w) : callV Pr (Value.int .i64) 64 #[(.agg ⟨s.cs⟩), (.int .i64 n)] w K :=
  calls_of Pr_plain Pr_mixed Pr_func64 sess_place_1_ann (rI .i64) (args := [(.agg ⟨s.cs⟩), (.int .i64 n)]) (by kernel_rfl) h

/- cmp.Compare[int] -/
def cmp_Compare_int (x : Int) (y : Int) (K : Int → World → Prop) (w : World) : Prop :=
  callV Pr Value.bool 84 #[(.int .i64 x)] w fun xNaN1 w2 =>
  callV Pr Value.bool 84 #[(.int .i64 y)] w2 fun yNaN3 w4 =>
  ifB xNaN1
  (ifB yNaN3
  (K 0 w4)
  (K (-1) w4))
  (ifB yNaN3
  (K 1 w4)
  (ifB (decide (x < y))
  (K (-1) w4)
  (ifB (decide (x > y))
  (K 1 w4)
  (K 0 w4))))
def cmp_Compare_int_ann : Ann := (.s .d (.s (.r [(1, .call rB)]) (.s (.r [(1, .call rB)]) (.s (.s .d (.c (.s (.s .d (.c (.s .d .d) .d)) (.s .d .d)) .d)) (.s (.s .d (.c (.s .d .d) .d)) (.s (.s .d (.c (.s .d .d) .d)) (.s (.s .d (.c (.s .d .d) .d)) (.s .d .d))))))))
theorem cmp_Compare_int_calls {x : Int} {y : Int} {K : Int → World → Prop} {w : World} (h : cmp_Compare_int x y K w) : callV Pr (Value.int .i64) 65 #[(.int .i64 x), (.int .i64 y)] w K :=
  calls_of Pr_plain Pr_mixed Pr_func65 cmp_Compare_int_ann (rI .i64) (args := [(.int .i64 x), (.int .i64 y)]) (by kernel_rfl) h

/- slices.rotateRight[changeover/api.Session] -/
def slices_rotateRight_api_Session (s : Sl) (r : Int) (K : Unit → World → Prop) (w : World) : Prop :=
  callV Pr uval 85 #[s.val, (.int .i64 (i64 ((s.len : Int) - r)))] w fun t1 w2 =>
  K () w2
def slices_rotateRight_api_Session_ann : Ann := (.r [(5, .call rU)])
theorem slices_rotateRight_api_Session_calls {s : Sl} {r : Int} {K : Unit → World → Prop} {w : World} (h : slices_rotateRight_api_Session s r K w) : callV Pr uval 67 #[s.val, (.int .i64 r)] w K :=
  calls_of Pr_plain Pr_mixed Pr_func67 slices_rotateRight_api_Session_ann rU (args := [s.val, (.int .i64 r)]) (by kernel_rfl) h

/- slices.Insert[[]changeover/api.Pair,changeover/api.Pair] -/
def slices_Insert_api_Pair_api_Pair (s : Sl) (i : Int) (v : Sl) (K : Sl → World → Prop) (w : World) : Prop :=
  opRd Pr (Instr.sliceAt 37 s.val (some (.int .i64 i)) none none) Sl.val (fun t1 =>
  ifB ((v.len : Int) == 0)
  (K s w)
  (ifB (i == (s.len : Int))
  (opTy Pr (Builtin.append_ #[37, 37] 37 #[s.val, v.val]) Sl.val (fun t2 w3 =>
  K t2 w3) w)
  (ifB (decide ((i64 ((s.len : Int) + (v.len : Int))) > (s.cap : Int)))
  (opRd Pr (Instr.sliceAt 37 s.val none (some (.int .i64 i)) none) Sl.val (fun t4 =>
  opTy Pr (Builtin.append_ #[37, 3] 37 #[t4.val, (.int .i64 (i64 ((i64 ((s.len : Int) + (v.len : Int))) - i)))]) Sl.val (fun s25 w6 =>
  opRd Pr (Instr.sliceAt 37 s25.val (some (.int .i64 i)) none none) Sl.val (fun t7 =>
  opTy Pr (Builtin.copy_ #[37, 37] 3 #[t7.val, v.val]) (Value.int .i64) (fun t8 w9 =>
  heldM (fun S11 w10 =>
  opH Pr S11 (Instr.sliceAt 37 s25.val (some (.int .i64 (i64 (i + (v.len : Int))))) none none) Sl.val (fun t12 =>
  opH Pr S11 (Instr.sliceAt 37 s.val (some (.int .i64 i)) none none) Sl.val (fun t13 =>
  opTy Pr (Builtin.copy_ #[37, 37] 3 #[t12.val, t13.val]) (Value.int .i64) (fun t14 w15 =>
  (S11 w15) ∧
  (K s25 w15)) w10))) w9) w6) w6) w) w)
  (opRd Pr (Instr.sliceAt 37 s.val none (some (.int .i64 (i64 ((s.len : Int) + (v.len : Int))))) none) Sl.val (fun s16 =>
  opRd Pr (Instr.sliceAt 37 s16.val (some (.int .i64 (i64 (i + (v.len : Int))))) none none) Sl.val (fun t17 =>
  opEx Pr 86 #[v.val, t17.val] Value.bool (fun t18 w19 =>
  ifB (!t18)
  (heldM (fun S21 w20 =>
  opH Pr S21 (Instr.sliceAt 37 s16.val (some (.int .i64 (i64 (i + (v.len : Int))))) none none) Sl.val (fun t22 =>
  opH Pr S21 (Instr.sliceAt 37 s16.val (some (.int .i64 i)) none none) Sl.val (fun t23 =>
  opTy Pr (Builtin.copy_ #[37, 37] 3 #[t22.val, t23.val]) (Value.int .i64) (fun t24 w25 =>
  (S21 w25) ∧
  (opRd Pr (Instr.sliceAt 37 s16.val (some (.int .i64 i)) none none) Sl.val (fun t26 =>
  opTy Pr (Builtin.copy_ #[37, 37] 3 #[t26.val, v.val]) (Value.int .i64) (fun t27 w28 =>
  K s16 w28) w25) w25)) w20))) w19)
  (opRd Pr (Instr.sliceAt 37 s16.val (some (.int .i64 (s.len : Int))) none none) Sl.val (fun t29 =>
  opTy Pr (Builtin.copy_ #[37, 37] 3 #[t29.val, v.val]) (Value.int .i64) (fun t30 w31 =>
  opRd Pr (Instr.sliceAt 37 s16.val (some (.int .i64 i)) none none) Sl.val (fun t32 =>
  callV Pr uval 87 #[t32.val, (.int .i64 (v.len : Int))] w31 fun t33 w34 =>
  K s16 w34) w31) w19) w19)) w) w) w)))) w
def slices_Insert_api_Pair_api_Pair_ann : Ann := (.s .d (.s (.r [(2, .rd rSl)]) (.s .d (.s (.s .d (.c (.s .d .d) .d)) (.s .d (.s (.s .d (.c (.s (.r [(2, .ty rSl)]) .d) .d)) (.s (.s .d (.c (.s (.r [(2, .rd rSl), (8, .ty rSl)]) (.s (.r [(2, .rd rSl), (4, .ty (rI .i64))]) (.s (.h (.take 0 (.take 1 (.take 2 (.take 3 (.take 4 (.take 5 (.take 6 (.take 7 (.one 8 .done))))))))) [(4, .rd rSl), (7, .rd rSl), (8, .ty (rI .i64))]) (.s .d .d)))) .d)) (.s (.r [(4, .rd rSl)]) (.s (.s (.r [(5, .rd rSl), (6, .ext rB)]) (.c (.s (.h (.take 0 (.take 1 (.take 2 (.take 3 (.take 4 (.take 5 (.take 6 (.take 7 (.one 8 .done))))))))) [(4, .rd rSl), (7, .rd rSl), (8, .ty (rI .i64))]) (.s (.r [(2, .rd rSl), (4, .ty (rI .i64))]) (.s .d .d))) .d)) (.s (.r [(2, .rd rSl), (4, .ty (rI .i64))]) (.s (.r [(2, .rd rSl), (4, .call rU)]) (.s .d .d))))))))))))
theorem slices_Insert_api_Pair_api_Pair_calls {s : Sl} {i : Int} {v : Sl} {K : Sl → World → Prop} {w : World} (h : slices_Insert_api_Pair_api_Pair s i v K w) : callV Pr Sl.val 68 #[s.val, (.int .i64 i), v.val] w K :=
  calls_of Pr_plain Pr_mixed Pr_func68 slices_Insert_api_Pair_api_Pair_ann rSl (args := [s.val, (.int .i64 i), v.val]) (by kernel_rfl) h

/- slices.Delete[[]changeover/api.Pair,changeover/api.Pair] -/
def slices_Delete_api_Pair_api_Pair (s : Sl) (i : Int) (j : Int) (K : Sl → World → Prop) (w : World) : Prop :=
  opRd Pr (Instr.sliceAt 37 s.val (some (.int .i64 i)) (some (.int .i64 j)) (some (.int .i64 (s.len : Int)))) Sl.val (fun t1 =>
  ifB (i == j)
  (K s w)
  (heldM (fun S3 w2 =>
  opH Pr S3 (Instr.sliceAt 37 s.val none (some (.int .i64 i)) none) Sl.val (fun t4 =>
  opH Pr S3 (Instr.sliceAt 37 s.val (some (.int .i64 j)) none none) Sl.val (fun t5 =>
  opTy Pr (Builtin.append_ #[37, 37] 37 #[t4.val, t5.val]) Sl.val (fun s6 w7 =>
  (S3 w7) ∧
  (opRd Pr (Instr.sliceAt 37 s6.val (some (.int .i64 (s6.len : Int))) (some (.int .i64 (s.len : Int))) none) Sl.val (fun t8 =>
  opTy Pr (Builtin.clear_ #[37] 0 #[t8.val]) uval (fun u9 w10 =>
  K s6 w10) w7) w7)) w2))) w)) w
def slices_Delete_api_Pair_api_Pair_ann : Ann := (.s .d (.s (.r [(5, .rd rSl)]) (.s (.s .d (.c (.s .d .d) .d)) (.s .d (.s (.h (.take 0 (.take 1 (.take 2 (.take 3 (.take 4 (.take 5 (.one 6 (.take 7 .done)))))))) [(2, .rd rSl), (5, .rd rSl), (6, .ty rSl)]) (.s (.r [(4, .rd rSl), (5, .ty rU)]) (.s .d .d)))))))
theorem slices_Delete_api_Pair_api_Pair_calls {s : Sl} {i : Int} {j : Int} {K : Sl → World → Prop} {w : World} (h : slices_Delete_api_Pair_api_Pair s i j K w) : callV Pr Sl.val 69 #[s.val, (.int .i64 i), (.int .i64 j)] w K :=
  calls_of Pr_plain Pr_mixed Pr_func69 slices_Delete_api_Pair_api_Pair_ann rSl (args := [s.val, (.int .i64 i), (.int .i64 j)]) (by kernel_rfl) h

/- changeover/kvone.place$1 -/
def kvone_place_1 (p : ApiPair) (k : List UInt8) (K : Int → World → Prop) (w : World) : Prop :=
  newV (fun b1 w2 =>
  callV Pr (Value.int .i64) 72 #[(sval p.Key), (sval k)] w2 fun t3 w4 =>
  kp b1 w2 w4 <|
  K t3 w4) w
def kvone_place_1_ann : Ann := (.s (.r [(0, .nl 2)]) (.s (.r [(3, .call (rI .i64))]) .d))
theorem kvone_place_1_calls {p : ApiPair} {k : List UInt8} {K : Int → World → Prop} {w : World} (h : kvone_place_1 p k K w) : callV Pr (Value.int .i64) 71 #[(.agg ⟨p.cs⟩), (sval k)] w K :=
  calls_of Pr_plain Pr_mixed Pr_func71 kvone_place_1_ann (rI .i64) (args := [(.agg ⟨p.cs⟩), (sval k)]) (by kernel_rfl) h

/- strings.Compare -/
def strings_Compare (a : List UInt8) (b : List UInt8) (K : Int → World → Prop) (w : World) : Prop :=
  callV Pr (Value.int .i64) 88 #[(sval a), (sval b)] w fun t1 w2 =>
  K t1 w2
def strings_Compare_ann : Ann := (.s .d (.s (.r [(2, .call (rI .i64))]) .d))
theorem strings_Compare_calls {a : List UInt8} {b : List UInt8} {K : Int → World → Prop} {w : World} (h : strings_Compare a b K w) : callV Pr (Value.int .i64) 72 #[(sval a), (sval b)] w K :=
  calls_of Pr_plain Pr_mixed Pr_func72 strings_Compare_ann (rI .i64) (args := [(sval a), (sval b)]) (by kernel_rfl) h

/- changeover/changeoverref05.Size -/
def ref05_Size (s : List UInt8) (i : Int) (K : (Int × Int) → World → Prop) (w : World) : Prop :=
  opRd Pr (Instr.index 9 (sval s) (.int .i64 i)) (Value.int .u8) (fun t1 =>
  join3 (fun (j2 : Int → Int → Int → World → Prop) =>
  ifB (decide ((IntKind.i64.wrap t1) < 128))
  (K (1, (IntKind.i64.wrap t1)) w)
  (ifB (decide ((IntKind.i64.wrap t1) ≥ 194))
  (ifB (decide ((IntKind.i64.wrap t1) ≤ 223))
  (j2 2 128 (i64 ((IntKind.i64.wrap t1) - 192)) w)
  (ifB (decide ((IntKind.i64.wrap t1) ≥ 224))
  (ifB (decide ((IntKind.i64.wrap t1) ≤ 239))
  (j2 3 2048 (i64 ((IntKind.i64.wrap t1) - 224)) w)
  (ifB (decide ((IntKind.i64.wrap t1) ≥ 240))
  (ifB (decide ((IntKind.i64.wrap t1) ≤ 244))
  (j2 4 65536 (i64 ((IntKind.i64.wrap t1) - 240)) w)
  (K (0, 0) w))
  (K (0, 0) w)))
  (ifB (decide ((IntKind.i64.wrap t1) ≥ 240))
  (ifB (decide ((IntKind.i64.wrap t1) ≤ 244))
  (j2 4 65536 (i64 ((IntKind.i64.wrap t1) - 240)) w)
  (K (0, 0) w))
  (K (0, 0) w))))
  (ifB (decide ((IntKind.i64.wrap t1) ≥ 224))
  (ifB (decide ((IntKind.i64.wrap t1) ≤ 239))
  (j2 3 2048 (i64 ((IntKind.i64.wrap t1) - 224)) w)
  (ifB (decide ((IntKind.i64.wrap t1) ≥ 240))
  (ifB (decide ((IntKind.i64.wrap t1) ≤ 244))
  (j2 4 65536 (i64 ((IntKind.i64.wrap t1) - 240)) w)
  (K (0, 0) w))
  (K (0, 0) w)))
  (ifB (decide ((IntKind.i64.wrap t1) ≥ 240))
  (ifB (decide ((IntKind.i64.wrap t1) ≤ 244))
  (j2 4 65536 (i64 ((IntKind.i64.wrap t1) - 240)) w)
  (K (0, 0) w))
  (K (0, 0) w)))))
  (fun n3 low4 v5 w6 =>
  ifB (decide ((i64 (i + n3)) > ((s : List UInt8).length : Int)))
  (K (0, 0) w6)
  (loop2 (v5 : Int) (1 : Int) (fun v7 k8 k9 w10 =>
  ifB (decide (k8 < n3))
  (opRd Pr (Instr.index 9 (sval s) (.int .i64 (i64 (i + k8)))) (Value.int .u8) (fun t11 =>
  ifB (decide ((IntKind.i64.wrap t11) < 128))
  (K (0, 0) w10)
  (ifB (decide ((IntKind.i64.wrap t11) > 191))
  (K (0, 0) w10)
  (k9 (i64 ((i64 ((i64 (64 * v7)) + (IntKind.i64.wrap t11))) - 128)) (i64 (k8 + 1)) w10))) w10)
  (ifB (decide (v7 < low4))
  (K (0, 0) w10)
  (ifB (decide (v7 > 1114111))
  (K (0, 0) w10)
  (ifB (decide (v7 ≥ 55296))
  (ifB (decide (v7 ≤ 57343))
  (K (0, 0) w10)
  (K (n3, v7) w10))
  (K (n3, v7) w10))))) w6))) w
def ref05_Size_ann : Ann := (.s .d (.s (.r [(2, .rd (rI .u8))]) (.s .d (.sj [(.s 7, (rI .i64)), (.s 8, (rI .i64)), (.s 9, (rI .i64))] (.b (.s .d (.c (.s .d .d) (.s .d (.c .d (.s .d (.c .d (.s .d (.c .d (.s .d .d)))))))))) (.s (.s .d (.c (.s .d .d) .d)) (.s (.s .d (.b (.l [(.s 9, (rI .i64)), (.s 10, (rI .i64))] (.s (.s .d (.c .d .d)) (.s (.b (.s (.r [(4, .rd (rI .u8))]) (.s (.s .d (.c (.s .d .d) .d)) .d))) .d))))) (.s (.s .d (.c (.s .d .d) .d)) (.s .d .d))))))))
theorem ref05_Size_calls {s : List UInt8} {i : Int} {K : (Int × Int) → World → Prop} {w : World} (h : ref05_Size s i K w) : callV Pr (tval2 (Value.int .i64) (Value.int .i64)) 73 #[(sval s), (.int .i64 i)] w K :=
  calls_of Pr_plain Pr_mixed Pr_func73 ref05_Size_ann (rT2 (rI .i64) (rI .i64)) (args := [(sval s), (.int .i64 i)]) (by kernel_rfl) h

/- changeover/changeoverref05.Plain -/
def ref05_Plain (r : Int) (K : Bool → World → Prop) (w : World) : Prop :=
  loop1 (0 : Int) (fun i1 k2 w3 =>
  ifB (decide (i1 < ((cs0 : List UInt8).length : Int)))
  (opRd Pr (Instr.index 9 (sval cs0) (.int .i64 i1)) (Value.int .u8) (fun t4 =>
  ifB ((IntKind.i64.wrap t4) == r)
  (K true w3)
  (k2 (i64 (i1 + 1)) w3)) w3)
  (ifB (decide (r ≥ 161))
  (K (r != 65533) w3)
  (K false w3))) w
def ref05_Plain_ann : Ann := (.s .d (.s .d (.s (.s .d (.b (.l [(.s 4, (rI .i64))] (.s (.s .d (.c .d .d)) (.s (.b (.s (.r [(2, .rd (rI .u8))]) (.c (.s .d .d) .d))) .d))))) (.s .d .d))))
theorem ref05_Plain_calls {r : Int} {K : Bool → World → Prop} {w : World} (h : ref05_Plain r K w) : callV Pr Value.bool 74 #[(.int .i64 r)] w K :=
  calls_of Pr_plain Pr_mixed Pr_func74 ref05_Plain_ann rB (args := [(.int .i64 r)]) (by kernel_rfl) h

/- changeover/changeoverref05.Bad -/
def ref05_Bad (s : List UInt8) (K : Int → World → Prop) (w : World) : Prop :=
  loop1 (0 : Int) (fun i1 k2 w3 =>
  ifB (decide (i1 < ((s : List UInt8).length : Int)))
  (callV Pr (tval2 (Value.int .i64) (Value.int .i64)) 73 #[(sval s), (.int .i64 i1)] w3 fun t4 w5 =>
  ifB (t4.1 == 0)
  (K i1 w5)
  (k2 (i64 (i1 + t4.1)) w5))
  (K (-1) w3)) w
def ref05_Bad_ann : Ann := (.s .d (.s .d (.s (.b (.l [(.s 3, (rI .i64))] (.s (.s .d (.c .d .d)) (.b (.s (.r [(2, .call (rT2 (rI .i64) (rI .i64)))]) (.s (.s .d (.c (.s .d .d) .d)) .d)))))) (.s .d .d))))
theorem ref05_Bad_calls {s : List UInt8} {K : Int → World → Prop} {w : World} (h : ref05_Bad s K w) : callV Pr (Value.int .i64) 75 #[(sval s)] w K :=
  calls_of Pr_plain Pr_mixed Pr_func75 ref05_Bad_ann (rI .i64) (args := [(sval s)]) (by kernel_rfl) h

/- changeover/kvtwo.set$1 -/
def kvtwo_set_1 (a : ApiPair) (b : ApiPair) (K : Int → World → Prop) (w : World) : Prop :=
  newV (fun b1 w2 =>
  newV (fun b3 w4 =>
  ifB (strLt a.Key b.Key)
  (K (-1) w4)
  (ifB (!((strLt a.Key b.Key) || (strEq a.Key b.Key)))
  (K 1 w4)
  (K 0 w4))) w2) w
def kvtwo_set_1_ann : Ann := (.s (.r [(0, .nl 2), (1, .nl 3)]) (.s (.b (.s .d (.c (.s .d .d) (.s .d (.c (.s .d .d) .d))))) (.s .d .d)))
theorem kvtwo_set_1_calls {a : ApiPair} {b : ApiPair} {K : Int → World → Prop} {w : World} (h : kvtwo_set_1 a b K w) : callV Pr (Value.int .i64) 77 #[(.agg ⟨a.cs⟩), (.agg ⟨b.cs⟩)] w K :=
  calls_of Pr_plain Pr_mixed Pr_func77 kvtwo_set_1_ann (rI .i64) (args := [(.agg ⟨a.cs⟩), (.agg ⟨b.cs⟩)]) (by kernel_rfl) h

/- changeover/ledger.above -/
def ledger_above (applied : Int) (K : Bool → World → Prop) (w : World) : Prop :=
  K (decide (applied < 9223372036854775807)) w
def ledger_above_ann : Ann := (.s .d (.s .d .d))
theorem ledger_above_calls {applied : Int} {K : Bool → World → Prop} {w : World} (h : ledger_above applied K w) : callV Pr Value.bool 78 #[(.int .i64 applied)] w K :=
  calls_of Pr_plain Pr_mixed Pr_func78 ledger_above_ann rB (args := [(.int .i64 applied)]) (by kernel_rfl) h

/- changeover/ledger.behind -/
def ledger_behind (l : Sl) (applied : Int) (K : Value → World → Prop) (w : World) : Prop :=
  opTy Pr (Instr.box 53 l.val) pav (fun l1 w2 =>
  opTy Pr (Instr.box 3 (.int .i64 applied)) pav (fun applied3 w4 =>
  K (.func (.func 89) #[] #[(.pointer (some l1)), (.pointer (some applied3))]) w4) w2) w
def ledger_behind_ann : Ann := (.s (.r [(0, .ty rPA), (1, .ty rPA)]) (.s .d .d))
theorem ledger_behind_calls {l : Sl} {applied : Int} {K : Value → World → Prop} {w : World} (h : ledger_behind l applied K w) : callV Pr vval 79 #[l.val, (.int .i64 applied)] w K :=
  calls_of Pr_plain Pr_mixed Pr_func79 ledger_behind_ann rV (args := [l.val, (.int .i64 applied)]) (by kernel_rfl) h

/- changeover/entry.From -/
def entry_From (l : Sl) (index : Int) (K : Sl → World → Prop) (w : World) : Prop :=
  callV Pr (tval2 (Value.int .i64) Value.bool) 81 #[l.val, (.int .i64 index)] w fun t1 w2 =>
  opRd Pr (Instr.sliceAt 53 l.val (some (.int .i64 t1.1)) none none) Sl.val (fun t3 =>
  callV Pr Sl.val 56 #[t3.val] w2 fun t4 w5 =>
  K t4 w5) w2
def entry_From_ann : Ann := (.s .d (.s (.r [(2, .call (rT2 (rI .i64) rB))]) (.s (.r [(2, .rd rSl), (3, .call rSl)]) .d)))
theorem entry_From_calls {l : Sl} {index : Int} {K : Sl → World → Prop} {w : World} (h : entry_From l index K w) : callV Pr Sl.val 80 #[l.val, (.int .i64 index)] w K :=
  calls_of Pr_plain Pr_mixed Pr_func80 entry_From_ann rSl (args := [l.val, (.int .i64 index)]) (by kernel_rfl) h

/- changeover/entry.place -/
def entry_place (l : Sl) (index : Int) (K : (Int × Bool) → World → Prop) (w : World) : Prop :=
  callV Pr (tval2 (Value.int .i64) Value.bool) 90 #[l.val, (.int .i64 index), (.func (.func 91) #[] #[])] w fun t1 w2 =>
  K (t1.1, t1.2) w2
def entry_place_ann : Ann := (.s .d (.s (.r [(2, .call (rT2 (rI .i64) rB))]) .d))
theorem entry_place_calls {l : Sl} {index : Int} {K : (Int × Bool) → World → Prop} {w : World} (h : entry_place l index K w) : callV Pr (tval2 (Value.int .i64) Value.bool) 81 #[l.val, (.int .i64 index)] w K :=
  calls_of Pr_plain Pr_mixed Pr_func81 entry_place_ann (rT2 (rI .i64) rB) (args := [l.val, (.int .i64 index)]) (by kernel_rfl) h

/- slices.Insert[[]changeover/api.Entry,changeover/api.Entry] -/
def slices_Insert_api_Entry_api_Entry (s : Sl) (i : Int) (v : Sl) (K : Sl → World → Prop) (w : World) : Prop :=
  opRd Pr (Instr.sliceAt 53 s.val (some (.int .i64 i)) none none) Sl.val (fun t1 =>
  ifB ((v.len : Int) == 0)
  (K s w)
  (ifB (i == (s.len : Int))
  (opTy Pr (Builtin.append_ #[53, 53] 53 #[s.val, v.val]) Sl.val (fun t2 w3 =>
  K t2 w3) w)
  (ifB (decide ((i64 ((s.len : Int) + (v.len : Int))) > (s.cap : Int)))
  (opRd Pr (Instr.sliceAt 53 s.val none (some (.int .i64 i)) none) Sl.val (fun t4 =>
  opTy Pr (Builtin.append_ #[53, 3] 53 #[t4.val, (.int .i64 (i64 ((i64 ((s.len : Int) + (v.len : Int))) - i)))]) Sl.val (fun s25 w6 =>
  opRd Pr (Instr.sliceAt 53 s25.val (some (.int .i64 i)) none none) Sl.val (fun t7 =>
  opTy Pr (Builtin.copy_ #[53, 53] 3 #[t7.val, v.val]) (Value.int .i64) (fun t8 w9 =>
  heldM (fun S11 w10 =>
  opH Pr S11 (Instr.sliceAt 53 s25.val (some (.int .i64 (i64 (i + (v.len : Int))))) none none) Sl.val (fun t12 =>
  opH Pr S11 (Instr.sliceAt 53 s.val (some (.int .i64 i)) none none) Sl.val (fun t13 =>
  opTy Pr (Builtin.copy_ #[53, 53] 3 #[t12.val, t13.val]) (Value.int .i64) (fun t14 w15 =>
  (S11 w15) ∧
  (K s25 w15)) w10))) w9) w6) w6) w) w)
  (opRd Pr (Instr.sliceAt 53 s.val none (some (.int .i64 (i64 ((s.len : Int) + (v.len : Int))))) none) Sl.val (fun s16 =>
  opRd Pr (Instr.sliceAt 53 s16.val (some (.int .i64 (i64 (i + (v.len : Int))))) none none) Sl.val (fun t17 =>
  opEx Pr 92 #[v.val, t17.val] Value.bool (fun t18 w19 =>
  ifB (!t18)
  (heldM (fun S21 w20 =>
  opH Pr S21 (Instr.sliceAt 53 s16.val (some (.int .i64 (i64 (i + (v.len : Int))))) none none) Sl.val (fun t22 =>
  opH Pr S21 (Instr.sliceAt 53 s16.val (some (.int .i64 i)) none none) Sl.val (fun t23 =>
  opTy Pr (Builtin.copy_ #[53, 53] 3 #[t22.val, t23.val]) (Value.int .i64) (fun t24 w25 =>
  (S21 w25) ∧
  (opRd Pr (Instr.sliceAt 53 s16.val (some (.int .i64 i)) none none) Sl.val (fun t26 =>
  opTy Pr (Builtin.copy_ #[53, 53] 3 #[t26.val, v.val]) (Value.int .i64) (fun t27 w28 =>
  K s16 w28) w25) w25)) w20))) w19)
  (opRd Pr (Instr.sliceAt 53 s16.val (some (.int .i64 (s.len : Int))) none none) Sl.val (fun t29 =>
  opTy Pr (Builtin.copy_ #[53, 53] 3 #[t29.val, v.val]) (Value.int .i64) (fun t30 w31 =>
  opRd Pr (Instr.sliceAt 53 s16.val (some (.int .i64 i)) none none) Sl.val (fun t32 =>
  callV Pr uval 93 #[t32.val, (.int .i64 (v.len : Int))] w31 fun t33 w34 =>
  K s16 w34) w31) w19) w19)) w) w) w)))) w
def slices_Insert_api_Entry_api_Entry_ann : Ann := (.s .d (.s (.r [(2, .rd rSl)]) (.s .d (.s (.s .d (.c (.s .d .d) .d)) (.s .d (.s (.s .d (.c (.s (.r [(2, .ty rSl)]) .d) .d)) (.s (.s .d (.c (.s (.r [(2, .rd rSl), (8, .ty rSl)]) (.s (.r [(2, .rd rSl), (4, .ty (rI .i64))]) (.s (.h (.take 0 (.take 1 (.take 2 (.take 3 (.take 4 (.take 5 (.take 6 (.take 7 (.one 8 .done))))))))) [(4, .rd rSl), (7, .rd rSl), (8, .ty (rI .i64))]) (.s .d .d)))) .d)) (.s (.r [(4, .rd rSl)]) (.s (.s (.r [(5, .rd rSl), (6, .ext rB)]) (.c (.s (.h (.take 0 (.take 1 (.take 2 (.take 3 (.take 4 (.take 5 (.take 6 (.take 7 (.one 8 .done))))))))) [(4, .rd rSl), (7, .rd rSl), (8, .ty (rI .i64))]) (.s (.r [(2, .rd rSl), (4, .ty (rI .i64))]) (.s .d .d))) .d)) (.s (.r [(2, .rd rSl), (4, .ty (rI .i64))]) (.s (.r [(2, .rd rSl), (4, .call rU)]) (.s .d .d))))))))))))
theorem slices_Insert_api_Entry_api_Entry_calls {s : Sl} {i : Int} {v : Sl} {K : Sl → World → Prop} {w : World} (h : slices_Insert_api_Entry_api_Entry s i v K w) : callV Pr Sl.val 82 #[s.val, (.int .i64 i), v.val] w K :=
  calls_of Pr_plain Pr_mixed Pr_func82 slices_Insert_api_Entry_api_Entry_ann rSl (args := [s.val, (.int .i64 i), v.val]) (by kernel_rfl) h

/- cmp.isNaN[int] -/
def cmp_isNaN_int (x : Int) (K : Bool → World → Prop) (w : World) : Prop :=
  K (x != x) w
def cmp_isNaN_int_ann : Ann := (.s .d (.s .d .d))
theorem cmp_isNaN_int_calls {x : Int} {K : Bool → World → Prop} {w : World} (h : cmp_isNaN_int x K w) : callV Pr Value.bool 84 #[(.int .i64 x)] w K :=
  calls_of Pr_plain Pr_mixed Pr_func84 cmp_isNaN_int_ann rB (args := [(.int .i64 x)]) (by kernel_rfl) h

/- slices.rotateLeft[changeover/api.Session] -/
def slices_rotateLeft_api_Session (s : Sl) (r : Int) (K : Unit → World → Prop) (w : World) : Prop :=
  opRd Pr (Instr.sliceAt 22 s.val none (some (.int .i64 r)) none) Sl.val (fun t1 =>
  callV Pr uval 94 #[t1.val] w fun t2 w3 =>
  opRd Pr (Instr.sliceAt 22 s.val (some (.int .i64 r)) none none) Sl.val (fun t4 =>
  callV Pr uval 94 #[t4.val] w3 fun t5 w6 =>
  callV Pr uval 94 #[s.val] w6 fun t7 w8 =>
  K () w8) w3) w
def slices_rotateLeft_api_Session_ann : Ann := (.s (.r [(2, .rd rSl), (3, .call rU)]) (.s (.r [(2, .rd rSl), (3, .call rU)]) (.r [(1, .call rU)])))
theorem slices_rotateLeft_api_Session_calls {s : Sl} {r : Int} {K : Unit → World → Prop} {w : World} (h : slices_rotateLeft_api_Session s r K w) : callV Pr uval 85 #[s.val, (.int .i64 r)] w K :=
  calls_of Pr_plain Pr_mixed Pr_func85 slices_rotateLeft_api_Session_ann rU (args := [s.val, (.int .i64 r)]) (by kernel_rfl) h

/- slices.rotateRight[changeover/api.Pair] -/
def slices_rotateRight_api_Pair (s : Sl) (r : Int) (K : Unit → World → Prop) (w : World) : Prop :=
  callV Pr uval 95 #[s.val, (.int .i64 (i64 ((s.len : Int) - r)))] w fun t1 w2 =>
  K () w2
def slices_rotateRight_api_Pair_ann : Ann := (.r [(5, .call rU)])
theorem slices_rotateRight_api_Pair_calls {s : Sl} {r : Int} {K : Unit → World → Prop} {w : World} (h : slices_rotateRight_api_Pair s r K w) : callV Pr uval 87 #[s.val, (.int .i64 r)] w K :=
  calls_of Pr_plain Pr_mixed Pr_func87 slices_rotateRight_api_Pair_ann rU (args := [s.val, (.int .i64 r)]) (by kernel_rfl) h

/- internal/bytealg.CompareString -/
def internal_bytealg_CompareString (a : List UInt8) (b : List UInt8) (K : Int → World → Prop) (w : World) : Prop :=
  opEx Pr 96 #[(sval a), (sval b)] (Value.int .i64) (fun t1 w2 =>
  K t1 w2) w
def internal_bytealg_CompareString_ann : Ann := (.s .d (.s (.r [(2, .ext (rI .i64))]) .d))
theorem internal_bytealg_CompareString_calls {a : List UInt8} {b : List UInt8} {K : Int → World → Prop} {w : World} (h : internal_bytealg_CompareString a b K w) : callV Pr (Value.int .i64) 88 #[(sval a), (sval b)] w K :=
  calls_of Pr_plain Pr_mixed Pr_func88 internal_bytealg_CompareString_ann (rI .i64) (args := [(sval a), (sval b)]) (by kernel_rfl) h

/- changeover/entry.place$1 -/
def entry_place_1 (e : ApiEntry) (n : Int) (K : Int → World → Prop) (w : World) : Prop :=
  newV (fun b1 w2 =>
  callV Pr (Value.int .i64) 65 #[(.int .i64 e.Index), (.int .i64 n)] w2 fun t3 w4 =>
  kp b1 w2 w4 <|
  K t3 w4) w
def entry_place_1_ann : Ann := (.s (.r [(0, .nl 2)]) (.s (.r [(3, .call (rI .i64))]) .d))
theorem entry_place_1_calls {e : ApiEntry} {n : Int} {K : Int → World → Prop} {w : World} (h : entry_place_1 e n K w) : callV Pr (Value.int .i64) 91 #[(.agg ⟨e.cs⟩), (.int .i64 n)] w K :=
  calls_of Pr_plain Pr_mixed Pr_func91 entry_place_1_ann (rI .i64) (args := [(.agg ⟨e.cs⟩), (.int .i64 n)]) (by kernel_rfl) h

/- slices.rotateRight[changeover/api.Entry] -/
def slices_rotateRight_api_Entry (s : Sl) (r : Int) (K : Unit → World → Prop) (w : World) : Prop :=
  callV Pr uval 97 #[s.val, (.int .i64 (i64 ((s.len : Int) - r)))] w fun t1 w2 =>
  K () w2
def slices_rotateRight_api_Entry_ann : Ann := (.r [(5, .call rU)])
theorem slices_rotateRight_api_Entry_calls {s : Sl} {r : Int} {K : Unit → World → Prop} {w : World} (h : slices_rotateRight_api_Entry s r K w) : callV Pr uval 93 #[s.val, (.int .i64 r)] w K :=
  calls_of Pr_plain Pr_mixed Pr_func93 slices_rotateRight_api_Entry_ann rU (args := [s.val, (.int .i64 r)]) (by kernel_rfl) h

/- slices.Reverse[[]changeover/api.Session,changeover/api.Session] -/
def slices_Reverse_api_Session_api_Session (s : Sl) (K : Unit → World → Prop) (w : World) : Prop :=
  loop2 (0 : Int) ((i64 ((s.len : Int) - 1)) : Int) (fun i1 j2 k3 w4 =>
  ifB (decide (i1 < j2))
  (heldM (fun S6 w5 =>
  opH Pr S6 (Instr.indexAt 22 s.val (.int .i64 j2)) pav (fun t7 =>
  opH Pr S6 (Instr.loadAt 59 (.pointer (some t7))) ApiSession.val (fun t8 =>
  opH Pr S6 (Instr.indexAt 22 s.val (.int .i64 i1)) pav (fun t9 =>
  opH Pr S6 (Instr.loadAt 59 (.pointer (some t9))) ApiSession.val (fun t10 =>
  opH Pr S6 (Instr.indexAt 22 s.val (.int .i64 i1)) pav (fun t11 =>
  opUn Pr (Instr.storeAt 59 (.pointer (some t11)) (.agg ⟨t8.cs⟩)) (fun w12 =>
  (S6 w12) ∧
  (opH Pr S6 (Instr.indexAt 22 s.val (.int .i64 j2)) pav (fun t13 =>
  opUn Pr (Instr.storeAt 59 (.pointer (some t13)) (.agg ⟨t10.cs⟩)) (fun w14 =>
  (S6 w14) ∧
  (k3 (i64 (i1 + 1)) (i64 (j2 - 1)) w14)) w12))) w5)))))) w4)
  (K () w4)) w
def slices_Reverse_api_Session_api_Session_ann : Ann := (.s .d (.b (.l [(.s 2, (rI .i64)), (.s 3, (rI .i64))] (.s (.s .d (.c .d .d)) (.s (.b (.h (.take 0 (.take 1 (.take 2 (.take 3 (.take 4 (.take 5 (.take 6 (.take 7 (.take 8 (.take 9 (.take 10 (.take 11 (.take 12 (.one 13 (.take 14 (.one 15 .done)))))))))))))))) [(6, .rd rPA), (7, .rd rApiSession), (10, .rd rPA), (11, .rd rApiSession), (12, .rd rPA), (13, .un), (14, .rd rPA), (15, .un)])) .d)))))
theorem slices_Reverse_api_Session_api_Session_calls {s : Sl} {K : Unit → World → Prop} {w : World} (h : slices_Reverse_api_Session_api_Session s K w) : callV Pr uval 94 #[s.val] w K :=
  calls_of Pr_plain Pr_mixed Pr_func94 slices_Reverse_api_Session_api_Session_ann rU (args := [s.val]) (by kernel_rfl) h

/- slices.rotateLeft[changeover/api.Pair] -/
def slices_rotateLeft_api_Pair (s : Sl) (r : Int) (K : Unit → World → Prop) (w : World) : Prop :=
  opRd Pr (Instr.sliceAt 37 s.val none (some (.int .i64 r)) none) Sl.val (fun t1 =>
  callV Pr uval 98 #[t1.val] w fun t2 w3 =>
  opRd Pr (Instr.sliceAt 37 s.val (some (.int .i64 r)) none none) Sl.val (fun t4 =>
  callV Pr uval 98 #[t4.val] w3 fun t5 w6 =>
  callV Pr uval 98 #[s.val] w6 fun t7 w8 =>
  K () w8) w3) w
def slices_rotateLeft_api_Pair_ann : Ann := (.s (.r [(2, .rd rSl), (3, .call rU)]) (.s (.r [(2, .rd rSl), (3, .call rU)]) (.r [(1, .call rU)])))
theorem slices_rotateLeft_api_Pair_calls {s : Sl} {r : Int} {K : Unit → World → Prop} {w : World} (h : slices_rotateLeft_api_Pair s r K w) : callV Pr uval 95 #[s.val, (.int .i64 r)] w K :=
  calls_of Pr_plain Pr_mixed Pr_func95 slices_rotateLeft_api_Pair_ann rU (args := [s.val, (.int .i64 r)]) (by kernel_rfl) h

/- slices.rotateLeft[changeover/api.Entry] -/
def slices_rotateLeft_api_Entry (s : Sl) (r : Int) (K : Unit → World → Prop) (w : World) : Prop :=
  opRd Pr (Instr.sliceAt 53 s.val none (some (.int .i64 r)) none) Sl.val (fun t1 =>
  callV Pr uval 99 #[t1.val] w fun t2 w3 =>
  opRd Pr (Instr.sliceAt 53 s.val (some (.int .i64 r)) none none) Sl.val (fun t4 =>
  callV Pr uval 99 #[t4.val] w3 fun t5 w6 =>
  callV Pr uval 99 #[s.val] w6 fun t7 w8 =>
  K () w8) w3) w
def slices_rotateLeft_api_Entry_ann : Ann := (.s (.r [(2, .rd rSl), (3, .call rU)]) (.s (.r [(2, .rd rSl), (3, .call rU)]) (.r [(1, .call rU)])))
theorem slices_rotateLeft_api_Entry_calls {s : Sl} {r : Int} {K : Unit → World → Prop} {w : World} (h : slices_rotateLeft_api_Entry s r K w) : callV Pr uval 97 #[s.val, (.int .i64 r)] w K :=
  calls_of Pr_plain Pr_mixed Pr_func97 slices_rotateLeft_api_Entry_ann rU (args := [s.val, (.int .i64 r)]) (by kernel_rfl) h

/- slices.Reverse[[]changeover/api.Pair,changeover/api.Pair] -/
def slices_Reverse_api_Pair_api_Pair (s : Sl) (K : Unit → World → Prop) (w : World) : Prop :=
  loop2 (0 : Int) ((i64 ((s.len : Int) - 1)) : Int) (fun i1 j2 k3 w4 =>
  ifB (decide (i1 < j2))
  (heldM (fun S6 w5 =>
  opH Pr S6 (Instr.indexAt 37 s.val (.int .i64 j2)) pav (fun t7 =>
  opH Pr S6 (Instr.loadAt 45 (.pointer (some t7))) ApiPair.val (fun t8 =>
  opH Pr S6 (Instr.indexAt 37 s.val (.int .i64 i1)) pav (fun t9 =>
  opH Pr S6 (Instr.loadAt 45 (.pointer (some t9))) ApiPair.val (fun t10 =>
  opH Pr S6 (Instr.indexAt 37 s.val (.int .i64 i1)) pav (fun t11 =>
  opUn Pr (Instr.storeAt 45 (.pointer (some t11)) (.agg ⟨t8.cs⟩)) (fun w12 =>
  (S6 w12) ∧
  (opH Pr S6 (Instr.indexAt 37 s.val (.int .i64 j2)) pav (fun t13 =>
  opUn Pr (Instr.storeAt 45 (.pointer (some t13)) (.agg ⟨t10.cs⟩)) (fun w14 =>
  (S6 w14) ∧
  (k3 (i64 (i1 + 1)) (i64 (j2 - 1)) w14)) w12))) w5)))))) w4)
  (K () w4)) w
def slices_Reverse_api_Pair_api_Pair_ann : Ann := (.s .d (.b (.l [(.s 2, (rI .i64)), (.s 3, (rI .i64))] (.s (.s .d (.c .d .d)) (.s (.b (.h (.take 0 (.take 1 (.take 2 (.take 3 (.take 4 (.take 5 (.take 6 (.take 7 (.take 8 (.take 9 (.take 10 (.take 11 (.take 12 (.one 13 (.take 14 (.one 15 .done)))))))))))))))) [(6, .rd rPA), (7, .rd rApiPair), (10, .rd rPA), (11, .rd rApiPair), (12, .rd rPA), (13, .un), (14, .rd rPA), (15, .un)])) .d)))))
theorem slices_Reverse_api_Pair_api_Pair_calls {s : Sl} {K : Unit → World → Prop} {w : World} (h : slices_Reverse_api_Pair_api_Pair s K w) : callV Pr uval 98 #[s.val] w K :=
  calls_of Pr_plain Pr_mixed Pr_func98 slices_Reverse_api_Pair_api_Pair_ann rU (args := [s.val]) (by kernel_rfl) h

/- slices.Reverse[[]changeover/api.Entry,changeover/api.Entry] -/
def slices_Reverse_api_Entry_api_Entry (s : Sl) (K : Unit → World → Prop) (w : World) : Prop :=
  loop2 (0 : Int) ((i64 ((s.len : Int) - 1)) : Int) (fun i1 j2 k3 w4 =>
  ifB (decide (i1 < j2))
  (heldM (fun S6 w5 =>
  opH Pr S6 (Instr.indexAt 53 s.val (.int .i64 j2)) pav (fun t7 =>
  opH Pr S6 (Instr.loadAt 74 (.pointer (some t7))) ApiEntry.val (fun t8 =>
  opH Pr S6 (Instr.indexAt 53 s.val (.int .i64 i1)) pav (fun t9 =>
  opH Pr S6 (Instr.loadAt 74 (.pointer (some t9))) ApiEntry.val (fun t10 =>
  opH Pr S6 (Instr.indexAt 53 s.val (.int .i64 i1)) pav (fun t11 =>
  opUn Pr (Instr.storeAt 74 (.pointer (some t11)) (.agg ⟨t8.cs⟩)) (fun w12 =>
  (S6 w12) ∧
  (opH Pr S6 (Instr.indexAt 53 s.val (.int .i64 j2)) pav (fun t13 =>
  opUn Pr (Instr.storeAt 74 (.pointer (some t13)) (.agg ⟨t10.cs⟩)) (fun w14 =>
  (S6 w14) ∧
  (k3 (i64 (i1 + 1)) (i64 (j2 - 1)) w14)) w12))) w5)))))) w4)
  (K () w4)) w
def slices_Reverse_api_Entry_api_Entry_ann : Ann := (.s .d (.b (.l [(.s 2, (rI .i64)), (.s 3, (rI .i64))] (.s (.s .d (.c .d .d)) (.s (.b (.h (.take 0 (.take 1 (.take 2 (.take 3 (.take 4 (.take 5 (.take 6 (.take 7 (.take 8 (.take 9 (.take 10 (.take 11 (.take 12 (.one 13 (.take 14 (.one 15 .done)))))))))))))))) [(6, .rd rPA), (7, .rd rApiEntry), (10, .rd rPA), (11, .rd rApiEntry), (12, .rd rPA), (13, .un), (14, .rd rPA), (15, .un)])) .d)))))
theorem slices_Reverse_api_Entry_api_Entry_calls {s : Sl} {K : Unit → World → Prop} {w : World} (h : slices_Reverse_api_Entry_api_Entry s K w) : callV Pr uval 99 #[s.val] w K :=
  calls_of Pr_plain Pr_mixed Pr_func99 slices_Reverse_api_Entry_api_Entry_ann rU (args := [s.val]) (by kernel_rfl) h

/- slices.BinarySearchFunc[[]changeover/api.Session,changeover/api.Session,int] -/
def slices_BinarySearchFunc_api_Session_api_Session_int_place (x : Sl) (target : Int) (K : (Int × Bool) → World → Prop) (w : World) : Prop :=
  loop2 (0 : Int) ((x.len : Int) : Int) (fun i1 j2 k3 w4 =>
  ifB (decide (i1 < j2))
  (opRd Pr (Instr.indexAt 22 x.val (.int .i64 (IntKind.i64.wrap (shR .u64 (IntKind.u64.wrap (i64 (i1 + j2))) 1)))) pav (fun t5 =>
  opRd Pr (Instr.loadAt 59 (.pointer (some t5))) ApiSession.val (fun t6 =>
  callV Pr (Value.int .i64) 64 #[(.agg ⟨t6.cs⟩), (.int .i64 target)] w4 fun t7 w8 =>
  ifB (decide (t7 < 0))
  (k3 (i64 ((IntKind.i64.wrap (shR .u64 (IntKind.u64.wrap (i64 (i1 + j2))) 1)) + 1)) j2 w8)
  (k3 i1 (IntKind.i64.wrap (shR .u64 (IntKind.u64.wrap (i64 (i1 + j2))) 1)) w8)) w4) w4)
  (ifB (decide (i1 < (x.len : Int)))
  (opRd Pr (Instr.indexAt 22 x.val (.int .i64 i1)) pav (fun t9 =>
  opRd Pr (Instr.loadAt 59 (.pointer (some t9))) ApiSession.val (fun t10 =>
  callV Pr (Value.int .i64) 64 #[(.agg ⟨t10.cs⟩), (.int .i64 target)] w4 fun t11 w12 =>
  K (i1, (t11 == 0)) w12) w4) w4)
  (K (i1, false) w4))) w
def slices_BinarySearchFunc_api_Session_api_Session_int_place_ann : Ann := (.s .d (.s .d (.s .d (.s (.b (.l [(.s 9, (rI .i64)), (.s 10, (rI .i64))] (.s (.s .d (.c .d .d)) (.b (.s .d (.s (.r [(3, .rd rPA), (4, .rd rApiSession), (6, .call (rI .i64))]) (.c .d .d))))))) (.s (.r [(8, .rd rPA), (9, .rd rApiSession), (11, .call (rI .i64))]) .d)))))
theorem slices_BinarySearchFunc_api_Session_api_Session_int_place_calls {x : Sl} {target : Int} {K : (Int × Bool) → World → Prop} {w : World} (h : slices_BinarySearchFunc_api_Session_api_Session_int_place x target K w) : callV Pr (tval2 (Value.int .i64) Value.bool) 63 #[x.val, (.int .i64 target), (.func (.func 64) #[] #[])] w K :=
  calls_of Pr_plain Pr_mixed Pr_func63 slices_BinarySearchFunc_api_Session_api_Session_int_place_ann (rT2 (rI .i64) rB) (args := [x.val, (.int .i64 target), (.func (.func 64) #[] #[])]) (by kernel_rfl) h

/- slices.BinarySearchFunc[[]changeover/api.Pair,changeover/api.Pair,string] -/
def slices_BinarySearchFunc_api_Pair_api_Pair_string_place (x : Sl) (target : List UInt8) (K : (Int × Bool) → World → Prop) (w : World) : Prop :=
  loop2 (0 : Int) ((x.len : Int) : Int) (fun i1 j2 k3 w4 =>
  ifB (decide (i1 < j2))
  (opRd Pr (Instr.indexAt 37 x.val (.int .i64 (IntKind.i64.wrap (shR .u64 (IntKind.u64.wrap (i64 (i1 + j2))) 1)))) pav (fun t5 =>
  opRd Pr (Instr.loadAt 45 (.pointer (some t5))) ApiPair.val (fun t6 =>
  callV Pr (Value.int .i64) 71 #[(.agg ⟨t6.cs⟩), (sval target)] w4 fun t7 w8 =>
  ifB (decide (t7 < 0))
  (k3 (i64 ((IntKind.i64.wrap (shR .u64 (IntKind.u64.wrap (i64 (i1 + j2))) 1)) + 1)) j2 w8)
  (k3 i1 (IntKind.i64.wrap (shR .u64 (IntKind.u64.wrap (i64 (i1 + j2))) 1)) w8)) w4) w4)
  (ifB (decide (i1 < (x.len : Int)))
  (opRd Pr (Instr.indexAt 37 x.val (.int .i64 i1)) pav (fun t9 =>
  opRd Pr (Instr.loadAt 45 (.pointer (some t9))) ApiPair.val (fun t10 =>
  callV Pr (Value.int .i64) 71 #[(.agg ⟨t10.cs⟩), (sval target)] w4 fun t11 w12 =>
  K (i1, (t11 == 0)) w12) w4) w4)
  (K (i1, false) w4))) w
def slices_BinarySearchFunc_api_Pair_api_Pair_string_place_ann : Ann := (.s .d (.s .d (.s .d (.s (.b (.l [(.s 9, (rI .i64)), (.s 10, (rI .i64))] (.s (.s .d (.c .d .d)) (.b (.s .d (.s (.r [(3, .rd rPA), (4, .rd rApiPair), (6, .call (rI .i64))]) (.c .d .d))))))) (.s (.r [(8, .rd rPA), (9, .rd rApiPair), (11, .call (rI .i64))]) .d)))))
theorem slices_BinarySearchFunc_api_Pair_api_Pair_string_place_calls {x : Sl} {target : List UInt8} {K : (Int × Bool) → World → Prop} {w : World} (h : slices_BinarySearchFunc_api_Pair_api_Pair_string_place x target K w) : callV Pr (tval2 (Value.int .i64) Value.bool) 70 #[x.val, (sval target), (.func (.func 71) #[] #[])] w K :=
  calls_of Pr_plain Pr_mixed Pr_func70 slices_BinarySearchFunc_api_Pair_api_Pair_string_place_ann (rT2 (rI .i64) rB) (args := [x.val, (sval target), (.func (.func 71) #[] #[])]) (by kernel_rfl) h

/- slices.BinarySearchFunc[[]changeover/api.Pair,changeover/api.Pair,changeover/api.Pair] -/
def slices_BinarySearchFunc_api_Pair_api_Pair_api_Pair_set (x : Sl) (target : ApiPair) (K : (Int × Bool) → World → Prop) (w : World) : Prop :=
  newV (fun b1 w2 =>
  loop2 (0 : Int) ((x.len : Int) : Int) (fun i3 j4 k5 w6 =>
  ifB (decide (i3 < j4))
  (heldM (fun S8 w7 =>
  opH Pr S8 (Instr.indexAt 37 x.val (.int .i64 (IntKind.i64.wrap (shR .u64 (IntKind.u64.wrap (i64 (i3 + j4))) 1)))) pav (fun t9 =>
  opH Pr S8 (Instr.loadAt 45 (.pointer (some t9))) ApiPair.val (fun t10 =>
  callV Pr (Value.int .i64) 77 #[(.agg ⟨t10.cs⟩), (.agg ⟨[(sval target.Key), (sval target.Val), (.int .i64 target.Rev)]⟩)] w7 fun t11 w12 =>
  kp b1 w7 w12 <|
  (S8 w12) ∧
  (ifB (decide (t11 < 0))
  (k5 (i64 ((IntKind.i64.wrap (shR .u64 (IntKind.u64.wrap (i64 (i3 + j4))) 1)) + 1)) j4 w12)
  (k5 i3 (IntKind.i64.wrap (shR .u64 (IntKind.u64.wrap (i64 (i3 + j4))) 1)) w12))))) w6)
  (heldM (fun S14 w13 =>
  ifB (decide (i3 < (x.len : Int)))
  (opH Pr S14 (Instr.indexAt 37 x.val (.int .i64 i3)) pav (fun t15 =>
  opH Pr S14 (Instr.loadAt 45 (.pointer (some t15))) ApiPair.val (fun t16 =>
  callV Pr (Value.int .i64) 77 #[(.agg ⟨t16.cs⟩), (.agg ⟨[(sval target.Key), (sval target.Val), (.int .i64 target.Rev)]⟩)] w13 fun t17 w18 =>
  kp b1 w13 w18 <|
  (S14 w18) ∧
  (K (i3, (t17 == 0)) w18))))
  (K (i3, false) w13)) w6)) w2) w
def slices_BinarySearchFunc_api_Pair_api_Pair_api_Pair_set_ann : Ann := (.s (.r [(0, .nl 4)]) (.s .d (.s .d (.s (.b (.l [(.s 9, (rI .i64)), (.s 10, (rI .i64))] (.s (.s .d (.c .d .d)) (.b (.s .d (.s (.h (.take 0 (.take 1 (.take 2 (.take 3 (.take 4 (.take 5 (.one 6 (.take 7 .done)))))))) [(3, .rd rPA), (4, .rd rApiPair), (6, .call (rI .i64))]) (.c .d .d))))))) (.s (.h (.take 0 (.take 1 (.take 2 (.take 3 (.take 4 (.take 5 (.take 6 (.take 7 (.take 8 (.take 9 (.take 10 (.one 11 (.take 12 (.take 13 (.take 14 (.take 15 .done)))))))))))))))) [(8, .rd rPA), (9, .rd rApiPair), (11, .call (rI .i64))]) .d)))))
theorem slices_BinarySearchFunc_api_Pair_api_Pair_api_Pair_set_calls {x : Sl} {target : ApiPair} {K : (Int × Bool) → World → Prop} {w : World} (h : slices_BinarySearchFunc_api_Pair_api_Pair_api_Pair_set x target K w) : callV Pr (tval2 (Value.int .i64) Value.bool) 76 #[x.val, (.agg ⟨target.cs⟩), (.func (.func 77) #[] #[])] w K :=
  calls_of Pr_plain Pr_mixed Pr_func76 slices_BinarySearchFunc_api_Pair_api_Pair_api_Pair_set_ann (rT2 (rI .i64) rB) (args := [x.val, (.agg ⟨target.cs⟩), (.func (.func 77) #[] #[])]) (by kernel_rfl) h

/- slices.BinarySearchFunc[[]changeover/api.Entry,changeover/api.Entry,int] -/
def slices_BinarySearchFunc_api_Entry_api_Entry_int_place (x : Sl) (target : Int) (K : (Int × Bool) → World → Prop) (w : World) : Prop :=
  loop2 (0 : Int) ((x.len : Int) : Int) (fun i1 j2 k3 w4 =>
  ifB (decide (i1 < j2))
  (opRd Pr (Instr.indexAt 53 x.val (.int .i64 (IntKind.i64.wrap (shR .u64 (IntKind.u64.wrap (i64 (i1 + j2))) 1)))) pav (fun t5 =>
  opRd Pr (Instr.loadAt 74 (.pointer (some t5))) ApiEntry.val (fun t6 =>
  callV Pr (Value.int .i64) 91 #[(.agg ⟨t6.cs⟩), (.int .i64 target)] w4 fun t7 w8 =>
  ifB (decide (t7 < 0))
  (k3 (i64 ((IntKind.i64.wrap (shR .u64 (IntKind.u64.wrap (i64 (i1 + j2))) 1)) + 1)) j2 w8)
  (k3 i1 (IntKind.i64.wrap (shR .u64 (IntKind.u64.wrap (i64 (i1 + j2))) 1)) w8)) w4) w4)
  (ifB (decide (i1 < (x.len : Int)))
  (opRd Pr (Instr.indexAt 53 x.val (.int .i64 i1)) pav (fun t9 =>
  opRd Pr (Instr.loadAt 74 (.pointer (some t9))) ApiEntry.val (fun t10 =>
  callV Pr (Value.int .i64) 91 #[(.agg ⟨t10.cs⟩), (.int .i64 target)] w4 fun t11 w12 =>
  K (i1, (t11 == 0)) w12) w4) w4)
  (K (i1, false) w4))) w
def slices_BinarySearchFunc_api_Entry_api_Entry_int_place_ann : Ann := (.s .d (.s .d (.s .d (.s (.b (.l [(.s 9, (rI .i64)), (.s 10, (rI .i64))] (.s (.s .d (.c .d .d)) (.b (.s .d (.s (.r [(3, .rd rPA), (4, .rd rApiEntry), (6, .call (rI .i64))]) (.c .d .d))))))) (.s (.r [(8, .rd rPA), (9, .rd rApiEntry), (11, .call (rI .i64))]) .d)))))
theorem slices_BinarySearchFunc_api_Entry_api_Entry_int_place_calls {x : Sl} {target : Int} {K : (Int × Bool) → World → Prop} {w : World} (h : slices_BinarySearchFunc_api_Entry_api_Entry_int_place x target K w) : callV Pr (tval2 (Value.int .i64) Value.bool) 90 #[x.val, (.int .i64 target), (.func (.func 91) #[] #[])] w K :=
  calls_of Pr_plain Pr_mixed Pr_func90 slices_BinarySearchFunc_api_Entry_api_Entry_int_place_ann (rT2 (rI .i64) rB) (args := [x.val, (.int .i64 target), (.func (.func 91) #[] #[])]) (by kernel_rfl) h

/- slices.IndexFunc[[]changeover/api.Entry,changeover/api.Entry] -/
def slices_IndexFunc_api_Entry_api_Entry_Agree (s : Sl) (c60x0 : Addr) (K : Int → World → Prop) (w : World) : Prop :=
  loop1 (0 : Int) (fun t1 k2 w3 =>
  ifB (decide (t1 < (s.len : Int)))
  (opRd Pr (Instr.indexAt 53 s.val (.int .i64 t1)) pav (fun t4 =>
  opRd Pr (Instr.loadAt 74 (.pointer (some t4))) ApiEntry.val (fun t5 =>
  callV Pr Value.bool 60 #[(.agg ⟨t5.cs⟩), (.pointer (some c60x0))] w3 fun t6 w7 =>
  ifB t6
  (K t1 w7)
  (k2 (i64 (t1 + 1)) w7)) w3) w3)
  (K (-1) w3)) w
def slices_IndexFunc_api_Entry_api_Entry_Agree_ann : Ann := (.s .d (.s (.s .d (.b (.l [(.s 8, (rI .i64))] (.s .d (.s (.c .d .d) (.s (.b (.s .d (.s (.r [(3, .rd rPA), (4, .rd rApiEntry), (5, .call rB)]) (.c (.s .d .d) .d)))) .d)))))) (.s .d .d)))
theorem slices_IndexFunc_api_Entry_api_Entry_Agree_calls {s : Sl} {c60x0 : Addr} {K : Int → World → Prop} {w : World} (h : slices_IndexFunc_api_Entry_api_Entry_Agree s c60x0 K w) : callV Pr (Value.int .i64) 83 #[s.val, (.func (.func 60) #[] #[(.pointer (some c60x0))])] w K :=
  calls_of Pr_plain Pr_mixed Pr_func83 slices_IndexFunc_api_Entry_api_Entry_Agree_ann (rI .i64) (args := [s.val, (.func (.func 60) #[] #[(.pointer (some c60x0))])]) (by kernel_rfl) h

end Go.Chg
