/-
  Functions of the program, told by a program of ours (gen.py), each held by the kernel to what is to be shown of its code.
-/
import Derived.Test.YtnnoalpkldpjfaaGreatDoorTy
set_option maxRecDepth 100000
set_option linter.unusedVariables false
namespace Go.Chg
open Go.Vc

/- changeover/changeoverlaw42.ScriptTexts -/
def law42_ScriptTexts (l : Sl) (between : Int) (K : Bool → World → Prop) (w : World) : Prop :=
  callV Pr Value.bool 13 #[l.val] w fun t1 w2 =>
  ifB t1
  (callV Pr Value.bool 14 #[] w2 fun t3 w4 =>
  K t3 w4)
  (ifB (decide ((l.len : Int) > 60))
  (callV Pr Value.bool 14 #[] w2 fun t5 w6 =>
  K t5 w6)
  (callV Pr (tval2 sval (Value.int .i64)) 22 #[l.val] w2 fun t7 w8 =>
  loop2 ([] : List UInt8) (0 : Int) (fun want9 i10 k11 w12 =>
  ifB (decide (i10 < (l.len : Int)))
  (opRd Pr (Instr.indexAt 35 l.val (.int .i64 i10)) pav (fun t13 =>
  opRd Pr (Instr.loadAt 33 (.pointer (some t13))) ApiEvent.val (fun t14 =>
  callV Pr Value.bool 15 #[(.agg ⟨t14.cs⟩)] w12 fun t15 w16 =>
  ifB (!t15)
  (ifB (strEq t7.1 [])
  (ifB (t7.2 == 3)
  (callV Pr Value.bool 14 #[] w16 fun t17 w18 =>
  K t17 w18)
  (K false w16))
  (K false w16))
  (join1 (fun (j19 : (List UInt8) → World → Prop) =>
  ifB ((Int.tmod between 4) == 1)
  (opRd Pr (binSem .add 9 (.tmp 49) (.const (sval [35, 32])) (sval want9) (sval [35, 32])) sval (fun t20 =>
  opRd Pr (Instr.indexAt 35 l.val (.int .i64 i10)) pav (fun t21 =>
  opRd Pr (Instr.loadAt 33 (.pointer (some t21))) ApiEvent.val (fun t22 =>
  callV Pr sval 16 #[(.agg ⟨t22.cs⟩)] w16 fun t23 w24 =>
  opRd Pr (binSem .add 9 (.tmp 50) (.tmp 55) (sval t20) (sval t23)) sval (fun t25 =>
  opRd Pr (binSem .add 9 (.tmp 56) (.const (sval [10])) (sval t25) (sval [10])) sval (fun want26 =>
  j19 want26 w24) w24) w24) w16) w16) w16)
  (j19 want9 w16))
  (fun want27 w28 =>
  opRd Pr (Instr.indexAt 35 l.val (.int .i64 i10)) pav (fun t29 =>
  opRd Pr (Instr.loadAt 33 (.pointer (some t29))) ApiEvent.val (fun t30 =>
  callV Pr sval 16 #[(.agg ⟨t30.cs⟩)] w28 fun t31 w32 =>
  opRd Pr (binSem .add 9 (.tmp 58) (.tmp 63) (sval want27) (sval t31)) sval (fun t33 =>
  opRd Pr (binSem .add 9 (.tmp 64) (.const (sval [10])) (sval t33) (sval [10])) sval (fun want34 =>
  ifB ((Int.tmod between 4) == 2)
  (opRd Pr (binSem .add 9 (.tmp 69) (.const (sval [10])) (sval want34) (sval [10])) sval (fun want35 =>
  k11 want35 (i64 (i10 + 1)) w32) w32)
  (k11 want34 (i64 (i10 + 1)) w32)) w32) w32) w28) w28))) w12) w12)
  (callV Pr (tval3 Sl.val (Value.int .i64) (Value.int .i64)) 20 #[(sval want9)] w12 fun t36 w37 =>
  ifB (t7.2 == 0)
  (ifB ((Int.tmod between 4) == 1)
  (ifB (t36.2.2 == 0)
  (ifB (t36.2.1 == 0)
  (callV Pr Value.bool 21 #[t36.1.val, l.val] w37 fun t38 w39 =>
  ifB t38
  (callV Pr Value.bool 14 #[] w39 fun t40 w41 =>
  K t40 w41)
  (K false w39))
  (K false w37))
  (K false w37))
  (ifB ((Int.tmod between 4) == 2)
  (ifB (t36.2.2 == 0)
  (ifB (t36.2.1 == 0)
  (callV Pr Value.bool 21 #[t36.1.val, l.val] w37 fun t42 w43 =>
  ifB t42
  (callV Pr Value.bool 14 #[] w43 fun t44 w45 =>
  K t44 w45)
  (K false w43))
  (K false w37))
  (K false w37))
  (ifB (strEq t7.1 want9)
  (ifB (t36.2.2 == 0)
  (ifB (t36.2.1 == 0)
  (callV Pr Value.bool 21 #[t36.1.val, l.val] w37 fun t46 w47 =>
  ifB t46
  (callV Pr Value.bool 14 #[] w47 fun t48 w49 =>
  K t48 w49)
  (K false w47))
  (K false w37))
  (K false w37))
  (K false w37))))
  (K false w37))) w8))
def law42_ScriptTexts_ann : Ann := (.s .d (.s (.s (.r [(1, .call rB)]) (.c (.s (.r [(0, .call rB)]) .d) .d)) (.s (.r [(1, .call (rT2 rS (rI .i64)))]) (.s .d (.s (.s .d (.b (.l [(.s 7, rS), (.s 8, (rI .i64))] (.s (.s .d (.c .d .d)) (.s (.b (.s (.s (.r [(2, .rd rPA), (3, .rd rApiEvent), (4, .call rB)]) (.c (.s (.r [(7, .call rB)]) .d) .d)) (.sj [(.s 7, rS)] (.s .d (.c (.r [(1, .rd rS), (4, .rd rPA), (5, .rd rApiEvent), (6, .call rS), (7, .rd rS), (8, .rd rS)]) .d)) (.s (.r [(3, .rd rPA), (4, .rd rApiEvent), (5, .call rS), (6, .rd rS), (7, .rd rS)]) (.s .d (.c (.r [(1, .rd rS)]) .d)))))) .d))))) (.s (.r [(1, .call (rT3 rSl (rI .i64) (rI .i64)))]) (.s (.r [(28, .call rB), (31, .call rB)]) .d)))))))
theorem law42_ScriptTexts_calls {l : Sl} {between : Int} {K : Bool → World → Prop} {w : World} (h : law42_ScriptTexts l between K w) : callV Pr Value.bool 6 #[l.val, (.int .u8 between)] w K :=
  calls_of Pr_plain Pr_mixed Pr_func6 law42_ScriptTexts_ann rB (args := [l.val, (.int .u8 between)]) (by kernel_rfl) h

/- changeover/changeoverref08.Check -/
def ref08_Check (c : ApiCmd) (K : Int → World → Prop) (w : World) : Prop :=
  newV (fun b1 w2 =>
  ifB (decide (c.Kind < 1))
  (K 5 w2)
  (ifB (decide (c.Kind > 8))
  (K 5 w2)
  (callV Pr Value.bool 24 #[(.int .i64 c.Kind)] w2 fun own3 w4 =>
  kp b1 w2 w4 <|
  join0 (fun (j5 : World → Prop) =>
  ifB own3
  (ifB (decide (c.Client < 1))
  (K 6 w4)
  (ifB (decide (c.Client > 8))
  (K 6 w4)
  (ifB (decide (c.Seq < 1))
  (K 6 w4)
  (ifB (decide (c.Seq > 4294967296))
  (K 6 w4)
  (callV Pr Value.bool 25 #[(.int .i64 c.Kind)] w4 fun t6 w7 =>
  kp b1 w4 w7 <|
  ifB t6
  (ifB (decide (c.Node < 1))
  (K 6 w7)
  (ifB (decide (c.Node > 9))
  (K 6 w7)
  (j5 w7)))
  (j5 w7))))))
  (callV Pr Value.bool 25 #[(.int .i64 c.Kind)] w4 fun t8 w9 =>
  kp b1 w4 w9 <|
  ifB t8
  (ifB (decide (c.Node < 1))
  (K 6 w9)
  (ifB (decide (c.Node > 9))
  (K 6 w9)
  (j5 w9)))
  (j5 w9)))
  (fun w10 =>
  ifB (c.Kind == 2)
  (join0 (fun (j11 : World → Prop) =>
  ifB own3
  (callV Pr Value.bool 26 #[(sval c.Key)] w10 fun t12 w13 =>
  kp b1 w10 w13 <|
  ifB (!t12)
  (K 7 w13)
  (callV Pr Value.bool 27 #[(sval c.Val)] w13 fun t14 w15 =>
  kp b1 w13 w15 <|
  ifB (!t14)
  (K 7 w15)
  (ifB (c.Kind == 5)
  (callV Pr Value.bool 27 #[(sval c.Old)] w15 fun t16 w17 =>
  kp b1 w15 w17 <|
  ifB (!t16)
  (K 7 w17)
  (j11 w17))
  (j11 w15))))
  (callV Pr Value.bool 27 #[(sval c.Val)] w10 fun t18 w19 =>
  kp b1 w10 w19 <|
  ifB (!t18)
  (K 7 w19)
  (ifB (c.Kind == 5)
  (callV Pr Value.bool 27 #[(sval c.Old)] w19 fun t20 w21 =>
  kp b1 w19 w21 <|
  ifB (!t20)
  (K 7 w21)
  (j11 w21))
  (j11 w19))))
  (fun w22 =>
  ifB (!own3)
  (ifB (c.Client != 0)
  (K 3 w22)
  (ifB (c.Seq != 0)
  (K 3 w22)
  (ifB (!(strEq c.Key []))
  (K 3 w22)
  (ifB (!true)
  (ifB (!(strEq c.Val []))
  (K 3 w22)
  (ifB (c.Kind != 5)
  (ifB (!(strEq c.Old []))
  (K 3 w22)
  (callV Pr Value.bool 25 #[(.int .i64 c.Kind)] w22 fun t23 w24 =>
  kp b1 w22 w24 <|
  ifB (!t23)
  (ifB (c.Node != 0)
  (K 3 w24)
  (K 0 w24))
  (K 0 w24)))
  (callV Pr Value.bool 25 #[(.int .i64 c.Kind)] w22 fun t25 w26 =>
  kp b1 w22 w26 <|
  ifB (!t25)
  (ifB (c.Node != 0)
  (K 3 w26)
  (K 0 w26))
  (K 0 w26))))
  (ifB (c.Kind != 5)
  (ifB (!(strEq c.Old []))
  (K 3 w22)
  (callV Pr Value.bool 25 #[(.int .i64 c.Kind)] w22 fun t27 w28 =>
  kp b1 w22 w28 <|
  ifB (!t27)
  (ifB (c.Node != 0)
  (K 3 w28)
  (K 0 w28))
  (K 0 w28)))
  (callV Pr Value.bool 25 #[(.int .i64 c.Kind)] w22 fun t29 w30 =>
  kp b1 w22 w30 <|
  ifB (!t29)
  (ifB (c.Node != 0)
  (K 3 w30)
  (K 0 w30))
  (K 0 w30)))))))
  (ifB (!true)
  (ifB (!(strEq c.Val []))
  (K 3 w22)
  (ifB (c.Kind != 5)
  (ifB (!(strEq c.Old []))
  (K 3 w22)
  (callV Pr Value.bool 25 #[(.int .i64 c.Kind)] w22 fun t31 w32 =>
  kp b1 w22 w32 <|
  ifB (!t31)
  (ifB (c.Node != 0)
  (K 3 w32)
  (K 0 w32))
  (K 0 w32)))
  (callV Pr Value.bool 25 #[(.int .i64 c.Kind)] w22 fun t33 w34 =>
  kp b1 w22 w34 <|
  ifB (!t33)
  (ifB (c.Node != 0)
  (K 3 w34)
  (K 0 w34))
  (K 0 w34))))
  (ifB (c.Kind != 5)
  (ifB (!(strEq c.Old []))
  (K 3 w22)
  (callV Pr Value.bool 25 #[(.int .i64 c.Kind)] w22 fun t35 w36 =>
  kp b1 w22 w36 <|
  ifB (!t35)
  (ifB (c.Node != 0)
  (K 3 w36)
  (K 0 w36))
  (K 0 w36)))
  (callV Pr Value.bool 25 #[(.int .i64 c.Kind)] w22 fun t37 w38 =>
  kp b1 w22 w38 <|
  ifB (!t37)
  (ifB (c.Node != 0)
  (K 3 w38)
  (K 0 w38))
  (K 0 w38))))))
  (join0 (fun (j39 : World → Prop) =>
  ifB own3
  (callV Pr Value.bool 26 #[(sval c.Key)] w10 fun t40 w41 =>
  kp b1 w10 w41 <|
  ifB (!t40)
  (K 7 w41)
  (ifB (c.Kind == 5)
  (callV Pr Value.bool 27 #[(sval c.Val)] w41 fun t42 w43 =>
  kp b1 w41 w43 <|
  ifB (!t42)
  (K 7 w43)
  (ifB (c.Kind == 5)
  (callV Pr Value.bool 27 #[(sval c.Old)] w43 fun t44 w45 =>
  kp b1 w43 w45 <|
  ifB (!t44)
  (K 7 w45)
  (j39 w45))
  (j39 w43)))
  (ifB (c.Kind == 5)
  (callV Pr Value.bool 27 #[(sval c.Old)] w41 fun t46 w47 =>
  kp b1 w41 w47 <|
  ifB (!t46)
  (K 7 w47)
  (j39 w47))
  (j39 w41))))
  (ifB (c.Kind == 5)
  (callV Pr Value.bool 27 #[(sval c.Val)] w10 fun t48 w49 =>
  kp b1 w10 w49 <|
  ifB (!t48)
  (K 7 w49)
  (ifB (c.Kind == 5)
  (callV Pr Value.bool 27 #[(sval c.Old)] w49 fun t50 w51 =>
  kp b1 w49 w51 <|
  ifB (!t50)
  (K 7 w51)
  (j39 w51))
  (j39 w49)))
  (ifB (c.Kind == 5)
  (callV Pr Value.bool 27 #[(sval c.Old)] w10 fun t52 w53 =>
  kp b1 w10 w53 <|
  ifB (!t52)
  (K 7 w53)
  (j39 w53))
  (j39 w10))))
  (fun w54 =>
  ifB (!own3)
  (ifB (c.Client != 0)
  (K 3 w54)
  (ifB (c.Seq != 0)
  (K 3 w54)
  (ifB (!(strEq c.Key []))
  (K 3 w54)
  (ifB (!(c.Kind == 5))
  (ifB (!(strEq c.Val []))
  (K 3 w54)
  (ifB (c.Kind != 5)
  (ifB (!(strEq c.Old []))
  (K 3 w54)
  (callV Pr Value.bool 25 #[(.int .i64 c.Kind)] w54 fun t55 w56 =>
  kp b1 w54 w56 <|
  ifB (!t55)
  (ifB (c.Node != 0)
  (K 3 w56)
  (K 0 w56))
  (K 0 w56)))
  (callV Pr Value.bool 25 #[(.int .i64 c.Kind)] w54 fun t57 w58 =>
  kp b1 w54 w58 <|
  ifB (!t57)
  (ifB (c.Node != 0)
  (K 3 w58)
  (K 0 w58))
  (K 0 w58))))
  (ifB (c.Kind != 5)
  (ifB (!(strEq c.Old []))
  (K 3 w54)
  (callV Pr Value.bool 25 #[(.int .i64 c.Kind)] w54 fun t59 w60 =>
  kp b1 w54 w60 <|
  ifB (!t59)
  (ifB (c.Node != 0)
  (K 3 w60)
  (K 0 w60))
  (K 0 w60)))
  (callV Pr Value.bool 25 #[(.int .i64 c.Kind)] w54 fun t61 w62 =>
  kp b1 w54 w62 <|
  ifB (!t61)
  (ifB (c.Node != 0)
  (K 3 w62)
  (K 0 w62))
  (K 0 w62)))))))
  (ifB (!(c.Kind == 5))
  (ifB (!(strEq c.Val []))
  (K 3 w54)
  (ifB (c.Kind != 5)
  (ifB (!(strEq c.Old []))
  (K 3 w54)
  (callV Pr Value.bool 25 #[(.int .i64 c.Kind)] w54 fun t63 w64 =>
  kp b1 w54 w64 <|
  ifB (!t63)
  (ifB (c.Node != 0)
  (K 3 w64)
  (K 0 w64))
  (K 0 w64)))
  (callV Pr Value.bool 25 #[(.int .i64 c.Kind)] w54 fun t65 w66 =>
  kp b1 w54 w66 <|
  ifB (!t65)
  (ifB (c.Node != 0)
  (K 3 w66)
  (K 0 w66))
  (K 0 w66))))
  (ifB (c.Kind != 5)
  (ifB (!(strEq c.Old []))
  (K 3 w54)
  (callV Pr Value.bool 25 #[(.int .i64 c.Kind)] w54 fun t67 w68 =>
  kp b1 w54 w68 <|
  ifB (!t67)
  (ifB (c.Node != 0)
  (K 3 w68)
  (K 0 w68))
  (K 0 w68)))
  (callV Pr Value.bool 25 #[(.int .i64 c.Kind)] w54 fun t69 w70 =>
  kp b1 w54 w70 <|
  ifB (!t69)
  (ifB (c.Node != 0)
  (K 3 w70)
  (K 0 w70))
  (K 0 w70)))))))))) w
def ref08_Check_ann : Ann := (.s (.r [(0, .nl 1)]) (.s (.s .d (.c (.s .d .d) .d)) (.s (.r [(2, .call rB)]) (.sj [] (.s (.r [(24, .call rB)]) (.c (.s .d .d) .d)) (.s .d (.sj [] (.s (.r [(4, .call rB), (12, .call rB), (23, .call rB)]) (.c (.s .d .d) .d)) (.s (.s (.r [(39, .call rB)]) (.c (.s .d .d) .d)) (.s .d .d))))))))
theorem ref08_Check_calls {c : ApiCmd} {K : Int → World → Prop} {w : World} (h : ref08_Check c K w) : callV Pr (Value.int .i64) 9 #[(.agg ⟨c.cs⟩)] w K :=
  calls_of Pr_plain Pr_mixed Pr_func9 ref08_Check_ann (rI .i64) (args := [(.agg ⟨c.cs⟩)]) (by kernel_rfl) h

/- changeover/changeoverref08.Text -/
def ref08_Text (c : ApiCmd) (K : (List UInt8) → World → Prop) (w : World) : Prop :=
  newV (fun b1 w2 =>
  opTy Pr (Instr.buildSlice 53 9 #[(0, (sval [])), (1, (sval [110, 111, 112])), (2, (sval [112, 117, 116])), (3, (sval [103, 101, 116])), (4, (sval [100, 101, 108])), (5, (sval [99, 97, 115])), (6, (sval [97, 99, 116, 105, 118, 97, 116, 101])), (7, (sval [97, 100, 100])), (8, (sval [100, 114, 111, 112]))]) Sl.val (fun t3 w4 =>
  kp b1 w2 w4 <|
  opRd Pr (Instr.indexAt 53 t3.val (.int .i64 c.Kind)) pav (fun t5 =>
  opRd Pr (Instr.loadAt 9 (.pointer (some t5))) sval (fun s6 =>
  join1 (fun (j7 : (List UInt8) → World → Prop) =>
  callV Pr Value.bool 24 #[(.int .i64 c.Kind)] w4 fun t8 w9 =>
  kp b1 w4 w9 <|
  ifB t8
  (heldM (fun S11 w10 =>
  opH Pr S11 (binSem .add 9 (.tmp 12) (.const (sval [32])) (sval s6) (sval [32])) sval (fun t12 =>
  callV Pr sval 28 #[(.int .i64 c.Client)] w10 fun t13 w14 =>
  kp b1 w10 w14 <|
  (S11 w14) ∧
  (opH Pr S11 (binSem .add 9 (.tmp 13) (.tmp 16) (sval t12) (sval t13)) sval (fun t15 =>
  opH Pr S11 (binSem .add 9 (.tmp 17) (.const (sval [32])) (sval t15) (sval [32])) sval (fun t16 =>
  callV Pr sval 28 #[(.int .i64 c.Seq)] w14 fun t17 w18 =>
  kp b1 w14 w18 <|
  (S11 w18) ∧
  (opH Pr S11 (binSem .add 9 (.tmp 18) (.tmp 21) (sval t16) (sval t17)) sval (fun t19 =>
  opH Pr S11 (binSem .add 9 (.tmp 22) (.const (sval [32])) (sval t19) (sval [32])) sval (fun t20 =>
  callV Pr sval 29 #[(sval c.Key)] w18 fun t21 w22 =>
  kp b1 w18 w22 <|
  (S11 w22) ∧
  (opH Pr S11 (binSem .add 9 (.tmp 23) (.tmp 26) (sval t20) (sval t21)) sval (fun s23 =>
  j7 s23 w22)))))))))) w9)
  (j7 s6 w9))
  (fun s24 w25 =>
  join1 (fun (j26 : (List UInt8) → World → Prop) =>
  ifB (c.Kind == 5)
  (opRd Pr (binSem .add 9 (.tmp 31) (.const (sval [32])) (sval s24) (sval [32])) sval (fun t27 =>
  callV Pr sval 29 #[(sval c.Old)] w25 fun t28 w29 =>
  kp b1 w25 w29 <|
  opRd Pr (binSem .add 9 (.tmp 32) (.tmp 35) (sval t27) (sval t28)) sval (fun s30 =>
  j26 s30 w29) w29) w25)
  (j26 s24 w25))
  (fun s31 w32 =>
  join1 (fun (j33 : (List UInt8) → World → Prop) =>
  ifB (c.Kind == 2)
  (opRd Pr (binSem .add 9 (.tmp 45) (.const (sval [32])) (sval s31) (sval [32])) sval (fun t34 =>
  callV Pr sval 29 #[(sval c.Val)] w32 fun t35 w36 =>
  kp b1 w32 w36 <|
  opRd Pr (binSem .add 9 (.tmp 46) (.tmp 49) (sval t34) (sval t35)) sval (fun s37 =>
  j33 s37 w36) w36) w32)
  (ifB (c.Kind == 5)
  (opRd Pr (binSem .add 9 (.tmp 45) (.const (sval [32])) (sval s31) (sval [32])) sval (fun t38 =>
  callV Pr sval 29 #[(sval c.Val)] w32 fun t39 w40 =>
  kp b1 w32 w40 <|
  opRd Pr (binSem .add 9 (.tmp 46) (.tmp 49) (sval t38) (sval t39)) sval (fun s41 =>
  j33 s41 w40) w40) w32)
  (j33 s31 w32)))
  (fun s42 w43 =>
  callV Pr Value.bool 25 #[(.int .i64 c.Kind)] w43 fun t44 w45 =>
  kp b1 w43 w45 <|
  ifB t44
  (opRd Pr (binSem .add 9 (.tmp 54) (.const (sval [32])) (sval s42) (sval [32])) sval (fun t46 =>
  callV Pr sval 28 #[(.int .i64 c.Node)] w45 fun t47 w48 =>
  kp b1 w45 w48 <|
  opRd Pr (binSem .add 9 (.tmp 55) (.tmp 58) (sval t46) (sval t47)) sval (fun s49 =>
  K s49 w48) w48) w45)
  (K s42 w45))))) w4) w4) w2) w
def ref08_Text_ann : Ann := (.s (.r [(0, .nl 1)]) (.s (.r [(0, .ty rSl), (3, .rd rPA), (4, .rd rS)]) (.sj [(.s 3, rS)] (.s (.r [(2, .call rB)]) (.c (.h (.take 0 (.take 1 (.take 2 (.take 3 (.take 7 (.take 8 (.take 12 (.take 13 (.one 4 (.take 5 (.take 6 (.one 9 (.take 10 (.take 11 (.one 14 (.take 15 (.take 16 .done))))))))))))))))) [(1, .rd rS), (4, .call rS), (5, .rd rS), (6, .rd rS), (9, .call rS), (10, .rd rS), (11, .rd rS), (14, .call rS), (15, .rd rS)]) .d)) (.sj [(.s 3, rS)] (.s .d (.c (.r [(1, .rd rS), (4, .call rS), (5, .rd rS)]) .d)) (.sj [(.s 3, rS)] (.s .d (.c (.r [(1, .rd rS), (4, .call rS), (5, .rd rS)]) .d)) (.s (.s (.r [(2, .call rB)]) (.c (.r [(1, .rd rS), (4, .call rS), (5, .rd rS)]) .d)) (.s .d .d)))))))
theorem ref08_Text_calls {c : ApiCmd} {K : (List UInt8) → World → Prop} {w : World} (h : ref08_Text c K w) : callV Pr sval 10 #[(.agg ⟨c.cs⟩)] w K :=
  calls_of Pr_plain Pr_mixed Pr_func10 ref08_Text_ann rS (args := [(.agg ⟨c.cs⟩)]) (by kernel_rfl) h

/- changeover/cmd.Parse -/
def cmd_Parse (s : List UInt8) (K : (ApiCmd × Int) → World → Prop) (w : World) : Prop :=
  newV (fun b1 w2 =>
  callV Pr (tval2 Sl.val (Value.int .i64)) 30 #[(sval s)] w2 fun t3 w4 =>
  kp b1 w2 w4 <|
  ifB (t3.2 != 0)
  (wrM b1 (fun w5 =>
  K ((ApiCmd.mk 0 0 0 [] [] [] 0), 3) w5) w4)
  (ifB ((t3.1.len : Int) == 0)
  (wrM b1 (fun w6 =>
  K ((ApiCmd.mk 0 0 0 [] [] [] 0), 3) w6) w4)
  (opTy Pr (Instr.alloc 23 true (.tuple #[])) pav (fun c7 w8 =>
  kp b1 w4 w8 <|
  opUn Pr (Instr.storeAt 23 (.pointer (some c7)) (.agg ⟨[(.int .i64 0), (.int .i64 0), (.int .i64 0), (sval []), (sval []), (sval []), (.int .i64 0)]⟩)) (fun w9 =>
  kp b1 w8 w9 <|
  loop1 (1 : Int) (fun kind10 k11 w12 =>
  ifB (decide (kind10 ≤ 8))
  (heldM (fun S14 w13 =>
  opH Pr S14 (Instr.indexAt 53 t3.1.val (.int .i64 0)) pav (fun t15 =>
  opH Pr S14 (Instr.loadAt 9 (.pointer (some t15))) sval (fun t16 =>
  callV Pr sval 31 #[(.int .i64 kind10)] w13 fun t17 w18 =>
  kp b1 w13 w18 <|
  (S14 w18) ∧
  (ifB (strEq t17 t16)
  (opUn Pr (Instr.storeAt 3 (.pointer (some (c7.add 0))) (.int .i64 kind10)) (fun w19 =>
  kp b1 w18 w19 <|
  k11 (i64 (kind10 + 1)) w19) w18)
  (k11 (i64 (kind10 + 1)) w18))))) w12)
  (opRd Pr (Instr.sliceAt 53 t3.1.val (some (.int .i64 1)) none none) Sl.val (fun rest20 =>
  callV Pr Sl.val 32 #[] w12 fun t21 w22 =>
  kp b1 w12 w22 <|
  loop2 (rest20 : Sl) (0 : Int) (fun rest23 t24 k25 w26 =>
  ifB (decide (t24 < (t21.len : Int)))
  (opRd Pr (Instr.indexAt 58 t21.val (.int .i64 t24)) pav (fun t27 =>
  opRd Pr (Instr.loadAt 62 (.pointer (some t27))) CmdPart.val (fun t28 =>
  opTy Pr (Instr.alloc 62 true (.tuple #[])) pav (fun p29 w30 =>
  kp b1 w26 w30 <|
  opUn Pr (Instr.storeAt 62 (.pointer (some p29)) (.agg ⟨t28.cs⟩)) (fun w31 =>
  kp b1 w30 w31 <|
  opRd Pr (Instr.loadAt 62 (.pointer (some p29))) CmdPart.val (fun t32 =>
  opRd Pr (Instr.loadAt 3 (.pointer (some (c7.add 0)))) (Value.int .i64) (fun t33 =>
  callV Pr Value.bool 33 #[(.agg ⟨t32.cs⟩), (.int .i64 2), (.int .i64 t33)] w31 fun t34 w35 =>
  kp b1 w31 w35 <|
  ifB t34
  (ifB (decide ((rest23.len : Int) > 0))
  (heldM (fun S37 w36 =>
  opH Pr S37 (Instr.loadAt 62 (.pointer (some p29))) CmdPart.val (fun t38 =>
  opH Pr S37 (Instr.indexAt 53 rest23.val (.int .i64 0)) pav (fun t39 =>
  opH Pr S37 (Instr.loadAt 9 (.pointer (some t39))) sval (fun t40 =>
  callV Pr uval 34 #[(.agg ⟨t38.cs⟩), (.pointer (some c7)), (sval t40)] w36 fun t41 w42 =>
  kp b1 w36 w42 <|
  (S37 w42) ∧
  (opRd Pr (Instr.sliceAt 53 rest23.val (some (.int .i64 1)) none none) Sl.val (fun rest43 =>
  k25 rest43 (i64 (t24 + 1)) w42) w42))))) w35)
  (k25 rest23 (i64 (t24 + 1)) w35))
  (k25 rest23 (i64 (t24 + 1)) w35)) w31) w31) w30) w26) w26) w26)
  (opRd Pr (Instr.loadAt 23 (.pointer (some c7))) ApiCmd.val (fun t44 =>
  callV Pr sval 12 #[(.agg ⟨t44.cs⟩)] w26 fun t45 w46 =>
  kp b1 w26 w46 <|
  ifB (!(strEq t45 s))
  (wrM b1 (fun w47 =>
  K ((ApiCmd.mk 0 0 0 [] [] [] 0), 3) w47) w46)
  (opRd Pr (Instr.loadAt 23 (.pointer (some c7))) ApiCmd.val (fun t48 =>
  wrM b1 (fun w49 =>
  K (t48, 0) w49) w46) w46)) w26)) w22) w12)) w9) w8) w4))) w
def cmd_Parse_ann : Ann := (.s (.r [(0, .nl 2)]) (.s (.r [(1, .call (rT2 rSl (rI .i64)))]) (.s (.s .d (.c (.s (.r [(1, .ls 2)]) .d) .d)) (.s (.r [(1, .ty rPA), (2, .un)]) (.s (.s .d (.b (.l [(.s 7, (rI .i64))] (.s (.s .d (.c .d .d)) (.s (.b (.s (.h (.take 0 (.take 2 (.take 3 (.take 4 (.one 1 (.take 5 .done)))))) [(1, .call rS), (3, .rd rPA), (4, .rd rS)]) (.c (.r [(2, .un)]) .d))) .d))))) (.s (.r [(1, .rd rSl)]) (.s (.s (.r [(0, .call rSl)]) (.b (.l [(.s 8, rSl), (.s 41, (rI .i64))] (.s .d (.s (.c .d .d) (.s (.b (.s (.r [(0, .rd rPA), (1, .rd rCmdPart), (2, .ty rPA), (3, .un)]) (.s (.r [(0, .rd rCmdPart), (2, .rd (rI .i64)), (3, .call rB)]) (.c (.s (.h (.take 0 (.take 1 (.take 2 (.take 3 (.one 4 .done))))) [(0, .rd rCmdPart), (2, .rd rPA), (3, .rd rS), (4, .call rU)]) (.r [(1, .rd rSl)])) .d)))) .d)))))) (.s (.s (.r [(0, .rd rApiCmd), (1, .call rS)]) (.c (.s (.r [(1, .ls 2)]) .d) .d)) (.s (.r [(0, .rd rApiCmd), (1, .ls 2)]) .d)))))))))
theorem cmd_Parse_calls {s : List UInt8} {K : (ApiCmd × Int) → World → Prop} {w : World} (h : cmd_Parse s K w) : callV Pr (tval2 ApiCmd.val (Value.int .i64)) 11 #[(sval s)] w K :=
  calls_of Pr_plain Pr_mixed Pr_func11 cmd_Parse_ann (rT2 rApiCmd (rI .i64)) (args := [(sval s)]) (by kernel_rfl) h

/- changeover/cmd.Text -/
def cmd_Text (c : ApiCmd) (K : (List UInt8) → World → Prop) (w : World) : Prop :=
  opTy Pr (Instr.box 23 (.agg ⟨c.cs⟩)) pav (fun c1 w2 =>
  opRd Pr (Instr.loadAt 23 (.pointer (some c1))) ApiCmd.val (fun t3 =>
  callV Pr (Value.int .i64) 35 #[(.agg ⟨t3.cs⟩)] w2 fun t4 w5 =>
  ifB (t4 != 0)
  (K [] w5)
  (opRd Pr (Instr.loadAt 3 (.pointer (some (c1.add 0)))) (Value.int .i64) (fun t6 =>
  callV Pr sval 31 #[(.int .i64 t6)] w5 fun t7 w8 =>
  opTy Pr (Instr.buildSlice 53 1 #[(0, (sval t7))]) Sl.val (fun l9 w10 =>
  callV Pr Sl.val 32 #[] w10 fun t11 w12 =>
  loop2 (l9 : Sl) (0 : Int) (fun l13 t14 k15 w16 =>
  ifB (decide (t14 < (t11.len : Int)))
  (opRd Pr (Instr.indexAt 58 t11.val (.int .i64 t14)) pav (fun t17 =>
  opRd Pr (Instr.loadAt 62 (.pointer (some t17))) CmdPart.val (fun t18 =>
  opTy Pr (Instr.alloc 62 true (.tuple #[])) pav (fun p19 w20 =>
  opUn Pr (Instr.storeAt 62 (.pointer (some p19)) (.agg ⟨t18.cs⟩)) (fun w21 =>
  opRd Pr (Instr.loadAt 62 (.pointer (some p19))) CmdPart.val (fun t22 =>
  opRd Pr (Instr.loadAt 3 (.pointer (some (c1.add 0)))) (Value.int .i64) (fun t23 =>
  callV Pr Value.bool 33 #[(.agg ⟨t22.cs⟩), (.int .i64 2), (.int .i64 t23)] w21 fun t24 w25 =>
  ifB (!t24)
  (k15 l13 (i64 (t14 + 1)) w25)
  (opRd Pr (Instr.loadAt 60 (.pointer (some (p19.add 3)))) vval (fun t26 =>
  callF Pr vval t26 #[(.pointer (some c1))] w25 fun t27 w28 =>
  opRd Pr (Instr.typeAssert t27 20 66 true) (tval2 Value.pointer Value.bool) (fun t29 =>
  ifB t29.2
  (opRd Pr (nilSem (.pointer t29.1)) pav (fun t30 =>
  opRd Pr (Instr.loadAt 3 (.pointer (some t30))) (Value.int .i64) (fun t31 =>
  callV Pr sval 36 #[(.int .i64 t31)] w28 fun t32 w33 =>
  opTy Pr (Instr.buildSlice 53 1 #[(0, (sval t32))]) Sl.val (fun t34 w35 =>
  opTy Pr (Builtin.append_ #[53, 53] 53 #[l13.val, t34.val]) Sl.val (fun l36 w37 =>
  k15 l36 (i64 (t14 + 1)) w37) w35) w33) w28) w28)
  (opRd Pr (Instr.typeAssert t27 20 67 true) (tval2 Value.pointer Value.bool) (fun t38 =>
  ifB t38.2
  (opRd Pr (nilSem (.pointer t38.1)) pav (fun t39 =>
  opRd Pr (Instr.loadAt 9 (.pointer (some t39))) sval (fun t40 =>
  callV Pr sval 37 #[(sval t40)] w28 fun t41 w42 =>
  opTy Pr (Instr.buildSlice 53 1 #[(0, (sval t41))]) Sl.val (fun t43 w44 =>
  opTy Pr (Builtin.append_ #[53, 53] 53 #[l13.val, t43.val]) Sl.val (fun l45 w46 =>
  k15 l45 (i64 (t14 + 1)) w46) w44) w42) w28) w28)
  (k15 l13 (i64 (t14 + 1)) w28)) w28)) w28) w25)) w21) w21) w20) w16) w16) w16)
  (callV Pr sval 38 #[l13.val] w16 fun t47 w48 =>
  K t47 w48)) w12) w8) w5)) w2) w
def cmd_Text_ann : Ann := (.s (.r [(0, .ty rPA)]) (.s (.s (.r [(0, .rd rApiCmd), (1, .call (rI .i64))]) (.c (.s .d .d) .d)) (.s (.r [(1, .rd (rI .i64)), (2, .call rS), (3, .ty rSl)]) (.s (.s (.r [(0, .call rSl)]) (.b (.l [(.s 3, rSl), (.s 17, (rI .i64))] (.s .d (.s (.c .d .d) (.s (.b (.s (.r [(0, .rd rPA), (1, .rd rCmdPart), (2, .ty rPA), (3, .un)]) (.s (.s (.r [(0, .rd rCmdPart), (2, .rd (rI .i64)), (3, .call rB)]) (.c .d .d)) (.s (.r [(1, .rd rV), (2, .callf rV)]) (.b (.s (.r [(0, .rd (rT2 rP rB))]) (.c (.s .d (.r [(2, .rd rPA), (3, .rd (rI .i64)), (4, .call rS), (5, .ty rSl), (6, .ty rSl)])) (.s (.r [(0, .rd (rT2 rP rB))]) (.c (.s .d (.r [(2, .rd rPA), (3, .rd rS), (4, .call rS), (5, .ty rSl), (6, .ty rSl)])) .d))))))))) .d)))))) (.s (.r [(1, .call rS)]) .d)))))
theorem cmd_Text_calls {c : ApiCmd} {K : (List UInt8) → World → Prop} {w : World} (h : cmd_Text c K w) : callV Pr sval 12 #[(.agg ⟨c.cs⟩)] w K :=
  calls_of Pr_plain Pr_mixed Pr_func12 cmd_Text_ann rS (args := [(.agg ⟨c.cs⟩)]) (by kernel_rfl) h

/- changeover/changeoverref41.Large -/
def ref41_Large (l : Sl) (K : Bool → World → Prop) (w : World) : Prop :=
  loop1 (0 : Int) (fun i1 k2 w3 =>
  ifB (decide (i1 < (l.len : Int)))
  (ifB (decide (i1 < 700))
  (opRd Pr (Instr.indexAt 35 l.val (.int .i64 i1)) pav (fun t4 =>
  opRd Pr (Instr.loadAt 9 (.pointer (some ((t4.add 4).add 3)))) sval (fun t5 =>
  ifB (decide (((t5 : List UInt8).length : Int) > 200))
  (K true w3)
  (opRd Pr (Instr.indexAt 35 l.val (.int .i64 i1)) pav (fun t6 =>
  opRd Pr (Instr.loadAt 9 (.pointer (some ((t6.add 4).add 4)))) sval (fun t7 =>
  ifB (decide (((t7 : List UInt8).length : Int) > 200))
  (K true w3)
  (opRd Pr (Instr.indexAt 35 l.val (.int .i64 i1)) pav (fun t8 =>
  opRd Pr (Instr.loadAt 9 (.pointer (some ((t8.add 4).add 5)))) sval (fun t9 =>
  ifB (decide (((t9 : List UInt8).length : Int) > 200))
  (K true w3)
  (k2 (i64 (i1 + 1)) w3)) w3) w3)) w3) w3)) w3) w3)
  (K (decide ((l.len : Int) > 700)) w3))
  (K (decide ((l.len : Int) > 700)) w3)) w
def ref41_Large_ann : Ann := (.s .d (.s (.s .d (.b (.l [(.s 3, (rI .i64))] (.s (.s .d (.c .d .d)) (.s (.b (.s (.r [(2, .rd rPA), (5, .rd rS), (11, .rd rPA), (14, .rd rS), (21, .rd rPA), (24, .rd rS)]) (.c (.s .d .d) .d))) .d))))) (.s .d .d)))
theorem ref41_Large_calls {l : Sl} {K : Bool → World → Prop} {w : World} (h : ref41_Large l K w) : callV Pr Value.bool 13 #[l.val] w K :=
  calls_of Pr_plain Pr_mixed Pr_func13 ref41_Large_ann rB (args := [l.val]) (by kernel_rfl) h

/- changeover/changeoverlaw42.awake -/
def law42_awake (K : Bool → World → Prop) (w : World) : Prop :=
  callV Pr (tval2 ApiEvent.val (Value.int .i64)) 17 #[(sval [99, 114, 97, 115, 104, 32, 51, 32, 48, 32, 55])] w fun t1 w2 =>
  newV (fun b3 w4 =>
  wrM b3 (fun w5 =>
  ifB (t1.2 == 0)
  (ifB (t1.1.Node == 3)
  (ifB (t1.1.M == 7)
  (callV Pr sval 19 #[(.agg ⟨[(.int .i64 t1.1.Kind), (.int .i64 t1.1.Node), (.int .i64 t1.1.N), (.int .i64 t1.1.M), (.int .i64 t1.1.Cmd.Kind), (.int .i64 t1.1.Cmd.Client), (.int .i64 t1.1.Cmd.Seq), (sval t1.1.Cmd.Key), (sval t1.1.Cmd.Val), (sval t1.1.Cmd.Old), (.int .i64 t1.1.Cmd.Node)]⟩)] w5 fun t6 w7 =>
  kp b3 w5 w7 <|
  K (strEq t6 [99, 114, 97, 115, 104, 32, 51, 32, 48, 32, 55]) w7)
  (K false w5))
  (K false w5))
  (K false w5)) w4) w2
def law42_awake_ann : Ann := (.s .d (.s (.r [(0, .call (rT2 rApiEvent (rI .i64))), (4, .nl 1), (5, .ls 1)]) (.s (.r [(14, .call rS)]) .d)))
theorem law42_awake_calls {K : Bool → World → Prop} {w : World} (h : law42_awake K w) : callV Pr Value.bool 14 #[] w K :=
  calls_of Pr_plain Pr_mixed Pr_func14 law42_awake_ann rB (args := []) (by kernel_rfl) h

/- changeover/changeoverref42.Check -/
def ref42_Check (e : ApiEvent) (K : Bool → World → Prop) (w : World) : Prop :=
  newV (fun b1 w2 =>
  callV Pr (tval2 sval sval) 39 #[(.int .i64 e.Kind)] w2 fun t3 w4 =>
  kp b1 w2 w4 <|
  heldM (fun S6 w5 =>
  ifB (strEq t3.1 [])
  (K false w5)
  (callV Pr Value.bool 41 #[(sval t3.1), (.int .u8 110)] w5 fun t7 w8 =>
  kp b1 w5 w8 <|
  (S6 w8) ∧
  (callV Pr Value.bool 40 #[(.bool t7), (.int .i64 e.Node), (.int .i64 1), (.int .i64 9)] w8 fun t9 w10 =>
  kp b1 w8 w10 <|
  (S6 w10) ∧
  (ifB (!t9)
  (K false w10)
  (callV Pr Value.bool 41 #[(sval t3.1), (.int .u8 105)] w10 fun t11 w12 =>
  kp b1 w10 w12 <|
  (S6 w12) ∧
  (callV Pr Value.bool 40 #[(.bool t11), (.int .i64 e.N), (.int .i64 0), (.int .i64 4294967296)] w12 fun t13 w14 =>
  kp b1 w12 w14 <|
  (S6 w14) ∧
  (ifB (!t13)
  (K false w14)
  (callV Pr Value.bool 41 #[(sval t3.1), (.int .u8 109)] w14 fun t15 w16 =>
  kp b1 w14 w16 <|
  (S6 w16) ∧
  (callV Pr Value.bool 40 #[(.bool t15), (.int .i64 e.M), (.int .i64 0), (.int .i64 4294967296)] w16 fun t17 w18 =>
  kp b1 w16 w18 <|
  (S6 w18) ∧
  (ifB (!t17)
  (K false w18)
  (newV (fun b19 w20 =>
  wrM b19 (fun w21 =>
  callV Pr Value.bool 41 #[(sval t3.1), (.int .u8 99)] w21 fun t22 w23 =>
  kp b19 w21 w23 <|
  kp b1 w21 w23 <|
  ifB t22
  (wrM b19 (fun w24 =>
  ifB (e.Cmd.Seq == 0)
  (callV Pr Value.bool 24 #[(.int .i64 e.Cmd.Kind)] w24 fun t25 w26 =>
  kp b19 w24 w26 <|
  kp b1 w24 w26 <|
  ifB t25
  (callV Pr (Value.int .i64) 9 #[(.agg ⟨[(.int .i64 e.Cmd.Kind), (.int .i64 e.Cmd.Client), (.int .i64 1), (sval e.Cmd.Key), (sval e.Cmd.Val), (sval e.Cmd.Old), (.int .i64 e.Cmd.Node)]⟩)] w26 fun t27 w28 =>
  kp b19 w26 w28 <|
  kp b1 w26 w28 <|
  K (t27 == 0) w28)
  (K false w26))
  (K false w24)) w23)
  (callV Pr Value.bool 41 #[(sval t3.1), (.int .u8 97)] w23 fun t29 w30 =>
  kp b19 w23 w30 <|
  kp b1 w23 w30 <|
  ifB t29
  (callV Pr Value.bool 24 #[(.int .i64 e.Cmd.Kind)] w30 fun t31 w32 =>
  kp b19 w30 w32 <|
  kp b1 w30 w32 <|
  ifB (!t31)
  (callV Pr (Value.int .i64) 9 #[(.agg ⟨[(.int .i64 e.Cmd.Kind), (.int .i64 e.Cmd.Client), (.int .i64 e.Cmd.Seq), (sval e.Cmd.Key), (sval e.Cmd.Val), (sval e.Cmd.Old), (.int .i64 e.Cmd.Node)]⟩)] w32 fun t33 w34 =>
  kp b19 w32 w34 <|
  kp b1 w32 w34 <|
  K (t33 == 0) w34)
  (K false w32))
  (opRd Pr (binSem .eql 23 (.tmp 68) (.tmp 69) (.agg ⟨[(.int .i64 e.Cmd.Kind), (.int .i64 e.Cmd.Client), (.int .i64 e.Cmd.Seq), (sval e.Cmd.Key), (sval e.Cmd.Val), (sval e.Cmd.Old), (.int .i64 e.Cmd.Node)]⟩) (.agg ⟨[(.int .i64 0), (.int .i64 0), (.int .i64 0), (sval []), (sval []), (sval []), (.int .i64 0)]⟩)) Value.bool (fun t35 =>
  K t35 w30) w30))) w20) w18))))))))))) w4) w
def ref42_Check_ann : Ann := (.s (.r [(0, .nl 1)]) (.s (.r [(2, .call (rT2 rS rS))]) (.s (.s (.h (.take 0 (.take 1 (.take 2 (.take 3 (.take 5 (.take 6 (.one 4 (.one 7 (.take 8 (.take 9 (.take 10 (.take 11 (.take 13 (.take 14 (.one 12 (.one 15 (.take 16 (.take 17 (.take 18 (.take 19 (.take 21 (.take 22 (.one 20 (.one 23 (.take 24 (.take 25 .done)))))))))))))))))))))))))) [(4, .call rB), (7, .call rB), (12, .call rB), (15, .call rB), (20, .call rB), (23, .call rB)]) (.c (.s .d .d) .d)) (.s (.r [(2, .nl 5), (3, .ls 5)]) (.s (.s (.r [(1, .call rB)]) (.c (.s (.r [(1, .ls 5)]) (.s (.r [(7, .call rB), (11, .call (rI .i64))]) .d)) .d)) (.s (.s (.r [(1, .call rB)]) (.c (.s (.r [(2, .call rB), (6, .call (rI .i64))]) .d) .d)) (.s (.r [(2, .rd rB)]) .d)))))))
theorem ref42_Check_calls {e : ApiEvent} {K : Bool → World → Prop} {w : World} (h : ref42_Check e K w) : callV Pr Value.bool 15 #[(.agg ⟨e.cs⟩)] w K :=
  calls_of Pr_plain Pr_mixed Pr_func15 ref42_Check_ann rB (args := [(.agg ⟨e.cs⟩)]) (by kernel_rfl) h

/- changeover/changeoverref42.Print -/
def ref42_Print (e : ApiEvent) (K : (List UInt8) → World → Prop) (w : World) : Prop :=
  newV (fun b1 w2 =>
  callV Pr (tval2 sval sval) 39 #[(.int .i64 e.Kind)] w2 fun t3 w4 =>
  kp b1 w2 w4 <|
  join1 (fun (j5 : (List UInt8) → World → Prop) =>
  callV Pr Value.bool 41 #[(sval t3.1), (.int .u8 110)] w4 fun t6 w7 =>
  kp b1 w4 w7 <|
  ifB t6
  (opRd Pr (binSem .add 9 (.tmp 14) (.const (sval [32])) (sval t3.2) (sval [32])) sval (fun t8 =>
  callV Pr sval 28 #[(.int .i64 e.Node)] w7 fun t9 w10 =>
  kp b1 w7 w10 <|
  opRd Pr (binSem .add 9 (.tmp 15) (.tmp 18) (sval t8) (sval t9)) sval (fun s11 =>
  j5 s11 w10) w10) w7)
  (j5 t3.2 w7))
  (fun s12 w13 =>
  join1 (fun (j14 : (List UInt8) → World → Prop) =>
  callV Pr Value.bool 41 #[(sval t3.1), (.int .u8 105)] w13 fun t15 w16 =>
  kp b1 w13 w16 <|
  ifB t15
  (opRd Pr (binSem .add 9 (.tmp 22) (.const (sval [32])) (sval s12) (sval [32])) sval (fun t17 =>
  callV Pr sval 28 #[(.int .i64 e.N)] w16 fun t18 w19 =>
  kp b1 w16 w19 <|
  opRd Pr (binSem .add 9 (.tmp 23) (.tmp 26) (sval t17) (sval t18)) sval (fun s20 =>
  j14 s20 w19) w19) w16)
  (j14 s12 w16))
  (fun s21 w22 =>
  join1 (fun (j23 : (List UInt8) → World → Prop) =>
  callV Pr Value.bool 41 #[(sval t3.1), (.int .u8 109)] w22 fun t24 w25 =>
  kp b1 w22 w25 <|
  ifB t24
  (opRd Pr (binSem .add 9 (.tmp 30) (.const (sval [32])) (sval s21) (sval [32])) sval (fun t26 =>
  callV Pr sval 28 #[(.int .i64 e.M)] w25 fun t27 w28 =>
  kp b1 w25 w28 <|
  opRd Pr (binSem .add 9 (.tmp 31) (.tmp 34) (sval t26) (sval t27)) sval (fun s29 =>
  j23 s29 w28) w28) w25)
  (j23 s21 w25))
  (fun s30 w31 =>
  join1 (fun (j32 : (List UInt8) → World → Prop) =>
  callV Pr Value.bool 41 #[(sval t3.1), (.int .u8 97)] w31 fun t33 w34 =>
  kp b1 w31 w34 <|
  ifB t33
  (opRd Pr (binSem .add 9 (.tmp 38) (.const (sval [32])) (sval s30) (sval [32])) sval (fun t35 =>
  callV Pr sval 10 #[(.agg ⟨[(.int .i64 e.Cmd.Kind), (.int .i64 e.Cmd.Client), (.int .i64 e.Cmd.Seq), (sval e.Cmd.Key), (sval e.Cmd.Val), (sval e.Cmd.Old), (.int .i64 e.Cmd.Node)]⟩)] w34 fun t36 w37 =>
  kp b1 w34 w37 <|
  opRd Pr (binSem .add 9 (.tmp 39) (.tmp 42) (sval t35) (sval t36)) sval (fun s38 =>
  j32 s38 w37) w37) w34)
  (j32 s30 w34))
  (fun s39 w40 =>
  callV Pr Value.bool 41 #[(sval t3.1), (.int .u8 99)] w40 fun t41 w42 =>
  kp b1 w40 w42 <|
  ifB t41
  (newV (fun b43 w44 =>
  wrM b43 (fun w45 =>
  heldM (fun S47 w46 =>
  opH Pr S47 (binSem .add 9 (.tmp 48) (.const (sval [32])) (sval s39) (sval [32])) sval (fun t48 =>
  (opTy Pr (Instr.buildSlice 53 6 #[(0, (sval [])), (1, (sval [])), (2, (sval [112, 117, 116])), (3, (sval [103, 101, 116])), (4, (sval [100, 101, 108])), (5, (sval [99, 97, 115]))]) Sl.val (fun t49 w50 =>
  kp b43 w46 w50 <|
  kp b1 w46 w50 <|
  (S47 w50) ∧
  (opH Pr S47 (Instr.indexAt 53 t49.val (.int .i64 e.Cmd.Kind)) pav (fun t51 =>
  (opRd Pr (Instr.loadAt 9 (.pointer (some t51))) sval (fun t52 =>
  (S47 w50) ∧
  (opH Pr S47 (binSem .add 9 (.tmp 49) (.tmp 54) (sval t48) (sval t52)) sval (fun t53 =>
  opH Pr S47 (binSem .add 9 (.tmp 55) (.const (sval [32])) (sval t53) (sval [32])) sval (fun t54 =>
  callV Pr sval 28 #[(.int .i64 e.Cmd.Client)] w50 fun t55 w56 =>
  kp b43 w50 w56 <|
  kp b1 w50 w56 <|
  (S47 w56) ∧
  (opH Pr S47 (binSem .add 9 (.tmp 56) (.tmp 59) (sval t54) (sval t55)) sval (fun t57 =>
  opH Pr S47 (binSem .add 9 (.tmp 60) (.const (sval [32])) (sval t57) (sval [32])) sval (fun t58 =>
  callV Pr sval 29 #[(sval e.Cmd.Key)] w56 fun t59 w60 =>
  kp b43 w56 w60 <|
  kp b1 w56 w60 <|
  (S47 w60) ∧
  (opH Pr S47 (binSem .add 9 (.tmp 61) (.tmp 64) (sval t58) (sval t59)) sval (fun s61 =>
  join1 (fun (j62 : (List UInt8) → World → Prop) =>
  ifB (e.Cmd.Kind == 5)
  (opRd Pr (binSem .add 9 (.tmp 69) (.const (sval [32])) (sval s61) (sval [32])) sval (fun t63 =>
  callV Pr sval 29 #[(sval e.Cmd.Old)] w60 fun t64 w65 =>
  kp b43 w60 w65 <|
  kp b1 w60 w65 <|
  opRd Pr (binSem .add 9 (.tmp 70) (.tmp 73) (sval t63) (sval t64)) sval (fun s66 =>
  j62 s66 w65) w65) w60)
  (j62 s61 w60))
  (fun s67 w68 =>
  ifB (e.Cmd.Kind == 2)
  (opRd Pr (binSem .add 9 (.tmp 83) (.const (sval [32])) (sval s67) (sval [32])) sval (fun t69 =>
  callV Pr sval 29 #[(sval e.Cmd.Val)] w68 fun t70 w71 =>
  kp b43 w68 w71 <|
  kp b1 w68 w71 <|
  opRd Pr (binSem .add 9 (.tmp 84) (.tmp 87) (sval t69) (sval t70)) sval (fun s72 =>
  K s72 w71) w71) w68)
  (ifB (e.Cmd.Kind == 5)
  (opRd Pr (binSem .add 9 (.tmp 83) (.const (sval [32])) (sval s67) (sval [32])) sval (fun t73 =>
  callV Pr sval 29 #[(sval e.Cmd.Val)] w68 fun t74 w75 =>
  kp b43 w68 w75 <|
  kp b1 w68 w75 <|
  opRd Pr (binSem .add 9 (.tmp 84) (.tmp 87) (sval t73) (sval t74)) sval (fun s76 =>
  K s76 w75) w75) w68)
  (K s67 w68)))))))))))) w50) ∧
  (callV Pr sval 28 #[(.int .i64 e.Cmd.Client)] w50 fun t77 w78 =>
  kp b43 w50 w78 <|
  kp b1 w50 w78 <|
  (S47 w78) ∧
  ((opRd Pr (Instr.loadAt 9 (.pointer (some t51))) sval (fun t79 =>
  (S47 w78) ∧
  (opH Pr S47 (binSem .add 9 (.tmp 49) (.tmp 54) (sval t48) (sval t79)) sval (fun t80 =>
  opH Pr S47 (binSem .add 9 (.tmp 55) (.const (sval [32])) (sval t80) (sval [32])) sval (fun t81 =>
  opH Pr S47 (binSem .add 9 (.tmp 56) (.tmp 59) (sval t81) (sval t77)) sval (fun t82 =>
  opH Pr S47 (binSem .add 9 (.tmp 60) (.const (sval [32])) (sval t82) (sval [32])) sval (fun t83 =>
  callV Pr sval 29 #[(sval e.Cmd.Key)] w78 fun t84 w85 =>
  kp b43 w78 w85 <|
  kp b1 w78 w85 <|
  (S47 w85) ∧
  (opH Pr S47 (binSem .add 9 (.tmp 61) (.tmp 64) (sval t83) (sval t84)) sval (fun s86 =>
  join1 (fun (j87 : (List UInt8) → World → Prop) =>
  ifB (e.Cmd.Kind == 5)
  (opRd Pr (binSem .add 9 (.tmp 69) (.const (sval [32])) (sval s86) (sval [32])) sval (fun t88 =>
  callV Pr sval 29 #[(sval e.Cmd.Old)] w85 fun t89 w90 =>
  kp b43 w85 w90 <|
  kp b1 w85 w90 <|
  opRd Pr (binSem .add 9 (.tmp 70) (.tmp 73) (sval t88) (sval t89)) sval (fun s91 =>
  j87 s91 w90) w90) w85)
  (j87 s86 w85))
  (fun s92 w93 =>
  ifB (e.Cmd.Kind == 2)
  (opRd Pr (binSem .add 9 (.tmp 83) (.const (sval [32])) (sval s92) (sval [32])) sval (fun t94 =>
  callV Pr sval 29 #[(sval e.Cmd.Val)] w93 fun t95 w96 =>
  kp b43 w93 w96 <|
  kp b1 w93 w96 <|
  opRd Pr (binSem .add 9 (.tmp 84) (.tmp 87) (sval t94) (sval t95)) sval (fun s97 =>
  K s97 w96) w96) w93)
  (ifB (e.Cmd.Kind == 5)
  (opRd Pr (binSem .add 9 (.tmp 83) (.const (sval [32])) (sval s92) (sval [32])) sval (fun t98 =>
  callV Pr sval 29 #[(sval e.Cmd.Val)] w93 fun t99 w100 =>
  kp b43 w93 w100 <|
  kp b1 w93 w100 <|
  opRd Pr (binSem .add 9 (.tmp 84) (.tmp 87) (sval t98) (sval t99)) sval (fun s101 =>
  K s101 w100) w100) w93)
  (K s92 w93))))))))))) w78) ∧
  (callV Pr sval 29 #[(sval e.Cmd.Key)] w78 fun t102 w103 =>
  kp b43 w78 w103 <|
  kp b1 w78 w103 <|
  (S47 w103) ∧
  (opRd Pr (Instr.loadAt 9 (.pointer (some t51))) sval (fun t104 =>
  (S47 w103) ∧
  (opH Pr S47 (binSem .add 9 (.tmp 49) (.tmp 54) (sval t48) (sval t104)) sval (fun t105 =>
  opH Pr S47 (binSem .add 9 (.tmp 55) (.const (sval [32])) (sval t105) (sval [32])) sval (fun t106 =>
  opH Pr S47 (binSem .add 9 (.tmp 56) (.tmp 59) (sval t106) (sval t77)) sval (fun t107 =>
  opH Pr S47 (binSem .add 9 (.tmp 60) (.const (sval [32])) (sval t107) (sval [32])) sval (fun t108 =>
  opH Pr S47 (binSem .add 9 (.tmp 61) (.tmp 64) (sval t108) (sval t102)) sval (fun s109 =>
  join1 (fun (j110 : (List UInt8) → World → Prop) =>
  ifB (e.Cmd.Kind == 5)
  (opRd Pr (binSem .add 9 (.tmp 69) (.const (sval [32])) (sval s109) (sval [32])) sval (fun t111 =>
  callV Pr sval 29 #[(sval e.Cmd.Old)] w103 fun t112 w113 =>
  kp b43 w103 w113 <|
  kp b1 w103 w113 <|
  opRd Pr (binSem .add 9 (.tmp 70) (.tmp 73) (sval t111) (sval t112)) sval (fun s114 =>
  j110 s114 w113) w113) w103)
  (j110 s109 w103))
  (fun s115 w116 =>
  ifB (e.Cmd.Kind == 2)
  (opRd Pr (binSem .add 9 (.tmp 83) (.const (sval [32])) (sval s115) (sval [32])) sval (fun t117 =>
  callV Pr sval 29 #[(sval e.Cmd.Val)] w116 fun t118 w119 =>
  kp b43 w116 w119 <|
  kp b1 w116 w119 <|
  opRd Pr (binSem .add 9 (.tmp 84) (.tmp 87) (sval t117) (sval t118)) sval (fun s120 =>
  K s120 w119) w119) w116)
  (ifB (e.Cmd.Kind == 5)
  (opRd Pr (binSem .add 9 (.tmp 83) (.const (sval [32])) (sval s115) (sval [32])) sval (fun t121 =>
  callV Pr sval 29 #[(sval e.Cmd.Val)] w116 fun t122 w123 =>
  kp b43 w116 w123 <|
  kp b1 w116 w123 <|
  opRd Pr (binSem .add 9 (.tmp 84) (.tmp 87) (sval t121) (sval t122)) sval (fun s124 =>
  K s124 w123) w123) w116)
  (K s115 w116)))))))))) w103))))))) w46) ∧
  (callV Pr sval 28 #[(.int .i64 e.Cmd.Client)] w46 fun t125 w126 =>
  kp b43 w46 w126 <|
  kp b1 w46 w126 <|
  (S47 w126) ∧
  ((opTy Pr (Instr.buildSlice 53 6 #[(0, (sval [])), (1, (sval [])), (2, (sval [112, 117, 116])), (3, (sval [103, 101, 116])), (4, (sval [100, 101, 108])), (5, (sval [99, 97, 115]))]) Sl.val (fun t127 w128 =>
  kp b43 w126 w128 <|
  kp b1 w126 w128 <|
  (S47 w128) ∧
  (opH Pr S47 (Instr.indexAt 53 t127.val (.int .i64 e.Cmd.Kind)) pav (fun t129 =>
  (opRd Pr (Instr.loadAt 9 (.pointer (some t129))) sval (fun t130 =>
  (S47 w128) ∧
  (opH Pr S47 (binSem .add 9 (.tmp 49) (.tmp 54) (sval t48) (sval t130)) sval (fun t131 =>
  opH Pr S47 (binSem .add 9 (.tmp 55) (.const (sval [32])) (sval t131) (sval [32])) sval (fun t132 =>
  opH Pr S47 (binSem .add 9 (.tmp 56) (.tmp 59) (sval t132) (sval t125)) sval (fun t133 =>
  opH Pr S47 (binSem .add 9 (.tmp 60) (.const (sval [32])) (sval t133) (sval [32])) sval (fun t134 =>
  callV Pr sval 29 #[(sval e.Cmd.Key)] w128 fun t135 w136 =>
  kp b43 w128 w136 <|
  kp b1 w128 w136 <|
  (S47 w136) ∧
  (opH Pr S47 (binSem .add 9 (.tmp 61) (.tmp 64) (sval t134) (sval t135)) sval (fun s137 =>
  join1 (fun (j138 : (List UInt8) → World → Prop) =>
  ifB (e.Cmd.Kind == 5)
  (opRd Pr (binSem .add 9 (.tmp 69) (.const (sval [32])) (sval s137) (sval [32])) sval (fun t139 =>
  callV Pr sval 29 #[(sval e.Cmd.Old)] w136 fun t140 w141 =>
  kp b43 w136 w141 <|
  kp b1 w136 w141 <|
  opRd Pr (binSem .add 9 (.tmp 70) (.tmp 73) (sval t139) (sval t140)) sval (fun s142 =>
  j138 s142 w141) w141) w136)
  (j138 s137 w136))
  (fun s143 w144 =>
  ifB (e.Cmd.Kind == 2)
  (opRd Pr (binSem .add 9 (.tmp 83) (.const (sval [32])) (sval s143) (sval [32])) sval (fun t145 =>
  callV Pr sval 29 #[(sval e.Cmd.Val)] w144 fun t146 w147 =>
  kp b43 w144 w147 <|
  kp b1 w144 w147 <|
  opRd Pr (binSem .add 9 (.tmp 84) (.tmp 87) (sval t145) (sval t146)) sval (fun s148 =>
  K s148 w147) w147) w144)
  (ifB (e.Cmd.Kind == 5)
  (opRd Pr (binSem .add 9 (.tmp 83) (.const (sval [32])) (sval s143) (sval [32])) sval (fun t149 =>
  callV Pr sval 29 #[(sval e.Cmd.Val)] w144 fun t150 w151 =>
  kp b43 w144 w151 <|
  kp b1 w144 w151 <|
  opRd Pr (binSem .add 9 (.tmp 84) (.tmp 87) (sval t149) (sval t150)) sval (fun s152 =>
  K s152 w151) w151) w144)
  (K s143 w144))))))))))) w128) ∧
  (callV Pr sval 29 #[(sval e.Cmd.Key)] w128 fun t153 w154 =>
  kp b43 w128 w154 <|
  kp b1 w128 w154 <|
  (S47 w154) ∧
  (opRd Pr (Instr.loadAt 9 (.pointer (some t129))) sval (fun t155 =>
  (S47 w154) ∧
  (opH Pr S47 (binSem .add 9 (.tmp 49) (.tmp 54) (sval t48) (sval t155)) sval (fun t156 =>
  opH Pr S47 (binSem .add 9 (.tmp 55) (.const (sval [32])) (sval t156) (sval [32])) sval (fun t157 =>
  opH Pr S47 (binSem .add 9 (.tmp 56) (.tmp 59) (sval t157) (sval t125)) sval (fun t158 =>
  opH Pr S47 (binSem .add 9 (.tmp 60) (.const (sval [32])) (sval t158) (sval [32])) sval (fun t159 =>
  opH Pr S47 (binSem .add 9 (.tmp 61) (.tmp 64) (sval t159) (sval t153)) sval (fun s160 =>
  join1 (fun (j161 : (List UInt8) → World → Prop) =>
  ifB (e.Cmd.Kind == 5)
  (opRd Pr (binSem .add 9 (.tmp 69) (.const (sval [32])) (sval s160) (sval [32])) sval (fun t162 =>
  callV Pr sval 29 #[(sval e.Cmd.Old)] w154 fun t163 w164 =>
  kp b43 w154 w164 <|
  kp b1 w154 w164 <|
  opRd Pr (binSem .add 9 (.tmp 70) (.tmp 73) (sval t162) (sval t163)) sval (fun s165 =>
  j161 s165 w164) w164) w154)
  (j161 s160 w154))
  (fun s166 w167 =>
  ifB (e.Cmd.Kind == 2)
  (opRd Pr (binSem .add 9 (.tmp 83) (.const (sval [32])) (sval s166) (sval [32])) sval (fun t168 =>
  callV Pr sval 29 #[(sval e.Cmd.Val)] w167 fun t169 w170 =>
  kp b43 w167 w170 <|
  kp b1 w167 w170 <|
  opRd Pr (binSem .add 9 (.tmp 84) (.tmp 87) (sval t168) (sval t169)) sval (fun s171 =>
  K s171 w170) w170) w167)
  (ifB (e.Cmd.Kind == 5)
  (opRd Pr (binSem .add 9 (.tmp 83) (.const (sval [32])) (sval s166) (sval [32])) sval (fun t172 =>
  callV Pr sval 29 #[(sval e.Cmd.Val)] w167 fun t173 w174 =>
  kp b43 w167 w174 <|
  kp b1 w167 w174 <|
  opRd Pr (binSem .add 9 (.tmp 84) (.tmp 87) (sval t172) (sval t173)) sval (fun s175 =>
  K s175 w174) w174) w167)
  (K s166 w167)))))))))) w154))))) w126) ∧
  (callV Pr sval 29 #[(sval e.Cmd.Key)] w126 fun t176 w177 =>
  kp b43 w126 w177 <|
  kp b1 w126 w177 <|
  (S47 w177) ∧
  (opTy Pr (Instr.buildSlice 53 6 #[(0, (sval [])), (1, (sval [])), (2, (sval [112, 117, 116])), (3, (sval [103, 101, 116])), (4, (sval [100, 101, 108])), (5, (sval [99, 97, 115]))]) Sl.val (fun t178 w179 =>
  kp b43 w177 w179 <|
  kp b1 w177 w179 <|
  (S47 w179) ∧
  (opH Pr S47 (Instr.indexAt 53 t178.val (.int .i64 e.Cmd.Kind)) pav (fun t180 =>
  opRd Pr (Instr.loadAt 9 (.pointer (some t180))) sval (fun t181 =>
  (S47 w179) ∧
  (opH Pr S47 (binSem .add 9 (.tmp 49) (.tmp 54) (sval t48) (sval t181)) sval (fun t182 =>
  opH Pr S47 (binSem .add 9 (.tmp 55) (.const (sval [32])) (sval t182) (sval [32])) sval (fun t183 =>
  opH Pr S47 (binSem .add 9 (.tmp 56) (.tmp 59) (sval t183) (sval t125)) sval (fun t184 =>
  opH Pr S47 (binSem .add 9 (.tmp 60) (.const (sval [32])) (sval t184) (sval [32])) sval (fun t185 =>
  opH Pr S47 (binSem .add 9 (.tmp 61) (.tmp 64) (sval t185) (sval t176)) sval (fun s186 =>
  join1 (fun (j187 : (List UInt8) → World → Prop) =>
  ifB (e.Cmd.Kind == 5)
  (opRd Pr (binSem .add 9 (.tmp 69) (.const (sval [32])) (sval s186) (sval [32])) sval (fun t188 =>
  callV Pr sval 29 #[(sval e.Cmd.Old)] w179 fun t189 w190 =>
  kp b43 w179 w190 <|
  kp b1 w179 w190 <|
  opRd Pr (binSem .add 9 (.tmp 70) (.tmp 73) (sval t188) (sval t189)) sval (fun s191 =>
  j187 s191 w190) w190) w179)
  (j187 s186 w179))
  (fun s192 w193 =>
  ifB (e.Cmd.Kind == 2)
  (opRd Pr (binSem .add 9 (.tmp 83) (.const (sval [32])) (sval s192) (sval [32])) sval (fun t194 =>
  callV Pr sval 29 #[(sval e.Cmd.Val)] w193 fun t195 w196 =>
  kp b43 w193 w196 <|
  kp b1 w193 w196 <|
  opRd Pr (binSem .add 9 (.tmp 84) (.tmp 87) (sval t194) (sval t195)) sval (fun s197 =>
  K s197 w196) w196) w193)
  (ifB (e.Cmd.Kind == 5)
  (opRd Pr (binSem .add 9 (.tmp 83) (.const (sval [32])) (sval s192) (sval [32])) sval (fun t198 =>
  callV Pr sval 29 #[(sval e.Cmd.Val)] w193 fun t199 w200 =>
  kp b43 w193 w200 <|
  kp b1 w193 w200 <|
  opRd Pr (binSem .add 9 (.tmp 84) (.tmp 87) (sval t198) (sval t199)) sval (fun s201 =>
  K s201 w200) w200) w193)
  (K s192 w193)))))))))) w179))) w177)))))) w45) w44) w42)
  (K s39 w42)))))) w
def ref42_Print_ann : Ann := (.s (.r [(0, .nl 1)]) (.s (.r [(2, .call (rT2 rS rS))]) (.sj [(.s 4, rS)] (.s (.r [(1, .call rB)]) (.c (.r [(1, .rd rS), (4, .call rS), (5, .rd rS)]) .d)) (.sj [(.s 4, rS)] (.s (.r [(1, .call rB)]) (.c (.r [(1, .rd rS), (4, .call rS), (5, .rd rS)]) .d)) (.sj [(.s 4, rS)] (.s (.r [(1, .call rB)]) (.c (.r [(1, .rd rS), (4, .call rS), (5, .rd rS)]) .d)) (.sj [(.s 4, rS)] (.s (.r [(1, .call rB)]) (.c (.r [(1, .rd rS), (4, .call rS), (5, .rd rS)]) .d)) (.s (.s (.r [(1, .call rB)]) (.c (.s (.r [(2, .nl 5), (3, .ls 5)]) (.s (.h (.take 0 (.take 1 (.take 3 (.take 4 (.take 9 (.take 10 (.take 14 (.take 15 (.two 2 (.take 5 (.two 6 (.take 7 (.take 8 (.one 11 (.take 12 (.take 13 (.one 16 (.take 17 (.take 18 .done)))))))) 11 (.two 6 (.take 7 (.take 8 (.take 12 (.take 13 (.one 16 (.take 17 (.take 18 .done))))))) 16 (.one 6 (.take 7 (.take 8 (.take 12 (.take 13 (.take 17 (.take 18 .done)))))))))) 11 (.two 2 (.take 5 (.two 6 (.take 7 (.take 8 (.take 12 (.take 13 (.one 16 (.take 17 (.take 18 .done))))))) 16 (.one 6 (.take 7 (.take 8 (.take 12 (.take 13 (.take 17 (.take 18 .done))))))))) 16 (.one 2 (.take 5 (.one 6 (.take 7 (.take 8 (.take 12 (.take 13 (.take 17 (.take 18 .done))))))))))))))))))) [(1, .rd rS), (2, .ty rSl), (5, .rd rPA), (6, .rd rS), (7, .rd rS), (8, .rd rS), (11, .call rS), (12, .rd rS), (13, .rd rS), (16, .call rS), (17, .rd rS)]) (.sj [(.s 4, rS)] (.s .d (.c (.r [(1, .rd rS), (4, .call rS), (5, .rd rS)]) .d)) (.s .d (.c (.r [(1, .rd rS), (4, .call rS), (5, .rd rS)]) .d))))) .d)) (.s .d .d))))))))
theorem ref42_Print_calls {e : ApiEvent} {K : (List UInt8) → World → Prop} {w : World} (h : ref42_Print e K w) : callV Pr sval 16 #[(.agg ⟨e.cs⟩)] w K :=
  calls_of Pr_plain Pr_mixed Pr_func16 ref42_Print_ann rS (args := [(.agg ⟨e.cs⟩)]) (by kernel_rfl) h

/- changeover/script.Parse -/
def script_Parse (line : List UInt8) (K : (ApiEvent × Int) → World → Prop) (w : World) : Prop :=
  newV (fun b1 w2 =>
  callV Pr (tval2 Sl.val (Value.int .i64)) 30 #[(sval line)] w2 fun t3 w4 =>
  kp b1 w2 w4 <|
  ifB (t3.2 != 0)
  (wrM b1 (fun w5 =>
  K ((ApiEvent.mk 0 0 0 0 (ApiCmd.mk 0 0 0 [] [] [] 0)), 3) w5) w4)
  (ifB ((t3.1.len : Int) == 0)
  (wrM b1 (fun w6 =>
  K ((ApiEvent.mk 0 0 0 0 (ApiCmd.mk 0 0 0 [] [] [] 0)), 3) w6) w4)
  (newV (fun b7 w8 =>
  callV Pr aval 42 #[] w8 fun t9 w10 =>
  kp b7 w8 w10 <|
  kp b1 w8 w10 <|
  loop2 (0 : Int) ((ApiEvent.mk 0 0 0 0 (ApiCmd.mk 0 0 0 [] [] [] 0)) : ApiEvent) (fun t11 out12 k13 w14 =>
  ifB (decide (t11 < 12))
  (opRd Pr (Instr.index 75 (.agg ⟨t9⟩) (.int .i64 t11)) ScriptKind.val (fun t15 =>
  newV (fun b16 w17 =>
  wrM b16 (fun w18 =>
  drewM (fun w19 =>
  ifB (decide (t11 > 0))
  (opRd Pr (Instr.indexAt 53 t3.1.val (.int .i64 0)) pav (fun t20 =>
  opRd Pr (Instr.loadAt 9 (.pointer (some t20))) sval (fun t21 =>
  ifB (strEq t15.name t21)
  (wrM b7 (fun w22 =>
  k13 (i64 (t11 + 1)) (ApiEvent.mk t11 out12.Node out12.N out12.M out12.Cmd) w22) w19)
  (k13 (i64 (t11 + 1)) out12 w19)) w19) w19)
  (k13 (i64 (t11 + 1)) out12 w19)) w18) w17) w14) w14)
  (callV Pr (tval2 ScriptKind.val Value.bool) 43 #[(.int .i64 out12.Kind)] w14 fun t23 w24 =>
  kp b7 w14 w24 <|
  kp b1 w14 w24 <|
  newV (fun b25 w26 =>
  wrM b25 (fun w27 =>
  opRd Pr (Instr.sliceAt 53 t3.1.val (some (.int .i64 1)) none none) Sl.val (fun t28 =>
  opTy Pr (Instr.box 81 (.agg ⟨[t28.val]⟩)) pav (fun w29 w30 =>
  kp b25 w27 w30 <|
  kp b7 w27 w30 <|
  kp b1 w27 w30 <|
  callV Pr (Value.int .i64) 44 #[(.pointer (some w29)), (.bool ((bAnd .i64 t23.1.has_ 1) != 0))] w30 fun t31 w32 =>
  kp b25 w30 w32 <|
  kp b7 w30 w32 <|
  kp b1 w30 w32 <|
  wrM b7 (fun w33 =>
  callV Pr (Value.int .i64) 44 #[(.pointer (some w29)), (.bool ((bAnd .i64 t23.1.has_ 2) != 0))] w33 fun t34 w35 =>
  kp b25 w33 w35 <|
  kp b7 w33 w35 <|
  kp b1 w33 w35 <|
  wrM b7 (fun w36 =>
  callV Pr (Value.int .i64) 44 #[(.pointer (some w29)), (.bool ((bAnd .i64 t23.1.has_ 4) != 0))] w36 fun t37 w38 =>
  kp b25 w36 w38 <|
  kp b7 w36 w38 <|
  kp b1 w36 w38 <|
  wrM b7 (fun w39 =>
  join1 (fun (j40 : ApiEvent → World → Prop) =>
  ifB ((bAnd .i64 t23.1.has_ 24) != 0)
  (callV Pr ApiCmd.val 45 #[(.pointer (some w29)), (.int .i64 t23.1.has_)] w39 fun t41 w42 =>
  kp b25 w39 w42 <|
  kp b7 w39 w42 <|
  kp b1 w39 w42 <|
  wrM b7 (fun w43 =>
  j40 (ApiEvent.mk out12.Kind t31 t34 t37 t41) w43) w42)
  (j40 (ApiEvent.mk out12.Kind t31 t34 t37 out12.Cmd) w39))
  (fun out44 w45 =>
  callV Pr sval 19 #[(.agg ⟨[(.int .i64 out44.Kind), (.int .i64 out44.Node), (.int .i64 out44.N), (.int .i64 out44.M), (.int .i64 out44.Cmd.Kind), (.int .i64 out44.Cmd.Client), (.int .i64 out44.Cmd.Seq), (sval out44.Cmd.Key), (sval out44.Cmd.Val), (sval out44.Cmd.Old), (.int .i64 out44.Cmd.Node)]⟩)] w45 fun s46 w47 =>
  kp b7 w45 w47 <|
  kp b25 w45 w47 <|
  kp b1 w45 w47 <|
  ifB (strEq s46 [])
  (wrM b1 (fun w48 =>
  K ((ApiEvent.mk 0 0 0 0 (ApiCmd.mk 0 0 0 [] [] [] 0)), 3) w48) w47)
  (ifB (!(strEq s46 line))
  (wrM b1 (fun w49 =>
  K ((ApiEvent.mk 0 0 0 0 (ApiCmd.mk 0 0 0 [] [] [] 0)), 3) w49) w47)
  (wrM b1 (fun w50 =>
  K (out44, 0) w50) w47)))) w38) w35) w32) w27) w27) w26) w24)) w10) w4))) w
def script_Parse_ann : Ann := (.s (.r [(0, .nl 2)]) (.s (.r [(1, .call (rT2 rSl (rI .i64)))]) (.s (.s .d (.c (.s (.r [(1, .ls 2)]) .d) .d)) (.s (.r [(0, .nl 6)]) (.s (.s (.r [(0, .call rA)]) (.b (.l [(.s 27, (rI .i64)), (.h 6, rApiEvent)] (.s .d (.s (.c .d .d) (.s (.b (.s (.r [(1, .rd rScriptKind), (2, .nl 8), (4, .ls 8)]) (.s (.r [(6, .rd rPA), (7, .rd rS)]) (.c (.r [(2, .ls 6)]) .d)))) .d)))))) (.s (.r [(2, .call (rT2 rScriptKind rB)), (6, .nl 9), (7, .ls 9)]) (.s (.r [(1, .rd rSl), (3, .ty rPA)]) (.s (.r [(5, .call (rI .i64)), (7, .ls 6)]) (.s (.r [(5, .call (rI .i64)), (7, .ls 6)]) (.s (.r [(5, .call (rI .i64)), (7, .ls 6)]) (.sj [(.h 6, rApiEvent)] (.s .d (.c (.r [(3, .call rApiCmd), (5, .ls 6)]) .d)) (.s (.s (.r [(1, .call rS)]) (.s .d (.c (.s (.r [(1, .ls 2)]) .d) .d))) (.s (.r [(1, .ls 2)]) .d)))))))))))))
theorem script_Parse_calls {line : List UInt8} {K : (ApiEvent × Int) → World → Prop} {w : World} (h : script_Parse line K w) : callV Pr (tval2 ApiEvent.val (Value.int .i64)) 17 #[(sval line)] w K :=
  calls_of Pr_plain Pr_mixed Pr_func17 script_Parse_ann (rT2 rApiEvent (rI .i64)) (args := [(sval line)]) (by kernel_rfl) h

/- changeover/script.Check -/
def script_Check (e : ApiEvent) (K : Int → World → Prop) (w : World) : Prop :=
  newV (fun b1 w2 =>
  callV Pr (tval2 ScriptKind.val Value.bool) 43 #[(.int .i64 e.Kind)] w2 fun t3 w4 =>
  kp b1 w2 w4 <|
  opTy Pr (Instr.alloc 74 true (.tuple #[])) pav (fun k5 w6 =>
  kp b1 w4 w6 <|
  opUn Pr (Instr.storeAt 74 (.pointer (some k5)) (.agg ⟨t3.1.cs⟩)) (fun w7 =>
  kp b1 w6 w7 <|
  ifB (!t3.2)
  (K 3 w7)
  (callV Pr Value.bool 46 #[(.int .i64 1), (.int .i64 e.Node), (.int .i64 1), (.int .i64 9), (.pointer (some k5))] w7 fun t8 w9 =>
  kp b1 w7 w9 <|
  ifB (!t8)
  (K 3 w9)
  (callV Pr Value.bool 46 #[(.int .i64 2), (.int .i64 e.N), (.int .i64 0), (.int .i64 4294967296), (.pointer (some k5))] w9 fun t10 w11 =>
  kp b1 w9 w11 <|
  ifB (!t10)
  (K 3 w11)
  (callV Pr Value.bool 46 #[(.int .i64 4), (.int .i64 e.M), (.int .i64 0), (.int .i64 4294967296), (.pointer (some k5))] w11 fun t12 w13 =>
  kp b1 w11 w13 <|
  ifB (!t12)
  (K 3 w13)
  (opRd Pr (Instr.loadAt 3 (.pointer (some (k5.add 1)))) (Value.int .i64) (fun t14 =>
  callV Pr Value.bool 47 #[(.agg ⟨[(.int .i64 e.Kind), (.int .i64 e.Node), (.int .i64 e.N), (.int .i64 e.M), (.int .i64 e.Cmd.Kind), (.int .i64 e.Cmd.Client), (.int .i64 e.Cmd.Seq), (sval e.Cmd.Key), (sval e.Cmd.Val), (sval e.Cmd.Old), (.int .i64 e.Cmd.Node)]⟩), (.int .i64 t14)] w13 fun t15 w16 =>
  kp b1 w13 w16 <|
  ifB (!t15)
  (K 3 w16)
  (K 0 w16)) w13))))) w6) w4) w
def script_Check_ann : Ann := (.s (.r [(0, .nl 1)]) (.s (.r [(2, .call (rT2 rScriptKind rB)), (6, .ty rPA), (7, .un)]) (.s .d (.s (.s (.r [(6, .call rB), (13, .call rB), (20, .call rB), (26, .rd (rI .i64)), (27, .call rB)]) (.c (.s .d .d) .d)) (.s .d .d)))))
theorem script_Check_calls {e : ApiEvent} {K : Int → World → Prop} {w : World} (h : script_Check e K w) : callV Pr (Value.int .i64) 18 #[(.agg ⟨e.cs⟩)] w K :=
  calls_of Pr_plain Pr_mixed Pr_func18 script_Check_ann (rI .i64) (args := [(.agg ⟨e.cs⟩)]) (by kernel_rfl) h

/- changeover/script.Print -/
def script_Print (e : ApiEvent) (K : (List UInt8) → World → Prop) (w : World) : Prop :=
  newV (fun b1 w2 =>
  callV Pr (Value.int .i64) 18 #[(.agg ⟨[(.int .i64 e.Kind), (.int .i64 e.Node), (.int .i64 e.N), (.int .i64 e.M), (.int .i64 e.Cmd.Kind), (.int .i64 e.Cmd.Client), (.int .i64 e.Cmd.Seq), (sval e.Cmd.Key), (sval e.Cmd.Val), (sval e.Cmd.Old), (.int .i64 e.Cmd.Node)]⟩)] w2 fun t3 w4 =>
  kp b1 w2 w4 <|
  ifB (t3 != 0)
  (K [] w4)
  (callV Pr (tval2 ScriptKind.val Value.bool) 43 #[(.int .i64 e.Kind)] w4 fun t5 w6 =>
  kp b1 w4 w6 <|
  opTy Pr (Instr.alloc 74 true (.tuple #[])) pav (fun k7 w8 =>
  kp b1 w6 w8 <|
  opUn Pr (Instr.storeAt 74 (.pointer (some k7)) (.agg ⟨t5.1.cs⟩)) (fun w9 =>
  kp b1 w8 w9 <|
  opRd Pr (Instr.loadAt 9 (.pointer (some (k7.add 0)))) sval (fun t10 =>
  opTy Pr (Instr.buildSlice 53 1 #[(0, (sval t10))]) Sl.val (fun t11 w12 =>
  kp b1 w9 w12 <|
  opTy Pr (Instr.alloc 53 true (.tuple #[])) pav (fun l13 w14 =>
  kp b1 w12 w14 <|
  opUn Pr (Instr.storeAt 53 (.pointer (some l13)) t11.val) (fun w15 =>
  kp b1 w14 w15 <|
  callV Pr uval 48 #[(.int .i64 1), (.int .i64 e.Node), (.pointer (some k7)), (.pointer (some l13))] w15 fun t16 w17 =>
  kp b1 w15 w17 <|
  callV Pr uval 48 #[(.int .i64 2), (.int .i64 e.N), (.pointer (some k7)), (.pointer (some l13))] w17 fun t18 w19 =>
  kp b1 w17 w19 <|
  callV Pr uval 48 #[(.int .i64 4), (.int .i64 e.M), (.pointer (some k7)), (.pointer (some l13))] w19 fun t20 w21 =>
  kp b1 w19 w21 <|
  join0 (fun (j22 : World → Prop) =>
  opRd Pr (Instr.loadAt 3 (.pointer (some (k7.add 1)))) (Value.int .i64) (fun t23 =>
  ifB ((bAnd .i64 t23 8) != 0)
  (heldM (fun S25 w24 =>
  (opRd Pr (Instr.loadAt 53 (.pointer (some l13))) Sl.val (fun t26 =>
  (S25 w24) ∧
  (callV Pr Sl.val 49 #[(.agg ⟨[(.int .i64 e.Cmd.Kind), (.int .i64 e.Cmd.Client), (.int .i64 e.Cmd.Seq), (sval e.Cmd.Key), (sval e.Cmd.Val), (sval e.Cmd.Old), (.int .i64 e.Cmd.Node)]⟩)] w24 fun t27 w28 =>
  kp b1 w24 w28 <|
  (S25 w28) ∧
  (opTy Pr (Builtin.append_ #[53, 53] 53 #[t26.val, t27.val]) Sl.val (fun t29 w30 =>
  kp b1 w28 w30 <|
  (S25 w30) ∧
  (opUn Pr (Instr.storeAt 53 (.pointer (some l13)) t29.val) (fun w31 =>
  kp b1 w30 w31 <|
  (S25 w31) ∧
  (j22 w31)) w30)) w28))) w24) ∧
  (callV Pr Sl.val 49 #[(.agg ⟨[(.int .i64 e.Cmd.Kind), (.int .i64 e.Cmd.Client), (.int .i64 e.Cmd.Seq), (sval e.Cmd.Key), (sval e.Cmd.Val), (sval e.Cmd.Old), (.int .i64 e.Cmd.Node)]⟩)] w24 fun t32 w33 =>
  kp b1 w24 w33 <|
  (S25 w33) ∧
  (opRd Pr (Instr.loadAt 53 (.pointer (some l13))) Sl.val (fun t34 =>
  (S25 w33) ∧
  (opTy Pr (Builtin.append_ #[53, 53] 53 #[t34.val, t32.val]) Sl.val (fun t35 w36 =>
  kp b1 w33 w36 <|
  (S25 w36) ∧
  (opUn Pr (Instr.storeAt 53 (.pointer (some l13)) t35.val) (fun w37 =>
  kp b1 w36 w37 <|
  (S25 w37) ∧
  (j22 w37)) w36)) w33)) w33))) w21)
  (j22 w21)) w21)
  (fun w38 =>
  opRd Pr (Instr.loadAt 3 (.pointer (some (k7.add 1)))) (Value.int .i64) (fun t39 =>
  ifB ((bAnd .i64 t39 16) != 0)
  (heldM (fun S41 w40 =>
  (opRd Pr (Instr.loadAt 53 (.pointer (some l13))) Sl.val (fun t42 =>
  (S41 w40) ∧
  (callV Pr sval 12 #[(.agg ⟨[(.int .i64 e.Cmd.Kind), (.int .i64 e.Cmd.Client), (.int .i64 e.Cmd.Seq), (sval e.Cmd.Key), (sval e.Cmd.Val), (sval e.Cmd.Old), (.int .i64 e.Cmd.Node)]⟩)] w40 fun t43 w44 =>
  kp b1 w40 w44 <|
  (S41 w44) ∧
  (opTy Pr (Instr.buildSlice 53 1 #[(0, (sval t43))]) Sl.val (fun t45 w46 =>
  kp b1 w44 w46 <|
  (S41 w46) ∧
  (opTy Pr (Builtin.append_ #[53, 53] 53 #[t42.val, t45.val]) Sl.val (fun t47 w48 =>
  kp b1 w46 w48 <|
  (S41 w48) ∧
  (opUn Pr (Instr.storeAt 53 (.pointer (some l13)) t47.val) (fun w49 =>
  kp b1 w48 w49 <|
  (S41 w49) ∧
  (opRd Pr (Instr.loadAt 53 (.pointer (some l13))) Sl.val (fun t50 =>
  callV Pr sval 38 #[t50.val] w49 fun t51 w52 =>
  kp b1 w49 w52 <|
  K t51 w52) w49)) w48)) w46)) w44))) w40) ∧
  (callV Pr sval 12 #[(.agg ⟨[(.int .i64 e.Cmd.Kind), (.int .i64 e.Cmd.Client), (.int .i64 e.Cmd.Seq), (sval e.Cmd.Key), (sval e.Cmd.Val), (sval e.Cmd.Old), (.int .i64 e.Cmd.Node)]⟩)] w40 fun t53 w54 =>
  kp b1 w40 w54 <|
  (S41 w54) ∧
  ((opRd Pr (Instr.loadAt 53 (.pointer (some l13))) Sl.val (fun t55 =>
  (S41 w54) ∧
  (opTy Pr (Instr.buildSlice 53 1 #[(0, (sval t53))]) Sl.val (fun t56 w57 =>
  kp b1 w54 w57 <|
  (S41 w57) ∧
  (opTy Pr (Builtin.append_ #[53, 53] 53 #[t55.val, t56.val]) Sl.val (fun t58 w59 =>
  kp b1 w57 w59 <|
  (S41 w59) ∧
  (opUn Pr (Instr.storeAt 53 (.pointer (some l13)) t58.val) (fun w60 =>
  kp b1 w59 w60 <|
  (S41 w60) ∧
  (opRd Pr (Instr.loadAt 53 (.pointer (some l13))) Sl.val (fun t61 =>
  callV Pr sval 38 #[t61.val] w60 fun t62 w63 =>
  kp b1 w60 w63 <|
  K t62 w63) w60)) w59)) w57)) w54)) w54) ∧
  (opTy Pr (Instr.buildSlice 53 1 #[(0, (sval t53))]) Sl.val (fun t64 w65 =>
  kp b1 w54 w65 <|
  (S41 w65) ∧
  (opRd Pr (Instr.loadAt 53 (.pointer (some l13))) Sl.val (fun t66 =>
  (S41 w65) ∧
  (opTy Pr (Builtin.append_ #[53, 53] 53 #[t66.val, t64.val]) Sl.val (fun t67 w68 =>
  kp b1 w65 w68 <|
  (S41 w68) ∧
  (opUn Pr (Instr.storeAt 53 (.pointer (some l13)) t67.val) (fun w69 =>
  kp b1 w68 w69 <|
  (S41 w69) ∧
  (opRd Pr (Instr.loadAt 53 (.pointer (some l13))) Sl.val (fun t70 =>
  callV Pr sval 38 #[t70.val] w69 fun t71 w72 =>
  kp b1 w69 w72 <|
  K t71 w72) w69)) w68)) w65)) w65)) w54)))) w38)
  (opRd Pr (Instr.loadAt 53 (.pointer (some l13))) Sl.val (fun t73 =>
  callV Pr sval 38 #[t73.val] w38 fun t74 w75 =>
  kp b1 w38 w75 <|
  K t74 w75) w38)) w38)) w14) w12) w9) w9) w8) w6)) w
def script_Print_ann : Ann := (.s (.r [(0, .nl 1)]) (.s (.s (.r [(1, .call (rI .i64))]) (.c (.s .d .d) .d)) (.s (.r [(2, .call (rT2 rScriptKind rB)), (6, .ty rPA), (7, .un)]) (.s (.r [(1, .rd rS), (2, .ty rSl), (3, .ty rPA), (4, .un)]) (.s .d (.s (.r [(3, .call rU)]) (.s (.r [(3, .call rU)]) (.s (.r [(3, .call rU)]) (.sj [] (.s (.r [(1, .rd (rI .i64))]) (.c (.h (.take 1 (.take 2 (.two 0 (.one 3 (.one 4 (.one 5 .done))) 3 (.one 0 (.one 4 (.one 5 .done)))))) [(0, .rd rSl), (3, .call rSl), (4, .ty rSl), (5, .un)]) .d)) (.s (.s (.r [(1, .rd (rI .i64))]) (.c (.h (.take 1 (.take 2 (.two 0 (.one 3 (.one 4 (.one 5 (.one 6 .done)))) 3 (.two 0 (.one 4 (.one 5 (.one 6 .done))) 4 (.one 0 (.one 5 (.one 6 .done))))))) [(0, .rd rSl), (3, .call rS), (4, .ty rSl), (5, .ty rSl), (6, .un)]) .d)) (.s (.r [(0, .rd rSl), (1, .call rS)]) .d)))))))))))
theorem script_Print_calls {e : ApiEvent} {K : (List UInt8) → World → Prop} {w : World} (h : script_Print e K w) : callV Pr sval 19 #[(.agg ⟨e.cs⟩)] w K :=
  calls_of Pr_plain Pr_mixed Pr_func19 script_Print_ann rS (args := [(.agg ⟨e.cs⟩)]) (by kernel_rfl) h

/- changeover/script.Read -/
def script_Read (s : List UInt8) (K : (Sl × Int × Int) → World → Prop) (w : World) : Prop :=
  newV (fun b1 w2 =>
  newV (fun b3 w4 =>
  newV (fun b5 w6 =>
  newV (fun b7 w8 =>
  newV (fun b9 w10 =>
  wrM b9 (fun w11 =>
  callV Pr vval 50 #[(sval s)] w11 fun t12 w13 =>
  kp b9 w11 w13 <|
  kp b7 w11 w13 <|
  kp b5 w11 w13 <|
  kp b3 w11 w13 <|
  kp b1 w11 w13 <|
  rngM5_3 Pr sval t12 (fun W14 W15 =>
  kp b9 W14 W15 <|
  kp b7 W14 W15 <|
  kp b5 W14 W15 <|
  kp b3 W14 W15 <|
  kp b1 W14 W15 <|
  True) (fun L16 D17 x18 t19 t20 t21 out22 n23 w24 KN25 KX26 =>
  kp L16 w24 w24 <|
  wrM L16 (fun w27 =>
  wrM b9 (fun w28 =>
  callV Pr (tval2 sval Value.bool) 51 #[(sval x18), (sval [10])] w28 fun t29 w30 =>
  kp b9 w28 w30 <|
  kp b7 w28 w30 <|
  kp b5 w28 w30 <|
  kp b3 w28 w30 <|
  kp b1 w28 w30 <|
  join0 (fun (j31 : World → Prop) =>
  ifB t29.2
  (ifB (strEq t29.1 [])
  (kp L16 w27 w30 <|
  kp D17 w24 w30 <|
  wrM L16 (fun w32 =>
  KN25 t19 t20 t21 out22 (i64 (n23 + 1)) w32) w30)
  (opRd Pr (Instr.index 9 (sval t29.1) (.int .i64 0)) (Value.int .u8) (fun t33 =>
  ifB (t33 == 35)
  (kp L16 w27 w30 <|
  kp D17 w24 w30 <|
  wrM L16 (fun w34 =>
  KN25 t19 t20 t21 out22 (i64 (n23 + 1)) w34) w30)
  (j31 w30)) w30))
  (j31 w30))
  (fun w35 =>
  callV Pr (tval2 ApiEvent.val (Value.int .i64)) 17 #[(sval t29.1)] w35 fun t36 w37 =>
  kp b9 w35 w37 <|
  kp b7 w35 w37 <|
  kp b5 w35 w37 <|
  kp b3 w35 w37 <|
  kp b1 w35 w37 <|
  newV (fun b38 w39 =>
  wrM b38 (fun w40 =>
  ifB (t36.2 != 0)
  (heldM (fun S42 w41 =>
  wrM b1 (fun w43 =>
  (S42 w43) ∧
  (wrM b3 (fun w44 =>
  (S42 w44) ∧
  (wrM b5 (fun w45 =>
  (S42 w45) ∧
  (kp L16 w27 w45 <|
  kp D17 w24 w45 <|
  wrM L16 (fun w46 =>
  KX26 Sl.nil (i64 (n23 + 1)) 3 w46) w45)) w44)) w43)) w41) w40)
  (ifB (!t29.2)
  (heldM (fun S48 w47 =>
  wrM b1 (fun w49 =>
  (S48 w49) ∧
  (wrM b3 (fun w50 =>
  (S48 w50) ∧
  (wrM b5 (fun w51 =>
  (S48 w51) ∧
  (kp L16 w27 w51 <|
  kp D17 w24 w51 <|
  wrM L16 (fun w52 =>
  KX26 Sl.nil (i64 (n23 + 1)) 3 w52) w51)) w50)) w49)) w47) w40)
  (opTy Pr (Instr.buildSlice 35 1 #[(0, (.agg ⟨[(.int .i64 t36.1.Kind), (.int .i64 t36.1.Node), (.int .i64 t36.1.N), (.int .i64 t36.1.M), (.int .i64 t36.1.Cmd.Kind), (.int .i64 t36.1.Cmd.Client), (.int .i64 t36.1.Cmd.Seq), (sval t36.1.Cmd.Key), (sval t36.1.Cmd.Val), (sval t36.1.Cmd.Old), (.int .i64 t36.1.Cmd.Node)]⟩))]) Sl.val (fun t53 w54 =>
  kp b38 w40 w54 <|
  kp b9 w40 w54 <|
  kp b7 w40 w54 <|
  kp b5 w40 w54 <|
  kp b3 w40 w54 <|
  kp b1 w40 w54 <|
  opTy Pr (Builtin.append_ #[35, 35] 35 #[out22.val, t53.val]) Sl.val (fun t55 w56 =>
  kp b38 w54 w56 <|
  kp b9 w54 w56 <|
  kp b7 w54 w56 <|
  kp b5 w54 w56 <|
  kp b3 w54 w56 <|
  kp b1 w54 w56 <|
  wrM b7 (fun w57 =>
  kp L16 w27 w57 <|
  kp D17 w24 w57 <|
  wrM L16 (fun w58 =>
  KN25 t19 t20 t21 t55 (i64 (n23 + 1)) w58) w57) w56) w54) w40))) w39) w37)) w27) w24) (Sl.nil : Sl) (0 : Int) (0 : Int) (Sl.nil : Sl) (0 : Int) (fun D64 t59 t60 t61 out62 n63 w65 =>
  wrM b1 (fun w66 =>
  wrM b3 (fun w67 =>
  wrM b5 (fun w68 =>
  (shutAt D64 w68) ∧
  (wrM D64 (fun w69 =>
  K (out62, 0, 0) w69) w68)) w67) w66) w65) (fun D73 t70 t71 t72 w74 =>
  (shutAt D73 w74) ∧
  (wrM D73 (fun w75 =>
  K (t70, t71, t72) w75) w74)) w13) w10) w8) w6) w4) w2) w
def script_Read_ann : Ann := (.s (.r [(0, .nl 2), (1, .nl 3), (2, .nl 4)]) (.s (.r [(0, .nl 5)]) (.s (.r [(0, .nl 6), (1, .ls 6)]) (.s (.s (.r [(1, .call rV)]) (.b (.l [(.s 14, rS), (.h 2, rSl), (.h 3, (rI .i64)), (.h 4, (rI .i64)), (.h 5, rSl), (.h 6, (rI .i64))] (.sj [(.h 2, rSl), (.h 3, (rI .i64)), (.h 4, (rI .i64))] .d (.b (.s (.r [(2, .ls 6)]) (.s (.r [(1, .call (rT2 rS rB))]) (.sj [] (.s (.r [(6, .rd (rI .u8))]) (.c .d .d)) (.s (.r [(1, .call (rT2 rApiEvent (rI .i64))), (5, .nl 10), (6, .ls 10)]) (.s (.s .d (.c (.s (.h (.take 0 (.one 1 (.one 2 (.one 3 .done)))) [(1, .ls 2), (2, .ls 3), (3, .ls 4)]) .d) .d)) (.r [(2, .ty rSl), (3, .ty rSl), (4, .ls 5)]))))))))))) (.s (.r [(1, .ls 2), (2, .ls 3), (3, .ls 4)]) .d)))))
theorem script_Read_calls {s : List UInt8} {K : (Sl × Int × Int) → World → Prop} {w : World} (h : script_Read s K w) : callV Pr (tval3 Sl.val (Value.int .i64) (Value.int .i64)) 20 #[(sval s)] w K :=
  calls_ofT Pr_plain Pr_mixed Pr_func20 script_Read_ann (rT3 rSl (rI .i64) (rI .i64)) (args := [(sval s)]) (by kernel_rfl) h

/- changeover/changeoverref42.Same -/
def ref42_Same (a : Sl) (b : Sl) (K : Bool → World → Prop) (w : World) : Prop :=
  ifB ((a.len : Int) != (b.len : Int))
  (K false w)
  (loop1 (0 : Int) (fun i1 k2 w3 =>
  ifB (decide (i1 < (a.len : Int)))
  (drewM (fun w4 =>
  opRd Pr (Instr.indexAt 35 a.val (.int .i64 i1)) pav (fun t5 =>
  opRd Pr (Instr.loadAt 33 (.pointer (some t5))) ApiEvent.val (fun t6 =>
  opRd Pr (Instr.indexAt 35 b.val (.int .i64 i1)) pav (fun t7 =>
  opRd Pr (Instr.loadAt 33 (.pointer (some t7))) ApiEvent.val (fun t8 =>
  opRd Pr (binSem .neq 33 (.tmp 20) (.tmp 24) (.agg ⟨t6.cs⟩) (.agg ⟨t8.cs⟩)) Value.bool (fun t9 =>
  ifB t9
  (K false w4)
  (k2 (i64 (i1 + 1)) w4)) w4) w4) w4) w4) w4) w3)
  (K true w3)) w)
def ref42_Same_ann : Ann := (.s .d (.s (.s .d (.c (.s .d .d) .d)) (.s (.s .d (.b (.l [(.s 5, (rI .i64))] (.s (.s .d (.c .d .d)) (.s (.b (.s (.r [(2, .rd rPA), (3, .rd rApiEvent), (6, .rd rPA), (7, .rd rApiEvent), (8, .rd rB)]) (.c (.s .d .d) .d))) .d))))) (.s .d .d))))
theorem ref42_Same_calls {a : Sl} {b : Sl} {K : Bool → World → Prop} {w : World} (h : ref42_Same a b K w) : callV Pr Value.bool 21 #[a.val, b.val] w K :=
  calls_of Pr_plain Pr_mixed Pr_func21 ref42_Same_ann rB (args := [a.val, b.val]) (by kernel_rfl) h

/- changeover/script.Text -/
def script_Text (l : Sl) (K : ((List UInt8) × Int) → World → Prop) (w : World) : Prop :=
  opTy Pr (Instr.alloc 95 true (.tuple #[])) pav (fun w1 w2 =>
  loop1 (0 : Int) (fun t3 k4 w5 =>
  ifB (decide (t3 < (l.len : Int)))
  (opRd Pr (Instr.indexAt 35 l.val (.int .i64 t3)) pav (fun t6 =>
  opRd Pr (Instr.loadAt 33 (.pointer (some t6))) ApiEvent.val (fun t7 =>
  newV (fun b8 w9 =>
  wrM b8 (fun w10 =>
  callV Pr sval 19 #[(.agg ⟨[(.int .i64 t7.Kind), (.int .i64 t7.Node), (.int .i64 t7.N), (.int .i64 t7.M), (.int .i64 t7.Cmd.Kind), (.int .i64 t7.Cmd.Client), (.int .i64 t7.Cmd.Seq), (sval t7.Cmd.Key), (sval t7.Cmd.Val), (sval t7.Cmd.Old), (.int .i64 t7.Cmd.Node)]⟩)] w10 fun s11 w12 =>
  kp b8 w10 w12 <|
  ifB (strEq s11 [])
  (K ([], 3) w12)
  (opRd Pr (binSem .add 9 (.tmp 18) (.const (sval [10])) (sval s11) (sval [10])) sval (fun t13 =>
  callV Pr (tval2 (Value.int .i64) vval) 52 #[(.pointer (some w1)), (sval t13)] w12 fun t14 w15 =>
  kp b8 w12 w15 <|
  k4 (i64 (t3 + 1)) w15) w12)) w9) w5) w5) w5)
  (callV Pr sval 53 #[(.pointer (some w1))] w5 fun t16 w17 =>
  K (t16, 0) w17)) w2) w
def script_Text_ann : Ann := (.s .d (.s (.r [(0, .ty rPA)]) (.s (.s .d (.b (.l [(.s 10, (rI .i64))] (.s .d (.s (.c .d .d) (.s (.b (.s (.r [(0, .rd rPA), (1, .rd rApiEvent), (2, .nl 6), (3, .ls 6)]) (.s (.r [(1, .call rS)]) (.s (.s .d (.c (.s .d .d) .d)) (.r [(1, .rd rS), (2, .call (rT2 (rI .i64) rV))]))))) .d)))))) (.s (.r [(0, .call rS)]) .d))))
theorem script_Text_calls {l : Sl} {K : ((List UInt8) × Int) → World → Prop} {w : World} (h : script_Text l K w) : callV Pr (tval2 sval (Value.int .i64)) 22 #[l.val] w K :=
  calls_of Pr_plain Pr_mixed Pr_func22 script_Text_ann (rT2 rS (rI .i64)) (args := [l.val]) (by kernel_rfl) h

/- changeover/changeoverref08.Owned -/
def ref08_Owned (kind : Int) (K : Bool → World → Prop) (w : World) : Prop :=
  ifB (decide (kind ≥ 2))
  (K (decide (kind ≤ 5)) w)
  (K false w)
def ref08_Owned_ann : Ann := (.s .d (.s .d .d))
theorem ref08_Owned_calls {kind : Int} {K : Bool → World → Prop} {w : World} (h : ref08_Owned kind K w) : callV Pr Value.bool 24 #[(.int .i64 kind)] w K :=
  calls_of Pr_plain Pr_mixed Pr_func24 ref08_Owned_ann rB (args := [(.int .i64 kind)]) (by kernel_rfl) h

/- changeover/changeoverref08.member -/
def ref08_member (kind : Int) (K : Bool → World → Prop) (w : World) : Prop :=
  ifB (kind == 7)
  (K true w)
  (K (kind == 8) w)
def ref08_member_ann : Ann := (.s .d (.s .d .d))
theorem ref08_member_calls {kind : Int} {K : Bool → World → Prop} {w : World} (h : ref08_member kind K w) : callV Pr Value.bool 25 #[(.int .i64 kind)] w K :=
  calls_of Pr_plain Pr_mixed Pr_func25 ref08_member_ann rB (args := [(.int .i64 kind)]) (by kernel_rfl) h

/- changeover/changeoverref05.Key -/
def ref05_Key (s : List UInt8) (K : Bool → World → Prop) (w : World) : Prop :=
  ifB (decide (((s : List UInt8).length : Int) < 1))
  (K false w)
  (ifB (decide (((s : List UInt8).length : Int) > 24))
  (K false w)
  (loop1 (0 : Int) (fun i1 k2 w3 =>
  ifB (decide (i1 < ((s : List UInt8).length : Int)))
  (callV Pr (tval2 (Value.int .i64) (Value.int .i64)) 58 #[(sval s), (.int .i64 i1)] w3 fun t4 w5 =>
  ifB (t4.1 == 0)
  (K false w5)
  (callV Pr Value.bool 59 #[(.int .i64 t4.2)] w5 fun t6 w7 =>
  ifB (!t6)
  (K false w7)
  (k2 (i64 (i1 + t4.1)) w7)))
  (K true w3)) w))
def ref05_Key_ann : Ann := (.s .d (.s (.s .d (.c (.s .d .d) .d)) (.s .d (.s (.b (.l [(.s 3, (rI .i64))] (.s (.s .d (.c .d .d)) (.b (.s (.r [(2, .call (rT2 (rI .i64) (rI .i64)))]) (.s (.s (.r [(4, .call rB)]) (.c (.s .d .d) .d)) .d)))))) (.s .d .d)))))
theorem ref05_Key_calls {s : List UInt8} {K : Bool → World → Prop} {w : World} (h : ref05_Key s K w) : callV Pr Value.bool 26 #[(sval s)] w K :=
  calls_of Pr_plain Pr_mixed Pr_func26 ref05_Key_ann rB (args := [(sval s)]) (by kernel_rfl) h

/- changeover/changeoverref05.Val -/
def ref05_Val (s : List UInt8) (K : Bool → World → Prop) (w : World) : Prop :=
  ifB (decide (((s : List UInt8).length : Int) > 48))
  (K false w)
  (callV Pr (Value.int .i64) 60 #[(sval s)] w fun t1 w2 =>
  ifB (decide (t1 ≥ 0))
  (K false w2)
  (loop1 (0 : Int) (fun i3 k4 w5 =>
  ifB (decide (i3 < ((s : List UInt8).length : Int)))
  (opRd Pr (Instr.index 9 (sval s) (.int .i64 i3)) (Value.int .u8) (fun t6 =>
  ifB (decide (t6 < 32))
  (K false w5)
  (opRd Pr (Instr.index 9 (sval s) (.int .i64 i3)) (Value.int .u8) (fun t7 =>
  ifB (t7 == 127)
  (K false w5)
  (k4 (i64 (i3 + 1)) w5)) w5)) w5)
  (K true w5)) w2))
def ref05_Val_ann : Ann := (.s .d (.s (.s (.r [(5, .call (rI .i64))]) (.c (.s .d .d) .d)) (.s (.s .d (.b (.l [(.s 3, (rI .i64))] (.s (.s .d (.c .d .d)) (.s (.b (.s (.r [(2, .rd (rI .u8)), (7, .rd (rI .u8))]) (.c (.s .d .d) .d))) .d))))) (.s .d .d))))
theorem ref05_Val_calls {s : List UInt8} {K : Bool → World → Prop} {w : World} (h : ref05_Val s K w) : callV Pr Value.bool 27 #[(sval s)] w K :=
  calls_of Pr_plain Pr_mixed Pr_func27 ref05_Val_ann rB (args := [(sval s)]) (by kernel_rfl) h

/- changeover/changeoverref08.Digits -/
def ref08_Digits (n : Int) (K : (List UInt8) → World → Prop) (w : World) : Prop :=
  loop2 (n : Int) ([] : List UInt8) (fun n1 s2 k3 w4 =>
  opRd Pr (Instr.sliceAt 9 (sval [48, 49, 50, 51, 52, 53, 54, 55, 56, 57]) (some (.int .i64 (Int.tmod n1 10))) (some (.int .i64 (i64 ((Int.tmod n1 10) + 1)))) none) sval (fun t5 =>
  opRd Pr (binSem .add 9 (.tmp 9) (.tmp 10) (sval t5) (sval s2)) sval (fun s6 =>
  ifB (decide ((IntKind.i64.wrap (Int.tdiv n1 10)) ≤ 0))
  (K s6 w4)
  (k3 (IntKind.i64.wrap (Int.tdiv n1 10)) s6 w4)) w4) w4) w
def ref08_Digits_ann : Ann := (.s .d (.s .d (.b (.l [(.s 0, (rI .i64)), (.s 3, rS)] (.b (.s (.r [(5, .rd rS), (7, .rd rS)]) (.s .d (.s .d (.c (.s .d .d) .d)))))))))
theorem ref08_Digits_calls {n : Int} {K : (List UInt8) → World → Prop} {w : World} (h : ref08_Digits n K w) : callV Pr sval 28 #[(.int .i64 n)] w K :=
  calls_of Pr_plain Pr_mixed Pr_func28 ref08_Digits_ann rS (args := [(.int .i64 n)]) (by kernel_rfl) h

/- changeover/changeoverref06.Quote -/
def ref06_Quote (s : List UInt8) (K : (List UInt8) → World → Prop) (w : World) : Prop :=
  loop2 ([34] : List UInt8) (0 : Int) (fun out1 i2 k3 w4 =>
  ifB (decide (i2 < ((s : List UInt8).length : Int)))
  (callV Pr (tval2 (Value.int .i64) (Value.int .i64)) 58 #[(sval s), (.int .i64 i2)] w4 fun t5 w6 =>
  ifB (t5.1 == 0)
  (drewM (fun w7 =>
  opRd Pr (binSem .add 9 (.tmp 37) (.const (sval [92, 120])) (sval out1) (sval [92, 120])) sval (fun t8 =>
  opRd Pr (Instr.index 9 (sval s) (.int .i64 i2)) (Value.int .u8) (fun t9 =>
  opRd Pr (Instr.index 9 (sval s) (.int .i64 i2)) (Value.int .u8) (fun t10 =>
  opRd Pr (Instr.sliceAt 9 (sval cs16_37011) (some (.int .u8 (IntKind.u8.wrap (Int.tdiv t9 16)))) (some (.int .u8 (IntKind.u8.wrap ((IntKind.u8.wrap (Int.tdiv t10 16)) + 1)))) none) sval (fun t11 =>
  opRd Pr (binSem .add 9 (.tmp 38) (.tmp 49) (sval t8) (sval t11)) sval (fun t12 =>
  opRd Pr (Instr.index 9 (sval s) (.int .i64 i2)) (Value.int .u8) (fun t13 =>
  opRd Pr (Instr.index 9 (sval s) (.int .i64 i2)) (Value.int .u8) (fun t14 =>
  opRd Pr (Instr.sliceAt 9 (sval cs16_37011) (some (.int .u8 (Int.tmod t13 16))) (some (.int .u8 (IntKind.u8.wrap ((Int.tmod t14 16) + 1)))) none) sval (fun t15 =>
  opRd Pr (binSem .add 9 (.tmp 50) (.tmp 61) (sval t12) (sval t15)) sval (fun out16 =>
  k3 out16 (i64 (i2 + 1)) w7) w7) w7) w7) w7) w7) w7) w7) w7) w7) w6)
  (ifB (decide (t5.2 < 32))
  (drewM (fun w17 =>
  opRd Pr (binSem .add 9 (.tmp 37) (.const (sval [92, 120])) (sval out1) (sval [92, 120])) sval (fun t18 =>
  opRd Pr (Instr.index 9 (sval s) (.int .i64 i2)) (Value.int .u8) (fun t19 =>
  opRd Pr (Instr.index 9 (sval s) (.int .i64 i2)) (Value.int .u8) (fun t20 =>
  opRd Pr (Instr.sliceAt 9 (sval cs16_37011) (some (.int .u8 (IntKind.u8.wrap (Int.tdiv t19 16)))) (some (.int .u8 (IntKind.u8.wrap ((IntKind.u8.wrap (Int.tdiv t20 16)) + 1)))) none) sval (fun t21 =>
  opRd Pr (binSem .add 9 (.tmp 38) (.tmp 49) (sval t18) (sval t21)) sval (fun t22 =>
  opRd Pr (Instr.index 9 (sval s) (.int .i64 i2)) (Value.int .u8) (fun t23 =>
  opRd Pr (Instr.index 9 (sval s) (.int .i64 i2)) (Value.int .u8) (fun t24 =>
  opRd Pr (Instr.sliceAt 9 (sval cs16_37011) (some (.int .u8 (Int.tmod t23 16))) (some (.int .u8 (IntKind.u8.wrap ((Int.tmod t24 16) + 1)))) none) sval (fun t25 =>
  opRd Pr (binSem .add 9 (.tmp 50) (.tmp 61) (sval t22) (sval t25)) sval (fun out26 =>
  k3 out26 (i64 (i2 + 1)) w17) w17) w17) w17) w17) w17) w17) w17) w17) w17) w6)
  (ifB (t5.2 == 127)
  (drewM (fun w27 =>
  opRd Pr (binSem .add 9 (.tmp 37) (.const (sval [92, 120])) (sval out1) (sval [92, 120])) sval (fun t28 =>
  opRd Pr (Instr.index 9 (sval s) (.int .i64 i2)) (Value.int .u8) (fun t29 =>
  opRd Pr (Instr.index 9 (sval s) (.int .i64 i2)) (Value.int .u8) (fun t30 =>
  opRd Pr (Instr.sliceAt 9 (sval cs16_37011) (some (.int .u8 (IntKind.u8.wrap (Int.tdiv t29 16)))) (some (.int .u8 (IntKind.u8.wrap ((IntKind.u8.wrap (Int.tdiv t30 16)) + 1)))) none) sval (fun t31 =>
  opRd Pr (binSem .add 9 (.tmp 38) (.tmp 49) (sval t28) (sval t31)) sval (fun t32 =>
  opRd Pr (Instr.index 9 (sval s) (.int .i64 i2)) (Value.int .u8) (fun t33 =>
  opRd Pr (Instr.index 9 (sval s) (.int .i64 i2)) (Value.int .u8) (fun t34 =>
  opRd Pr (Instr.sliceAt 9 (sval cs16_37011) (some (.int .u8 (Int.tmod t33 16))) (some (.int .u8 (IntKind.u8.wrap ((Int.tmod t34 16) + 1)))) none) sval (fun t35 =>
  opRd Pr (binSem .add 9 (.tmp 50) (.tmp 61) (sval t32) (sval t35)) sval (fun out36 =>
  k3 out36 (i64 (i2 + 1)) w27) w27) w27) w27) w27) w27) w27) w27) w27) w27) w6)
  (ifB (t5.2 == 34)
  (opRd Pr (binSem .add 9 (.tmp 70) (.const (sval [92])) (sval out1) (sval [92])) sval (fun t37 =>
  opRd Pr (Instr.sliceAt 9 (sval s) (some (.int .i64 i2)) (some (.int .i64 (i64 (i2 + 1)))) none) sval (fun t38 =>
  opRd Pr (binSem .add 9 (.tmp 71) (.tmp 76) (sval t37) (sval t38)) sval (fun out39 =>
  k3 out39 (i64 (i2 + t5.1)) w6) w6) w6) w6)
  (ifB (t5.2 == 92)
  (opRd Pr (binSem .add 9 (.tmp 70) (.const (sval [92])) (sval out1) (sval [92])) sval (fun t40 =>
  opRd Pr (Instr.sliceAt 9 (sval s) (some (.int .i64 i2)) (some (.int .i64 (i64 (i2 + 1)))) none) sval (fun t41 =>
  opRd Pr (binSem .add 9 (.tmp 71) (.tmp 76) (sval t40) (sval t41)) sval (fun out42 =>
  k3 out42 (i64 (i2 + t5.1)) w6) w6) w6) w6)
  (opRd Pr (Instr.sliceAt 9 (sval s) (some (.int .i64 i2)) (some (.int .i64 (i64 (i2 + t5.1)))) none) sval (fun t43 =>
  opRd Pr (binSem .add 9 (.tmp 18) (.tmp 24) (sval out1) (sval t43)) sval (fun out44 =>
  k3 out44 (i64 (i2 + t5.1)) w6) w6) w6))))))
  (opRd Pr (binSem .add 9 (.tmp 81) (.const (sval [34])) (sval out1) (sval [34])) sval (fun t45 =>
  K t45 w4) w4)) w
def ref06_Quote_ann : Ann := (.s .d (.s .d (.s .d (.s (.b (.l [(.s 3, rS), (.s 4, (rI .i64))] (.s (.s .d (.c .d .d)) (.b (.s (.r [(2, .call (rT2 (rI .i64) (rI .i64)))]) (.s (.b (.s .d (.c (.s .d (.s (.r [(1, .rd rS), (5, .rd (rI .u8)), (9, .rd (rI .u8)), (12, .rd rS), (13, .rd rS), (17, .rd (rI .u8)), (21, .rd (rI .u8)), (24, .rd rS), (25, .rd rS)]) .d)) (.s .d (.c (.r [(1, .rd rS), (6, .rd rS), (7, .rd rS)]) (.r [(6, .rd rS), (7, .rd rS)])))))) .d)))))) (.s (.r [(1, .rd rS)]) .d)))))
theorem ref06_Quote_calls {s : List UInt8} {K : (List UInt8) → World → Prop} {w : World} (h : ref06_Quote s K w) : callV Pr sval 29 #[(sval s)] w K :=
  calls_of Pr_plain Pr_mixed Pr_func29 ref06_Quote_ann rS (args := [(sval s)]) (by kernel_rfl) h

/- changeover/quote.Words -/
def quote_Words (line : List UInt8) (K : (Sl × Int) → World → Prop) (w : World) : Prop :=
  ifB (strEq line [])
  (K (Sl.nil, 0) w)
  (loop2 (line : List UInt8) (Sl.nil : Sl) (fun line1 out2 k3 w4 =>
  callV Pr (tval2 sval Value.bool) 61 #[(sval line1)] w4 fun t5 w6 =>
  ifB (!t5.2)
  (K (Sl.nil, 3) w6)
  (opTy Pr (Instr.buildSlice 53 1 #[(0, (sval t5.1))]) Sl.val (fun t7 w8 =>
  opTy Pr (Builtin.append_ #[53, 53] 53 #[out2.val, t7.val]) Sl.val (fun out9 w10 =>
  opRd Pr (Instr.sliceAt 9 (sval line1) (some (.int .i64 ((t5.1 : List UInt8).length : Int))) none none) sval (fun line11 =>
  ifB (strEq line11 [])
  (K (out9, 0) w10)
  (opRd Pr (Instr.index 9 (sval line11) (.int .i64 0)) (Value.int .u8) (fun t12 =>
  ifB (t12 != 32)
  (K (Sl.nil, 3) w10)
  (opRd Pr (Instr.sliceAt 9 (sval line11) (some (.int .i64 1)) none none) sval (fun line13 =>
  k3 line13 out9 w10) w10)) w10)) w10) w8) w6)) w)
def quote_Words_ann : Ann := (.s .d (.s (.s .d (.c (.s .d .d) .d)) (.s .d (.b (.l [(.s 0, rS), (.s 4, rSl)] (.b (.s (.r [(1, .call (rT2 rS rB))]) (.s (.s .d (.c (.s .d .d) .d)) (.s (.r [(2, .ty rSl), (3, .ty rSl)]) (.s (.r [(3, .rd rS)]) (.s (.s .d (.c (.s .d .d) .d)) (.s (.s (.r [(1, .rd (rI .u8))]) (.c (.s .d .d) .d)) (.r [(1, .rd rS)])))))))))))))
theorem quote_Words_calls {line : List UInt8} {K : (Sl × Int) → World → Prop} {w : World} (h : quote_Words line K w) : callV Pr (tval2 Sl.val (Value.int .i64)) 30 #[(sval line)] w K :=
  calls_of Pr_plain Pr_mixed Pr_func30 quote_Words_ann (rT2 rSl (rI .i64)) (args := [(sval line)]) (by kernel_rfl) h

/- changeover/cmd.name -/
def cmd_name (kind : Int) (K : (List UInt8) → World → Prop) (w : World) : Prop :=
  opRd Pr (Instr.index 111 (.agg ⟨[(sval []), (sval [110, 111, 112]), (sval [112, 117, 116]), (sval [103, 101, 116]), (sval [100, 101, 108]), (sval [99, 97, 115]), (sval [97, 99, 116, 105, 118, 97, 116, 101]), (sval [97, 100, 100]), (sval [100, 114, 111, 112])]⟩) (.int .i64 kind)) sval (fun t1 =>
  K t1 w) w
def cmd_name_ann : Ann := (.s .d (.s (.r [(2, .rd rS)]) .d))
theorem cmd_name_calls {kind : Int} {K : (List UInt8) → World → Prop} {w : World} (h : cmd_name kind K w) : callV Pr sval 31 #[(.int .i64 kind)] w K :=
  calls_of Pr_plain Pr_mixed Pr_func31 cmd_name_ann rS (args := [(.int .i64 kind)]) (by kernel_rfl) h

/- changeover/cmd.parts -/
def cmd_parts (K : Sl → World → Prop) (w : World) : Prop :=
  opTy Pr (Instr.buildSlice 58 6 #[(0, (.agg ⟨[(.int .i64 1), (.int .i64 8), .nilFunc, (.func (.func 62) #[] #[])]⟩)), (1, (.agg ⟨[(.int .i64 1), (.int .i64 4294967296), .nilFunc, (.func (.func 63) #[] #[])]⟩)), (2, (.agg ⟨[(.int .i64 2), (.int .i64 0), (.func (.func 64) #[] #[]), (.func (.func 65) #[] #[])]⟩)), (3, (.agg ⟨[(.int .i64 4), (.int .i64 0), (.func (.func 66) #[] #[]), (.func (.func 67) #[] #[])]⟩)), (4, (.agg ⟨[(.int .i64 8), (.int .i64 0), (.func (.func 66) #[] #[]), (.func (.func 68) #[] #[])]⟩)), (5, (.agg ⟨[(.int .i64 16), (.int .i64 9), .nilFunc, (.func (.func 69) #[] #[])]⟩))]) Sl.val (fun t1 w2 =>
  K t1 w2) w
def cmd_parts_ann : Ann := (.s .d (.s (.r [(6, .ty rSl)]) .d))
theorem cmd_parts_calls {K : Sl → World → Prop} {w : World} (h : cmd_parts K w) : callV Pr Sl.val 32 #[] w K :=
  calls_of Pr_plain Pr_mixed Pr_func32 cmd_parts_ann rSl (args := []) (by kernel_rfl) h

/- (changeover/cmd.part).wanted -/
def cmd_part_wanted (p : CmdPart) (v : Int) (kind : Int) (K : Bool → World → Prop) (w : World) : Prop :=
  newV (fun b1 w2 =>
  callV Pr (tval2 (Value.int .i64) Value.bool) 70 #[(.int .i64 kind)] w2 fun t3 w4 =>
  kp b1 w2 w4 <|
  ifB (v == 1)
  (K (p.has_ != 4) w4)
  (K ((bAnd .i64 t3.1 p.has_) != 0) w4)) w
def cmd_part_wanted_ann : Ann := (.s (.r [(0, .nl 3)]) (.s (.r [(1, .call (rT2 (rI .i64) rB))]) (.s (.s .d (.c (.s .d .d) .d)) (.s .d .d))))
theorem cmd_part_wanted_calls {p : CmdPart} {v : Int} {kind : Int} {K : Bool → World → Prop} {w : World} (h : cmd_part_wanted p v kind K w) : callV Pr Value.bool 33 #[(.agg ⟨p.cs⟩), (.int .i64 v), (.int .i64 kind)] w K :=
  calls_of Pr_plain Pr_mixed Pr_func33 cmd_part_wanted_ann rB (args := [(.agg ⟨p.cs⟩), (.int .i64 v), (.int .i64 kind)]) (by kernel_rfl) h

/- changeover/cmd.Check -/
def cmd_Check (c : ApiCmd) (K : Int → World → Prop) (w : World) : Prop :=
  opTy Pr (Instr.box 23 (.agg ⟨c.cs⟩)) pav (fun c1 w2 =>
  opRd Pr (Instr.loadAt 3 (.pointer (some (c1.add 0)))) (Value.int .i64) (fun t3 =>
  callV Pr (tval2 (Value.int .i64) Value.bool) 70 #[(.int .i64 t3)] w2 fun t4 w5 =>
  ifB (!t4.2)
  (K 5 w5)
  (callV Pr Sl.val 32 #[] w5 fun t6 w7 =>
  loop4 (true : Bool) (true : Bool) (true : Bool) (0 : Int) (fun range18 text9 form10 t11 k12 w13 =>
  ifB (decide (t11 < (t6.len : Int)))
  (opRd Pr (Instr.indexAt 58 t6.val (.int .i64 t11)) pav (fun t14 =>
  opRd Pr (Instr.loadAt 62 (.pointer (some t14))) CmdPart.val (fun t15 =>
  opTy Pr (Instr.alloc 62 true (.tuple #[])) pav (fun p16 w17 =>
  opUn Pr (Instr.storeAt 62 (.pointer (some p16)) (.agg ⟨t15.cs⟩)) (fun w18 =>
  opRd Pr (Instr.loadAt 62 (.pointer (some p16))) CmdPart.val (fun t19 =>
  callV Pr (tval2 Value.bool Value.bool) 73 #[(.agg ⟨t19.cs⟩), (.pointer (some c1)), (.int .i64 t4.1)] w18 fun t20 w21 =>
  opRd Pr (Instr.loadAt 62 (.pointer (some p16))) CmdPart.val (fun t22 =>
  callV Pr (tval2 Value.bool Value.bool) 74 #[(.agg ⟨t22.cs⟩), (.pointer (some c1)), (.int .i64 t4.1)] w21 fun t23 w24 =>
  ifB range18
  (ifB text9
  (ifB form10
  (ifB t20.2
  (k12 t20.1 t23.1 t23.2 (i64 (t11 + 1)) w24)
  (k12 t20.1 t23.1 false (i64 (t11 + 1)) w24))
  (k12 t20.1 t23.1 false (i64 (t11 + 1)) w24))
  (ifB form10
  (ifB t20.2
  (k12 t20.1 false t23.2 (i64 (t11 + 1)) w24)
  (k12 t20.1 false false (i64 (t11 + 1)) w24))
  (k12 t20.1 false false (i64 (t11 + 1)) w24)))
  (ifB text9
  (ifB form10
  (ifB t20.2
  (k12 false t23.1 t23.2 (i64 (t11 + 1)) w24)
  (k12 false t23.1 false (i64 (t11 + 1)) w24))
  (k12 false t23.1 false (i64 (t11 + 1)) w24))
  (ifB form10
  (ifB t20.2
  (k12 false false t23.2 (i64 (t11 + 1)) w24)
  (k12 false false false (i64 (t11 + 1)) w24))
  (k12 false false false (i64 (t11 + 1)) w24)))) w21) w18) w17) w13) w13) w13)
  (ifB (!range18)
  (K 6 w13)
  (ifB (!text9)
  (K 7 w13)
  (ifB (!form10)
  (K 3 w13)
  (K 0 w13))))) w7)) w2) w
def cmd_Check_ann : Ann := (.s (.r [(0, .ty rPA)]) (.s (.r [(1, .rd (rI .i64)), (2, .call (rT2 (rI .i64) rB))]) (.s (.s .d (.c (.s .d .d) .d)) (.s .d (.s (.s (.r [(0, .call rSl)]) (.b (.l [(.s 5, rB), (.s 6, rB), (.s 7, rB), (.s 24, (rI .i64))] (.s .d (.s (.c .d .d) (.s (.b (.s (.r [(0, .rd rPA), (1, .rd rCmdPart), (2, .ty rPA), (3, .un)]) (.s (.r [(0, .rd rCmdPart), (2, .call (rT2 rB rB))]) (.s (.r [(0, .rd rCmdPart), (2, .call (rT2 rB rB))]) .d)))) .d)))))) (.s (.b (.s .d (.c (.s .d .d) (.s .d (.c (.s .d .d) (.s .d (.c (.s .d .d) .d))))))) (.s .d .d)))))))
theorem cmd_Check_calls {c : ApiCmd} {K : Int → World → Prop} {w : World} (h : cmd_Check c K w) : callV Pr (Value.int .i64) 35 #[(.agg ⟨c.cs⟩)] w K :=
  calls_of Pr_plain Pr_mixed Pr_func35 cmd_Check_ann (rI .i64) (args := [(.agg ⟨c.cs⟩)]) (by kernel_rfl) h

/- strconv.Itoa -/
def strconv_Itoa (i : Int) (K : (List UInt8) → World → Prop) (w : World) : Prop :=
  callV Pr sval 75 #[(.int .i64 i)] w fun t1 w2 =>
  K t1 w2
def strconv_Itoa_ann : Ann := (.s .d (.s (.r [(1, .call rS)]) .d))
theorem strconv_Itoa_calls {i : Int} {K : (List UInt8) → World → Prop} {w : World} (h : strconv_Itoa i K w) : callV Pr sval 36 #[(.int .i64 i)] w K :=
  calls_of Pr_plain Pr_mixed Pr_func36 strconv_Itoa_ann rS (args := [(.int .i64 i)]) (by kernel_rfl) h

/- changeover/quote.Quote -/
def quote_Quote (s : List UInt8) (K : (List UInt8) → World → Prop) (w : World) : Prop :=
  opTy Pr (Instr.alloc 95 true (.tuple #[])) pav (fun w1 w2 =>
  callV Pr vval 76 #[(.pointer (some w1)), (.int .u8 34)] w2 fun t3 w4 =>
  opTy Pr (Instr.range 9 (sval s)) pav (fun t5 w6 =>
  loop0 (fun k7 w8 =>
  opAl Pr (Instr.next (.pointer (some t5)) true 0) (nxval (Value.int .i64) (Value.int .i32)) endval (fun t9 w10 =>
  opRd Pr (Instr.sliceAt 9 (sval s) (some (.int .i64 t9.1)) none none) sval (fun t11 =>
  callV Pr (tval2 (Value.int .i32) (Value.int .i64)) 77 #[(sval t11)] w10 fun t12 w13 =>
  opRd Pr (Instr.sliceAt 9 (sval s) (some (.int .i64 t9.1)) (some (.int .i64 (i64 (t9.1 + t12.2)))) none) sval (fun t14 =>
  callV Pr sval 78 #[(.int .i32 t9.2), (sval t14)] w13 fun t15 w16 =>
  callV Pr (tval2 (Value.int .i64) vval) 52 #[(.pointer (some w1)), (sval t15)] w16 fun t17 w18 =>
  k7 w18) w13) w10) (fun _ w19 =>
  callV Pr vval 76 #[(.pointer (some w1)), (.int .u8 34)] w19 fun t20 w21 =>
  callV Pr sval 53 #[(.pointer (some w1))] w21 fun t22 w23 =>
  K t22 w23) w8) w6) w4) w
def quote_Quote_ann : Ann := (.s .d (.s (.r [(0, .ty rPA)]) (.s (.r [(0, .call rV)]) (.s (.s (.r [(1, .ty rPA)]) (.b (.l [] (.s (.r [(0, .alt (rNx (rI .i64) (rI .i32)) rEnd)]) (.s (.c .d .d) (.b (.s .d (.s (.r [(2, .rd rS), (3, .call (rT2 (rI .i32) (rI .i64)))]) (.r [(6, .rd rS), (7, .call rS), (8, .call (rT2 (rI .i64) rV))]))))))))) (.s (.r [(0, .call rV)]) (.s (.r [(0, .call rS)]) .d))))))
theorem quote_Quote_calls {s : List UInt8} {K : (List UInt8) → World → Prop} {w : World} (h : quote_Quote s K w) : callV Pr sval 37 #[(sval s)] w K :=
  calls_of Pr_plain Pr_mixed Pr_func37 quote_Quote_ann rS (args := [(sval s)]) (by kernel_rfl) h

/- changeover/quote.Line -/
def quote_Line (l : Sl) (K : (List UInt8) → World → Prop) (w : World) : Prop :=
  callV Pr sval 79 #[l.val, (sval [32])] w fun t1 w2 =>
  K t1 w2
def quote_Line_ann : Ann := (.s .d (.s (.r [(1, .call rS)]) .d))
theorem quote_Line_calls {l : Sl} {K : (List UInt8) → World → Prop} {w : World} (h : quote_Line l K w) : callV Pr sval 38 #[l.val] w K :=
  calls_of Pr_plain Pr_mixed Pr_func38 quote_Line_ann rS (args := [l.val]) (by kernel_rfl) h

/- changeover/changeoverref42.Letters -/
def ref42_Letters (kind : Int) (K : ((List UInt8) × (List UInt8)) → World → Prop) (w : World) : Prop :=
  opTy Pr (Instr.buildSlice 53 12 #[(0, (sval [])), (1, (sval [110, 105])), (2, (sval [110, 105, 109])), (3, (sval [105])), (4, (sval [105])), (5, (sval [105])), (6, (sval [110])), (7, (sval [110])), (8, (sval [110])), (9, (sval [110, 99])), (10, (sval [110, 105])), (11, (sval [110, 97]))]) Sl.val (fun l1 w2 =>
  opTy Pr (Instr.buildSlice 53 12 #[(0, (sval [])), (1, (sval [115, 116, 97, 114, 116])), (2, (sval [99, 114, 97, 115, 104])), (3, (sval [100, 101, 108, 105, 118, 101, 114])), (4, (sval [108, 111, 115, 101])), (5, (sval [116, 119, 105, 99, 101])), (6, (sval [116, 105, 99, 107])), (7, (sval [115, 121, 110, 99])), (8, (sval [115, 104, 114, 105, 110, 107])), (9, (sval [99, 97, 108, 108])), (10, (sval [97, 103, 97, 105, 110])), (11, (sval [97, 100, 109, 105, 110]))]) Sl.val (fun w3 w4 =>
  ifB (decide (kind < 1))
  (K ([], []) w4)
  (ifB (decide (kind > 11))
  (K ([], []) w4)
  (drewM (fun w5 =>
  opRd Pr (Instr.indexAt 53 l1.val (.int .i64 kind)) pav (fun t6 =>
  opRd Pr (Instr.loadAt 9 (.pointer (some t6))) sval (fun t7 =>
  opRd Pr (Instr.indexAt 53 w3.val (.int .i64 kind)) pav (fun t8 =>
  opRd Pr (Instr.loadAt 9 (.pointer (some t8))) sval (fun t9 =>
  K (t7, t9) w5) w5) w5) w5) w5) w4))) w2) w
def ref42_Letters_ann : Ann := (.s .d (.s (.r [(0, .ty rSl)]) (.s (.r [(0, .ty rSl)]) (.s (.s .d (.c (.s .d .d) .d)) (.s (.r [(2, .rd rPA), (3, .rd rS), (6, .rd rPA), (7, .rd rS)]) .d)))))
theorem ref42_Letters_calls {kind : Int} {K : ((List UInt8) × (List UInt8)) → World → Prop} {w : World} (h : ref42_Letters kind K w) : callV Pr (tval2 sval sval) 39 #[(.int .i64 kind)] w K :=
  calls_of Pr_plain Pr_mixed Pr_func39 ref42_Letters_ann (rT2 rS rS) (args := [(.int .i64 kind)]) (by kernel_rfl) h

/- changeover/changeoverref42.number -/
def ref42_number (is : Bool) (n : Int) (least : Int) (most : Int) (K : Bool → World → Prop) (w : World) : Prop :=
  ifB (!is)
  (K (n == 0) w)
  (ifB (decide (n ≥ least))
  (K (decide (n ≤ most)) w)
  (K false w))
def ref42_number_ann : Ann := (.s .d (.s (.s .d (.c (.s .d .d) .d)) (.s .d .d)))
theorem ref42_number_calls {is : Bool} {n : Int} {least : Int} {most : Int} {K : Bool → World → Prop} {w : World} (h : ref42_number is n least most K w) : callV Pr Value.bool 40 #[(.bool is), (.int .i64 n), (.int .i64 least), (.int .i64 most)] w K :=
  calls_of Pr_plain Pr_mixed Pr_func40 ref42_number_ann rB (args := [(.bool is), (.int .i64 n), (.int .i64 least), (.int .i64 most)]) (by kernel_rfl) h

/- changeover/changeoverref42.has -/
def ref42_has (l : List UInt8) (c : Int) (K : Bool → World → Prop) (w : World) : Prop :=
  loop1 (0 : Int) (fun i1 k2 w3 =>
  ifB (decide (i1 < ((l : List UInt8).length : Int)))
  (opRd Pr (Instr.index 9 (sval l) (.int .i64 i1)) (Value.int .u8) (fun t4 =>
  ifB (t4 == c)
  (K true w3)
  (k2 (i64 (i1 + 1)) w3)) w3)
  (K false w3)) w
def ref42_has_ann : Ann := (.s .d (.s (.s .d (.b (.l [(.s 5, (rI .i64))] (.s (.s .d (.c .d .d)) (.s (.b (.s (.r [(2, .rd (rI .u8))]) (.c (.s .d .d) .d))) .d))))) (.s .d .d)))
theorem ref42_has_calls {l : List UInt8} {c : Int} {K : Bool → World → Prop} {w : World} (h : ref42_has l c K w) : callV Pr Value.bool 41 #[(sval l), (.int .u8 c)] w K :=
  calls_of Pr_plain Pr_mixed Pr_func41 ref42_has_ann rB (args := [(sval l), (.int .u8 c)]) (by kernel_rfl) h

/- changeover/script.kinds -/
def script_kinds (K : (List Value) → World → Prop) (w : World) : Prop :=
  newV (fun b1 w2 =>
  wrM b1 (fun w3 =>
  K [(sval []), (.int .i64 0), (sval [115, 116, 97, 114, 116]), (.int .i64 3), (sval [99, 114, 97, 115, 104]), (.int .i64 7), (sval [100, 101, 108, 105, 118, 101, 114]), (.int .i64 2), (sval [108, 111, 115, 101]), (.int .i64 2), (sval [116, 119, 105, 99, 101]), (.int .i64 2), (sval [116, 105, 99, 107]), (.int .i64 1), (sval [115, 121, 110, 99]), (.int .i64 1), (sval [115, 104, 114, 105, 110, 107]), (.int .i64 1), (sval [99, 97, 108, 108]), (.int .i64 9), (sval [97, 103, 97, 105, 110]), (.int .i64 3), (sval [97, 100, 109, 105, 110]), (.int .i64 17)] w3) w2) w
def script_kinds_ann : Ann := (.s (.r [(0, .nl 0)]) (.s (.r [(12, .ls 0)]) .d))
theorem script_kinds_calls {K : (List Value) → World → Prop} {w : World} (h : script_kinds K w) : callV Pr aval 42 #[] w K :=
  calls_of Pr_plain Pr_mixed Pr_func42 script_kinds_ann rA (args := []) (by kernel_rfl) h

/- changeover/script.of -/
def script_of (n : Int) (K : (ScriptKind × Bool) → World → Prop) (w : World) : Prop :=
  newV (fun b1 w2 =>
  callV Pr aval 42 #[] w2 fun t3 w4 =>
  kp b1 w2 w4 <|
  opTy Pr (Instr.alloc 75 true (.tuple #[])) pav (fun l5 w6 =>
  kp b1 w4 w6 <|
  opUn Pr (Instr.storeAt 75 (.pointer (some l5)) (.agg ⟨t3⟩)) (fun w7 =>
  kp b1 w6 w7 <|
  ifB (decide (n < 1))
  (wrM b1 (fun w8 =>
  K ((ScriptKind.mk [] 0), false) w8) w7)
  (ifB (decide (n ≥ 12))
  (wrM b1 (fun w9 =>
  K ((ScriptKind.mk [] 0), false) w9) w7)
  (opRd Pr (Instr.indexAt 75 (.pointer (some l5)) (.int .i64 n)) pav (fun t10 =>
  opRd Pr (Instr.loadAt 74 (.pointer (some t10))) ScriptKind.val (fun t11 =>
  wrM b1 (fun w12 =>
  K (t11, true) w12) w7) w7) w7))) w6) w4) w
def script_of_ann : Ann := (.s (.r [(0, .nl 2)]) (.s (.r [(0, .call rA), (1, .ty rPA), (2, .un)]) (.s (.s .d (.c (.s (.r [(1, .ls 2)]) .d) .d)) (.s (.r [(1, .rd rPA), (2, .rd rScriptKind), (3, .ls 2)]) .d))))
theorem script_of_calls {n : Int} {K : (ScriptKind × Bool) → World → Prop} {w : World} (h : script_of n K w) : callV Pr (tval2 ScriptKind.val Value.bool) 43 #[(.int .i64 n)] w K :=
  calls_of Pr_plain Pr_mixed Pr_func43 script_of_ann (rT2 rScriptKind rB) (args := [(.int .i64 n)]) (by kernel_rfl) h

/- (*changeover/script.words).number -/
def script_words_number (w_ : Option Addr) (is : Bool) (K : Int → World → Prop) (w : World) : Prop :=
  ifB (!is)
  (K 0 w)
  (opRd Pr (nilSem (.pointer w_)) pav (fun t1 =>
  opRd Pr (Instr.loadAt 53 (.pointer (some (t1.add 0)))) Sl.val (fun t2 =>
  ifB ((t2.len : Int) == 0)
  (K 0 w)
  (opRd Pr (nilSem (.pointer w_)) pav (fun t3 =>
  opRd Pr (Instr.loadAt 53 (.pointer (some (t3.add 0)))) Sl.val (fun t4 =>
  opRd Pr (Instr.indexAt 53 t4.val (.int .i64 0)) pav (fun t5 =>
  opRd Pr (Instr.loadAt 9 (.pointer (some t5))) sval (fun t6 =>
  callV Pr (tval2 (Value.int .i64) vval) 71 #[(sval t6)] w fun t7 w8 =>
  opRd Pr (nilSem (.pointer w_)) pav (fun t9 =>
  opRd Pr (Instr.loadAt 53 (.pointer (some (t9.add 0)))) Sl.val (fun t10 =>
  opRd Pr (Instr.sliceAt 53 t10.val (some (.int .i64 1)) none none) Sl.val (fun t11 =>
  opRd Pr (nilSem (.pointer w_)) pav (fun t12 =>
  opUn Pr (Instr.storeAt 53 (.pointer (some (t12.add 0))) t11.val) (fun w13 =>
  K t7.1 w13) w8) w8) w8) w8) w8) w) w) w) w)) w) w)
def script_words_number_ann : Ann := (.s .d (.s (.s (.r [(4, .rd rPA), (6, .rd rSl)]) (.c (.s .d .d) .d)) (.s (.r [(1, .rd rPA), (3, .rd rSl), (4, .rd rPA), (5, .rd rS), (6, .call (rT2 (rI .i64) rV))]) (.s (.r [(2, .rd rPA), (4, .rd rSl), (5, .rd rSl), (6, .rd rPA), (8, .un)]) (.s .d .d)))))
theorem script_words_number_calls {w_ : Option Addr} {is : Bool} {K : Int → World → Prop} {w : World} (h : script_words_number w_ is K w) : callV Pr (Value.int .i64) 44 #[(.pointer w_), (.bool is)] w K :=
  calls_of Pr_plain Pr_mixed Pr_func44 script_words_number_ann (rI .i64) (args := [(.pointer w_), (.bool is)]) (by kernel_rfl) h

/- (*changeover/script.words).command -/
def script_words_command (w_ : Option Addr) (has_ : Int) (K : ApiCmd → World → Prop) (w : World) : Prop :=
  newV (fun b1 w2 =>
  opRd Pr (nilSem (.pointer w_)) pav (fun t3 =>
  opRd Pr (Instr.loadAt 53 (.pointer (some (t3.add 0)))) Sl.val (fun l4 =>
  join1 (fun (j5 : Sl → World → Prop) =>
  ifB ((bAnd .i64 has_ 8) != 0)
  (ifB (decide ((l4.len : Int) > 2))
  (heldM (fun S7 w6 =>
  opH Pr S7 (Instr.sliceAt 53 l4.val none (some (.int .i64 2)) (some (.int .i64 2))) Sl.val (fun t8 =>
  opH Pr S7 (Instr.sliceAt 53 l4.val (some (.int .i64 2)) none none) Sl.val (fun t9 =>
  opTy Pr (Instr.buildSlice 53 1 #[(0, (sval [49]))]) Sl.val (fun t10 w11 =>
  kp b1 w6 w11 <|
  (S7 w11) ∧
  (opTy Pr (Builtin.append_ #[53, 53] 53 #[t8.val, t10.val]) Sl.val (fun t12 w13 =>
  kp b1 w11 w13 <|
  (S7 w13) ∧
  (opTy Pr (Builtin.append_ #[53, 53] 53 #[t12.val, t9.val]) Sl.val (fun l14 w15 =>
  kp b1 w13 w15 <|
  (S7 w15) ∧
  (j5 l14 w15)) w13)) w11)) w6))) w2)
  (j5 l4 w2))
  (j5 l4 w2))
  (fun l16 w17 =>
  callV Pr sval 38 #[l16.val] w17 fun t18 w19 =>
  kp b1 w17 w19 <|
  callV Pr (tval2 ApiCmd.val (Value.int .i64)) 11 #[(sval t18)] w19 fun t20 w21 =>
  kp b1 w19 w21 <|
  newV (fun b22 w23 =>
  wrM b22 (fun w24 =>
  ifB ((bAnd .i64 has_ 8) != 0)
  (wrM b22 (fun w25 =>
  wrM b1 (fun w26 =>
  K (ApiCmd.mk t20.1.Kind t20.1.Client 0 t20.1.Key t20.1.Val t20.1.Old t20.1.Node) w26) w25) w24)
  (wrM b1 (fun w27 =>
  K (ApiCmd.mk t20.1.Kind t20.1.Client t20.1.Seq t20.1.Key t20.1.Val t20.1.Old t20.1.Node) w27) w24)) w23) w21)) w2) w2) w
def script_words_command_ann : Ann := (.s (.r [(0, .nl 4)]) (.s (.r [(1, .rd rPA), (3, .rd rSl)]) (.sj [(.s 5, rSl)] (.s .d (.c (.h (.take 0 (.take 1 (.take 4 (.take 5 (.one 2 (.one 3 (.one 6 (.take 7 .done)))))))) [(1, .rd rSl), (2, .ty rSl), (3, .ty rSl), (5, .rd rSl), (6, .ty rSl)]) .d)) (.s (.r [(1, .call rS), (2, .call (rT2 rApiCmd (rI .i64))), (6, .nl 6), (7, .ls 6)]) (.s (.s .d (.c (.r [(1, .ls 6)]) .d)) (.s (.r [(1, .ls 4)]) .d))))))
theorem script_words_command_calls {w_ : Option Addr} {has_ : Int} {K : ApiCmd → World → Prop} {w : World} (h : script_words_command w_ has_ K w) : callV Pr ApiCmd.val 45 #[(.pointer w_), (.int .i64 has_)] w K :=
  calls_of Pr_plain Pr_mixed Pr_func45 script_words_command_ann rApiCmd (args := [(.pointer w_), (.int .i64 has_)]) (by kernel_rfl) h

/- changeover/script.Check$1 -/
def script_Check_1 (bit : Int) (n : Int) (least : Int) (most : Int) (c_x0 : Addr) (K : Bool → World → Prop) (w : World) : Prop :=
  opRd Pr (Instr.loadAt 3 (.pointer (some (c_x0.add 1)))) (Value.int .i64) (fun t1 =>
  ifB ((bAnd .i64 t1 bit) == 0)
  (K (n == 0) w)
  (ifB (decide (n ≥ least))
  (K (decide (n ≤ most)) w)
  (K false w))) w
def script_Check_1_ann : Ann := (.s .d (.s (.s (.r [(1, .rd (rI .i64))]) (.c (.s .d .d) .d)) (.s .d .d)))
theorem script_Check_1_calls {bit : Int} {n : Int} {least : Int} {most : Int} {c_x0 : Addr} {K : Bool → World → Prop} {w : World} (h : script_Check_1 bit n least most c_x0 K w) : callV Pr Value.bool 46 #[(.int .i64 bit), (.int .i64 n), (.int .i64 least), (.int .i64 most), (.pointer (some c_x0))] w K :=
  calls_of Pr_plain Pr_mixed Pr_func46 script_Check_1_ann rB (args := [(.int .i64 bit), (.int .i64 n), (.int .i64 least), (.int .i64 most), (.pointer (some c_x0))]) (by kernel_rfl) h

/- changeover/script.command -/
def script_command (e : ApiEvent) (has_ : Int) (K : Bool → World → Prop) (w : World) : Prop :=
  newV (fun b1 w2 =>
  ifB ((bAnd .i64 has_ 8) != 0)
  (ifB (e.Cmd.Seq == 0)
  (callV Pr Value.bool 80 #[(.agg ⟨[(.int .i64 e.Cmd.Kind), (.int .i64 e.Cmd.Client), (.int .i64 e.Cmd.Seq), (sval e.Cmd.Key), (sval e.Cmd.Val), (sval e.Cmd.Old), (.int .i64 e.Cmd.Node)]⟩)] w2 fun t3 w4 =>
  kp b1 w2 w4 <|
  ifB t3
  (callV Pr ApiCmd.val 81 #[(.agg ⟨[(.int .i64 e.Cmd.Kind), (.int .i64 e.Cmd.Client), (.int .i64 e.Cmd.Seq), (sval e.Cmd.Key), (sval e.Cmd.Val), (sval e.Cmd.Old), (.int .i64 e.Cmd.Node)]⟩), (.int .i64 1)] w4 fun t5 w6 =>
  kp b1 w4 w6 <|
  callV Pr (Value.int .i64) 35 #[(.agg ⟨t5.cs⟩)] w6 fun t7 w8 =>
  kp b1 w6 w8 <|
  K (t7 == 0) w8)
  (K false w4))
  (K false w2))
  (ifB ((bAnd .i64 has_ 16) != 0)
  (callV Pr Value.bool 80 #[(.agg ⟨[(.int .i64 e.Cmd.Kind), (.int .i64 e.Cmd.Client), (.int .i64 e.Cmd.Seq), (sval e.Cmd.Key), (sval e.Cmd.Val), (sval e.Cmd.Old), (.int .i64 e.Cmd.Node)]⟩)] w2 fun t9 w10 =>
  kp b1 w2 w10 <|
  ifB (!t9)
  (callV Pr (Value.int .i64) 35 #[(.agg ⟨[(.int .i64 e.Cmd.Kind), (.int .i64 e.Cmd.Client), (.int .i64 e.Cmd.Seq), (sval e.Cmd.Key), (sval e.Cmd.Val), (sval e.Cmd.Old), (.int .i64 e.Cmd.Node)]⟩)] w10 fun t11 w12 =>
  kp b1 w10 w12 <|
  K (t11 == 0) w12)
  (K false w10))
  (opRd Pr (binSem .eql 23 (.tmp 40) (.tmp 41) (.agg ⟨[(.int .i64 e.Cmd.Kind), (.int .i64 e.Cmd.Client), (.int .i64 e.Cmd.Seq), (sval e.Cmd.Key), (sval e.Cmd.Val), (sval e.Cmd.Old), (.int .i64 e.Cmd.Node)]⟩) (.agg ⟨[(.int .i64 0), (.int .i64 0), (.int .i64 0), (sval []), (sval []), (sval []), (.int .i64 0)]⟩)) Value.bool (fun t13 =>
  K t13 w2) w2))) w
def script_command_ann : Ann := (.s (.r [(0, .nl 2)]) (.s (.b (.s .d (.c (.s (.r [(7, .call rB), (12, .call rApiCmd), (13, .call (rI .i64))]) .d) (.s .d (.c (.s (.r [(2, .call rB), (7, .call (rI .i64))]) .d) .d))))) (.s (.r [(3, .rd rB)]) .d)))
theorem script_command_calls {e : ApiEvent} {has_ : Int} {K : Bool → World → Prop} {w : World} (h : script_command e has_ K w) : callV Pr Value.bool 47 #[(.agg ⟨e.cs⟩), (.int .i64 has_)] w K :=
  calls_of Pr_plain Pr_mixed Pr_func47 script_command_ann rB (args := [(.agg ⟨e.cs⟩), (.int .i64 has_)]) (by kernel_rfl) h

/- changeover/script.Print$1 -/
def script_Print_1 (bit : Int) (n : Int) (c_x0 : Addr) (c_x1 : Addr) (K : Unit → World → Prop) (w : World) : Prop :=
  opRd Pr (Instr.loadAt 3 (.pointer (some (c_x0.add 1)))) (Value.int .i64) (fun t1 =>
  ifB ((bAnd .i64 t1 bit) != 0)
  (heldM (fun S3 w2 =>
  (opRd Pr (Instr.loadAt 53 (.pointer (some c_x1))) Sl.val (fun t4 =>
  (S3 w2) ∧
  (callV Pr sval 36 #[(.int .i64 n)] w2 fun t5 w6 =>
  (S3 w6) ∧
  (opTy Pr (Instr.buildSlice 53 1 #[(0, (sval t5))]) Sl.val (fun t7 w8 =>
  (S3 w8) ∧
  (opTy Pr (Builtin.append_ #[53, 53] 53 #[t4.val, t7.val]) Sl.val (fun t9 w10 =>
  (S3 w10) ∧
  (opUn Pr (Instr.storeAt 53 (.pointer (some c_x1)) t9.val) (fun w11 =>
  (S3 w11) ∧
  (K () w11)) w10)) w8)) w6))) w2) ∧
  (callV Pr sval 36 #[(.int .i64 n)] w2 fun t12 w13 =>
  (S3 w13) ∧
  ((opRd Pr (Instr.loadAt 53 (.pointer (some c_x1))) Sl.val (fun t14 =>
  (S3 w13) ∧
  (opTy Pr (Instr.buildSlice 53 1 #[(0, (sval t12))]) Sl.val (fun t15 w16 =>
  (S3 w16) ∧
  (opTy Pr (Builtin.append_ #[53, 53] 53 #[t14.val, t15.val]) Sl.val (fun t17 w18 =>
  (S3 w18) ∧
  (opUn Pr (Instr.storeAt 53 (.pointer (some c_x1)) t17.val) (fun w19 =>
  (S3 w19) ∧
  (K () w19)) w18)) w16)) w13)) w13) ∧
  (opTy Pr (Instr.buildSlice 53 1 #[(0, (sval t12))]) Sl.val (fun t20 w21 =>
  (S3 w21) ∧
  (opRd Pr (Instr.loadAt 53 (.pointer (some c_x1))) Sl.val (fun t22 =>
  (S3 w21) ∧
  (opTy Pr (Builtin.append_ #[53, 53] 53 #[t22.val, t20.val]) Sl.val (fun t23 w24 =>
  (S3 w24) ∧
  (opUn Pr (Instr.storeAt 53 (.pointer (some c_x1)) t23.val) (fun w25 =>
  (S3 w25) ∧
  (K () w25)) w24)) w21)) w21)) w13)))) w)
  (K () w)) w
def script_Print_1_ann : Ann := (.s (.r [(1, .rd (rI .i64))]) (.c (.h (.take 1 (.two 0 (.one 2 (.one 3 (.one 4 (.one 5 .done)))) 2 (.two 0 (.one 3 (.one 4 (.one 5 .done))) 3 (.one 0 (.one 4 (.one 5 .done)))))) [(0, .rd rSl), (2, .call rS), (3, .ty rSl), (4, .ty rSl), (5, .un)]) .d))
theorem script_Print_1_calls {bit : Int} {n : Int} {c_x0 : Addr} {c_x1 : Addr} {K : Unit → World → Prop} {w : World} (h : script_Print_1 bit n c_x0 c_x1 K w) : callV Pr uval 48 #[(.int .i64 bit), (.int .i64 n), (.pointer (some c_x0)), (.pointer (some c_x1))] w K :=
  calls_of Pr_plain Pr_mixed Pr_func48 script_Print_1_ann rU (args := [(.int .i64 bit), (.int .i64 n), (.pointer (some c_x0)), (.pointer (some c_x1))]) (by kernel_rfl) h

/- changeover/script.called -/
def script_called (c : ApiCmd) (K : Sl → World → Prop) (w : World) : Prop :=
  newV (fun b1 w2 =>
  callV Pr ApiCmd.val 81 #[(.agg ⟨[(.int .i64 c.Kind), (.int .i64 c.Client), (.int .i64 c.Seq), (sval c.Key), (sval c.Val), (sval c.Old), (.int .i64 c.Node)]⟩), (.int .i64 1)] w2 fun t3 w4 =>
  kp b1 w2 w4 <|
  callV Pr sval 12 #[(.agg ⟨t3.cs⟩)] w4 fun t5 w6 =>
  kp b1 w4 w6 <|
  callV Pr (tval2 Sl.val (Value.int .i64)) 30 #[(sval t5)] w6 fun t7 w8 =>
  kp b1 w6 w8 <|
  heldM (fun S10 w9 =>
  opH Pr S10 (Instr.sliceAt 53 t7.1.val none (some (.int .i64 2)) (some (.int .i64 2))) Sl.val (fun t11 =>
  opH Pr S10 (Instr.sliceAt 53 t7.1.val (some (.int .i64 3)) none none) Sl.val (fun t12 =>
  opTy Pr (Builtin.append_ #[53, 53] 53 #[t11.val, t12.val]) Sl.val (fun t13 w14 =>
  kp b1 w9 w14 <|
  (S10 w14) ∧
  (K t13 w14)) w9))) w8) w
def script_called_ann : Ann := (.s (.r [(0, .nl 1)]) (.s (.r [(1, .call rApiCmd), (2, .call rS), (3, .call (rT2 rSl (rI .i64)))]) (.s (.h (.take 0 (.take 1 (.take 2 (.take 3 (.one 4 (.take 5 .done)))))) [(1, .rd rSl), (3, .rd rSl), (4, .ty rSl)]) .d)))
theorem script_called_calls {c : ApiCmd} {K : Sl → World → Prop} {w : World} (h : script_called c K w) : callV Pr Sl.val 49 #[(.agg ⟨c.cs⟩)] w K :=
  calls_of Pr_plain Pr_mixed Pr_func49 script_called_ann rSl (args := [(.agg ⟨c.cs⟩)]) (by kernel_rfl) h

/- strings.Lines -/
def strings_Lines (s : List UInt8) (K : Value → World → Prop) (w : World) : Prop :=
  opTy Pr (Instr.box 9 (sval s)) pav (fun s1 w2 =>
  K (.func (.func 82) #[] #[(.pointer (some s1))]) w2) w
def strings_Lines_ann : Ann := (.s (.r [(0, .ty rPA)]) (.s .d .d))
theorem strings_Lines_calls {s : List UInt8} {K : Value → World → Prop} {w : World} (h : strings_Lines s K w) : callV Pr vval 50 #[(sval s)] w K :=
  calls_of Pr_plain Pr_mixed Pr_func50 strings_Lines_ann rV (args := [(sval s)]) (by kernel_rfl) h

/- strings.CutSuffix -/
def strings_CutSuffix (s : List UInt8) (suffix : List UInt8) (K : ((List UInt8) × Bool) → World → Prop) (w : World) : Prop :=
  callV Pr (tval2 sval Value.bool) 84 #[(sval s), (sval suffix)] w fun t1 w2 =>
  K (t1.1, t1.2) w2
def strings_CutSuffix_ann : Ann := (.s .d (.s (.r [(2, .call (rT2 rS rB))]) .d))
theorem strings_CutSuffix_calls {s : List UInt8} {suffix : List UInt8} {K : ((List UInt8) × Bool) → World → Prop} {w : World} (h : strings_CutSuffix s suffix K w) : callV Pr (tval2 sval Value.bool) 51 #[(sval s), (sval suffix)] w K :=
  calls_of Pr_plain Pr_mixed Pr_func51 strings_CutSuffix_ann (rT2 rS rB) (args := [(sval s), (sval suffix)]) (by kernel_rfl) h

/- (*strings.Builder).WriteString -/
def strings_Builder_WriteString (b : Option Addr) (s : List UInt8) (K : (Int × Value) → World → Prop) (w : World) : Prop :=
  callV Pr uval 85 #[(.pointer b)] w fun t1 w2 =>
  opRd Pr (nilSem (.pointer b)) pav (fun t3 =>
  opRd Pr (Instr.loadAt 49 (.pointer (some (t3.add 1)))) Sl.val (fun t4 =>
  opTy Pr (Builtin.append_ #[49, 9] 49 #[t4.val, (sval s)]) Sl.val (fun t5 w6 =>
  opRd Pr (nilSem (.pointer b)) pav (fun t7 =>
  opUn Pr (Instr.storeAt 49 (.pointer (some (t7.add 1))) t5.val) (fun w8 =>
  K (((s : List UInt8).length : Int), .nilIface) w8) w6) w6) w2) w2) w2
def strings_Builder_WriteString_ann : Ann := (.s .d (.s (.r [(1, .call rU)]) (.s (.r [(2, .rd rPA), (4, .rd rSl), (6, .ty rSl), (7, .rd rPA), (9, .un)]) (.s .d .d))))
theorem strings_Builder_WriteString_calls {b : Option Addr} {s : List UInt8} {K : (Int × Value) → World → Prop} {w : World} (h : strings_Builder_WriteString b s K w) : callV Pr (tval2 (Value.int .i64) vval) 52 #[(.pointer b), (sval s)] w K :=
  calls_of Pr_plain Pr_mixed Pr_func52 strings_Builder_WriteString_ann (rT2 (rI .i64) rV) (args := [(.pointer b), (sval s)]) (by kernel_rfl) h

/- (*strings.Builder).String -/
def strings_Builder_String (b : Option Addr) (K : (List UInt8) → World → Prop) (w : World) : Prop :=
  heldM (fun S2 w1 =>
  opH Pr S2 (nilSem (.pointer b)) pav (fun t3 =>
  opH Pr S2 (Instr.loadAt 49 (.pointer (some (t3.add 1)))) Sl.val (fun t4 =>
  opH Pr S2 (Builtin.unsafeSliceData_ #[49] 124 #[t4.val]) Value.pointer (fun t5 =>
  opH Pr S2 (nilSem (.pointer b)) pav (fun t6 =>
  opH Pr S2 (Instr.loadAt 49 (.pointer (some (t6.add 1)))) Sl.val (fun t7 =>
  opTy Pr (Builtin.unsafeString_ #[124, 3] 9 #[(.pointer t5), (.int .i64 (t7.len : Int))]) sval (fun t8 w9 =>
  (S2 w9) ∧
  (K t8 w9)) w1)))))) w
def strings_Builder_String_ann : Ann := (.s .d (.s (.h (.take 0 (.take 1 (.take 2 (.take 3 (.take 4 (.take 5 (.take 6 (.take 7 (.take 8 (.take 9 (.one 10 (.take 11 .done)))))))))))) [(1, .rd rPA), (3, .rd rSl), (4, .rd rP), (6, .rd rPA), (8, .rd rSl), (10, .ty rS)]) .d))
theorem strings_Builder_String_calls {b : Option Addr} {K : (List UInt8) → World → Prop} {w : World} (h : strings_Builder_String b K w) : callV Pr sval 53 #[(.pointer b)] w K :=
  calls_of Pr_plain Pr_mixed Pr_func53 strings_Builder_String_ann rS (args := [(.pointer b)]) (by kernel_rfl) h

/- changeover/changeoverref05.Size -/
def ref05_Size (s : List UInt8) (i : Int) (K : (Int × Int) → World → Prop) (w : World) : Prop :=
  opRd Pr (Instr.index 9 (sval s) (.int .i64 i)) (Value.int .u8) (fun t1 =>
  join3 (fun (j2 : Int → Int → Int → World → Prop) =>
  ifB (decide ((IntKind.i64.wrap t1) < 128))
  (K (1, (IntKind.i64.wrap t1)) w)
  (ifB (decide ((IntKind.i64.wrap t1) ≥ 194))
  (ifB (decide ((IntKind.i64.wrap t1) ≤ 223))
  (j2 2 128 (i64 ((IntKind.i64.wrap t1) - 192)) w)
  (ifB (decide ((IntKind.i64.wrap t1) ≥ 224))
  (ifB (decide ((IntKind.i64.wrap t1) ≤ 239))
  (j2 3 2048 (i64 ((IntKind.i64.wrap t1) - 224)) w)
  (ifB (decide ((IntKind.i64.wrap t1) ≥ 240))
  (ifB (decide ((IntKind.i64.wrap t1) ≤ 244))
  (j2 4 65536 (i64 ((IntKind.i64.wrap t1) - 240)) w)
  (K (0, 0) w))
  (K (0, 0) w)))
  (ifB (decide ((IntKind.i64.wrap t1) ≥ 240))
  (ifB (decide ((IntKind.i64.wrap t1) ≤ 244))
  (j2 4 65536 (i64 ((IntKind.i64.wrap t1) - 240)) w)
  (K (0, 0) w))
  (K (0, 0) w))))
  (ifB (decide ((IntKind.i64.wrap t1) ≥ 224))
  (ifB (decide ((IntKind.i64.wrap t1) ≤ 239))
  (j2 3 2048 (i64 ((IntKind.i64.wrap t1) - 224)) w)
  (ifB (decide ((IntKind.i64.wrap t1) ≥ 240))
  (ifB (decide ((IntKind.i64.wrap t1) ≤ 244))
  (j2 4 65536 (i64 ((IntKind.i64.wrap t1) - 240)) w)
  (K (0, 0) w))
  (K (0, 0) w)))
  (ifB (decide ((IntKind.i64.wrap t1) ≥ 240))
  (ifB (decide ((IntKind.i64.wrap t1) ≤ 244))
  (j2 4 65536 (i64 ((IntKind.i64.wrap t1) - 240)) w)
  (K (0, 0) w))
  (K (0, 0) w)))))
  (fun n3 low4 v5 w6 =>
  ifB (decide ((i64 (i + n3)) > ((s : List UInt8).length : Int)))
  (K (0, 0) w6)
  (loop2 (v5 : Int) (1 : Int) (fun v7 k8 k9 w10 =>
  ifB (decide (k8 < n3))
  (opRd Pr (Instr.index 9 (sval s) (.int .i64 (i64 (i + k8)))) (Value.int .u8) (fun t11 =>
  ifB (decide ((IntKind.i64.wrap t11) < 128))
  (K (0, 0) w10)
  (ifB (decide ((IntKind.i64.wrap t11) > 191))
  (K (0, 0) w10)
  (k9 (i64 ((i64 ((i64 (64 * v7)) + (IntKind.i64.wrap t11))) - 128)) (i64 (k8 + 1)) w10))) w10)
  (ifB (decide (v7 < low4))
  (K (0, 0) w10)
  (ifB (decide (v7 > 1114111))
  (K (0, 0) w10)
  (ifB (decide (v7 ≥ 55296))
  (ifB (decide (v7 ≤ 57343))
  (K (0, 0) w10)
  (K (n3, v7) w10))
  (K (n3, v7) w10))))) w6))) w
def ref05_Size_ann : Ann := (.s .d (.s (.r [(2, .rd (rI .u8))]) (.s .d (.sj [(.s 7, (rI .i64)), (.s 8, (rI .i64)), (.s 9, (rI .i64))] (.b (.s .d (.c (.s .d .d) (.s .d (.c .d (.s .d (.c .d (.s .d (.c .d (.s .d .d)))))))))) (.s (.s .d (.c (.s .d .d) .d)) (.s (.s .d (.b (.l [(.s 9, (rI .i64)), (.s 10, (rI .i64))] (.s (.s .d (.c .d .d)) (.s (.b (.s (.r [(4, .rd (rI .u8))]) (.s (.s .d (.c (.s .d .d) .d)) .d))) .d))))) (.s (.s .d (.c (.s .d .d) .d)) (.s .d .d))))))))
theorem ref05_Size_calls {s : List UInt8} {i : Int} {K : (Int × Int) → World → Prop} {w : World} (h : ref05_Size s i K w) : callV Pr (tval2 (Value.int .i64) (Value.int .i64)) 58 #[(sval s), (.int .i64 i)] w K :=
  calls_of Pr_plain Pr_mixed Pr_func58 ref05_Size_ann (rT2 (rI .i64) (rI .i64)) (args := [(sval s), (.int .i64 i)]) (by kernel_rfl) h

/- changeover/changeoverref05.Plain -/
def ref05_Plain (r : Int) (K : Bool → World → Prop) (w : World) : Prop :=
  loop1 (0 : Int) (fun i1 k2 w3 =>
  ifB (decide (i1 < ((cs66_24119 : List UInt8).length : Int)))
  (opRd Pr (Instr.index 9 (sval cs66_24119) (.int .i64 i1)) (Value.int .u8) (fun t4 =>
  ifB ((IntKind.i64.wrap t4) == r)
  (K true w3)
  (k2 (i64 (i1 + 1)) w3)) w3)
  (ifB (decide (r ≥ 161))
  (K (r != 65533) w3)
  (K false w3))) w
def ref05_Plain_ann : Ann := (.s .d (.s .d (.s (.s .d (.b (.l [(.s 4, (rI .i64))] (.s (.s .d (.c .d .d)) (.s (.b (.s (.r [(2, .rd (rI .u8))]) (.c (.s .d .d) .d))) .d))))) (.s .d .d))))
theorem ref05_Plain_calls {r : Int} {K : Bool → World → Prop} {w : World} (h : ref05_Plain r K w) : callV Pr Value.bool 59 #[(.int .i64 r)] w K :=
  calls_of Pr_plain Pr_mixed Pr_func59 ref05_Plain_ann rB (args := [(.int .i64 r)]) (by kernel_rfl) h

/- changeover/changeoverref05.Bad -/
def ref05_Bad (s : List UInt8) (K : Int → World → Prop) (w : World) : Prop :=
  loop1 (0 : Int) (fun i1 k2 w3 =>
  ifB (decide (i1 < ((s : List UInt8).length : Int)))
  (callV Pr (tval2 (Value.int .i64) (Value.int .i64)) 58 #[(sval s), (.int .i64 i1)] w3 fun t4 w5 =>
  ifB (t4.1 == 0)
  (K i1 w5)
  (k2 (i64 (i1 + t4.1)) w5))
  (K (-1) w3)) w
def ref05_Bad_ann : Ann := (.s .d (.s .d (.s (.b (.l [(.s 3, (rI .i64))] (.s (.s .d (.c .d .d)) (.b (.s (.r [(2, .call (rT2 (rI .i64) (rI .i64)))]) (.s (.s .d (.c (.s .d .d) .d)) .d)))))) (.s .d .d))))
theorem ref05_Bad_calls {s : List UInt8} {K : Int → World → Prop} {w : World} (h : ref05_Bad s K w) : callV Pr (Value.int .i64) 60 #[(sval s)] w K :=
  calls_of Pr_plain Pr_mixed Pr_func60 ref05_Bad_ann (rI .i64) (args := [(sval s)]) (by kernel_rfl) h

/- changeover/quote.word -/
def quote_word (line : List UInt8) (K : ((List UInt8) × Bool) → World → Prop) (w : World) : Prop :=
  join0 (fun (j1 : World → Prop) =>
  ifB (!(strEq line []))
  (opRd Pr (Instr.index 9 (sval line) (.int .i64 0)) (Value.int .u8) (fun t2 =>
  ifB (t2 == 34)
  (callV Pr (Value.int .i64) 90 #[(sval line)] w fun n3 w4 =>
  opRd Pr (Instr.sliceAt 9 (sval line) none (some (.int .i64 n3)) none) sval (fun t5 =>
  callV Pr (tval2 sval (Value.int .i64)) 72 #[(sval t5)] w4 fun t6 w7 =>
  opRd Pr (Instr.sliceAt 9 (sval line) none (some (.int .i64 n3)) none) sval (fun t8 =>
  K (t8, (t6.2 == 0)) w7) w7) w4)
  (j1 w)) w)
  (j1 w))
  (fun w9 =>
  callV Pr (tval3 sval sval Value.bool) 91 #[(sval line), (sval [32])] w9 fun t10 w11 =>
  opTy Pr (convert 9 49 (sval t10.1)) Sl.val (fun t12 w13 =>
  loop1 (0 : Int) (fun t14 k15 w16 =>
  ifB (decide (t14 < (t12.len : Int)))
  (opRd Pr (Instr.indexAt 49 t12.val (.int .i64 t14)) pav (fun t17 =>
  opRd Pr (Instr.loadAt 5 (.pointer (some t17))) (Value.int .u8) (fun c18 =>
  ifB (decide (c18 < 32))
  (K ([], false) w16)
  (k15 (i64 (t14 + 1)) w16)) w16) w16)
  (K (t10.1, (!(strEq t10.1 []))) w16)) w13) w11)
def quote_word_ann : Ann := (.s .d (.sj [] (.s (.r [(4, .rd (rI .u8))]) (.c (.s (.r [(1, .call (rI .i64))]) (.s (.r [(2, .rd rS), (3, .call (rT2 rS (rI .i64)))]) (.s (.r [(2, .rd rS)]) .d))) .d)) (.s (.r [(1, .call (rT3 rS rS rB))]) (.s (.s (.r [(1, .ty rSl)]) (.b (.l [(.s 42, (rI .i64))] (.s .d (.s (.c .d .d) (.s (.b (.s (.r [(0, .rd rPA), (1, .rd (rI .u8))]) (.s .d (.c (.s .d .d) .d)))) .d)))))) (.s .d .d)))))
theorem quote_word_calls {line : List UInt8} {K : ((List UInt8) × Bool) → World → Prop} {w : World} (h : quote_word line K w) : callV Pr (tval2 sval Value.bool) 61 #[(sval line)] w K :=
  calls_of Pr_plain Pr_mixed Pr_func61 quote_word_ann (rT2 rS rB) (args := [(sval line)]) (by kernel_rfl) h

/- changeover/cmd.parts$1 -/
def cmd_parts_1 (c : Option Addr) (K : Value → World → Prop) (w : World) : Prop :=
  opRd Pr (nilSem (.pointer c)) pav (fun t1 =>
  K (.iface 66 (.pointer (some (t1.add 1)))) w) w
def cmd_parts_1_ann : Ann := (.s .d (.s (.r [(1, .rd rPA)]) .d))
theorem cmd_parts_1_calls {c : Option Addr} {K : Value → World → Prop} {w : World} (h : cmd_parts_1 c K w) : callV Pr vval 62 #[(.pointer c)] w K :=
  calls_of Pr_plain Pr_mixed Pr_func62 cmd_parts_1_ann rV (args := [(.pointer c)]) (by kernel_rfl) h

/- changeover/cmd.parts$2 -/
def cmd_parts_2 (c : Option Addr) (K : Value → World → Prop) (w : World) : Prop :=
  opRd Pr (nilSem (.pointer c)) pav (fun t1 =>
  K (.iface 66 (.pointer (some (t1.add 2)))) w) w
def cmd_parts_2_ann : Ann := (.s .d (.s (.r [(1, .rd rPA)]) .d))
theorem cmd_parts_2_calls {c : Option Addr} {K : Value → World → Prop} {w : World} (h : cmd_parts_2 c K w) : callV Pr vval 63 #[(.pointer c)] w K :=
  calls_of Pr_plain Pr_mixed Pr_func63 cmd_parts_2_ann rV (args := [(.pointer c)]) (by kernel_rfl) h

/- changeover/runes.Key -/
def runes_Key (s : List UInt8) (K : Bool → World → Prop) (w : World) : Prop :=
  ifB (!(strEq s []))
  (ifB (decide (((s : List UInt8).length : Int) ≤ 24))
  (callV Pr Value.bool 92 #[(sval s)] w fun t1 w2 =>
  ifB t1
  (callV Pr Value.bool 93 #[(sval s), (.func (.func 94) #[] #[])] w2 fun t3 w4 =>
  K t3 w4)
  (K false w2))
  (K false w))
  (K false w)
def runes_Key_ann : Ann := (.s .d (.s (.r [(9, .call rB), (13, .call rB)]) .d))
theorem runes_Key_calls {s : List UInt8} {K : Bool → World → Prop} {w : World} (h : runes_Key s K w) : callV Pr Value.bool 64 #[(sval s)] w K :=
  calls_of Pr_plain Pr_mixed Pr_func64 runes_Key_ann rB (args := [(sval s)]) (by kernel_rfl) h

/- changeover/cmd.parts$3 -/
def cmd_parts_3 (c : Option Addr) (K : Value → World → Prop) (w : World) : Prop :=
  opRd Pr (nilSem (.pointer c)) pav (fun t1 =>
  K (.iface 67 (.pointer (some (t1.add 3)))) w) w
def cmd_parts_3_ann : Ann := (.s .d (.s (.r [(1, .rd rPA)]) .d))
theorem cmd_parts_3_calls {c : Option Addr} {K : Value → World → Prop} {w : World} (h : cmd_parts_3 c K w) : callV Pr vval 65 #[(.pointer c)] w K :=
  calls_of Pr_plain Pr_mixed Pr_func65 cmd_parts_3_ann rV (args := [(.pointer c)]) (by kernel_rfl) h

/- changeover/runes.Val -/
def runes_Val (s : List UInt8) (K : Bool → World → Prop) (w : World) : Prop :=
  ifB (decide (((s : List UInt8).length : Int) ≤ 48))
  (callV Pr Value.bool 92 #[(sval s)] w fun t1 w2 =>
  ifB t1
  (callV Pr Value.bool 93 #[(sval s), (.func (.func 95) #[] #[])] w2 fun t3 w4 =>
  K t3 w4)
  (K false w2))
  (K false w)
def runes_Val_ann : Ann := (.s .d (.s (.r [(5, .call rB), (9, .call rB)]) .d))
theorem runes_Val_calls {s : List UInt8} {K : Bool → World → Prop} {w : World} (h : runes_Val s K w) : callV Pr Value.bool 66 #[(sval s)] w K :=
  calls_of Pr_plain Pr_mixed Pr_func66 runes_Val_ann rB (args := [(sval s)]) (by kernel_rfl) h

/- changeover/cmd.parts$4 -/
def cmd_parts_4 (c : Option Addr) (K : Value → World → Prop) (w : World) : Prop :=
  opRd Pr (nilSem (.pointer c)) pav (fun t1 =>
  K (.iface 67 (.pointer (some (t1.add 5)))) w) w
def cmd_parts_4_ann : Ann := (.s .d (.s (.r [(1, .rd rPA)]) .d))
theorem cmd_parts_4_calls {c : Option Addr} {K : Value → World → Prop} {w : World} (h : cmd_parts_4 c K w) : callV Pr vval 67 #[(.pointer c)] w K :=
  calls_of Pr_plain Pr_mixed Pr_func67 cmd_parts_4_ann rV (args := [(.pointer c)]) (by kernel_rfl) h

/- changeover/cmd.parts$5 -/
def cmd_parts_5 (c : Option Addr) (K : Value → World → Prop) (w : World) : Prop :=
  opRd Pr (nilSem (.pointer c)) pav (fun t1 =>
  K (.iface 67 (.pointer (some (t1.add 4)))) w) w
def cmd_parts_5_ann : Ann := (.s .d (.s (.r [(1, .rd rPA)]) .d))
theorem cmd_parts_5_calls {c : Option Addr} {K : Value → World → Prop} {w : World} (h : cmd_parts_5 c K w) : callV Pr vval 68 #[(.pointer c)] w K :=
  calls_of Pr_plain Pr_mixed Pr_func68 cmd_parts_5_ann rV (args := [(.pointer c)]) (by kernel_rfl) h

/- changeover/cmd.parts$6 -/
def cmd_parts_6 (c : Option Addr) (K : Value → World → Prop) (w : World) : Prop :=
  opRd Pr (nilSem (.pointer c)) pav (fun t1 =>
  K (.iface 66 (.pointer (some (t1.add 6)))) w) w
def cmd_parts_6_ann : Ann := (.s .d (.s (.r [(1, .rd rPA)]) .d))
theorem cmd_parts_6_calls {c : Option Addr} {K : Value → World → Prop} {w : World} (h : cmd_parts_6 c K w) : callV Pr vval 69 #[(.pointer c)] w K :=
  calls_of Pr_plain Pr_mixed Pr_func69 cmd_parts_6_ann rV (args := [(.pointer c)]) (by kernel_rfl) h

/- changeover/cmd.fields -/
def cmd_fields (kind : Int) (K : (Int × Bool) → World → Prop) (w : World) : Prop :=
  join1 (fun (j1 : Bool → World → Prop) =>
  ifB (kind == 1)
  (j1 (kind == 1) w)
  (j1 (kind == 6) w))
  (fun t2 w3 =>
  ifB t2
  (K (0, true) w3)
  (ifB (kind == 2)
  (K (11, true) w3)
  (join1 (fun (j4 : Bool → World → Prop) =>
  ifB (kind == 3)
  (j4 (kind == 3) w3)
  (j4 (kind == 4) w3))
  (fun t5 w6 =>
  ifB t5
  (K (3, true) w6)
  (ifB (kind == 5)
  (K (15, true) w6)
  (ifB (kind == 7)
  (ifB (kind == 7)
  (K (16, true) w6)
  (K (0, false) w6))
  (ifB (kind == 8)
  (K (16, true) w6)
  (K (0, false) w6))))))))
def cmd_fields_ann : Ann := (.s .d (.s (.s .d (.b (.sj [(.s 5, rB)] (.s .d (.c .d .d)) (.c (.s .d .d) (.s .d (.c (.s .d .d) (.sj [(.s 10, rB)] (.s .d (.c .d .d)) (.c (.s .d .d) (.s .d (.c (.s .d .d) (.s (.s .d (.c .d .d)) (.c (.s .d .d) .d)))))))))))) (.s .d .d)))
theorem cmd_fields_calls {kind : Int} {K : (Int × Bool) → World → Prop} {w : World} (h : cmd_fields kind K w) : callV Pr (tval2 (Value.int .i64) Value.bool) 70 #[(.int .i64 kind)] w K :=
  calls_of Pr_plain Pr_mixed Pr_func70 cmd_fields_ann (rT2 (rI .i64) rB) (args := [(.int .i64 kind)]) (by kernel_rfl) h

/- strconv.Atoi -/
def strconv_Atoi (s : List UInt8) (K : (Int × Value) → World → Prop) (w : World) : Prop :=
  callV Pr (tval2 (Value.int .i64) vval) 96 #[(sval s)] w fun t1 w2 =>
  opRd Pr (binSem .neq 97 (.tmp 11) (.const .nilIface) t1.2 .nilIface) Value.bool (fun t3 =>
  ifB t3
  (callV Pr vval 97 #[(sval [65, 116, 111, 105]), (sval s), (.int .i64 0), (.int .i64 0), t1.2] w2 fun t4 w5 =>
  K (t1.1, t4) w5)
  (K (t1.1, .nilIface) w2)) w2
def strconv_Atoi_ann : Ann := (.s .d (.s (.r [(1, .call (rT2 (rI .i64) rV))]) (.s (.s (.r [(1, .rd rB)]) (.c (.s (.r [(3, .call rV)]) .d) .d)) (.s .d .d))))
theorem strconv_Atoi_calls {s : List UInt8} {K : (Int × Value) → World → Prop} {w : World} (h : strconv_Atoi s K w) : callV Pr (tval2 (Value.int .i64) vval) 71 #[(sval s)] w K :=
  calls_of Pr_plain Pr_mixed Pr_func71 strconv_Atoi_ann (rT2 (rI .i64) rV) (args := [(sval s)]) (by kernel_rfl) h

/- changeover/quote.Unquote -/
def quote_Unquote (s : List UInt8) (K : ((List UInt8) × Int) → World → Prop) (w : World) : Prop :=
  loop2 (Sl.nil : Sl) (1 : Int) (fun out1 i2 k3 w4 =>
  ifB (decide (i2 < (i64 (((s : List UInt8).length : Int) - 1))))
  (opRd Pr (Instr.index 9 (sval s) (.int .i64 i2)) (Value.int .u8) (fun c5 =>
  ifB (c5 == 92)
  (opRd Pr (Instr.sliceAt 9 (sval s) (some (.int .i64 (i64 (i2 + 1)))) (some (.int .i64 (i64 (((s : List UInt8).length : Int) - 1)))) none) sval (fun t6 =>
  callV Pr (tval2 (Value.int .u8) (Value.int .i64)) 98 #[(sval t6)] w4 fun t7 w8 =>
  ifB (t7.2 == 0)
  (K ([], 3) w8)
  (opTy Pr (Instr.buildSlice 49 1 #[(0, (.int .u8 t7.1))]) Sl.val (fun t9 w10 =>
  opTy Pr (Builtin.append_ #[49, 49] 49 #[out1.val, t9.val]) Sl.val (fun out11 w12 =>
  k3 out11 (i64 ((i64 (i2 + t7.2)) + 1)) w12) w10) w8)) w4)
  (opTy Pr (Instr.buildSlice 49 1 #[(0, (.int .u8 c5))]) Sl.val (fun t13 w14 =>
  opTy Pr (Builtin.append_ #[49, 49] 49 #[out1.val, t13.val]) Sl.val (fun out15 w16 =>
  k3 out15 (i64 (i2 + 1)) w16) w14) w4)) w4)
  (ifB (decide (((s : List UInt8).length : Int) < 2))
  (K ([], 3) w4)
  (opRd Pr (convert 49 9 out1.val) sval (fun t17 =>
  callV Pr sval 37 #[(sval t17)] w4 fun t18 w19 =>
  ifB (!(strEq t18 s))
  (K ([], 3) w19)
  (opRd Pr (convert 49 9 out1.val) sval (fun t20 =>
  K (t20, 0) w19) w19)) w4))) w
def quote_Unquote_ann : Ann := (.s .d (.s .d (.s (.s .d (.b (.l [(.s 4, rSl), (.s 5, (rI .i64))] (.s (.s .d (.c .d .d)) (.s (.b (.s (.r [(2, .rd (rI .u8))]) (.s (.s .d (.c (.s (.r [(6, .rd rS), (7, .call (rT2 (rI .u8) (rI .i64)))]) (.s (.s .d (.c (.s .d .d) .d)) (.s .d .d))) .d)) (.r [(2, .ty rSl), (3, .ty rSl)])))) .d))))) (.s (.s (.r [(5, .rd rS), (6, .call rS)]) (.c (.s .d .d) .d)) (.s (.r [(1, .rd rS)]) .d)))))
theorem quote_Unquote_calls {s : List UInt8} {K : ((List UInt8) × Int) → World → Prop} {w : World} (h : quote_Unquote s K w) : callV Pr (tval2 sval (Value.int .i64)) 72 #[(sval s)] w K :=
  calls_of Pr_plain Pr_mixed Pr_func72 quote_Unquote_ann (rT2 rS (rI .i64)) (args := [(sval s)]) (by kernel_rfl) h

/- internal/strconv.Itoa -/
def internal_strconv_Itoa (i : Int) (K : (List UInt8) → World → Prop) (w : World) : Prop :=
  callV Pr sval 99 #[(.int .i64 i), (.int .i64 10)] w fun t1 w2 =>
  K t1 w2
def internal_strconv_Itoa_ann : Ann := (.s .d (.s (.r [(1, .call rS)]) .d))
theorem internal_strconv_Itoa_calls {i : Int} {K : (List UInt8) → World → Prop} {w : World} (h : internal_strconv_Itoa i K w) : callV Pr sval 75 #[(.int .i64 i)] w K :=
  calls_of Pr_plain Pr_mixed Pr_func75 internal_strconv_Itoa_ann rS (args := [(.int .i64 i)]) (by kernel_rfl) h

/- (*strings.Builder).WriteByte -/
def strings_Builder_WriteByte (b : Option Addr) (c : Int) (K : Value → World → Prop) (w : World) : Prop :=
  callV Pr uval 85 #[(.pointer b)] w fun t1 w2 =>
  opRd Pr (nilSem (.pointer b)) pav (fun t3 =>
  opRd Pr (Instr.loadAt 49 (.pointer (some (t3.add 1)))) Sl.val (fun t4 =>
  opTy Pr (Instr.buildSlice 49 1 #[(0, (.int .u8 c))]) Sl.val (fun t5 w6 =>
  opTy Pr (Builtin.append_ #[49, 49] 49 #[t4.val, t5.val]) Sl.val (fun t7 w8 =>
  opRd Pr (nilSem (.pointer b)) pav (fun t9 =>
  opUn Pr (Instr.storeAt 49 (.pointer (some (t9.add 1))) t7.val) (fun w10 =>
  K .nilIface w10) w8) w8) w6) w2) w2) w2
def strings_Builder_WriteByte_ann : Ann := (.s .d (.s (.r [(1, .call rU)]) (.s (.r [(2, .rd rPA), (4, .rd rSl), (6, .ty rSl), (7, .ty rSl), (8, .rd rPA), (10, .un)]) (.s .d .d))))
theorem strings_Builder_WriteByte_calls {b : Option Addr} {c : Int} {K : Value → World → Prop} {w : World} (h : strings_Builder_WriteByte b c K w) : callV Pr vval 76 #[(.pointer b), (.int .u8 c)] w K :=
  calls_of Pr_plain Pr_mixed Pr_func76 strings_Builder_WriteByte_ann rV (args := [(.pointer b), (.int .u8 c)]) (by kernel_rfl) h

/- unicode/utf8.DecodeRuneInString -/
def unicode_utf8_DecodeRuneInString (s : List UInt8) (K : (Int × Int) → World → Prop) (w : World) : Prop :=
  ifB (!(strEq s []))
  (opRd Pr (Instr.index 9 (sval s) (.int .i64 0)) (Value.int .u8) (fun t1 =>
  ifB (decide (t1 < 128))
  (opRd Pr (Instr.index 9 (sval s) (.int .i64 0)) (Value.int .u8) (fun t2 =>
  K ((IntKind.i32.wrap t2), 1) w) w)
  (callV Pr (tval2 (Value.int .i32) (Value.int .i64)) 100 #[(sval s)] w fun t3 w4 =>
  K (t3.1, t3.2) w4)) w)
  (callV Pr (tval2 (Value.int .i32) (Value.int .i64)) 100 #[(sval s)] w fun t5 w6 =>
  K (t5.1, t5.2) w6)
def unicode_utf8_DecodeRuneInString_ann : Ann := (.s .d (.s (.s (.r [(4, .rd (rI .u8))]) (.c (.s (.r [(1, .rd (rI .u8))]) .d) (.r [(1, .call (rT2 (rI .i32) (rI .i64)))]))) .d))
theorem unicode_utf8_DecodeRuneInString_calls {s : List UInt8} {K : (Int × Int) → World → Prop} {w : World} (h : unicode_utf8_DecodeRuneInString s K w) : callV Pr (tval2 (Value.int .i32) (Value.int .i64)) 77 #[(sval s)] w K :=
  calls_of Pr_plain Pr_mixed Pr_func77 unicode_utf8_DecodeRuneInString_ann (rT2 (rI .i32) (rI .i64)) (args := [(sval s)]) (by kernel_rfl) h

/- changeover/quote.escape -/
def quote_escape (r : Int) (s : List UInt8) (K : (List UInt8) → World → Prop) (w : World) : Prop :=
  join1 (fun (j1 : Bool → World → Prop) =>
  ifB (r == 34)
  (j1 (r == 34) w)
  (j1 (r == 92) w))
  (fun t2 w3 =>
  ifB t2
  (opRd Pr (binSem .add 9 (.const (sval [92])) (.tmp 10) (sval [92]) (sval s)) sval (fun t4 =>
  K t4 w3) w3)
  (ifB (decide (r < 32))
  (ifB (decide (r < 32))
  (opRd Pr (Instr.index 9 (sval s) (.int .i64 0)) (Value.int .u8) (fun t5 =>
  callV Pr sval 101 #[(.int .u8 t5)] w3 fun t6 w7 =>
  K t6 w7) w3)
  (K s w3))
  (ifB (r == 127)
  (ifB (r == 127)
  (opRd Pr (Instr.index 9 (sval s) (.int .i64 0)) (Value.int .u8) (fun t8 =>
  callV Pr sval 101 #[(.int .u8 t8)] w3 fun t9 w10 =>
  K t9 w10) w3)
  (K s w3))
  (ifB (r == 65533)
  (ifB (((s : List UInt8).length : Int) == 1)
  (opRd Pr (Instr.index 9 (sval s) (.int .i64 0)) (Value.int .u8) (fun t11 =>
  callV Pr sval 101 #[(.int .u8 t11)] w3 fun t12 w13 =>
  K t12 w13) w3)
  (K s w3))
  (K s w3)))))
def quote_escape_ann : Ann := (.s .d (.s (.b (.sj [(.s 5, rB)] (.s .d (.c .d .d)) (.c (.s (.r [(1, .rd rS)]) .d) (.s (.s .d (.c .d (.s .d (.c .d .d)))) (.c (.s (.r [(1, .rd (rI .u8)), (2, .call rS)]) .d) .d))))) (.s .d .d)))
theorem quote_escape_calls {r : Int} {s : List UInt8} {K : (List UInt8) → World → Prop} {w : World} (h : quote_escape r s K w) : callV Pr sval 78 #[(.int .i32 r), (sval s)] w K :=
  calls_of Pr_plain Pr_mixed Pr_func78 quote_escape_ann rS (args := [(.int .i32 r), (sval s)]) (by kernel_rfl) h

/- strings.Join -/
def strings_Join (elems : Sl) (sep : List UInt8) (K : (List UInt8) → World → Prop) (w : World) : Prop :=
  ifB ((elems.len : Int) == 0)
  (K [] w)
  (ifB ((elems.len : Int) == 1)
  (opRd Pr (Instr.indexAt 53 elems.val (.int .i64 0)) pav (fun t1 =>
  opRd Pr (Instr.loadAt 9 (.pointer (some t1))) sval (fun t2 =>
  K t2 w) w) w)
  (join1 (fun (j3 : Int → World → Prop) =>
  ifB (decide (((sep : List UInt8).length : Int) > 0))
  (opRd Pr (binSem .quo 3 (.const (.int .i64 9223372036854775807)) (.tmp 27) (.int .i64 9223372036854775807) (.int .i64 (i64 ((elems.len : Int) - 1)))) (Value.int .i64) (fun t4 =>
  ifB (decide (((sep : List UInt8).length : Int) ≥ t4))
  (False)
  (j3 (i64 (0 + (i64 (((sep : List UInt8).length : Int) * (i64 ((elems.len : Int) - 1)))))) w)) w)
  (j3 0 w))
  (fun n5 w6 =>
  loop2 (n5 : Int) (0 : Int) (fun n7 t8 k9 w10 =>
  ifB (decide (t8 < (elems.len : Int)))
  (opRd Pr (Instr.indexAt 53 elems.val (.int .i64 t8)) pav (fun t11 =>
  opRd Pr (Instr.loadAt 9 (.pointer (some t11))) sval (fun elem12 =>
  ifB (decide (((elem12 : List UInt8).length : Int) > (i64 (9223372036854775807 - n7))))
  (False)
  (k9 (i64 (n7 + ((elem12 : List UInt8).length : Int))) (i64 (t8 + 1)) w10)) w10) w10)
  (opTy Pr (Instr.alloc 95 true (.tuple #[])) pav (fun b13 w14 =>
  callV Pr uval 102 #[(.pointer (some b13)), (.int .i64 n7)] w14 fun t15 w16 =>
  opRd Pr (Instr.indexAt 53 elems.val (.int .i64 0)) pav (fun t17 =>
  opRd Pr (Instr.loadAt 9 (.pointer (some t17))) sval (fun t18 =>
  callV Pr (tval2 (Value.int .i64) vval) 52 #[(.pointer (some b13)), (sval t18)] w16 fun t19 w20 =>
  opRd Pr (Instr.sliceAt 53 elems.val (some (.int .i64 1)) none none) Sl.val (fun t21 =>
  loop1 (0 : Int) (fun t22 k23 w24 =>
  ifB (decide (t22 < (t21.len : Int)))
  (opRd Pr (Instr.indexAt 53 t21.val (.int .i64 t22)) pav (fun t25 =>
  opRd Pr (Instr.loadAt 9 (.pointer (some t25))) sval (fun s26 =>
  callV Pr (tval2 (Value.int .i64) vval) 52 #[(.pointer (some b13)), (sval sep)] w24 fun t27 w28 =>
  callV Pr (tval2 (Value.int .i64) vval) 52 #[(.pointer (some b13)), (sval s26)] w28 fun t29 w30 =>
  k23 (i64 (t22 + 1)) w30) w24) w24)
  (callV Pr sval 53 #[(.pointer (some b13))] w24 fun t31 w32 =>
  K t31 w32)) w20) w20) w16) w16) w10)) w6)))
def strings_Join_ann : Ann := (.s .d (.s (.s .d (.b (.s .d (.c (.s .d .d) (.s .d (.c (.s (.r [(1, .rd rPA), (2, .rd rS)]) .d) .d)))))) (.s .d (.sj [(.s 5, (rI .i64))] (.s .d (.c (.s (.s (.r [(5, .rd (rI .i64))]) (.c .d .d)) .d) .d)) (.s (.s .d (.b (.l [(.s 5, (rI .i64)), (.s 41, (rI .i64))] (.s .d (.s (.c .d .d) (.s (.b (.s (.r [(0, .rd rPA), (1, .rd rS)]) (.s (.s .d (.c .d .d)) .d))) .d)))))) (.s (.r [(0, .ty rPA)]) (.s (.r [(1, .call rU)]) (.s (.r [(1, .rd rPA), (2, .rd rS), (3, .call (rT2 (rI .i64) rV))]) (.s (.s (.r [(1, .rd rSl)]) (.b (.l [(.s 65, (rI .i64))] (.s .d (.s (.c .d .d) (.s (.b (.s (.r [(0, .rd rPA), (1, .rd rS)]) (.s (.r [(1, .call (rT2 (rI .i64) rV))]) (.r [(1, .call (rT2 (rI .i64) rV))])))) .d)))))) (.s (.r [(0, .call rS)]) .d))))))))))
theorem strings_Join_calls {elems : Sl} {sep : List UInt8} {K : (List UInt8) → World → Prop} {w : World} (h : strings_Join elems sep K w) : callV Pr sval 79 #[elems.val, (sval sep)] w K :=
  calls_of Pr_plain Pr_mixed Pr_func79 strings_Join_ann rS (args := [elems.val, (sval sep)]) (by kernel_rfl) h

/- changeover/cmd.Owned -/
def cmd_Owned (c : ApiCmd) (K : Bool → World → Prop) (w : World) : Prop :=
  newV (fun b1 w2 =>
  callV Pr (tval2 (Value.int .i64) Value.bool) 70 #[(.int .i64 c.Kind)] w2 fun t3 w4 =>
  kp b1 w2 w4 <|
  K ((bAnd .i64 t3.1 1) != 0) w4) w
def cmd_Owned_ann : Ann := (.s (.r [(0, .nl 1)]) (.s (.r [(2, .call (rT2 (rI .i64) rB))]) (.s .d .d)))
theorem cmd_Owned_calls {c : ApiCmd} {K : Bool → World → Prop} {w : World} (h : cmd_Owned c K w) : callV Pr Value.bool 80 #[(.agg ⟨c.cs⟩)] w K :=
  calls_of Pr_plain Pr_mixed Pr_func80 cmd_Owned_ann rB (args := [(.agg ⟨c.cs⟩)]) (by kernel_rfl) h

/- changeover/script.numbered -/
def script_numbered (c : ApiCmd) (seq : Int) (K : ApiCmd → World → Prop) (w : World) : Prop :=
  newV (fun b1 w2 =>
  newV (fun b3 w4 =>
  wrM b1 (fun w5 =>
  wrM b3 (fun w6 =>
  K (ApiCmd.mk c.Kind c.Client seq c.Key c.Val c.Old c.Node) w6) w5) w4) w2) w
def script_numbered_ann : Ann := (.s (.r [(0, .nl 2), (1, .nl 4)]) (.s (.r [(2, .ls 2)]) (.s (.r [(1, .ls 4)]) .d)))
theorem script_numbered_calls {c : ApiCmd} {seq : Int} {K : ApiCmd → World → Prop} {w : World} (h : script_numbered c seq K w) : callV Pr ApiCmd.val 81 #[(.agg ⟨c.cs⟩), (.int .i64 seq)] w K :=
  calls_of Pr_plain Pr_mixed Pr_func81 script_numbered_ann rApiCmd (args := [(.agg ⟨c.cs⟩), (.int .i64 seq)]) (by kernel_rfl) h

/- strings.Lines$1 -/
def strings_Lines_1 (yield : Value) (c_x0 : Addr) (K : Unit → World → Prop) (w : World) : Prop :=
  loop0 (fun k1 w2 =>
  opRd Pr (Instr.loadAt 9 (.pointer (some c_x0))) sval (fun t3 =>
  ifB (decide (((t3 : List UInt8).length : Int) > 0))
  (opRd Pr (Instr.loadAt 9 (.pointer (some c_x0))) sval (fun t4 =>
  callV Pr (Value.int .i64) 83 #[(sval t4), (.int .u8 10)] w2 fun i5 w6 =>
  ifB (decide (i5 ≥ 0))
  (heldM (fun S8 w7 =>
  (opRd Pr (Instr.loadAt 9 (.pointer (some c_x0))) sval (fun t9 =>
  (S8 w7) ∧
  (opH Pr S8 (Instr.sliceAt 9 (sval t9) none (some (.int .i64 (i64 (i5 + 1)))) none) sval (fun line10 =>
  opRd Pr (Instr.loadAt 9 (.pointer (some c_x0))) sval (fun t11 =>
  (S8 w7) ∧
  (opH Pr S8 (Instr.sliceAt 9 (sval t11) (some (.int .i64 (i64 (i5 + 1)))) none none) sval (fun t12 =>
  opUn Pr (Instr.storeAt 9 (.pointer (some c_x0)) (sval t12)) (fun w13 =>
  (S8 w13) ∧
  (callF Pr Value.bool yield #[(sval line10)] w13 fun t14 w15 =>
  ifB (!t14)
  (K () w15)
  (k1 w15))) w7))) w7))) w7) ∧
  (opRd Pr (Instr.loadAt 9 (.pointer (some c_x0))) sval (fun t16 =>
  (S8 w7) ∧
  (opH Pr S8 (Instr.sliceAt 9 (sval t16) (some (.int .i64 (i64 (i5 + 1)))) none none) sval (fun t17 =>
  opRd Pr (Instr.loadAt 9 (.pointer (some c_x0))) sval (fun t18 =>
  (S8 w7) ∧
  (opH Pr S8 (Instr.sliceAt 9 (sval t18) none (some (.int .i64 (i64 (i5 + 1)))) none) sval (fun line19 =>
  opUn Pr (Instr.storeAt 9 (.pointer (some c_x0)) (sval t17)) (fun w20 =>
  (S8 w20) ∧
  (callF Pr Value.bool yield #[(sval line19)] w20 fun t21 w22 =>
  ifB (!t21)
  (K () w22)
  (k1 w22))) w7))) w7))) w7)) w6)
  (opRd Pr (Instr.loadAt 9 (.pointer (some c_x0))) sval (fun line23 =>
  opUn Pr (Instr.storeAt 9 (.pointer (some c_x0)) (sval [])) (fun w24 =>
  callF Pr Value.bool yield #[(sval line23)] w24 fun t25 w26 =>
  ifB (!t25)
  (K () w26)
  (k1 w26)) w6) w6)) w2)
  (K () w2)) w2) w
def strings_Lines_1_ann : Ann := (.b (.l [] (.s (.s (.r [(0, .rd rS)]) (.c .d .d)) (.b (.s .d (.s (.s (.r [(0, .rd rS), (1, .call (rI .i64))]) (.s .d (.c (.h (.take 1 (.take 2 (.take 5 (.take 6 (.two 0 (.take 3 (.take 8 (.one 4 (.take 7 (.one 9 .done))))) 4 (.take 7 (.one 0 (.take 3 (.take 8 (.one 9 .done)))))))))) [(0, .rd rS), (3, .rd rS), (4, .rd rS), (7, .rd rS), (9, .un)]) (.r [(0, .rd rS), (2, .un)])))) (.s (.r [(2, .callf rB)]) (.c .d .d))))))))
theorem strings_Lines_1_calls {yield : Value} {c_x0 : Addr} {K : Unit → World → Prop} {w : World} (h : strings_Lines_1 yield c_x0 K w) : callV Pr uval 82 #[yield, (.pointer (some c_x0))] w K :=
  calls_of Pr_plain Pr_mixed Pr_func82 strings_Lines_1_ann rU (args := [yield, (.pointer (some c_x0))]) (by kernel_rfl) h

/- strings.IndexByte -/
def strings_IndexByte (s : List UInt8) (c : Int) (K : Int → World → Prop) (w : World) : Prop :=
  callV Pr (Value.int .i64) 103 #[(sval s), (.int .u8 c)] w fun t1 w2 =>
  K t1 w2
def strings_IndexByte_ann : Ann := (.s .d (.s (.r [(2, .call (rI .i64))]) .d))
theorem strings_IndexByte_calls {s : List UInt8} {c : Int} {K : Int → World → Prop} {w : World} (h : strings_IndexByte s c K w) : callV Pr (Value.int .i64) 83 #[(sval s), (.int .u8 c)] w K :=
  calls_of Pr_plain Pr_mixed Pr_func83 strings_IndexByte_ann (rI .i64) (args := [(sval s), (.int .u8 c)]) (by kernel_rfl) h

/- internal/stringslite.CutSuffix -/
def internal_stringslite_CutSuffix (s : List UInt8) (suffix : List UInt8) (K : ((List UInt8) × Bool) → World → Prop) (w : World) : Prop :=
  callV Pr Value.bool 104 #[(sval s), (sval suffix)] w fun t1 w2 =>
  ifB (!t1)
  (K (s, false) w2)
  (opRd Pr (Instr.sliceAt 9 (sval s) none (some (.int .i64 (i64 (((s : List UInt8).length : Int) - ((suffix : List UInt8).length : Int))))) none) sval (fun before3 =>
  K (before3, true) w2) w2)
def internal_stringslite_CutSuffix_ann : Ann := (.s .d (.s (.s (.r [(2, .call rB)]) (.c (.s .d .d) .d)) (.s (.r [(6, .rd rS)]) .d)))
theorem internal_stringslite_CutSuffix_calls {s : List UInt8} {suffix : List UInt8} {K : ((List UInt8) × Bool) → World → Prop} {w : World} (h : internal_stringslite_CutSuffix s suffix K w) : callV Pr (tval2 sval Value.bool) 84 #[(sval s), (sval suffix)] w K :=
  calls_of Pr_plain Pr_mixed Pr_func84 internal_stringslite_CutSuffix_ann (rT2 rS rB) (args := [(sval s), (sval suffix)]) (by kernel_rfl) h

/- (*strings.Builder).copyCheck -/
def strings_Builder_copyCheck (b : Option Addr) (K : Unit → World → Prop) (w : World) : Prop :=
  opRd Pr (nilSem (.pointer b)) pav (fun t1 =>
  opRd Pr (Instr.loadAt 93 (.pointer (some (t1.add 0)))) Value.pointer (fun t2 =>
  opRd Pr (binSem .eql 93 (.tmp 5) (.const (.pointer none)) (.pointer t2) (.pointer none)) Value.bool (fun t3 =>
  ifB t3
  (opTy Pr (convert 93 140 (.pointer b)) Value.pointer (fun t4 w5 =>
  opEx Pr 105 #[(.pointer t4)] Value.pointer (fun t6 w7 =>
  opTy Pr (convert 140 93 (.pointer t6)) Value.pointer (fun t8 w9 =>
  opRd Pr (nilSem (.pointer b)) pav (fun t10 =>
  opUn Pr (Instr.storeAt 93 (.pointer (some (t10.add 0))) (.pointer t8)) (fun w11 =>
  K () w11) w9) w9) w7) w5) w)
  (opRd Pr (nilSem (.pointer b)) pav (fun t12 =>
  opRd Pr (Instr.loadAt 93 (.pointer (some (t12.add 0)))) Value.pointer (fun t13 =>
  opRd Pr (binSem .neq 93 (.tmp 17) (.tmp 18) (.pointer t13) (.pointer b)) Value.bool (fun t14 =>
  ifB t14
  (False)
  (K () w)) w) w) w)) w) w) w
def strings_Builder_copyCheck_ann : Ann := (.s (.r [(1, .rd rPA), (3, .rd rP), (4, .rd rB)]) (.c (.r [(2, .ty rP), (3, .ext rP), (4, .ty rP), (5, .rd rPA), (7, .un)]) (.s (.r [(1, .rd rPA), (3, .rd rP), (5, .rd rB)]) (.c .d .d))))
theorem strings_Builder_copyCheck_calls {b : Option Addr} {K : Unit → World → Prop} {w : World} (h : strings_Builder_copyCheck b K w) : callV Pr uval 85 #[(.pointer b)] w K :=
  calls_of Pr_plain Pr_mixed Pr_func85 strings_Builder_copyCheck_ann rU (args := [(.pointer b)]) (by kernel_rfl) h

/- changeover/quote.quoted -/
def quote_quoted (line : List UInt8) (K : Int → World → Prop) (w : World) : Prop :=
  loop1 (1 : Int) (fun i1 k2 w3 =>
  ifB (decide (i1 < ((line : List UInt8).length : Int)))
  (opRd Pr (Instr.index 9 (sval line) (.int .i64 i1)) (Value.int .u8) (fun t4 =>
  ifB (t4 == 92)
  (k2 (i64 ((i64 (i1 + 1)) + 1)) w3)
  (ifB (t4 == 34)
  (K (i64 (i1 + 1)) w3)
  (k2 (i64 (i1 + 1)) w3))) w3)
  (K 0 w3)) w
def quote_quoted_ann : Ann := (.s .d (.s (.s .d (.b (.l [(.s 3, (rI .i64))] (.s (.s .d (.c .d .d)) (.s (.b (.s (.r [(2, .rd (rI .u8))]) (.b (.s .d (.c .d (.s .d (.c (.s .d .d) .d))))))) .d))))) (.s .d .d)))
theorem quote_quoted_calls {line : List UInt8} {K : Int → World → Prop} {w : World} (h : quote_quoted line K w) : callV Pr (Value.int .i64) 90 #[(sval line)] w K :=
  calls_of Pr_plain Pr_mixed Pr_func90 quote_quoted_ann (rI .i64) (args := [(sval line)]) (by kernel_rfl) h

/- strings.Cut -/
def strings_Cut (s : List UInt8) (sep : List UInt8) (K : ((List UInt8) × (List UInt8) × Bool) → World → Prop) (w : World) : Prop :=
  callV Pr (tval3 sval sval Value.bool) 108 #[(sval s), (sval sep)] w fun t1 w2 =>
  K (t1.1, t1.2.1, t1.2.2) w2
def strings_Cut_ann : Ann := (.s .d (.s (.r [(2, .call (rT3 rS rS rB))]) .d))
theorem strings_Cut_calls {s : List UInt8} {sep : List UInt8} {K : ((List UInt8) × (List UInt8) × Bool) → World → Prop} {w : World} (h : strings_Cut s sep K w) : callV Pr (tval3 sval sval Value.bool) 91 #[(sval s), (sval sep)] w K :=
  calls_of Pr_plain Pr_mixed Pr_func91 strings_Cut_ann (rT3 rS rS rB) (args := [(sval s), (sval sep)]) (by kernel_rfl) h

/- changeover/runes.Whole -/
def runes_Whole (s : List UInt8) (K : Bool → World → Prop) (w : World) : Prop :=
  callV Pr (Value.int .i64) 109 #[(sval s)] w fun t1 w2 =>
  K (decide (t1 < 0)) w2
def runes_Whole_ann : Ann := (.s .d (.s (.r [(1, .call (rI .i64))]) .d))
theorem runes_Whole_calls {s : List UInt8} {K : Bool → World → Prop} {w : World} (h : runes_Whole s K w) : callV Pr Value.bool 92 #[(sval s)] w K :=
  calls_of Pr_plain Pr_mixed Pr_func92 runes_Whole_ann rB (args := [(sval s)]) (by kernel_rfl) h

/- changeover/runes.Plain -/
def runes_Plain (r : Int) (K : Bool → World → Prop) (w : World) : Prop :=
  join1 (fun (j1 : Bool → World → Prop) =>
  ifB (decide (r ≥ 97))
  (ifB (decide (r ≤ 122))
  (j1 (decide (r ≤ 122)) w)
  (ifB (decide (r ≥ 65))
  (ifB (decide (r ≤ 90))
  (j1 (decide (r ≤ 90)) w)
  (ifB (decide (r ≥ 48))
  (j1 (decide (r ≤ 57)) w)
  (j1 false w)))
  (ifB (decide (r ≥ 48))
  (j1 (decide (r ≤ 57)) w)
  (j1 false w))))
  (ifB (decide (r ≥ 65))
  (ifB (decide (r ≤ 90))
  (j1 (decide (r ≤ 90)) w)
  (ifB (decide (r ≥ 48))
  (j1 (decide (r ≤ 57)) w)
  (j1 false w)))
  (ifB (decide (r ≥ 48))
  (j1 (decide (r ≤ 57)) w)
  (j1 false w))))
  (fun t2 w3 =>
  ifB t2
  (K true w3)
  (ifB (r == 45)
  (ifB (r == 45)
  (K true w3)
  (ifB (decide (r ≥ 161))
  (K (r != 65533) w3)
  (K false w3)))
  (ifB (r == 95)
  (ifB (r == 95)
  (K true w3)
  (ifB (decide (r ≥ 161))
  (K (r != 65533) w3)
  (K false w3)))
  (ifB (r == 46)
  (ifB (r == 46)
  (K true w3)
  (ifB (decide (r ≥ 161))
  (K (r != 65533) w3)
  (K false w3)))
  (ifB (r == 58)
  (K true w3)
  (ifB (decide (r ≥ 161))
  (K (r != 65533) w3)
  (K false w3)))))))
def runes_Plain_ann : Ann := (.s .d (.s (.b (.sj [(.s 3, rB)] (.s .d (.c .d (.s .d (.c .d .d)))) (.c (.s .d .d) (.s (.s .d (.c .d (.s .d (.c .d (.s .d (.c .d .d)))))) (.c (.s .d .d) .d))))) (.s .d .d)))
theorem runes_Plain_calls {r : Int} {K : Bool → World → Prop} {w : World} (h : runes_Plain r K w) : callV Pr Value.bool 94 #[(.int .i32 r)] w K :=
  calls_of Pr_plain Pr_mixed Pr_func94 runes_Plain_ann rB (args := [(.int .i32 r)]) (by kernel_rfl) h

/- changeover/runes.Val$1 -/
def runes_Val_1 (r : Int) (K : Bool → World → Prop) (w : World) : Prop :=
  ifB (decide (r ≥ 32))
  (K (r != 127) w)
  (K false w)
def runes_Val_1_ann : Ann := (.s .d (.s .d .d))
theorem runes_Val_1_calls {r : Int} {K : Bool → World → Prop} {w : World} (h : runes_Val_1 r K w) : callV Pr Value.bool 95 #[(.int .i32 r)] w K :=
  calls_of Pr_plain Pr_mixed Pr_func95 runes_Val_1_ann rB (args := [(.int .i32 r)]) (by kernel_rfl) h

/- internal/strconv.Atoi -/
def internal_strconv_Atoi (s : List UInt8) (K : (Int × Value) → World → Prop) (w : World) : Prop :=
  join1 (fun (j1 : (List UInt8) → World → Prop) =>
  ifB (decide ((0 : Int) < ((s : List UInt8).length : Int)))
  (ifB (decide (((s : List UInt8).length : Int) < 19))
  (join1 (fun (j2 : (List UInt8) → World → Prop) =>
  opRd Pr (Instr.index 9 (sval s) (.int .i64 0)) (Value.int .u8) (fun t3 =>
  ifB (t3 == 45)
  (opRd Pr (Instr.sliceAt 9 (sval s) (some (.int .i64 1)) none none) sval (fun s4 =>
  ifB (decide (((s4 : List UInt8).length : Int) < 1))
  (K (0, (.iface 144 (.int .i64 2))) w)
  (j2 s4 w)) w)
  (opRd Pr (Instr.index 9 (sval s) (.int .i64 0)) (Value.int .u8) (fun t5 =>
  ifB (t5 == 43)
  (opRd Pr (Instr.sliceAt 9 (sval s) (some (.int .i64 1)) none none) sval (fun s6 =>
  ifB (decide (((s6 : List UInt8).length : Int) < 1))
  (K (0, (.iface 144 (.int .i64 2))) w)
  (j2 s6 w)) w)
  (j2 s w)) w)) w)
  (fun s7 w8 =>
  opTy Pr (convert 9 49 (sval s7)) Sl.val (fun t9 w10 =>
  loop2 (0 : Int) (0 : Int) (fun n11 t12 k13 w14 =>
  ifB (decide (t12 < (t9.len : Int)))
  (opRd Pr (Instr.indexAt 49 t9.val (.int .i64 t12)) pav (fun t15 =>
  opRd Pr (Instr.loadAt 5 (.pointer (some t15))) (Value.int .u8) (fun ch16 =>
  ifB (decide ((IntKind.u8.wrap (ch16 - 48)) > 9))
  (K (0, (.iface 144 (.int .i64 2))) w14)
  (k13 (i64 ((i64 (n11 * 10)) + (IntKind.i64.wrap (IntKind.u8.wrap (ch16 - 48))))) (i64 (t12 + 1)) w14)) w14) w14)
  (opRd Pr (Instr.index 9 (sval s) (.int .i64 0)) (Value.int .u8) (fun t17 =>
  ifB (t17 == 45)
  (K ((IntKind.i64.wrap (0 - n11)), .nilIface) w14)
  (K (n11, .nilIface) w14)) w14)) w10) w8))
  (j1 s w))
  (j1 s w))
  (fun s18 w19 =>
  callV Pr (tval2 (Value.int .i64) vval) 110 #[(sval s18), (.int .i64 10), (.int .i64 0)] w19 fun t20 w21 =>
  K (t20.1, t20.2) w21)
def internal_strconv_Atoi_ann : Ann := (.s .d (.s .d (.sj [(.s 0, rS)] (.s .d (.c (.s .d (.sj [(.s 0, rS)] (.s (.r [(1, .rd (rI .u8)), (5, .rd (rI .u8))]) (.c (.s (.r [(1, .rd rS)]) (.s .d (.c (.s .d .d) .d))) .d)) (.s .d (.s (.s (.r [(1, .ty rSl)]) (.b (.l [(.s 6, (rI .i64)), (.s 49, (rI .i64))] (.s .d (.s (.c .d .d) (.s (.b (.s (.r [(0, .rd rPA), (1, .rd (rI .u8))]) (.s .d (.s (.s .d (.c (.s .d .d) .d)) .d)))) .d)))))) (.s (.s (.r [(1, .rd (rI .u8))]) (.c .d .d)) (.s .d .d)))))) .d)) (.s (.r [(1, .call (rT2 (rI .i64) rV))]) (.s .d .d)))))
theorem internal_strconv_Atoi_calls {s : List UInt8} {K : (Int × Value) → World → Prop} {w : World} (h : internal_strconv_Atoi s K w) : callV Pr (tval2 (Value.int .i64) vval) 96 #[(sval s)] w K :=
  calls_of Pr_plain Pr_mixed Pr_func96 internal_strconv_Atoi_ann (rT2 (rI .i64) rV) (args := [(sval s)]) (by kernel_rfl) h

/- strconv.toError -/
def strconv_toError (fn : List UInt8) (s : List UInt8) (base : Int) (bitSize : Int) (err : Value) (K : Value → World → Prop) (w : World) : Prop :=
  opRd Pr (binSem .eql 97 (.tmp 11) (.tmp 13) err (.iface 144 (.int .i64 2))) Value.bool (fun t1 =>
  ifB t1
  (callV Pr Value.pointer 111 #[(sval fn), (sval s)] w fun t2 w3 =>
  K (.iface 147 (.pointer t2)) w3)
  (opRd Pr (binSem .eql 97 (.tmp 11) (.tmp 20) err (.iface 144 (.int .i64 1))) Value.bool (fun t4 =>
  ifB t4
  (callV Pr Value.pointer 112 #[(sval fn), (sval s)] w fun t5 w6 =>
  K (.iface 147 (.pointer t5)) w6)
  (opRd Pr (binSem .eql 97 (.tmp 11) (.tmp 27) err (.iface 144 (.int .i64 3))) Value.bool (fun t7 =>
  ifB t7
  (callV Pr Value.pointer 113 #[(sval fn), (sval s), (.int .i64 base)] w fun t8 w9 =>
  K (.iface 147 (.pointer t8)) w9)
  (opRd Pr (binSem .eql 97 (.tmp 11) (.tmp 35) err (.iface 144 (.int .i64 4))) Value.bool (fun t10 =>
  ifB t10
  (callV Pr Value.pointer 114 #[(sval fn), (sval s), (.int .i64 bitSize)] w fun t11 w12 =>
  K (.iface 147 (.pointer t11)) w12)
  (K err w)) w)) w)) w)) w
def strconv_toError_ann : Ann := (.s .d (.s (.s .d (.b (.s (.r [(1, .rd rB)]) (.c (.s (.r [(2, .call rP)]) .d) (.s (.r [(1, .rd rB)]) (.c (.s (.r [(2, .call rP)]) .d) (.s (.r [(1, .rd rB)]) (.c (.s (.r [(3, .call rP)]) .d) (.s (.r [(1, .rd rB)]) (.c (.s (.r [(3, .call rP)]) .d) .d)))))))))) (.s .d .d)))
theorem strconv_toError_calls {fn : List UInt8} {s : List UInt8} {base : Int} {bitSize : Int} {err : Value} {K : Value → World → Prop} {w : World} (h : strconv_toError fn s base bitSize err K w) : callV Pr vval 97 #[(sval fn), (sval s), (.int .i64 base), (.int .i64 bitSize), err] w K :=
  calls_of Pr_plain Pr_mixed Pr_func97 strconv_toError_ann rV (args := [(sval fn), (sval s), (.int .i64 base), (.int .i64 bitSize), err]) (by kernel_rfl) h

/- changeover/quote.unescape -/
def quote_unescape (s : List UInt8) (K : (Int × Int) → World → Prop) (w : World) : Prop :=
  ifB (!(strEq s []))
  (opRd Pr (Instr.index 9 (sval s) (.int .i64 0)) (Value.int .u8) (fun t1 =>
  ifB (t1 == 34)
  (opRd Pr (Instr.index 9 (sval s) (.int .i64 0)) (Value.int .u8) (fun t2 =>
  K (t2, 1) w) w)
  (opRd Pr (Instr.index 9 (sval s) (.int .i64 0)) (Value.int .u8) (fun t3 =>
  ifB (t3 == 92)
  (opRd Pr (Instr.index 9 (sval s) (.int .i64 0)) (Value.int .u8) (fun t4 =>
  K (t4, 1) w) w)
  (ifB (decide (((s : List UInt8).length : Int) > 2))
  (opRd Pr (Instr.index 9 (sval s) (.int .i64 0)) (Value.int .u8) (fun t5 =>
  ifB (t5 == 120)
  (opRd Pr (Instr.index 9 (sval s) (.int .i64 1)) (Value.int .u8) (fun t6 =>
  callV Pr (Value.int .i64) 115 #[(.int .u8 t6)] w fun t7 w8 =>
  ifB (decide (t7 ≥ 0))
  (opRd Pr (Instr.index 9 (sval s) (.int .i64 2)) (Value.int .u8) (fun t9 =>
  callV Pr (Value.int .i64) 115 #[(.int .u8 t9)] w8 fun t10 w11 =>
  ifB (decide (t10 ≥ 0))
  (heldM (fun S13 w12 =>
  opH Pr S13 (Instr.index 9 (sval s) (.int .i64 1)) (Value.int .u8) (fun t14 =>
  opH Pr S13 (Instr.index 9 (sval s) (.int .i64 2)) (Value.int .u8) (fun t15 =>
  callV Pr (Value.int .i64) 115 #[(.int .u8 t14)] w12 fun t16 w17 =>
  (S13 w17) ∧
  (callV Pr (Value.int .i64) 115 #[(.int .u8 t15)] w17 fun t18 w19 =>
  (S13 w19) ∧
  (K ((IntKind.u8.wrap (bOr .i64 (shL .i64 t16 4) t18)), 3) w19))))) w11)
  (K (0, 0) w11)) w8)
  (K (0, 0) w8)) w)
  (K (0, 0) w)) w)
  (K (0, 0) w))) w)) w)
  (ifB (decide (((s : List UInt8).length : Int) > 2))
  (opRd Pr (Instr.index 9 (sval s) (.int .i64 0)) (Value.int .u8) (fun t20 =>
  ifB (t20 == 120)
  (opRd Pr (Instr.index 9 (sval s) (.int .i64 1)) (Value.int .u8) (fun t21 =>
  callV Pr (Value.int .i64) 115 #[(.int .u8 t21)] w fun t22 w23 =>
  ifB (decide (t22 ≥ 0))
  (opRd Pr (Instr.index 9 (sval s) (.int .i64 2)) (Value.int .u8) (fun t24 =>
  callV Pr (Value.int .i64) 115 #[(.int .u8 t24)] w23 fun t25 w26 =>
  ifB (decide (t25 ≥ 0))
  (heldM (fun S28 w27 =>
  opH Pr S28 (Instr.index 9 (sval s) (.int .i64 1)) (Value.int .u8) (fun t29 =>
  opH Pr S28 (Instr.index 9 (sval s) (.int .i64 2)) (Value.int .u8) (fun t30 =>
  callV Pr (Value.int .i64) 115 #[(.int .u8 t29)] w27 fun t31 w32 =>
  (S28 w32) ∧
  (callV Pr (Value.int .i64) 115 #[(.int .u8 t30)] w32 fun t33 w34 =>
  (S28 w34) ∧
  (K ((IntKind.u8.wrap (bOr .i64 (shL .i64 t31 4) t33)), 3) w34))))) w26)
  (K (0, 0) w26)) w23)
  (K (0, 0) w23)) w)
  (K (0, 0) w)) w)
  (K (0, 0) w))
def quote_unescape_ann : Ann := (.s .d (.s (.b (.s (.r [(4, .rd (rI .u8)), (8, .rd (rI .u8))]) (.c (.s (.r [(1, .rd (rI .u8))]) .d) (.s (.r [(5, .rd (rI .u8)), (10, .rd (rI .u8)), (11, .call (rI .i64)), (16, .rd (rI .u8)), (17, .call (rI .i64))]) (.c (.s (.h (.take 0 (.take 1 (.take 4 (.take 5 (.one 2 (.take 3 (.one 6 (.take 7 (.take 8 (.take 9 (.take 10 .done))))))))))) [(1, .rd (rI .u8)), (2, .call (rI .i64)), (5, .rd (rI .u8)), (6, .call (rI .i64))]) .d) .d))))) (.s .d .d)))
theorem quote_unescape_calls {s : List UInt8} {K : (Int × Int) → World → Prop} {w : World} (h : quote_unescape s K w) : callV Pr (tval2 (Value.int .u8) (Value.int .i64)) 98 #[(sval s)] w K :=
  calls_of Pr_plain Pr_mixed Pr_func98 quote_unescape_ann (rT2 (rI .u8) (rI .i64)) (args := [(sval s)]) (by kernel_rfl) h

/- internal/strconv.FormatInt -/
def internal_strconv_FormatInt (i : Int) (base : Int) (K : (List UInt8) → World → Prop) (w : World) : Prop :=
  ifB (base == 10)
  (join0 (fun (j1 : World → Prop) =>
  ifB (decide ((0 : Int) ≤ i))
  (ifB (decide (i < 100))
  (callV Pr sval 116 #[(.int .i64 i)] w fun t2 w3 =>
  K t2 w3)
  (j1 w))
  (j1 w))
  (fun w4 =>
  opTy Pr (Instr.alloc 152 true (.tuple #[])) pav (fun a5 w6 =>
  join1 (fun (j7 : Int → World → Prop) =>
  ifB (decide (i < 0))
  (j7 (IntKind.u64.wrap (0 - (IntKind.u64.wrap i))) w6)
  (j7 (IntKind.u64.wrap i) w6))
  (fun u8 w9 =>
  callV Pr (Value.int .i64) 117 #[(.int .u64 u8)] w9 fun nd10 w11 =>
  opRd Pr (Instr.sliceAt 152 (.pointer (some a5)) (some (.int .i64 1)) (some (.int .i64 (i64 (1 + nd10)))) none) Sl.val (fun t12 =>
  callV Pr uval 118 #[t12.val, (.int .u64 u8)] w11 fun t13 w14 =>
  ifB (decide (i < 0))
  (opRd Pr (Instr.indexAt 152 (.pointer (some a5)) (.int .i64 0)) pav (fun t15 =>
  opUn Pr (Instr.storeAt 5 (.pointer (some t15)) (.int .u8 45)) (fun w16 =>
  opRd Pr (Instr.sliceAt 152 (.pointer (some a5)) none (some (.int .i64 (i64 (1 + nd10)))) none) Sl.val (fun t17 =>
  opRd Pr (convert 49 9 t17.val) sval (fun t18 =>
  K t18 w16) w16) w16) w14) w14)
  (opRd Pr (Instr.sliceAt 152 (.pointer (some a5)) (some (.int .i64 1)) (some (.int .i64 (i64 (1 + nd10)))) none) Sl.val (fun t19 =>
  opRd Pr (convert 49 9 t19.val) sval (fun t20 =>
  K t20 w14) w14) w14)) w11)) w4))
  (callV Pr (tval2 Sl.val sval) 119 #[Sl.nil.val, (.int .u64 (IntKind.u64.wrap i)), (.int .i64 base), (.bool (decide (i < 0))), (.bool false)] w fun t21 w22 =>
  K t21.2 w22)
def internal_strconv_FormatInt_ann : Ann := (.s .d (.s (.s .d (.c (.sj [] (.s .d (.c (.s (.r [(1, .call rS)]) .d) .d)) (.s (.r [(0, .ty rPA)]) (.s .d (.sj [(.s 6, (rI .u64))] (.s .d (.c .d .d)) (.s (.r [(1, .call (rI .i64))]) (.s (.r [(2, .rd rSl), (4, .call rU)]) (.s (.s .d (.c (.s (.r [(0, .rd rPA), (1, .un)]) (.s (.r [(2, .rd rSl), (3, .rd rS)]) .d)) .d)) (.s (.r [(2, .rd rSl), (3, .rd rS)]) .d)))))))) .d)) (.s (.r [(5, .call (rT2 rSl rS))]) (.s .d .d))))
theorem internal_strconv_FormatInt_calls {i : Int} {base : Int} {K : (List UInt8) → World → Prop} {w : World} (h : internal_strconv_FormatInt i base K w) : callV Pr sval 99 #[(.int .i64 i), (.int .i64 base)] w K :=
  calls_of Pr_plain Pr_mixed Pr_func99 internal_strconv_FormatInt_ann rS (args := [(.int .i64 i), (.int .i64 base)]) (by kernel_rfl) h

/- unicode/utf8.decodeRuneInStringSlow -/
def unicode_utf8_decodeRuneInStringSlow (s : List UInt8) (K : (Int × Int) → World → Prop) (w : World) : Prop :=
  ifB (decide (((s : List UInt8).length : Int) < 1))
  (K (65533, 0) w)
  (opRd Pr (Instr.index 9 (sval s) (.int .i64 0)) (Value.int .u8) (fun s01 =>
  opRd Pr (Instr.indexAt 158 (.pointer (some g_unicode_utf8_first)) (.int .u8 s01)) pav (fun t2 =>
  opRd Pr (Instr.loadAt 5 (.pointer (some t2))) (Value.int .u8) (fun x3 =>
  ifB (decide (x3 ≥ 240))
  (opRd Pr (Instr.index 9 (sval s) (.int .i64 0)) (Value.int .u8) (fun t4 =>
  K ((bOr .i32 (bAndNot .i32 (IntKind.i32.wrap t4) (shR .i32 (shL .i32 (IntKind.i32.wrap x3) 31) 31)) (bAnd .i32 65533 (shR .i32 (shL .i32 (IntKind.i32.wrap x3) 31) 31))), 1) w) w)
  (opRd Pr (Instr.indexAt 161 (.pointer (some g_unicode_utf8_acceptRanges)) (.int .u8 (shR .u8 x3 4))) pav (fun t5 =>
  opRd Pr (Instr.loadAt 160 (.pointer (some t5))) Utf8AcceptRange.val (fun t6 =>
  newV (fun b7 w8 =>
  wrM b7 (fun w9 =>
  ifB (decide (((s : List UInt8).length : Int) < (IntKind.i64.wrap (bAnd .u8 x3 7))))
  (K (65533, 1) w9)
  (opRd Pr (Instr.index 9 (sval s) (.int .i64 1)) (Value.int .u8) (fun s110 =>
  ifB (decide (s110 < t6.lo))
  (K (65533, 1) w9)
  (ifB (decide (t6.hi < s110))
  (K (65533, 1) w9)
  (ifB (decide ((IntKind.i64.wrap (bAnd .u8 x3 7)) ≤ 2))
  (K ((bOr .i32 (shL .i32 (IntKind.i32.wrap (bAnd .u8 s01 31)) 6) (IntKind.i32.wrap (bAnd .u8 s110 63))), 2) w9)
  (opRd Pr (Instr.index 9 (sval s) (.int .i64 2)) (Value.int .u8) (fun s211 =>
  ifB (decide (s211 < 128))
  (K (65533, 1) w9)
  (ifB (decide ((191 : Int) < s211))
  (K (65533, 1) w9)
  (ifB (decide ((IntKind.i64.wrap (bAnd .u8 x3 7)) ≤ 3))
  (K ((bOr .i32 (bOr .i32 (shL .i32 (IntKind.i32.wrap (bAnd .u8 s01 15)) 12) (shL .i32 (IntKind.i32.wrap (bAnd .u8 s110 63)) 6)) (IntKind.i32.wrap (bAnd .u8 s211 63))), 3) w9)
  (opRd Pr (Instr.index 9 (sval s) (.int .i64 3)) (Value.int .u8) (fun s312 =>
  ifB (decide (s312 < 128))
  (K (65533, 1) w9)
  (ifB (decide ((191 : Int) < s312))
  (K (65533, 1) w9)
  (K ((bOr .i32 (bOr .i32 (bOr .i32 (shL .i32 (IntKind.i32.wrap (bAnd .u8 s01 7)) 18) (shL .i32 (IntKind.i32.wrap (bAnd .u8 s110 63)) 12)) (shL .i32 (IntKind.i32.wrap (bAnd .u8 s211 63)) 6)) (IntKind.i32.wrap (bAnd .u8 s312 63))), 4) w9))) w9)))) w9)))) w9)) w8) w) w) w)) w) w) w)
def unicode_utf8_decodeRuneInStringSlow_ann : Ann := (.s .d (.s .d (.s (.s .d (.c (.s .d .d) .d)) (.s (.r [(1, .rd (rI .u8))]) (.s (.r [(1, .rd rPA), (2, .rd (rI .u8))]) (.s (.s .d (.c (.s .d (.s (.r [(1, .rd (rI .u8))]) .d)) .d)) (.s .d (.s (.r [(2, .rd rPA), (3, .rd rUtf8AcceptRange), (4, .nl 9), (5, .ls 9)]) (.s (.s .d (.c (.s .d .d) .d)) (.s (.r [(1, .rd (rI .u8))]) (.s (.s .d (.c (.s .d .d) .d)) (.s (.s .d (.c (.s .d .d) .d)) (.s (.r [(1, .rd (rI .u8))]) (.s (.s .d (.c (.s .d .d) .d)) (.s (.s .d (.c (.s .d .d) .d)) (.s (.r [(1, .rd (rI .u8))]) (.s (.s .d (.c (.s .d .d) .d)) (.s .d .d))))))))))))))))))
theorem unicode_utf8_decodeRuneInStringSlow_calls {s : List UInt8} {K : (Int × Int) → World → Prop} {w : World} (h : unicode_utf8_decodeRuneInStringSlow s K w) : callV Pr (tval2 (Value.int .i32) (Value.int .i64)) 100 #[(sval s)] w K :=
  calls_of Pr_plain Pr_mixed Pr_func100 unicode_utf8_decodeRuneInStringSlow_ann (rT2 (rI .i32) (rI .i64)) (args := [(sval s)]) (by kernel_rfl) h

/- changeover/quote.byteAs -/
def quote_byteAs (c : Int) (K : (List UInt8) → World → Prop) (w : World) : Prop :=
  drewM (fun w1 =>
  opRd Pr (Instr.sliceAt 9 (sval cs16_37011) (some (.int .u8 (shR .u8 c 4))) (some (.int .u8 (IntKind.u8.wrap ((shR .u8 c 4) + 1)))) none) sval (fun t2 =>
  opRd Pr (binSem .add 9 (.const (sval [92, 120])) (.tmp 8) (sval [92, 120]) (sval t2)) sval (fun t3 =>
  opRd Pr (Instr.sliceAt 9 (sval cs16_37011) (some (.int .u8 (bAnd .u8 c 15))) (some (.int .u8 (IntKind.u8.wrap ((bAnd .u8 c 15) + 1)))) none) sval (fun t4 =>
  opRd Pr (binSem .add 9 (.tmp 9) (.tmp 15) (sval t3) (sval t4)) sval (fun t5 =>
  K t5 w1) w1) w1) w1) w1) w
def quote_byteAs_ann : Ann := (.s .d (.s (.r [(5, .rd rS), (6, .rd rS), (12, .rd rS), (13, .rd rS)]) .d))
theorem quote_byteAs_calls {c : Int} {K : (List UInt8) → World → Prop} {w : World} (h : quote_byteAs c K w) : callV Pr sval 101 #[(.int .u8 c)] w K :=
  calls_of Pr_plain Pr_mixed Pr_func101 quote_byteAs_ann rS (args := [(.int .u8 c)]) (by kernel_rfl) h

/- (*strings.Builder).Grow -/
def strings_Builder_Grow (b : Option Addr) (n : Int) (K : Unit → World → Prop) (w : World) : Prop :=
  callV Pr uval 85 #[(.pointer b)] w fun t1 w2 =>
  ifB (decide (n < 0))
  (False)
  (drewM (fun w3 =>
  opRd Pr (nilSem (.pointer b)) pav (fun t4 =>
  opRd Pr (Instr.loadAt 49 (.pointer (some (t4.add 1)))) Sl.val (fun t5 =>
  opRd Pr (nilSem (.pointer b)) pav (fun t6 =>
  opRd Pr (Instr.loadAt 49 (.pointer (some (t6.add 1)))) Sl.val (fun t7 =>
  ifB (decide ((i64 ((t5.cap : Int) - (t7.len : Int))) < n))
  (callV Pr uval 120 #[(.pointer b), (.int .i64 n)] w3 fun t8 w9 =>
  K () w9)
  (K () w3)) w3) w3) w3) w3) w2)
def strings_Builder_Grow_ann : Ann := (.s (.r [(1, .call rU)]) (.s (.s .d (.c .d .d)) (.s (.r [(1, .rd rPA), (3, .rd rSl), (6, .rd rPA), (8, .rd rSl)]) (.c (.r [(2, .call rU)]) .d))))
theorem strings_Builder_Grow_calls {b : Option Addr} {n : Int} {K : Unit → World → Prop} {w : World} (h : strings_Builder_Grow b n K w) : callV Pr uval 102 #[(.pointer b), (.int .i64 n)] w K :=
  calls_of Pr_plain Pr_mixed Pr_func102 strings_Builder_Grow_ann rU (args := [(.pointer b), (.int .i64 n)]) (by kernel_rfl) h

/- internal/stringslite.IndexByte -/
def internal_stringslite_IndexByte (s : List UInt8) (c : Int) (K : Int → World → Prop) (w : World) : Prop :=
  opEx Pr 121 #[(sval s), (.int .u8 c)] (Value.int .i64) (fun t1 w2 =>
  K t1 w2) w
def internal_stringslite_IndexByte_ann : Ann := (.s .d (.s (.r [(2, .ext (rI .i64))]) .d))
theorem internal_stringslite_IndexByte_calls {s : List UInt8} {c : Int} {K : Int → World → Prop} {w : World} (h : internal_stringslite_IndexByte s c K w) : callV Pr (Value.int .i64) 103 #[(sval s), (.int .u8 c)] w K :=
  calls_of Pr_plain Pr_mixed Pr_func103 internal_stringslite_IndexByte_ann (rI .i64) (args := [(sval s), (.int .u8 c)]) (by kernel_rfl) h

/- internal/stringslite.HasSuffix -/
def internal_stringslite_HasSuffix (s : List UInt8) (suffix : List UInt8) (K : Bool → World → Prop) (w : World) : Prop :=
  ifB (decide (((s : List UInt8).length : Int) ≥ ((suffix : List UInt8).length : Int)))
  (opRd Pr (Instr.sliceAt 9 (sval s) (some (.int .i64 (i64 (((s : List UInt8).length : Int) - ((suffix : List UInt8).length : Int))))) none none) sval (fun t1 =>
  K (strEq t1 suffix) w) w)
  (K false w)
def internal_stringslite_HasSuffix_ann : Ann := (.s .d (.s (.r [(12, .rd rS)]) .d))
theorem internal_stringslite_HasSuffix_calls {s : List UInt8} {suffix : List UInt8} {K : Bool → World → Prop} {w : World} (h : internal_stringslite_HasSuffix s suffix K w) : callV Pr Value.bool 104 #[(sval s), (sval suffix)] w K :=
  calls_of Pr_plain Pr_mixed Pr_func104 internal_stringslite_HasSuffix_ann rB (args := [(sval s), (sval suffix)]) (by kernel_rfl) h

/- internal/stringslite.Cut -/
def internal_stringslite_Cut (s : List UInt8) (sep : List UInt8) (K : ((List UInt8) × (List UInt8) × Bool) → World → Prop) (w : World) : Prop :=
  callV Pr (Value.int .i64) 123 #[(sval s), (sval sep)] w fun i1 w2 =>
  ifB (decide (i1 ≥ 0))
  (drewM (fun w3 =>
  opRd Pr (Instr.sliceAt 9 (sval s) none (some (.int .i64 i1)) none) sval (fun before4 =>
  opRd Pr (Instr.sliceAt 9 (sval s) (some (.int .i64 (i64 (i1 + ((sep : List UInt8).length : Int))))) none none) sval (fun after5 =>
  K (before4, after5, true) w3) w3) w3) w2)
  (K (s, [], false) w2)
def internal_stringslite_Cut_ann : Ann := (.s .d (.s (.s (.r [(2, .call (rI .i64))]) (.s .d (.c (.s (.r [(2, .rd rS), (8, .rd rS)]) .d) .d))) (.s .d .d)))
theorem internal_stringslite_Cut_calls {s : List UInt8} {sep : List UInt8} {K : ((List UInt8) × (List UInt8) × Bool) → World → Prop} {w : World} (h : internal_stringslite_Cut s sep K w) : callV Pr (tval3 sval sval Value.bool) 108 #[(sval s), (sval sep)] w K :=
  calls_of Pr_plain Pr_mixed Pr_func108 internal_stringslite_Cut_ann (rT3 rS rS rB) (args := [(sval s), (sval sep)]) (by kernel_rfl) h

/- changeover/runes.Bad -/
def runes_Bad (s : List UInt8) (K : Int → World → Prop) (w : World) : Prop :=
  opTy Pr (Instr.range 9 (sval s)) pav (fun t1 w2 =>
  loop0 (fun k3 w4 =>
  opAl Pr (Instr.next (.pointer (some t1)) true 0) (nxval (Value.int .i64) (Value.int .i32)) endval (fun t5 w6 =>
  ifB (t5.2 != 65533)
  (k3 w6)
  (opRd Pr (Instr.sliceAt 9 (sval s) (some (.int .i64 t5.1)) none none) sval (fun t7 =>
  callV Pr (tval2 (Value.int .i32) (Value.int .i64)) 77 #[(sval t7)] w6 fun t8 w9 =>
  ifB (t8.2 == 1)
  (K t5.1 w9)
  (k3 w9)) w6)) (fun _ w10 =>
  K (-1) w10) w4) w2) w
def runes_Bad_ann : Ann := (.s .d (.s (.s (.r [(1, .ty rPA)]) (.b (.l [] (.s (.r [(0, .alt (rNx (rI .i64) (rI .i32)) rEnd)]) (.s (.c .d .d) (.b (.s .d (.s (.s .d (.c .d .d)) (.s (.r [(2, .rd rS), (3, .call (rT2 (rI .i32) (rI .i64)))]) (.s .d (.c (.s .d .d) .d))))))))))) (.s .d .d)))
theorem runes_Bad_calls {s : List UInt8} {K : Int → World → Prop} {w : World} (h : runes_Bad s K w) : callV Pr (Value.int .i64) 109 #[(sval s)] w K :=
  calls_of Pr_plain Pr_mixed Pr_func109 runes_Bad_ann (rI .i64) (args := [(sval s)]) (by kernel_rfl) h

/- internal/strconv.ParseInt -/
def internal_strconv_ParseInt (s : List UInt8) (base : Int) (bitSize : Int) (K : (Int × Value) → World → Prop) (w : World) : Prop :=
  ifB (strEq s [])
  (K (0, (.iface 144 (.int .i64 2))) w)
  (join2 (fun (j1 : (List UInt8) → Bool → World → Prop) =>
  opRd Pr (Instr.index 9 (sval s) (.int .i64 0)) (Value.int .u8) (fun t2 =>
  ifB (t2 == 43)
  (opRd Pr (Instr.sliceAt 9 (sval s) (some (.int .i64 1)) none none) sval (fun s3 =>
  j1 s3 false w) w)
  (ifB (t2 == 45)
  (opRd Pr (Instr.sliceAt 9 (sval s) (some (.int .i64 1)) none none) sval (fun s4 =>
  j1 s4 true w) w)
  (j1 s false w))) w)
  (fun s5 neg6 w7 =>
  callV Pr (tval2 (Value.int .u64) vval) 124 #[(sval s5), (.int .i64 base), (.int .i64 bitSize)] w7 fun t8 w9 =>
  join0 (fun (j10 : World → Prop) =>
  opRd Pr (binSem .neq 97 (.tmp 32) (.const .nilIface) t8.2 .nilIface) Value.bool (fun t11 =>
  ifB t11
  (opRd Pr (binSem .neq 97 (.tmp 35) (.tmp 36) t8.2 (.iface 144 (.int .i64 1))) Value.bool (fun t12 =>
  ifB t12
  (K (0, t8.2) w9)
  (j10 w9)) w9)
  (j10 w9)) w9)
  (fun w13 =>
  join1 (fun (j14 : Int → World → Prop) =>
  ifB (bitSize == 0)
  (j14 64 w13)
  (j14 bitSize w13))
  (fun bitSize15 w16 =>
  opRd Pr (binSem .shl 153 (.const (.int .u64 1)) (.tmp 44) (.int .u64 1) (.int .u64 (IntKind.u64.wrap (i64 (bitSize15 - 1))))) (Value.int .u64) (fun cutoff17 =>
  join0 (fun (j18 : World → Prop) =>
  ifB (!neg6)
  (ifB (decide (t8.1 ≥ cutoff17))
  (K ((IntKind.i64.wrap (IntKind.u64.wrap (cutoff17 - 1))), (.iface 144 (.int .i64 1))) w16)
  (j18 w16))
  (j18 w16))
  (fun w19 =>
  join0 (fun (j20 : World → Prop) =>
  ifB neg6
  (ifB (decide (t8.1 > cutoff17))
  (K ((IntKind.i64.wrap (0 - (IntKind.i64.wrap cutoff17))), (.iface 144 (.int .i64 1))) w19)
  (j20 w19))
  (j20 w19))
  (fun w21 =>
  ifB neg6
  (K ((IntKind.i64.wrap (0 - (IntKind.i64.wrap t8.1))), .nilIface) w21)
  (K ((IntKind.i64.wrap t8.1), .nilIface) w21)))) w16))))
def internal_strconv_ParseInt_ann : Ann := (.s .d (.s (.s .d (.c (.s .d .d) .d)) (.s .d (.sj [(.s 0, rS), (.s 8, rB)] (.s (.r [(1, .rd (rI .u8))]) (.b (.s .d (.c (.r [(1, .rd rS)]) (.s .d (.c (.s (.r [(1, .rd rS)]) .d) .d)))))) (.s .d (.s (.r [(3, .call (rT2 (rI .u64) rV))]) (.sj [] (.s (.r [(1, .rd rB), (5, .rd rB)]) (.c (.s .d .d) .d)) (.sj [(.s 2, (rI .i64))] (.s .d (.c .d .d)) (.s (.r [(3, .rd (rI .u64))]) (.sj [] (.s .d (.c (.s .d .d) .d)) (.sj [] (.s .d (.c (.s .d .d) .d)) (.s .d (.s (.s .d (.c .d .d)) (.s .d .d))))))))))))))
theorem internal_strconv_ParseInt_calls {s : List UInt8} {base : Int} {bitSize : Int} {K : (Int × Value) → World → Prop} {w : World} (h : internal_strconv_ParseInt s base bitSize K w) : callV Pr (tval2 (Value.int .i64) vval) 110 #[(sval s), (.int .i64 base), (.int .i64 bitSize)] w K :=
  calls_of Pr_plain Pr_mixed Pr_func110 internal_strconv_ParseInt_ann (rT2 (rI .i64) rV) (args := [(sval s), (.int .i64 base), (.int .i64 bitSize)]) (by kernel_rfl) h

/- strconv.syntaxError -/
def strconv_syntaxError (fn : List UInt8) (str : List UInt8) (K : (Option Addr) → World → Prop) (w : World) : Prop :=
  heldM (fun S2 w1 =>
  opH Pr S2 (Instr.loadAt 97 (.pointer (some g_strconv_ErrSyntax))) ifval (fun t3 =>
  callV Pr sval 125 #[(sval str)] w1 fun t4 w5 =>
  (S2 w5) ∧
  (opTy Pr (Instr.box 167 (.agg ⟨[(sval fn), (sval t4), (.iface t3.1 t3.2)]⟩)) pav (fun t6 w7 =>
  (S2 w7) ∧
  (K (some t6) w7)) w5))) w
def strconv_syntaxError_ann : Ann := (.s .d (.s (.h (.take 0 (.take 1 (.take 3 (.one 2 (.take 4 (.one 5 (.take 6 .done))))))) [(2, .call rS), (3, .rd rIf), (5, .ty rPA)]) .d))
theorem strconv_syntaxError_calls {fn : List UInt8} {str : List UInt8} {K : (Option Addr) → World → Prop} {w : World} (h : strconv_syntaxError fn str K w) : callV Pr Value.pointer 111 #[(sval fn), (sval str)] w K :=
  calls_of Pr_plain Pr_mixed Pr_func111 strconv_syntaxError_ann rP (args := [(sval fn), (sval str)]) (by kernel_rfl) h

/- strconv.rangeError -/
def strconv_rangeError (fn : List UInt8) (str : List UInt8) (K : (Option Addr) → World → Prop) (w : World) : Prop :=
  heldM (fun S2 w1 =>
  opH Pr S2 (Instr.loadAt 97 (.pointer (some g_strconv_ErrRange))) ifval (fun t3 =>
  callV Pr sval 125 #[(sval str)] w1 fun t4 w5 =>
  (S2 w5) ∧
  (opTy Pr (Instr.box 167 (.agg ⟨[(sval fn), (sval t4), (.iface t3.1 t3.2)]⟩)) pav (fun t6 w7 =>
  (S2 w7) ∧
  (K (some t6) w7)) w5))) w
def strconv_rangeError_ann : Ann := (.s .d (.s (.h (.take 0 (.take 1 (.take 3 (.one 2 (.take 4 (.one 5 (.take 6 .done))))))) [(2, .call rS), (3, .rd rIf), (5, .ty rPA)]) .d))
theorem strconv_rangeError_calls {fn : List UInt8} {str : List UInt8} {K : (Option Addr) → World → Prop} {w : World} (h : strconv_rangeError fn str K w) : callV Pr Value.pointer 112 #[(sval fn), (sval str)] w K :=
  calls_of Pr_plain Pr_mixed Pr_func112 strconv_rangeError_ann rP (args := [(sval fn), (sval str)]) (by kernel_rfl) h

/- changeover/quote.digit -/
def quote_digit (c : Int) (K : Int → World → Prop) (w : World) : Prop :=
  callV Pr (Value.int .i64) 83 #[(sval cs16_37011), (.int .u8 c)] w fun t1 w2 =>
  K t1 w2
def quote_digit_ann : Ann := (.s .d (.s (.r [(1, .call (rI .i64))]) .d))
theorem quote_digit_calls {c : Int} {K : Int → World → Prop} {w : World} (h : quote_digit c K w) : callV Pr (Value.int .i64) 115 #[(.int .u8 c)] w K :=
  calls_of Pr_plain Pr_mixed Pr_func115 quote_digit_ann (rI .i64) (args := [(.int .u8 c)]) (by kernel_rfl) h

/- internal/strconv.small -/
def internal_strconv_small (i : Int) (K : (List UInt8) → World → Prop) (w : World) : Prop :=
  ifB (decide (i < 10))
  (opRd Pr (Instr.sliceAt 9 (sval cs36_19037) (some (.int .i64 i)) (some (.int .i64 (i64 (i + 1)))) none) sval (fun t1 =>
  K t1 w) w)
  (opRd Pr (Instr.sliceAt 9 (sval cs200_63933) (some (.int .i64 (i64 (i * 2)))) (some (.int .i64 (i64 ((i64 (i * 2)) + 2)))) none) sval (fun t2 =>
  K t2 w) w)
def internal_strconv_small_ann : Ann := (.s .d (.s (.s .d (.c (.s (.r [(3, .rd rS)]) .d) .d)) (.s (.r [(5, .rd rS)]) .d)))
theorem internal_strconv_small_calls {i : Int} {K : (List UInt8) → World → Prop} {w : World} (h : internal_strconv_small i K w) : callV Pr sval 116 #[(.int .i64 i)] w K :=
  calls_of Pr_plain Pr_mixed Pr_func116 internal_strconv_small_ann rS (args := [(.int .i64 i)]) (by kernel_rfl) h

/- internal/strconv.numDigits -/
def internal_strconv_numDigits (d : Int) (K : Int → World → Prop) (w : World) : Prop :=
  callV Pr (Value.int .i64) 128 #[(.int .u64 d)] w fun t1 w2 =>
  callV Pr (Value.int .i64) 127 #[(.int .i64 t1)] w2 fun nd3 w4 =>
  opRd Pr (Instr.indexAt 170 (.pointer (some g_internal_strconv_uint64pow10)) (.int .i64 nd3)) pav (fun t5 =>
  opRd Pr (Instr.loadAt 153 (.pointer (some t5))) (Value.int .u64) (fun t6 =>
  callV Pr (Value.int .i64) 129 #[(.bool (decide (d ≥ t6)))] w4 fun t7 w8 =>
  K (i64 (nd3 + t7)) w8) w4) w4
def internal_strconv_numDigits_ann : Ann := (.s .d (.s (.r [(1, .call (rI .i64)), (2, .call (rI .i64))]) (.s (.r [(3, .rd rPA), (4, .rd (rI .u64)), (6, .call (rI .i64))]) .d)))
theorem internal_strconv_numDigits_calls {d : Int} {K : Int → World → Prop} {w : World} (h : internal_strconv_numDigits d K w) : callV Pr (Value.int .i64) 117 #[(.int .u64 d)] w K :=
  calls_of Pr_plain Pr_mixed Pr_func117 internal_strconv_numDigits_ann (rI .i64) (args := [(.int .u64 d)]) (by kernel_rfl) h

/- internal/strconv.formatBase10 -/
def internal_strconv_formatBase10 (a : Sl) (u : Int) (K : Unit → World → Prop) (w : World) : Prop :=
  loop2 (u : Int) ((a.len : Int) : Int) (fun u1 nd2 k3 w4 =>
  ifB (decide (nd2 ≥ 8))
  (heldM (fun S6 w5 =>
  opH Pr S6 (Instr.index 9 (sval cs200_63933) (.int .u32 (IntKind.u32.wrap ((IntKind.u32.wrap ((Int.tmod (Int.tmod (IntKind.u32.wrap (Int.tmod u1 100000000)) 10000) 100) * 2)) + 1)))) (Value.int .u8) (fun t7 =>
  opH Pr S6 (Instr.index 9 (sval cs200_63933) (.int .u32 (IntKind.u32.wrap ((Int.tmod (Int.tmod (IntKind.u32.wrap (Int.tmod u1 100000000)) 10000) 100) * 2)))) (Value.int .u8) (fun t8 =>
  opH Pr S6 (Instr.indexAt 49 a.val (.int .i64 (i64 (nd2 - 1)))) pav (fun t9 =>
  opUn Pr (Instr.storeAt 5 (.pointer (some t9)) (.int .u8 t7)) (fun w10 =>
  (S6 w10) ∧
  (opH Pr S6 (Instr.indexAt 49 a.val (.int .i64 (i64 (nd2 - 2)))) pav (fun t11 =>
  opUn Pr (Instr.storeAt 5 (.pointer (some t11)) (.int .u8 t8)) (fun w12 =>
  (S6 w12) ∧
  (heldM (fun S14 w13 =>
  opH Pr S14 (Instr.index 9 (sval cs200_63933) (.int .u32 (IntKind.u32.wrap ((IntKind.u32.wrap ((IntKind.u32.wrap (Int.tdiv (Int.tmod (IntKind.u32.wrap (Int.tmod u1 100000000)) 10000) 100)) * 2)) + 1)))) (Value.int .u8) (fun t15 =>
  opH Pr S14 (Instr.index 9 (sval cs200_63933) (.int .u32 (IntKind.u32.wrap ((IntKind.u32.wrap (Int.tdiv (Int.tmod (IntKind.u32.wrap (Int.tmod u1 100000000)) 10000) 100)) * 2)))) (Value.int .u8) (fun t16 =>
  opH Pr S14 (Instr.indexAt 49 a.val (.int .i64 (i64 (nd2 - 3)))) pav (fun t17 =>
  opUn Pr (Instr.storeAt 5 (.pointer (some t17)) (.int .u8 t15)) (fun w18 =>
  (S14 w18) ∧
  (opH Pr S14 (Instr.indexAt 49 a.val (.int .i64 (i64 (nd2 - 4)))) pav (fun t19 =>
  opUn Pr (Instr.storeAt 5 (.pointer (some t19)) (.int .u8 t16)) (fun w20 =>
  (S14 w20) ∧
  (heldM (fun S22 w21 =>
  opH Pr S22 (Instr.index 9 (sval cs200_63933) (.int .u32 (IntKind.u32.wrap ((IntKind.u32.wrap ((Int.tmod (IntKind.u32.wrap (Int.tdiv (IntKind.u32.wrap (Int.tmod u1 100000000)) 10000)) 100) * 2)) + 1)))) (Value.int .u8) (fun t23 =>
  opH Pr S22 (Instr.index 9 (sval cs200_63933) (.int .u32 (IntKind.u32.wrap ((Int.tmod (IntKind.u32.wrap (Int.tdiv (IntKind.u32.wrap (Int.tmod u1 100000000)) 10000)) 100) * 2)))) (Value.int .u8) (fun t24 =>
  opH Pr S22 (Instr.indexAt 49 a.val (.int .i64 (i64 (nd2 - 5)))) pav (fun t25 =>
  opUn Pr (Instr.storeAt 5 (.pointer (some t25)) (.int .u8 t23)) (fun w26 =>
  (S22 w26) ∧
  (opH Pr S22 (Instr.indexAt 49 a.val (.int .i64 (i64 (nd2 - 6)))) pav (fun t27 =>
  opUn Pr (Instr.storeAt 5 (.pointer (some t27)) (.int .u8 t24)) (fun w28 =>
  (S22 w28) ∧
  (heldM (fun S30 w29 =>
  opH Pr S30 (Instr.index 9 (sval cs200_63933) (.int .u32 (IntKind.u32.wrap ((IntKind.u32.wrap ((IntKind.u32.wrap (Int.tdiv (IntKind.u32.wrap (Int.tdiv (IntKind.u32.wrap (Int.tmod u1 100000000)) 10000)) 100)) * 2)) + 1)))) (Value.int .u8) (fun t31 =>
  opH Pr S30 (Instr.index 9 (sval cs200_63933) (.int .u32 (IntKind.u32.wrap ((IntKind.u32.wrap (Int.tdiv (IntKind.u32.wrap (Int.tdiv (IntKind.u32.wrap (Int.tmod u1 100000000)) 10000)) 100)) * 2)))) (Value.int .u8) (fun t32 =>
  opH Pr S30 (Instr.indexAt 49 a.val (.int .i64 (i64 (nd2 - 7)))) pav (fun t33 =>
  opUn Pr (Instr.storeAt 5 (.pointer (some t33)) (.int .u8 t31)) (fun w34 =>
  (S30 w34) ∧
  (opH Pr S30 (Instr.indexAt 49 a.val (.int .i64 (i64 (nd2 - 8)))) pav (fun t35 =>
  opUn Pr (Instr.storeAt 5 (.pointer (some t35)) (.int .u8 t32)) (fun w36 =>
  (S30 w36) ∧
  (k3 (IntKind.u64.wrap (Int.tdiv u1 100000000)) (i64 (nd2 - 8)) w36)) w34))) w29)))) w28)) w26))) w21)))) w20)) w18))) w13)))) w12)) w10))) w5)))) w4)
  (join2 (fun (j37 : Int → Int → World → Prop) =>
  ifB (decide (nd2 ≥ 4))
  (heldM (fun S39 w38 =>
  opH Pr S39 (Instr.index 9 (sval cs200_63933) (.int .u32 (IntKind.u32.wrap ((IntKind.u32.wrap ((Int.tmod (Int.tmod (IntKind.u32.wrap u1) 10000) 100) * 2)) + 1)))) (Value.int .u8) (fun t40 =>
  opH Pr S39 (Instr.index 9 (sval cs200_63933) (.int .u32 (IntKind.u32.wrap ((Int.tmod (Int.tmod (IntKind.u32.wrap u1) 10000) 100) * 2)))) (Value.int .u8) (fun t41 =>
  opH Pr S39 (Instr.indexAt 49 a.val (.int .i64 (i64 (nd2 - 1)))) pav (fun t42 =>
  opUn Pr (Instr.storeAt 5 (.pointer (some t42)) (.int .u8 t40)) (fun w43 =>
  (S39 w43) ∧
  (opH Pr S39 (Instr.indexAt 49 a.val (.int .i64 (i64 (nd2 - 2)))) pav (fun t44 =>
  opUn Pr (Instr.storeAt 5 (.pointer (some t44)) (.int .u8 t41)) (fun w45 =>
  (S39 w45) ∧
  (heldM (fun S47 w46 =>
  opH Pr S47 (Instr.index 9 (sval cs200_63933) (.int .u32 (IntKind.u32.wrap ((IntKind.u32.wrap ((IntKind.u32.wrap (Int.tdiv (Int.tmod (IntKind.u32.wrap u1) 10000) 100)) * 2)) + 1)))) (Value.int .u8) (fun t48 =>
  opH Pr S47 (Instr.index 9 (sval cs200_63933) (.int .u32 (IntKind.u32.wrap ((IntKind.u32.wrap (Int.tdiv (Int.tmod (IntKind.u32.wrap u1) 10000) 100)) * 2)))) (Value.int .u8) (fun t49 =>
  opH Pr S47 (Instr.indexAt 49 a.val (.int .i64 (i64 (nd2 - 3)))) pav (fun t50 =>
  opUn Pr (Instr.storeAt 5 (.pointer (some t50)) (.int .u8 t48)) (fun w51 =>
  (S47 w51) ∧
  (opH Pr S47 (Instr.indexAt 49 a.val (.int .i64 (i64 (nd2 - 4)))) pav (fun t52 =>
  opUn Pr (Instr.storeAt 5 (.pointer (some t52)) (.int .u8 t49)) (fun w53 =>
  (S47 w53) ∧
  (j37 (i64 (nd2 - 4)) (IntKind.u32.wrap (Int.tdiv (IntKind.u32.wrap u1) 10000)) w53)) w51))) w46)))) w45)) w43))) w38)))) w4)
  (j37 nd2 (IntKind.u32.wrap u1) w4))
  (fun nd54 x55 w56 =>
  ifB (decide (nd54 ≥ 2))
  (heldM (fun S58 w57 =>
  opH Pr S58 (Instr.index 9 (sval cs200_63933) (.int .u32 (IntKind.u32.wrap ((IntKind.u32.wrap ((Int.tmod x55 100) * 2)) + 1)))) (Value.int .u8) (fun t59 =>
  opH Pr S58 (Instr.index 9 (sval cs200_63933) (.int .u32 (IntKind.u32.wrap ((Int.tmod x55 100) * 2)))) (Value.int .u8) (fun t60 =>
  opH Pr S58 (Instr.indexAt 49 a.val (.int .i64 (i64 (nd54 - 1)))) pav (fun t61 =>
  opUn Pr (Instr.storeAt 5 (.pointer (some t61)) (.int .u8 t59)) (fun w62 =>
  (S58 w62) ∧
  (opH Pr S58 (Instr.indexAt 49 a.val (.int .i64 (i64 (nd54 - 2)))) pav (fun t63 =>
  opUn Pr (Instr.storeAt 5 (.pointer (some t63)) (.int .u8 t60)) (fun w64 =>
  (S58 w64) ∧
  (ifB (decide ((i64 (nd54 - 2)) > 0))
  (opRd Pr (Instr.indexAt 49 a.val (.int .i64 0)) pav (fun t65 =>
  opUn Pr (Instr.storeAt 5 (.pointer (some t65)) (.int .u8 (IntKind.u8.wrap (IntKind.u32.wrap (48 + (IntKind.u32.wrap (Int.tdiv x55 100))))))) (fun w66 =>
  K () w66) w64) w64)
  (K () w64))) w62))) w57)))) w56)
  (ifB (decide (nd54 > 0))
  (opRd Pr (Instr.indexAt 49 a.val (.int .i64 0)) pav (fun t67 =>
  opUn Pr (Instr.storeAt 5 (.pointer (some t67)) (.int .u8 (IntKind.u8.wrap (IntKind.u32.wrap (48 + x55))))) (fun w68 =>
  K () w68) w56) w56)
  (K () w56))))) w
def internal_strconv_formatBase10_ann : Ann := (.s .d (.s (.b (.l [(.s 1, (rI .u64)), (.s 4, (rI .i64))] (.s (.s .d (.c .d .d)) (.b (.s .d (.s .d (.s .d (.s .d (.s .d (.s (.h (.take 0 (.take 1 (.take 2 (.take 3 (.take 4 (.take 5 (.take 6 (.take 7 (.take 8 (.take 9 (.take 10 (.take 11 (.one 12 (.take 13 (.one 14 .done))))))))))))))) [(8, .rd (rI .u8)), (10, .rd (rI .u8)), (11, .rd rPA), (12, .un), (13, .rd rPA), (14, .un)]) (.s (.h (.take 0 (.take 1 (.take 2 (.take 3 (.take 4 (.take 5 (.take 6 (.take 7 (.take 8 (.take 9 (.take 10 (.take 11 (.one 12 (.take 13 (.one 14 .done))))))))))))))) [(8, .rd (rI .u8)), (10, .rd (rI .u8)), (11, .rd rPA), (12, .un), (13, .rd rPA), (14, .un)]) (.s (.h (.take 0 (.take 1 (.take 2 (.take 3 (.take 4 (.take 5 (.take 6 (.take 7 (.take 8 (.take 9 (.take 10 (.take 11 (.one 12 (.take 13 (.one 14 .done))))))))))))))) [(8, .rd (rI .u8)), (10, .rd (rI .u8)), (11, .rd rPA), (12, .un), (13, .rd rPA), (14, .un)]) (.s (.h (.take 0 (.take 1 (.take 2 (.take 3 (.take 4 (.take 5 (.take 6 (.take 7 (.take 8 (.take 9 (.take 10 (.take 11 (.one 12 (.take 13 (.one 14 .done))))))))))))))) [(8, .rd (rI .u8)), (10, .rd (rI .u8)), (11, .rd rPA), (12, .un), (13, .rd rPA), (14, .un)]) .d))))))))))))) (.s .d (.sj [(.s 4, (rI .i64)), (.s 12, (rI .u32))] (.s .d (.c (.s .d (.s .d (.s .d (.s (.h (.take 0 (.take 1 (.take 2 (.take 3 (.take 4 (.take 5 (.take 6 (.take 7 (.take 8 (.take 9 (.take 10 (.take 11 (.one 12 (.take 13 (.one 14 .done))))))))))))))) [(8, .rd (rI .u8)), (10, .rd (rI .u8)), (11, .rd rPA), (12, .un), (13, .rd rPA), (14, .un)]) (.s (.h (.take 0 (.take 1 (.take 2 (.take 3 (.take 4 (.take 5 (.take 6 (.take 7 (.take 8 (.take 9 (.take 10 (.take 11 (.one 12 (.take 13 (.one 14 .done))))))))))))))) [(8, .rd (rI .u8)), (10, .rd (rI .u8)), (11, .rd rPA), (12, .un), (13, .rd rPA), (14, .un)]) .d))))) .d)) (.s (.s .d (.c (.s .d (.s .d (.s (.h (.take 0 (.take 1 (.take 2 (.take 3 (.take 4 (.take 5 (.take 6 (.take 7 (.take 8 (.take 9 (.take 10 (.take 11 (.one 12 (.take 13 (.one 14 .done))))))))))))))) [(8, .rd (rI .u8)), (10, .rd (rI .u8)), (11, .rd rPA), (12, .un), (13, .rd rPA), (14, .un)]) .d))) .d)) (.s .d (.c (.r [(4, .rd rPA), (5, .un)]) .d)))))))
theorem internal_strconv_formatBase10_calls {a : Sl} {u : Int} {K : Unit → World → Prop} {w : World} (h : internal_strconv_formatBase10 a u K w) : callV Pr uval 118 #[a.val, (.int .u64 u)] w K :=
  calls_of Pr_plain Pr_mixed Pr_func118 internal_strconv_formatBase10_ann rU (args := [a.val, (.int .u64 u)]) (by kernel_rfl) h

/- internal/strconv.formatBits -/
def internal_strconv_formatBits (dst : Sl) (u : Int) (base : Int) (neg : Bool) (append : Bool) (K : (Sl × (List UInt8)) → World → Prop) (w : World) : Prop :=
  ifB (decide (base < 2))
  (False)
  (ifB (base == 10)
  (False)
  (ifB (decide (base > 36))
  (False)
  (opTy Pr (Instr.alloc 172 true (.tuple #[])) pav (fun a1 w2 =>
  join1 (fun (j3 : Int → World → Prop) =>
  ifB neg
  (j3 (IntKind.u64.wrap (0 - u)) w2)
  (j3 u w2))
  (fun u4 w5 =>
  join1 (fun (j6 : Int → World → Prop) =>
  callV Pr Value.bool 130 #[(.int .i64 base)] w5 fun t7 w8 =>
  ifB t7
  (callV Pr (Value.int .i64) 131 #[(.int .u64 (IntKind.u64.wrap base))] w8 fun t9 w10 =>
  loop2 (u4 : Int) (65 : Int) (fun u11 i12 k13 w14 =>
  ifB (decide (u11 ≥ (IntKind.u64.wrap base)))
  (opRd Pr (Instr.index 9 (sval cs36_19037) (.int .u64 (bAnd .u64 u11 (IntKind.u64.wrap ((IntKind.u64.wrap base) - 1))))) (Value.int .u8) (fun t15 =>
  opRd Pr (Instr.indexAt 172 (.pointer (some a1)) (.int .i64 (i64 (i12 - 1)))) pav (fun t16 =>
  opUn Pr (Instr.storeAt 5 (.pointer (some t16)) (.int .u8 t15)) (fun w17 =>
  opRd Pr (binSem .shr 153 (.tmp 55) (.tmp 56) (.int .u64 u11) (.int .u64 (IntKind.u64.wrap t9))) (Value.int .u64) (fun u18 =>
  k13 u18 (i64 (i12 - 1)) w17) w17) w14) w14) w14)
  (opRd Pr (Instr.index 9 (sval cs36_19037) (.int .u64 u11)) (Value.int .u8) (fun t19 =>
  opRd Pr (Instr.indexAt 172 (.pointer (some a1)) (.int .i64 (i64 (i12 - 1)))) pav (fun t20 =>
  opUn Pr (Instr.storeAt 5 (.pointer (some t20)) (.int .u8 t19)) (fun w21 =>
  j6 (i64 (i12 - 1)) w21) w14) w14) w14)) w10)
  (loop2 (u4 : Int) (65 : Int) (fun u22 i23 k24 w25 =>
  ifB (decide (u22 ≥ (IntKind.u64.wrap base)))
  (opRd Pr (binSem .quo 153 (.tmp 71) (.tmp 72) (.int .u64 u22) (.int .u64 (IntKind.u64.wrap base))) (Value.int .u64) (fun q26 =>
  opRd Pr (Instr.index 9 (sval cs36_19037) (.int .u64 (IntKind.u64.wrap (u22 - (IntKind.u64.wrap (q26 * (IntKind.u64.wrap base))))))) (Value.int .u8) (fun t27 =>
  opRd Pr (Instr.indexAt 172 (.pointer (some a1)) (.int .i64 (i64 (i23 - 1)))) pav (fun t28 =>
  opUn Pr (Instr.storeAt 5 (.pointer (some t28)) (.int .u8 t27)) (fun w29 =>
  k24 q26 (i64 (i23 - 1)) w29) w25) w25) w25) w25)
  (opRd Pr (Instr.index 9 (sval cs36_19037) (.int .u64 u22)) (Value.int .u8) (fun t30 =>
  opRd Pr (Instr.indexAt 172 (.pointer (some a1)) (.int .i64 (i64 (i23 - 1)))) pav (fun t31 =>
  opUn Pr (Instr.storeAt 5 (.pointer (some t31)) (.int .u8 t30)) (fun w32 =>
  j6 (i64 (i23 - 1)) w32) w25) w25) w25)) w8))
  (fun i33 w34 =>
  join1 (fun (j35 : Int → World → Prop) =>
  ifB neg
  (opRd Pr (Instr.indexAt 172 (.pointer (some a1)) (.int .i64 (i64 (i33 - 1)))) pav (fun t36 =>
  opUn Pr (Instr.storeAt 5 (.pointer (some t36)) (.int .u8 45)) (fun w37 =>
  j35 (i64 (i33 - 1)) w37) w34) w34)
  (j35 i33 w34))
  (fun i38 w39 =>
  ifB append
  (opRd Pr (Instr.sliceAt 172 (.pointer (some a1)) (some (.int .i64 i38)) none none) Sl.val (fun t40 =>
  opTy Pr (Builtin.append_ #[49, 49] 49 #[dst.val, t40.val]) Sl.val (fun d41 w42 =>
  K (d41, []) w42) w39) w39)
  (opRd Pr (Instr.sliceAt 172 (.pointer (some a1)) (some (.int .i64 i38)) none none) Sl.val (fun t43 =>
  opRd Pr (convert 49 9 t43.val) sval (fun s44 =>
  K (Sl.nil, s44) w39) w39) w39))))) w)))
def internal_strconv_formatBits_ann : Ann := (.s .d (.s (.s .d (.c .d .d)) (.s (.r [(0, .ty rPA)]) (.s .d (.sj [(.s 1, (rI .u64))] (.s .d (.c .d .d)) (.sj [(.s 13, (rI .i64))] (.s (.r [(1, .call rB)]) (.c (.s (.r [(2, .call (rI .i64))]) (.s .d (.s .d (.s (.b (.l [(.s 1, (rI .u64)), (.s 13, (rI .i64))] (.s (.s .d (.c .d .d)) (.b (.s .d (.s (.r [(4, .rd (rI .u8)), (5, .rd rPA), (6, .un)]) (.r [(2, .rd (rI .u64))]))))))) (.s .d (.r [(2, .rd (rI .u8)), (3, .rd rPA), (4, .un)])))))) (.s .d (.s (.b (.l [(.s 1, (rI .u64)), (.s 13, (rI .i64))] (.s (.s .d (.c .d .d)) (.b (.s .d (.s (.r [(2, .rd (rI .u64))]) (.s (.r [(6, .rd (rI .u8)), (7, .rd rPA), (8, .un)]) .d))))))) (.s .d (.r [(2, .rd (rI .u8)), (3, .rd rPA), (4, .un)])))))) (.sj [(.s 13, (rI .i64))] (.s .d (.c (.s .d (.r [(1, .rd rPA), (2, .un)])) .d)) (.s (.s .d (.c (.s (.r [(2, .rd rSl), (3, .ty rSl)]) .d) .d)) (.s (.r [(1, .rd rSl), (2, .rd rS)]) .d)))))))))
theorem internal_strconv_formatBits_calls {dst : Sl} {u : Int} {base : Int} {neg : Bool} {append : Bool} {K : (Sl × (List UInt8)) → World → Prop} {w : World} (h : internal_strconv_formatBits dst u base neg append K w) : callV Pr (tval2 Sl.val sval) 119 #[dst.val, (.int .u64 u), (.int .i64 base), (.bool neg), (.bool append)] w K :=
  calls_of Pr_plain Pr_mixed Pr_func119 internal_strconv_formatBits_ann (rT2 rSl rS) (args := [dst.val, (.int .u64 u), (.int .i64 base), (.bool neg), (.bool append)]) (by kernel_rfl) h

/- (*strings.Builder).grow -/
def strings_Builder_grow (b : Option Addr) (n : Int) (K : Unit → World → Prop) (w : World) : Prop :=
  heldM (fun S2 w1 =>
  opH Pr S2 (nilSem (.pointer b)) pav (fun t3 =>
  opH Pr S2 (Instr.loadAt 49 (.pointer (some (t3.add 1)))) Sl.val (fun t4 =>
  opH Pr S2 (nilSem (.pointer b)) pav (fun t5 =>
  opH Pr S2 (Instr.loadAt 49 (.pointer (some (t5.add 1)))) Sl.val (fun t6 =>
  opEx Pr 132 #[(.int .i64 (i64 ((i64 (2 * (t4.cap : Int))) + n)))] Sl.val (fun t7 w8 =>
  (S2 w8) ∧
  (opH Pr S2 (Instr.sliceAt 49 t7.val none (some (.int .i64 (t6.len : Int))) none) Sl.val (fun buf9 =>
  opRd Pr (nilSem (.pointer b)) pav (fun t10 =>
  opRd Pr (Instr.loadAt 49 (.pointer (some (t10.add 1)))) Sl.val (fun t11 =>
  opTy Pr (Builtin.copy_ #[49, 49] 3 #[buf9.val, t11.val]) (Value.int .i64) (fun t12 w13 =>
  opRd Pr (nilSem (.pointer b)) pav (fun t14 =>
  opUn Pr (Instr.storeAt 49 (.pointer (some (t14.add 1))) buf9.val) (fun w15 =>
  K () w15) w13) w13) w8) w8) w8))) w1))))) w
def strings_Builder_grow_ann : Ann := (.s (.h (.take 0 (.take 1 (.take 2 (.take 3 (.take 4 (.take 5 (.take 6 (.take 7 (.take 9 (.take 10 (.take 11 (.take 12 (.take 13 (.one 8 (.take 14 (.take 15 .done)))))))))))))))) [(1, .rd rPA), (3, .rd rSl), (8, .ext rSl), (10, .rd rPA), (12, .rd rSl), (14, .rd rSl)]) (.s (.r [(2, .rd rPA), (4, .rd rSl), (5, .ty (rI .i64))]) (.r [(2, .rd rPA), (4, .un)])))
theorem strings_Builder_grow_calls {b : Option Addr} {n : Int} {K : Unit → World → Prop} {w : World} (h : strings_Builder_grow b n K w) : callV Pr uval 120 #[(.pointer b), (.int .i64 n)] w K :=
  calls_of Pr_plain Pr_mixed Pr_func120 strings_Builder_grow_ann rU (args := [(.pointer b), (.int .i64 n)]) (by kernel_rfl) h

/- internal/stringslite.Index -/
def internal_stringslite_Index (s : List UInt8) (substr : List UInt8) (K : Int → World → Prop) (w : World) : Prop :=
  join0 (fun (j1 : World → Prop) =>
  ifB (((substr : List UInt8).length : Int) == 0)
  (K 0 w)
  (ifB (strEq substr s)
  (K 0 w)
  (ifB (((substr : List UInt8).length : Int) == 1)
  (opRd Pr (Instr.index 9 (sval substr) (.int .i64 0)) (Value.int .u8) (fun t2 =>
  callV Pr (Value.int .i64) 103 #[(sval s), (.int .u8 t2)] w fun t3 w4 =>
  K t3 w4) w)
  (ifB (decide (((substr : List UInt8).length : Int) ≥ ((s : List UInt8).length : Int)))
  (K (-1) w)
  (opRd Pr (Instr.loadAt 3 (.pointer (some g_internal_bytealg_MaxLen))) (Value.int .i64) (fun t5 =>
  ifB (decide (((substr : List UInt8).length : Int) ≤ t5))
  (ifB (decide (((s : List UInt8).length : Int) ≤ 64))
  (opEx Pr 133 #[(sval s), (sval substr)] (Value.int .i64) (fun t6 w7 =>
  K t6 w7) w)
  (j1 w))
  (j1 w)) w)))))
  (fun w8 =>
  opRd Pr (Instr.index 9 (sval substr) (.int .i64 0)) (Value.int .u8) (fun c09 =>
  opRd Pr (Instr.index 9 (sval substr) (.int .i64 1)) (Value.int .u8) (fun c110 =>
  loop2 (0 : Int) (0 : Int) (fun i11 fails12 k13 w14 =>
  ifB (decide (i11 < (i64 ((i64 (((s : List UInt8).length : Int) - ((substr : List UInt8).length : Int))) + 1))))
  (join1 (fun (j15 : Int → World → Prop) =>
  opRd Pr (Instr.index 9 (sval s) (.int .i64 i11)) (Value.int .u8) (fun t16 =>
  ifB (t16 != c09)
  (opRd Pr (Instr.sliceAt 9 (sval s) (some (.int .i64 (i64 (i11 + 1)))) (some (.int .i64 (i64 ((i64 (((s : List UInt8).length : Int) - ((substr : List UInt8).length : Int))) + 1)))) none) sval (fun t17 =>
  callV Pr (Value.int .i64) 103 #[(sval t17), (.int .u8 c09)] w14 fun o18 w19 =>
  ifB (decide (o18 < 0))
  (K (-1) w19)
  (j15 (i64 (i11 + (i64 (o18 + 1)))) w19)) w14)
  (j15 i11 w14)) w14)
  (fun i20 w21 =>
  join0 (fun (j22 : World → Prop) =>
  opRd Pr (Instr.index 9 (sval s) (.int .i64 (i64 (i20 + 1)))) (Value.int .u8) (fun t23 =>
  ifB (t23 == c110)
  (opRd Pr (Instr.sliceAt 9 (sval s) (some (.int .i64 i20)) (some (.int .i64 (i64 (i20 + ((substr : List UInt8).length : Int))))) none) sval (fun t24 =>
  ifB (strEq t24 substr)
  (K i20 w21)
  (j22 w21)) w21)
  (j22 w21)) w21)
  (fun w25 =>
  opRd Pr (Instr.loadAt 3 (.pointer (some g_internal_bytealg_MaxLen))) (Value.int .i64) (fun t26 =>
  ifB (decide (((substr : List UInt8).length : Int) ≤ t26))
  (callV Pr (Value.int .i64) 134 #[(.int .i64 (i64 (i20 + 1)))] w25 fun t27 w28 =>
  ifB (decide ((i64 (fails12 + 1)) > t27))
  (opRd Pr (Instr.sliceAt 9 (sval s) (some (.int .i64 (i64 (i20 + 1)))) none none) sval (fun t29 =>
  opEx Pr 133 #[(sval t29), (sval substr)] (Value.int .i64) (fun r30 w31 =>
  ifB (decide (r30 ≥ 0))
  (K (i64 (r30 + (i64 (i20 + 1)))) w31)
  (K (-1) w31)) w28) w28)
  (opRd Pr (Instr.loadAt 3 (.pointer (some g_internal_bytealg_MaxLen))) (Value.int .i64) (fun t32 =>
  ifB (decide (((substr : List UInt8).length : Int) > t32))
  (ifB (decide ((i64 (fails12 + 1)) ≥ (i64 (4 + (shR .i64 (i64 (i20 + 1)) 4)))))
  (ifB (decide ((i64 (i20 + 1)) < (i64 ((i64 (((s : List UInt8).length : Int) - ((substr : List UInt8).length : Int))) + 1))))
  (opRd Pr (Instr.sliceAt 9 (sval s) (some (.int .i64 (i64 (i20 + 1)))) none none) sval (fun t33 =>
  callV Pr (Value.int .i64) 135 #[(sval t33), (sval substr)] w28 fun j34 w35 =>
  ifB (decide (j34 < 0))
  (K (-1) w35)
  (K (i64 ((i64 (i20 + 1)) + j34)) w35)) w28)
  (k13 (i64 (i20 + 1)) (i64 (fails12 + 1)) w28))
  (k13 (i64 (i20 + 1)) (i64 (fails12 + 1)) w28))
  (k13 (i64 (i20 + 1)) (i64 (fails12 + 1)) w28)) w28))
  (opRd Pr (Instr.loadAt 3 (.pointer (some g_internal_bytealg_MaxLen))) (Value.int .i64) (fun t36 =>
  ifB (decide (((substr : List UInt8).length : Int) > t36))
  (ifB (decide ((i64 (fails12 + 1)) ≥ (i64 (4 + (shR .i64 (i64 (i20 + 1)) 4)))))
  (ifB (decide ((i64 (i20 + 1)) < (i64 ((i64 (((s : List UInt8).length : Int) - ((substr : List UInt8).length : Int))) + 1))))
  (opRd Pr (Instr.sliceAt 9 (sval s) (some (.int .i64 (i64 (i20 + 1)))) none none) sval (fun t37 =>
  callV Pr (Value.int .i64) 135 #[(sval t37), (sval substr)] w25 fun j38 w39 =>
  ifB (decide (j38 < 0))
  (K (-1) w39)
  (K (i64 ((i64 (i20 + 1)) + j38)) w39)) w25)
  (k13 (i64 (i20 + 1)) (i64 (fails12 + 1)) w25))
  (k13 (i64 (i20 + 1)) (i64 (fails12 + 1)) w25))
  (k13 (i64 (i20 + 1)) (i64 (fails12 + 1)) w25)) w25)) w25)))
  (K (-1) w14)) w8) w8) w8)
def internal_stringslite_Index_ann : Ann := (.s .d (.s .d (.sj [] (.b (.s .d (.c (.s .d .d) (.s .d (.c (.s (.r [(2, .rd (rI .u8)), (3, .call (rI .i64))]) .d) (.s .d (.c (.s .d .d) (.s (.r [(1, .rd (rI .i64))]) (.c (.s (.r [(2, .ext (rI .i64))]) .d) .d))))))))) (.s (.r [(1, .rd (rI .u8))]) (.s (.r [(1, .rd (rI .u8))]) (.s .d (.s .d (.s .d (.s (.b (.l [(.s 8, (rI .i64)), (.s 10, (rI .i64))] (.s (.s .d (.c .d .d)) (.b (.sj [(.s 8, (rI .i64))] (.s (.r [(2, .rd (rI .u8))]) (.c (.s (.r [(4, .rd rS), (6, .call (rI .i64))]) (.s (.s .d (.c (.s .d .d) .d)) .d)) .d)) (.sj [] (.s (.r [(3, .rd (rI .u8)), (12, .rd rS)]) (.c (.s .d .d) .d)) (.s .d (.s .d (.s (.r [(1, .rd (rI .i64)), (6, .call (rI .i64))]) (.c (.s (.r [(2, .rd rS), (4, .ext (rI .i64))]) (.s (.s .d (.c (.s .d .d) .d)) (.s .d .d))) (.s (.r [(1, .rd (rI .i64))]) (.c (.s (.r [(2, .rd rS), (4, .call (rI .i64))]) (.s (.s .d (.c (.s .d .d) .d)) (.s .d .d))) .d)))))))))))) (.s .d .d))))))))))
theorem internal_stringslite_Index_calls {s : List UInt8} {substr : List UInt8} {K : Int → World → Prop} {w : World} (h : internal_stringslite_Index s substr K w) : callV Pr (Value.int .i64) 123 #[(sval s), (sval substr)] w K :=
  calls_of Pr_plain Pr_mixed Pr_func123 internal_stringslite_Index_ann (rI .i64) (args := [(sval s), (sval substr)]) (by kernel_rfl) h

/- internal/strconv.ParseUint -/
def internal_strconv_ParseUint (s : List UInt8) (base : Int) (bitSize : Int) (K : (Int × Value) → World → Prop) (w : World) : Prop :=
  ifB (strEq s [])
  (K (0, (.iface 144 (.int .i64 2))) w)
  (join2 (fun (j1 : (List UInt8) → Int → World → Prop) =>
  ifB (decide ((2 : Int) ≤ base))
  (ifB (decide (base ≤ 36))
  (j1 s base w)
  (ifB (base == 0)
  (opRd Pr (Instr.index 9 (sval s) (.int .i64 0)) (Value.int .u8) (fun t2 =>
  ifB (t2 == 48)
  (ifB (decide (((s : List UInt8).length : Int) ≥ 3))
  (opRd Pr (Instr.index 9 (sval s) (.int .i64 1)) (Value.int .u8) (fun t3 =>
  callV Pr (Value.int .u8) 136 #[(.int .u8 t3)] w fun t4 w5 =>
  ifB (t4 == 98)
  (opRd Pr (Instr.sliceAt 9 (sval s) (some (.int .i64 2)) none none) sval (fun s6 =>
  j1 s6 2 w5) w5)
  (ifB (decide (((s : List UInt8).length : Int) ≥ 3))
  (opRd Pr (Instr.index 9 (sval s) (.int .i64 1)) (Value.int .u8) (fun t7 =>
  callV Pr (Value.int .u8) 136 #[(.int .u8 t7)] w5 fun t8 w9 =>
  ifB (t8 == 111)
  (opRd Pr (Instr.sliceAt 9 (sval s) (some (.int .i64 2)) none none) sval (fun s10 =>
  j1 s10 8 w9) w9)
  (ifB (decide (((s : List UInt8).length : Int) ≥ 3))
  (opRd Pr (Instr.index 9 (sval s) (.int .i64 1)) (Value.int .u8) (fun t11 =>
  callV Pr (Value.int .u8) 136 #[(.int .u8 t11)] w9 fun t12 w13 =>
  ifB (t12 == 120)
  (opRd Pr (Instr.sliceAt 9 (sval s) (some (.int .i64 2)) none none) sval (fun s14 =>
  j1 s14 16 w13) w13)
  (opRd Pr (Instr.sliceAt 9 (sval s) (some (.int .i64 1)) none none) sval (fun s15 =>
  j1 s15 8 w13) w13)) w9)
  (opRd Pr (Instr.sliceAt 9 (sval s) (some (.int .i64 1)) none none) sval (fun s16 =>
  j1 s16 8 w9) w9))) w5)
  (ifB (decide (((s : List UInt8).length : Int) ≥ 3))
  (opRd Pr (Instr.index 9 (sval s) (.int .i64 1)) (Value.int .u8) (fun t17 =>
  callV Pr (Value.int .u8) 136 #[(.int .u8 t17)] w5 fun t18 w19 =>
  ifB (t18 == 120)
  (opRd Pr (Instr.sliceAt 9 (sval s) (some (.int .i64 2)) none none) sval (fun s20 =>
  j1 s20 16 w19) w19)
  (opRd Pr (Instr.sliceAt 9 (sval s) (some (.int .i64 1)) none none) sval (fun s21 =>
  j1 s21 8 w19) w19)) w5)
  (opRd Pr (Instr.sliceAt 9 (sval s) (some (.int .i64 1)) none none) sval (fun s22 =>
  j1 s22 8 w5) w5)))) w)
  (ifB (decide (((s : List UInt8).length : Int) ≥ 3))
  (opRd Pr (Instr.index 9 (sval s) (.int .i64 1)) (Value.int .u8) (fun t23 =>
  callV Pr (Value.int .u8) 136 #[(.int .u8 t23)] w fun t24 w25 =>
  ifB (t24 == 111)
  (opRd Pr (Instr.sliceAt 9 (sval s) (some (.int .i64 2)) none none) sval (fun s26 =>
  j1 s26 8 w25) w25)
  (ifB (decide (((s : List UInt8).length : Int) ≥ 3))
  (opRd Pr (Instr.index 9 (sval s) (.int .i64 1)) (Value.int .u8) (fun t27 =>
  callV Pr (Value.int .u8) 136 #[(.int .u8 t27)] w25 fun t28 w29 =>
  ifB (t28 == 120)
  (opRd Pr (Instr.sliceAt 9 (sval s) (some (.int .i64 2)) none none) sval (fun s30 =>
  j1 s30 16 w29) w29)
  (opRd Pr (Instr.sliceAt 9 (sval s) (some (.int .i64 1)) none none) sval (fun s31 =>
  j1 s31 8 w29) w29)) w25)
  (opRd Pr (Instr.sliceAt 9 (sval s) (some (.int .i64 1)) none none) sval (fun s32 =>
  j1 s32 8 w25) w25))) w)
  (ifB (decide (((s : List UInt8).length : Int) ≥ 3))
  (opRd Pr (Instr.index 9 (sval s) (.int .i64 1)) (Value.int .u8) (fun t33 =>
  callV Pr (Value.int .u8) 136 #[(.int .u8 t33)] w fun t34 w35 =>
  ifB (t34 == 120)
  (opRd Pr (Instr.sliceAt 9 (sval s) (some (.int .i64 2)) none none) sval (fun s36 =>
  j1 s36 16 w35) w35)
  (opRd Pr (Instr.sliceAt 9 (sval s) (some (.int .i64 1)) none none) sval (fun s37 =>
  j1 s37 8 w35) w35)) w)
  (opRd Pr (Instr.sliceAt 9 (sval s) (some (.int .i64 1)) none none) sval (fun s38 =>
  j1 s38 8 w) w))))
  (j1 s 10 w)) w)
  (K (0, (.iface 144 (.int .i64 3))) w)))
  (ifB (base == 0)
  (opRd Pr (Instr.index 9 (sval s) (.int .i64 0)) (Value.int .u8) (fun t39 =>
  ifB (t39 == 48)
  (ifB (decide (((s : List UInt8).length : Int) ≥ 3))
  (opRd Pr (Instr.index 9 (sval s) (.int .i64 1)) (Value.int .u8) (fun t40 =>
  callV Pr (Value.int .u8) 136 #[(.int .u8 t40)] w fun t41 w42 =>
  ifB (t41 == 98)
  (opRd Pr (Instr.sliceAt 9 (sval s) (some (.int .i64 2)) none none) sval (fun s43 =>
  j1 s43 2 w42) w42)
  (ifB (decide (((s : List UInt8).length : Int) ≥ 3))
  (opRd Pr (Instr.index 9 (sval s) (.int .i64 1)) (Value.int .u8) (fun t44 =>
  callV Pr (Value.int .u8) 136 #[(.int .u8 t44)] w42 fun t45 w46 =>
  ifB (t45 == 111)
  (opRd Pr (Instr.sliceAt 9 (sval s) (some (.int .i64 2)) none none) sval (fun s47 =>
  j1 s47 8 w46) w46)
  (ifB (decide (((s : List UInt8).length : Int) ≥ 3))
  (opRd Pr (Instr.index 9 (sval s) (.int .i64 1)) (Value.int .u8) (fun t48 =>
  callV Pr (Value.int .u8) 136 #[(.int .u8 t48)] w46 fun t49 w50 =>
  ifB (t49 == 120)
  (opRd Pr (Instr.sliceAt 9 (sval s) (some (.int .i64 2)) none none) sval (fun s51 =>
  j1 s51 16 w50) w50)
  (opRd Pr (Instr.sliceAt 9 (sval s) (some (.int .i64 1)) none none) sval (fun s52 =>
  j1 s52 8 w50) w50)) w46)
  (opRd Pr (Instr.sliceAt 9 (sval s) (some (.int .i64 1)) none none) sval (fun s53 =>
  j1 s53 8 w46) w46))) w42)
  (ifB (decide (((s : List UInt8).length : Int) ≥ 3))
  (opRd Pr (Instr.index 9 (sval s) (.int .i64 1)) (Value.int .u8) (fun t54 =>
  callV Pr (Value.int .u8) 136 #[(.int .u8 t54)] w42 fun t55 w56 =>
  ifB (t55 == 120)
  (opRd Pr (Instr.sliceAt 9 (sval s) (some (.int .i64 2)) none none) sval (fun s57 =>
  j1 s57 16 w56) w56)
  (opRd Pr (Instr.sliceAt 9 (sval s) (some (.int .i64 1)) none none) sval (fun s58 =>
  j1 s58 8 w56) w56)) w42)
  (opRd Pr (Instr.sliceAt 9 (sval s) (some (.int .i64 1)) none none) sval (fun s59 =>
  j1 s59 8 w42) w42)))) w)
  (ifB (decide (((s : List UInt8).length : Int) ≥ 3))
  (opRd Pr (Instr.index 9 (sval s) (.int .i64 1)) (Value.int .u8) (fun t60 =>
  callV Pr (Value.int .u8) 136 #[(.int .u8 t60)] w fun t61 w62 =>
  ifB (t61 == 111)
  (opRd Pr (Instr.sliceAt 9 (sval s) (some (.int .i64 2)) none none) sval (fun s63 =>
  j1 s63 8 w62) w62)
  (ifB (decide (((s : List UInt8).length : Int) ≥ 3))
  (opRd Pr (Instr.index 9 (sval s) (.int .i64 1)) (Value.int .u8) (fun t64 =>
  callV Pr (Value.int .u8) 136 #[(.int .u8 t64)] w62 fun t65 w66 =>
  ifB (t65 == 120)
  (opRd Pr (Instr.sliceAt 9 (sval s) (some (.int .i64 2)) none none) sval (fun s67 =>
  j1 s67 16 w66) w66)
  (opRd Pr (Instr.sliceAt 9 (sval s) (some (.int .i64 1)) none none) sval (fun s68 =>
  j1 s68 8 w66) w66)) w62)
  (opRd Pr (Instr.sliceAt 9 (sval s) (some (.int .i64 1)) none none) sval (fun s69 =>
  j1 s69 8 w62) w62))) w)
  (ifB (decide (((s : List UInt8).length : Int) ≥ 3))
  (opRd Pr (Instr.index 9 (sval s) (.int .i64 1)) (Value.int .u8) (fun t70 =>
  callV Pr (Value.int .u8) 136 #[(.int .u8 t70)] w fun t71 w72 =>
  ifB (t71 == 120)
  (opRd Pr (Instr.sliceAt 9 (sval s) (some (.int .i64 2)) none none) sval (fun s73 =>
  j1 s73 16 w72) w72)
  (opRd Pr (Instr.sliceAt 9 (sval s) (some (.int .i64 1)) none none) sval (fun s74 =>
  j1 s74 8 w72) w72)) w)
  (opRd Pr (Instr.sliceAt 9 (sval s) (some (.int .i64 1)) none none) sval (fun s75 =>
  j1 s75 8 w) w))))
  (j1 s 10 w)) w)
  (K (0, (.iface 144 (.int .i64 3))) w)))
  (fun s76 base77 w78 =>
  join1 (fun (j79 : Int → World → Prop) =>
  ifB (bitSize == 0)
  (j79 64 w78)
  (ifB (decide (bitSize < 0))
  (K (0, (.iface 144 (.int .i64 4))) w78)
  (ifB (decide (bitSize > 64))
  (K (0, (.iface 144 (.int .i64 4))) w78)
  (j79 bitSize w78))))
  (fun bitSize80 w81 =>
  join1 (fun (j82 : Int → World → Prop) =>
  ifB (base77 == 10)
  (j82 1844674407370955162 w81)
  (ifB (base77 == 16)
  (j82 1152921504606846976 w81)
  (opRd Pr (binSem .quo 153 (.const (.int .u64 18446744073709551615)) (.tmp 87) (.int .u64 18446744073709551615) (.int .u64 (IntKind.u64.wrap base77))) (Value.int .u64) (fun t83 =>
  j82 (IntKind.u64.wrap (t83 + 1)) w81) w81)))
  (fun cutoff84 w85 =>
  opRd Pr (binSem .shl 153 (.const (.int .u64 1)) (.tmp 95) (.int .u64 1) (.int .u64 (IntKind.u64.wrap bitSize80))) (Value.int .u64) (fun t86 =>
  opTy Pr (convert 9 49 (sval s76)) Sl.val (fun t87 w88 =>
  loop3 (false : Bool) (0 : Int) (0 : Int) (fun underscores89 n90 t91 k92 w93 =>
  ifB (decide (t91 < (t87.len : Int)))
  (opRd Pr (Instr.indexAt 49 t87.val (.int .i64 t91)) pav (fun t94 =>
  opRd Pr (Instr.loadAt 5 (.pointer (some t94))) (Value.int .u8) (fun c95 =>
  join2 (fun (j96 : Bool → Int → World → Prop) =>
  ifB (c95 == 95)
  (ifB (base == 0)
  (k92 true n90 (i64 (t91 + 1)) w93)
  (ifB (decide ((48 : Int) ≤ c95))
  (ifB (decide (c95 ≤ 57))
  (j96 underscores89 (IntKind.u8.wrap (c95 - 48)) w93)
  (callV Pr (Value.int .u8) 136 #[(.int .u8 c95)] w93 fun t97 w98 =>
  ifB (decide ((97 : Int) ≤ t97))
  (callV Pr (Value.int .u8) 136 #[(.int .u8 c95)] w98 fun t99 w100 =>
  ifB (decide (t99 ≤ 122))
  (callV Pr (Value.int .u8) 136 #[(.int .u8 c95)] w100 fun t101 w102 =>
  j96 underscores89 (IntKind.u8.wrap ((IntKind.u8.wrap (t101 - 97)) + 10)) w102)
  (K (0, (.iface 144 (.int .i64 2))) w100))
  (K (0, (.iface 144 (.int .i64 2))) w98)))
  (callV Pr (Value.int .u8) 136 #[(.int .u8 c95)] w93 fun t103 w104 =>
  ifB (decide ((97 : Int) ≤ t103))
  (callV Pr (Value.int .u8) 136 #[(.int .u8 c95)] w104 fun t105 w106 =>
  ifB (decide (t105 ≤ 122))
  (callV Pr (Value.int .u8) 136 #[(.int .u8 c95)] w106 fun t107 w108 =>
  j96 underscores89 (IntKind.u8.wrap ((IntKind.u8.wrap (t107 - 97)) + 10)) w108)
  (K (0, (.iface 144 (.int .i64 2))) w106))
  (K (0, (.iface 144 (.int .i64 2))) w104))))
  (ifB (decide ((48 : Int) ≤ c95))
  (ifB (decide (c95 ≤ 57))
  (j96 underscores89 (IntKind.u8.wrap (c95 - 48)) w93)
  (callV Pr (Value.int .u8) 136 #[(.int .u8 c95)] w93 fun t109 w110 =>
  ifB (decide ((97 : Int) ≤ t109))
  (callV Pr (Value.int .u8) 136 #[(.int .u8 c95)] w110 fun t111 w112 =>
  ifB (decide (t111 ≤ 122))
  (callV Pr (Value.int .u8) 136 #[(.int .u8 c95)] w112 fun t113 w114 =>
  j96 underscores89 (IntKind.u8.wrap ((IntKind.u8.wrap (t113 - 97)) + 10)) w114)
  (K (0, (.iface 144 (.int .i64 2))) w112))
  (K (0, (.iface 144 (.int .i64 2))) w110)))
  (callV Pr (Value.int .u8) 136 #[(.int .u8 c95)] w93 fun t115 w116 =>
  ifB (decide ((97 : Int) ≤ t115))
  (callV Pr (Value.int .u8) 136 #[(.int .u8 c95)] w116 fun t117 w118 =>
  ifB (decide (t117 ≤ 122))
  (callV Pr (Value.int .u8) 136 #[(.int .u8 c95)] w118 fun t119 w120 =>
  j96 underscores89 (IntKind.u8.wrap ((IntKind.u8.wrap (t119 - 97)) + 10)) w120)
  (K (0, (.iface 144 (.int .i64 2))) w118))
  (K (0, (.iface 144 (.int .i64 2))) w116))))
  (fun underscores121 d122 w123 =>
  ifB (decide (d122 ≥ (IntKind.u8.wrap base77)))
  (K (0, (.iface 144 (.int .i64 2))) w123)
  (ifB (decide (n90 ≥ cutoff84))
  (K ((IntKind.u64.wrap (t86 - 1)), (.iface 144 (.int .i64 1))) w123)
  (ifB (decide ((IntKind.u64.wrap ((IntKind.u64.wrap (n90 * (IntKind.u64.wrap base77))) + (IntKind.u64.wrap d122))) < (IntKind.u64.wrap (n90 * (IntKind.u64.wrap base77)))))
  (K ((IntKind.u64.wrap (t86 - 1)), (.iface 144 (.int .i64 1))) w123)
  (ifB (decide ((IntKind.u64.wrap ((IntKind.u64.wrap (n90 * (IntKind.u64.wrap base77))) + (IntKind.u64.wrap d122))) > (IntKind.u64.wrap (t86 - 1))))
  (K ((IntKind.u64.wrap (t86 - 1)), (.iface 144 (.int .i64 1))) w123)
  (k92 underscores121 (IntKind.u64.wrap ((IntKind.u64.wrap (n90 * (IntKind.u64.wrap base77))) + (IntKind.u64.wrap d122))) (i64 (t91 + 1)) w123)))))) w93) w93)
  (ifB underscores89
  (callV Pr Value.bool 137 #[(sval s)] w93 fun t124 w125 =>
  ifB (!t124)
  (K (0, (.iface 144 (.int .i64 2))) w125)
  (K (n90, .nilIface) w125))
  (K (n90, .nilIface) w93))) w88) w85) w85))))
def internal_strconv_ParseUint_ann : Ann := (.s .d (.s (.s .d (.c (.s .d .d) .d)) (.s .d (.s .d (.sj [(.s 0, rS), (.s 1, (rI .i64))] (.b (.s .d (.c .d (.s .d (.c (.s .d (.s (.r [(1, .rd (rI .u8))]) (.c (.b (.s (.r [(5, .rd (rI .u8)), (6, .call (rI .u8))]) (.c (.s .d (.r [(1, .rd rS)])) (.s (.r [(5, .rd (rI .u8)), (6, .call (rI .u8))]) (.c (.s .d (.r [(1, .rd rS)])) (.s (.r [(5, .rd (rI .u8)), (6, .call (rI .u8))]) (.c (.s .d (.r [(1, .rd rS)])) (.s .d (.r [(1, .rd rS)]))))))))) .d))) (.s .d .d)))))) (.sj [(.s 2, (rI .i64))] (.s .d (.c .d (.s .d (.c (.s .d .d) .d)))) (.s .d (.sj [(.s 10, (rI .u64))] (.s .d (.b (.s .d (.c .d (.s .d (.c .d (.r [(2, .rd (rI .u64))]))))))) (.s (.r [(2, .rd (rI .u64))]) (.s .d (.s .d (.s (.s (.r [(1, .ty rSl)]) (.b (.l [(.s 12, rB), (.s 13, (rI .u64)), (.s 101, (rI .i64))] (.s .d (.s (.c .d .d) (.s (.b (.s (.r [(0, .rd rPA), (1, .rd (rI .u8))]) (.s .d (.sj [(.s 12, rB), (.s 16, (rI .u8))] (.b (.s .d (.c (.s .d .d) (.s .d (.c .d (.s (.r [(1, .call (rI .u8)), (5, .call (rI .u8))]) (.c (.r [(1, .call (rI .u8))]) (.s .d .d)))))))) (.s (.s .d (.c (.s .d .d) .d)) (.s (.s .d (.c (.s .d .d) .d)) (.s .d (.s .d (.s (.s .d (.c (.s .d .d) .d)) .d))))))))) .d)))))) (.s (.s (.r [(3, .call rB)]) (.c (.s .d .d) .d)) (.s .d .d))))))))))))))
theorem internal_strconv_ParseUint_calls {s : List UInt8} {base : Int} {bitSize : Int} {K : (Int × Value) → World → Prop} {w : World} (h : internal_strconv_ParseUint s base bitSize K w) : callV Pr (tval2 (Value.int .u64) vval) 124 #[(sval s), (.int .i64 base), (.int .i64 bitSize)] w K :=
  calls_of Pr_plain Pr_mixed Pr_func124 internal_strconv_ParseUint_ann (rT2 (rI .u64) rV) (args := [(sval s), (.int .i64 base), (.int .i64 bitSize)]) (by kernel_rfl) h

/- internal/stringslite.Clone -/
def internal_stringslite_Clone (s : List UInt8) (K : (List UInt8) → World → Prop) (w : World) : Prop :=
  ifB (((s : List UInt8).length : Int) == 0)
  (K [] w)
  (opTy Pr (Instr.makeSlice 49 (.int .i64 ((s : List UInt8).length : Int)) (.int .i64 ((s : List UInt8).length : Int))) Sl.val (fun b1 w2 =>
  opTy Pr (Builtin.copy_ #[49, 9] 3 #[b1.val, (sval s)]) (Value.int .i64) (fun t3 w4 =>
  opRd Pr (Instr.indexAt 49 b1.val (.int .i64 0)) pav (fun t5 =>
  opTy Pr (Builtin.unsafeString_ #[124, 3] 9 #[(.pointer (some t5)), (.int .i64 (b1.len : Int))]) sval (fun t6 w7 =>
  K t6 w7) w4) w4) w2) w)
def internal_stringslite_Clone_ann : Ann := (.s .d (.s (.s .d (.c (.s .d .d) .d)) (.s (.r [(2, .ty rSl)]) (.s (.r [(2, .ty (rI .i64))]) (.s (.r [(1, .rd rPA), (4, .ty rS)]) .d)))))
theorem internal_stringslite_Clone_calls {s : List UInt8} {K : (List UInt8) → World → Prop} {w : World} (h : internal_stringslite_Clone s K w) : callV Pr sval 125 #[(sval s)] w K :=
  calls_of Pr_plain Pr_mixed Pr_func125 internal_stringslite_Clone_ann rS (args := [(sval s)]) (by kernel_rfl) h

/- errors.New -/
def errors_New (text : List UInt8) (K : Value → World → Prop) (w : World) : Prop :=
  opTy Pr (Instr.box 178 (.agg ⟨[(sval text)]⟩)) pav (fun t1 w2 =>
  K (.iface 176 (.pointer (some t1))) w2) w
def errors_New_ann : Ann := (.s .d (.s (.r [(2, .ty rPA)]) .d))
theorem errors_New_calls {text : List UInt8} {K : Value → World → Prop} {w : World} (h : errors_New text K w) : callV Pr vval 126 #[(sval text)] w K :=
  calls_of Pr_plain Pr_mixed Pr_func126 errors_New_ann rV (args := [(sval text)]) (by kernel_rfl) h

/- internal/strconv.log10Pow2 -/
def internal_strconv_log10Pow2 (x : Int) (K : Int → World → Prop) (w : World) : Prop :=
  K (shR .i64 (i64 (x * 78913)) 18) w
def internal_strconv_log10Pow2_ann : Ann := (.s .d (.s .d .d))
theorem internal_strconv_log10Pow2_calls {x : Int} {K : Int → World → Prop} {w : World} (h : internal_strconv_log10Pow2 x K w) : callV Pr (Value.int .i64) 127 #[(.int .i64 x)] w K :=
  calls_of Pr_plain Pr_mixed Pr_func127 internal_strconv_log10Pow2_ann (rI .i64) (args := [(.int .i64 x)]) (by kernel_rfl) h

/- math/bits.Len64 -/
def math_bits_Len64 (x : Int) (K : Int → World → Prop) (w : World) : Prop :=
  join2 (fun (j1 : Int → Int → World → Prop) =>
  ifB (decide (x ≥ 4294967296))
  (j1 (shR .u64 x 32) 32 w)
  (j1 x 0 w))
  (fun x2 n3 w4 =>
  join2 (fun (j5 : Int → Int → World → Prop) =>
  ifB (decide (x2 ≥ 65536))
  (j5 (shR .u64 x2 16) (i64 (n3 + 16)) w4)
  (j5 x2 n3 w4))
  (fun x6 n7 w8 =>
  ifB (decide (x6 ≥ 256))
  (opRd Pr (Instr.index 9 (sval cs256_85724) (.int .u8 (IntKind.u8.wrap (shR .u64 x6 8)))) (Value.int .u8) (fun t9 =>
  K (i64 ((i64 (n7 + 8)) + (IntKind.i64.wrap t9))) w8) w8)
  (opRd Pr (Instr.index 9 (sval cs256_85724) (.int .u8 (IntKind.u8.wrap x6))) (Value.int .u8) (fun t10 =>
  K (i64 (n7 + (IntKind.i64.wrap t10))) w8) w8)))
def math_bits_Len64_ann : Ann := (.s .d (.sj [(.s 0, (rI .u64)), (.s 2, (rI .i64))] (.s .d (.c (.s .d .d) .d)) (.sj [(.s 0, (rI .u64)), (.s 2, (rI .i64))] (.s .d (.c (.s .d .d) .d)) (.s (.s .d (.c (.s .d .d) .d)) (.s (.r [(3, .rd (rI .u8))]) .d)))))
theorem math_bits_Len64_calls {x : Int} {K : Int → World → Prop} {w : World} (h : math_bits_Len64 x K w) : callV Pr (Value.int .i64) 128 #[(.int .u64 x)] w K :=
  calls_of Pr_plain Pr_mixed Pr_func128 math_bits_Len64_ann (rI .i64) (args := [(.int .u64 x)]) (by kernel_rfl) h

/- internal/strconv.bool2[int] -/
def internal_strconv_bool2_int (b : Bool) (K : Int → World → Prop) (w : World) : Prop :=
  ifB b
  (K 1 w)
  (K 0 w)
def internal_strconv_bool2_int_ann : Ann := (.s .d (.s (.s .d (.c (.s .d .d) .d)) (.s .d .d)))
theorem internal_strconv_bool2_int_calls {b : Bool} {K : Int → World → Prop} {w : World} (h : internal_strconv_bool2_int b K w) : callV Pr (Value.int .i64) 129 #[(.bool b)] w K :=
  calls_of Pr_plain Pr_mixed Pr_func129 internal_strconv_bool2_int_ann (rI .i64) (args := [(.bool b)]) (by kernel_rfl) h

/- internal/strconv.isPowerOfTwo -/
def internal_strconv_isPowerOfTwo (x : Int) (K : Bool → World → Prop) (w : World) : Prop :=
  K ((bAnd .i64 x (i64 (x - 1))) == 0) w
def internal_strconv_isPowerOfTwo_ann : Ann := (.s .d (.s .d .d))
theorem internal_strconv_isPowerOfTwo_calls {x : Int} {K : Bool → World → Prop} {w : World} (h : internal_strconv_isPowerOfTwo x K w) : callV Pr Value.bool 130 #[(.int .i64 x)] w K :=
  calls_of Pr_plain Pr_mixed Pr_func130 internal_strconv_isPowerOfTwo_ann rB (args := [(.int .i64 x)]) (by kernel_rfl) h

/- math/bits.TrailingZeros -/
def math_bits_TrailingZeros (x : Int) (K : Int → World → Prop) (w : World) : Prop :=
  callV Pr (Value.int .i64) 139 #[(.int .u64 x)] w fun t1 w2 =>
  K t1 w2
def math_bits_TrailingZeros_ann : Ann := (.s .d (.s (.c (.s .d .d) .d) (.s (.r [(1, .call (rI .i64))]) .d)))
theorem math_bits_TrailingZeros_calls {x : Int} {K : Int → World → Prop} {w : World} (h : math_bits_TrailingZeros x K w) : callV Pr (Value.int .i64) 131 #[(.int .u64 x)] w K :=
  calls_of Pr_plain Pr_mixed Pr_func131 math_bits_TrailingZeros_ann (rI .i64) (args := [(.int .u64 x)]) (by kernel_rfl) h

/- internal/bytealg.Cutover -/
def internal_bytealg_Cutover (n : Int) (K : Int → World → Prop) (w : World) : Prop :=
  K (IntKind.i64.wrap (Int.tdiv (i64 (n + 16)) 8)) w
def internal_bytealg_Cutover_ann : Ann := (.s .d (.s .d .d))
theorem internal_bytealg_Cutover_calls {n : Int} {K : Int → World → Prop} {w : World} (h : internal_bytealg_Cutover n K w) : callV Pr (Value.int .i64) 134 #[(.int .i64 n)] w K :=
  calls_of Pr_plain Pr_mixed Pr_func134 internal_bytealg_Cutover_ann (rI .i64) (args := [(.int .i64 n)]) (by kernel_rfl) h

/- internal/bytealg.IndexRabinKarp[string] -/
def internal_bytealg_IndexRabinKarp_string (s : List UInt8) (sep : List UInt8) (K : Int → World → Prop) (w : World) : Prop :=
  callV Pr (tval2 (Value.int .u32) (Value.int .u32)) 140 #[(sval sep)] w fun t1 w2 =>
  loop2 (0 : Int) (0 : Int) (fun h3 i4 k5 w6 =>
  ifB (decide (i4 < ((sep : List UInt8).length : Int)))
  (opRd Pr (Instr.index 9 (sval s) (.int .i64 i4)) (Value.int .u8) (fun t7 =>
  k5 (IntKind.u32.wrap ((IntKind.u32.wrap (h3 * 16777619)) + (IntKind.u32.wrap t7))) (i64 (i4 + 1)) w6) w6)
  (join0 (fun (j8 : World → Prop) =>
  ifB (h3 == t1.1)
  (opRd Pr (Instr.sliceAt 9 (sval s) none (some (.int .i64 ((sep : List UInt8).length : Int))) none) sval (fun t9 =>
  ifB (strEq t9 sep)
  (K 0 w6)
  (j8 w6)) w6)
  (j8 w6))
  (fun w10 =>
  loop2 (h3 : Int) (((sep : List UInt8).length : Int) : Int) (fun h11 i12 k13 w14 =>
  ifB (decide (i12 < ((s : List UInt8).length : Int)))
  (opRd Pr (Instr.index 9 (sval s) (.int .i64 i12)) (Value.int .u8) (fun t15 =>
  opRd Pr (Instr.index 9 (sval s) (.int .i64 (i64 (i12 - ((sep : List UInt8).length : Int))))) (Value.int .u8) (fun t16 =>
  ifB ((IntKind.u32.wrap ((IntKind.u32.wrap ((IntKind.u32.wrap (h11 * 16777619)) + (IntKind.u32.wrap t15))) - (IntKind.u32.wrap (t1.2 * (IntKind.u32.wrap t16))))) == t1.1)
  (opRd Pr (Instr.sliceAt 9 (sval s) (some (.int .i64 (i64 ((i64 (i12 + 1)) - ((sep : List UInt8).length : Int))))) (some (.int .i64 (i64 (i12 + 1)))) none) sval (fun t17 =>
  ifB (strEq t17 sep)
  (K (i64 ((i64 (i12 + 1)) - ((sep : List UInt8).length : Int))) w14)
  (k13 (IntKind.u32.wrap ((IntKind.u32.wrap ((IntKind.u32.wrap (h11 * 16777619)) + (IntKind.u32.wrap t15))) - (IntKind.u32.wrap (t1.2 * (IntKind.u32.wrap t16))))) (i64 (i12 + 1)) w14)) w14)
  (k13 (IntKind.u32.wrap ((IntKind.u32.wrap ((IntKind.u32.wrap (h11 * 16777619)) + (IntKind.u32.wrap t15))) - (IntKind.u32.wrap (t1.2 * (IntKind.u32.wrap t16))))) (i64 (i12 + 1)) w14)) w14) w14)
  (K (-1) w14)) w10))) w2
def internal_bytealg_IndexRabinKarp_string_ann : Ann := (.s .d (.s (.r [(1, .call (rT2 (rI .u32) (rI .u32)))]) (.s .d (.s .d (.s (.s .d (.b (.l [(.s 8, (rI .u32)), (.s 9, (rI .i64))] (.s (.s .d (.c .d .d)) (.s (.b (.r [(4, .rd (rI .u8))])) .d))))) (.sj [] (.s (.r [(6, .rd rS)]) (.c (.s .d .d) .d)) (.s (.s .d (.b (.l [(.s 8, (rI .u32)), (.s 10, (rI .i64))] (.s (.s .d (.c .d .d)) (.b (.s .d (.s (.r [(3, .rd (rI .u8))]) (.s (.r [(6, .rd (rI .u8))]) (.s .d (.s (.r [(9, .rd rS)]) (.c (.s .d .d) .d))))))))))) (.s .d .d))))))))
theorem internal_bytealg_IndexRabinKarp_string_calls {s : List UInt8} {sep : List UInt8} {K : Int → World → Prop} {w : World} (h : internal_bytealg_IndexRabinKarp_string s sep K w) : callV Pr (Value.int .i64) 135 #[(sval s), (sval sep)] w K :=
  calls_of Pr_plain Pr_mixed Pr_func135 internal_bytealg_IndexRabinKarp_string_ann (rI .i64) (args := [(sval s), (sval sep)]) (by kernel_rfl) h

/- internal/strconv.lower -/
def internal_strconv_lower (c : Int) (K : Int → World → Prop) (w : World) : Prop :=
  K (bOr .u8 c 32) w
def internal_strconv_lower_ann : Ann := (.s .d (.s .d .d))
theorem internal_strconv_lower_calls {c : Int} {K : Int → World → Prop} {w : World} (h : internal_strconv_lower c K w) : callV Pr (Value.int .u8) 136 #[(.int .u8 c)] w K :=
  calls_of Pr_plain Pr_mixed Pr_func136 internal_strconv_lower_ann (rI .u8) (args := [(.int .u8 c)]) (by kernel_rfl) h

/- internal/strconv.underscoreOK -/
def internal_strconv_underscoreOK (s : List UInt8) (K : Bool → World → Prop) (w : World) : Prop :=
  join1 (fun (j1 : (List UInt8) → World → Prop) =>
  ifB (decide (((s : List UInt8).length : Int) ≥ 1))
  (opRd Pr (Instr.index 9 (sval s) (.int .i64 0)) (Value.int .u8) (fun t2 =>
  ifB (t2 == 45)
  (opRd Pr (Instr.sliceAt 9 (sval s) (some (.int .i64 1)) none none) sval (fun s3 =>
  j1 s3 w) w)
  (opRd Pr (Instr.index 9 (sval s) (.int .i64 0)) (Value.int .u8) (fun t4 =>
  ifB (t4 == 43)
  (opRd Pr (Instr.sliceAt 9 (sval s) (some (.int .i64 1)) none none) sval (fun s5 =>
  j1 s5 w) w)
  (j1 s w)) w)) w)
  (j1 s w))
  (fun s6 w7 =>
  join3 (fun (j8 : Int → Int → Bool → World → Prop) =>
  ifB (decide (((s6 : List UInt8).length : Int) ≥ 2))
  (opRd Pr (Instr.index 9 (sval s6) (.int .i64 0)) (Value.int .u8) (fun t9 =>
  ifB (t9 == 48)
  (opRd Pr (Instr.index 9 (sval s6) (.int .i64 1)) (Value.int .u8) (fun t10 =>
  callV Pr (Value.int .u8) 136 #[(.int .u8 t10)] w7 fun t11 w12 =>
  ifB (t11 == 98)
  (opRd Pr (Instr.index 9 (sval s6) (.int .i64 1)) (Value.int .u8) (fun t13 =>
  callV Pr (Value.int .u8) 136 #[(.int .u8 t13)] w12 fun t14 w15 =>
  j8 48 2 (t14 == 120) w15) w12)
  (opRd Pr (Instr.index 9 (sval s6) (.int .i64 1)) (Value.int .u8) (fun t16 =>
  callV Pr (Value.int .u8) 136 #[(.int .u8 t16)] w12 fun t17 w18 =>
  ifB (t17 == 111)
  (opRd Pr (Instr.index 9 (sval s6) (.int .i64 1)) (Value.int .u8) (fun t19 =>
  callV Pr (Value.int .u8) 136 #[(.int .u8 t19)] w18 fun t20 w21 =>
  j8 48 2 (t20 == 120) w21) w18)
  (opRd Pr (Instr.index 9 (sval s6) (.int .i64 1)) (Value.int .u8) (fun t22 =>
  callV Pr (Value.int .u8) 136 #[(.int .u8 t22)] w18 fun t23 w24 =>
  ifB (t23 == 120)
  (opRd Pr (Instr.index 9 (sval s6) (.int .i64 1)) (Value.int .u8) (fun t25 =>
  callV Pr (Value.int .u8) 136 #[(.int .u8 t25)] w24 fun t26 w27 =>
  j8 48 2 (t26 == 120) w27) w24)
  (j8 94 0 false w24)) w18)) w12)) w7)
  (j8 94 0 false w7)) w7)
  (j8 94 0 false w7))
  (fun saw28 i29 hex30 w31 =>
  loop2 (saw28 : Int) (i29 : Int) (fun saw32 i33 k34 w35 =>
  ifB (decide (i33 < ((s6 : List UInt8).length : Int)))
  (join1 (fun (j36 : Int → World → Prop) =>
  opRd Pr (Instr.index 9 (sval s6) (.int .i64 i33)) (Value.int .u8) (fun t37 =>
  ifB (decide ((48 : Int) ≤ t37))
  (opRd Pr (Instr.index 9 (sval s6) (.int .i64 i33)) (Value.int .u8) (fun t38 =>
  ifB (decide (t38 ≤ 57))
  (k34 48 (i64 (i33 + 1)) w35)
  (ifB hex30
  (opRd Pr (Instr.index 9 (sval s6) (.int .i64 i33)) (Value.int .u8) (fun t39 =>
  callV Pr (Value.int .u8) 136 #[(.int .u8 t39)] w35 fun t40 w41 =>
  ifB (decide ((97 : Int) ≤ t40))
  (opRd Pr (Instr.index 9 (sval s6) (.int .i64 i33)) (Value.int .u8) (fun t42 =>
  callV Pr (Value.int .u8) 136 #[(.int .u8 t42)] w41 fun t43 w44 =>
  ifB (decide (t43 ≤ 102))
  (k34 48 (i64 (i33 + 1)) w44)
  (j36 saw32 w44)) w41)
  (j36 saw32 w41)) w35)
  (j36 saw32 w35))) w35)
  (ifB hex30
  (opRd Pr (Instr.index 9 (sval s6) (.int .i64 i33)) (Value.int .u8) (fun t45 =>
  callV Pr (Value.int .u8) 136 #[(.int .u8 t45)] w35 fun t46 w47 =>
  ifB (decide ((97 : Int) ≤ t46))
  (opRd Pr (Instr.index 9 (sval s6) (.int .i64 i33)) (Value.int .u8) (fun t48 =>
  callV Pr (Value.int .u8) 136 #[(.int .u8 t48)] w47 fun t49 w50 =>
  ifB (decide (t49 ≤ 102))
  (k34 48 (i64 (i33 + 1)) w50)
  (j36 saw32 w50)) w47)
  (j36 saw32 w47)) w35)
  (j36 saw32 w35))) w35)
  (fun saw51 w52 =>
  opRd Pr (Instr.index 9 (sval s6) (.int .i64 i33)) (Value.int .u8) (fun t53 =>
  ifB (t53 == 95)
  (ifB (saw51 != 48)
  (K false w52)
  (k34 95 (i64 (i33 + 1)) w52))
  (ifB (saw51 == 95)
  (K false w52)
  (k34 33 (i64 (i33 + 1)) w52))) w52))
  (K (saw32 != 95) w35)) w31))
def internal_strconv_underscoreOK_ann : Ann := (.s .d (.s .d (.s .d (.sj [(.s 0, rS)] (.s (.r [(5, .rd (rI .u8)), (9, .rd (rI .u8))]) (.c (.r [(1, .rd rS)]) .d)) (.s .d (.sj [(.s 3, (rI .i32)), (.s 4, (rI .i64)), (.s 5, rB)] (.s (.r [(5, .rd (rI .u8)), (10, .rd (rI .u8)), (11, .call (rI .u8)), (15, .rd (rI .u8)), (16, .call (rI .u8)), (21, .rd (rI .u8)), (22, .call (rI .u8))]) (.c (.s .d (.s .d (.r [(1, .rd (rI .u8)), (2, .call (rI .u8))]))) .d)) (.s (.b (.l [(.s 3, (rI .i32)), (.s 4, (rI .i64))] (.s (.s .d (.c .d .d)) (.s (.b (.sj [(.s 3, (rI .i32))] (.s (.r [(2, .rd (rI .u8)), (7, .rd (rI .u8)), (15, .rd (rI .u8)), (16, .call (rI .u8)), (22, .rd (rI .u8)), (23, .call (rI .u8))]) (.c (.s .d .d) .d)) (.s (.s (.r [(2, .rd (rI .u8))]) (.c (.s (.s .d (.c (.s .d .d) .d)) (.s .d .d)) .d)) (.s (.s .d (.c (.s .d .d) .d)) .d)))) .d)))) (.s .d .d))))))))
theorem internal_strconv_underscoreOK_calls {s : List UInt8} {K : Bool → World → Prop} {w : World} (h : internal_strconv_underscoreOK s K w) : callV Pr Value.bool 137 #[(sval s)] w K :=
  calls_of Pr_plain Pr_mixed Pr_func137 internal_strconv_underscoreOK_ann rB (args := [(sval s)]) (by kernel_rfl) h

/- math/bits.TrailingZeros32 -/
def math_bits_TrailingZeros32 (x : Int) (K : Int → World → Prop) (w : World) : Prop :=
  ifB (x == 0)
  (K 32 w)
  (opRd Pr (Instr.indexAt 182 (.pointer (some g_math_bits_deBruijn32tab)) (.int .u32 (shR .u32 (IntKind.u32.wrap ((bAnd .u32 x (IntKind.u32.wrap (0 - x))) * 125613361)) 27))) pav (fun t1 =>
  opRd Pr (Instr.loadAt 5 (.pointer (some t1))) (Value.int .u8) (fun t2 =>
  K (IntKind.i64.wrap t2) w) w) w)
def math_bits_TrailingZeros32_ann : Ann := (.s .d (.s (.s .d (.c (.s .d .d) .d)) (.s (.r [(6, .rd rPA), (7, .rd (rI .u8))]) .d)))
theorem math_bits_TrailingZeros32_calls {x : Int} {K : Int → World → Prop} {w : World} (h : math_bits_TrailingZeros32 x K w) : callV Pr (Value.int .i64) 138 #[(.int .u32 x)] w K :=
  calls_of Pr_plain Pr_mixed Pr_func138 math_bits_TrailingZeros32_ann (rI .i64) (args := [(.int .u32 x)]) (by kernel_rfl) h

/- math/bits.TrailingZeros64 -/
def math_bits_TrailingZeros64 (x : Int) (K : Int → World → Prop) (w : World) : Prop :=
  ifB (x == 0)
  (K 64 w)
  (opRd Pr (Instr.indexAt 183 (.pointer (some g_math_bits_deBruijn64tab)) (.int .u64 (shR .u64 (IntKind.u64.wrap ((bAnd .u64 x (IntKind.u64.wrap (0 - x))) * 285870213051353865)) 58))) pav (fun t1 =>
  opRd Pr (Instr.loadAt 5 (.pointer (some t1))) (Value.int .u8) (fun t2 =>
  K (IntKind.i64.wrap t2) w) w) w)
def math_bits_TrailingZeros64_ann : Ann := (.s .d (.s (.s .d (.c (.s .d .d) .d)) (.s (.r [(6, .rd rPA), (7, .rd (rI .u8))]) .d)))
theorem math_bits_TrailingZeros64_calls {x : Int} {K : Int → World → Prop} {w : World} (h : math_bits_TrailingZeros64 x K w) : callV Pr (Value.int .i64) 139 #[(.int .u64 x)] w K :=
  calls_of Pr_plain Pr_mixed Pr_func139 math_bits_TrailingZeros64_ann (rI .i64) (args := [(.int .u64 x)]) (by kernel_rfl) h

/- internal/bytealg.hashStr[string] -/
def internal_bytealg_hashStr_string (sep : List UInt8) (K : (Int × Int) → World → Prop) (w : World) : Prop :=
  loop2 (0 : Int) (0 : Int) (fun hash1 i2 k3 w4 =>
  ifB (decide (i2 < ((sep : List UInt8).length : Int)))
  (opRd Pr (Instr.index 9 (sval sep) (.int .i64 i2)) (Value.int .u8) (fun t5 =>
  k3 (IntKind.u32.wrap ((IntKind.u32.wrap (hash1 * 16777619)) + (IntKind.u32.wrap t5))) (i64 (i2 + 1)) w4) w4)
  (loop3 (1 : Int) (16777619 : Int) (((sep : List UInt8).length : Int) : Int) (fun pow6 sq7 i8 k9 w10 =>
  ifB (decide (i8 > 0))
  (ifB ((bAnd .i64 i8 1) != 0)
  (k9 (IntKind.u32.wrap (pow6 * sq7)) (IntKind.u32.wrap (sq7 * sq7)) (shR .i64 i8 1) w10)
  (k9 pow6 (IntKind.u32.wrap (sq7 * sq7)) (shR .i64 i8 1) w10))
  (K (hash1, pow6) w10)) w4)) w
def internal_bytealg_hashStr_string_ann : Ann := (.s .d (.s .d (.s (.s .d (.b (.l [(.s 4, (rI .u32)), (.s 5, (rI .i64))] (.s (.s .d (.c .d .d)) (.s (.b (.r [(4, .rd (rI .u8))])) .d))))) (.s .d (.s (.s .d (.b (.l [(.s 6, (rI .u32)), (.s 7, (rI .u32)), (.s 8, (rI .i64))] (.s (.s .d (.c .d .d)) (.s (.b (.s (.s .d (.c .d .d)) .d)) .d))))) (.s .d .d))))))
theorem internal_bytealg_hashStr_string_calls {sep : List UInt8} {K : (Int × Int) → World → Prop} {w : World} (h : internal_bytealg_hashStr_string sep K w) : callV Pr (tval2 (Value.int .u32) (Value.int .u32)) 140 #[(sval sep)] w K :=
  calls_of Pr_plain Pr_mixed Pr_func140 internal_bytealg_hashStr_string_ann (rT2 (rI .u32) (rI .u32)) (args := [(sval sep)]) (by kernel_rfl) h

/- (changeover/cmd.part).number -/
def cmd_part_number_0 (c : Option Addr) (f : Int) (K : (Bool × Bool) → World → Prop) (w : World) : Prop :=
  newV (fun b1 w2 =>
  callV Pr vval 62 #[(.pointer c)] w2 fun t3 w4 =>
  kp b1 w2 w4 <|
  opRd Pr (Instr.typeAssert t3 20 66 true) (tval2 Value.pointer Value.bool) (fun t5 =>
  ifB (!t5.2)
  (K (true, true) w4)
  (ifB ((bAnd .i64 f 1) == 0)
  (drewM (fun w6 =>
  opRd Pr (nilSem (.pointer t5.1)) pav (fun t7 =>
  opRd Pr (Instr.loadAt 3 (.pointer (some t7))) (Value.int .i64) (fun t8 =>
  K (true, (t8 == 0)) w6) w6) w6) w4)
  (drewM (fun w9 =>
  opRd Pr (nilSem (.pointer t5.1)) pav (fun t10 =>
  opRd Pr (Instr.loadAt 3 (.pointer (some t10))) (Value.int .i64) (fun t11 =>
  ifB (decide (t11 ≥ 1))
  (opRd Pr (nilSem (.pointer t5.1)) pav (fun t12 =>
  opRd Pr (Instr.loadAt 3 (.pointer (some t12))) (Value.int .i64) (fun t13 =>
  K ((decide (t13 ≤ 8)), true) w9) w9) w9)
  (K (false, true) w9)) w9) w9) w4))) w4) w
def cmd_part_number_0_ann : Ann := (.s (.r [(0, .nl 3)]) (.s (.r [(3, .call rV), (4, .rd (rT2 rP rB))]) (.s (.s .d (.c (.s .d .d) .d)) (.s (.s .d (.c (.s (.r [(1, .rd rPA), (2, .rd (rI .i64))]) .d) .d)) (.s (.r [(1, .rd rPA), (2, .rd (rI .i64)), (6, .rd rPA), (7, .rd (rI .i64))]) .d)))))
theorem cmd_part_number_0_calls {c : Option Addr} {f : Int} {K : (Bool × Bool) → World → Prop} {w : World} (h : cmd_part_number_0 c f K w) : callV Pr (tval2 Value.bool Value.bool) 73 #[(.agg ⟨[(.int .i64 1), (.int .i64 8), .nilFunc, (.func (.func 62) #[] #[])]⟩), (.pointer c), (.int .i64 f)] w K :=
  calls_of Pr_plain Pr_mixed Pr_func73 cmd_part_number_0_ann (rT2 rB rB) (args := [(.agg ⟨[(.int .i64 1), (.int .i64 8), .nilFunc, (.func (.func 62) #[] #[])]⟩), (.pointer c), (.int .i64 f)]) (by kernel_rfl) h

/- (changeover/cmd.part).number -/
def cmd_part_number_1 (c : Option Addr) (f : Int) (K : (Bool × Bool) → World → Prop) (w : World) : Prop :=
  newV (fun b1 w2 =>
  callV Pr vval 63 #[(.pointer c)] w2 fun t3 w4 =>
  kp b1 w2 w4 <|
  opRd Pr (Instr.typeAssert t3 20 66 true) (tval2 Value.pointer Value.bool) (fun t5 =>
  ifB (!t5.2)
  (K (true, true) w4)
  (ifB ((bAnd .i64 f 1) == 0)
  (drewM (fun w6 =>
  opRd Pr (nilSem (.pointer t5.1)) pav (fun t7 =>
  opRd Pr (Instr.loadAt 3 (.pointer (some t7))) (Value.int .i64) (fun t8 =>
  K (true, (t8 == 0)) w6) w6) w6) w4)
  (drewM (fun w9 =>
  opRd Pr (nilSem (.pointer t5.1)) pav (fun t10 =>
  opRd Pr (Instr.loadAt 3 (.pointer (some t10))) (Value.int .i64) (fun t11 =>
  ifB (decide (t11 ≥ 1))
  (opRd Pr (nilSem (.pointer t5.1)) pav (fun t12 =>
  opRd Pr (Instr.loadAt 3 (.pointer (some t12))) (Value.int .i64) (fun t13 =>
  K ((decide (t13 ≤ 4294967296)), true) w9) w9) w9)
  (K (false, true) w9)) w9) w9) w4))) w4) w
def cmd_part_number_1_ann : Ann := (.s (.r [(0, .nl 3)]) (.s (.r [(3, .call rV), (4, .rd (rT2 rP rB))]) (.s (.s .d (.c (.s .d .d) .d)) (.s (.s .d (.c (.s (.r [(1, .rd rPA), (2, .rd (rI .i64))]) .d) .d)) (.s (.r [(1, .rd rPA), (2, .rd (rI .i64)), (6, .rd rPA), (7, .rd (rI .i64))]) .d)))))
theorem cmd_part_number_1_calls {c : Option Addr} {f : Int} {K : (Bool × Bool) → World → Prop} {w : World} (h : cmd_part_number_1 c f K w) : callV Pr (tval2 Value.bool Value.bool) 73 #[(.agg ⟨[(.int .i64 1), (.int .i64 4294967296), .nilFunc, (.func (.func 63) #[] #[])]⟩), (.pointer c), (.int .i64 f)] w K :=
  calls_of Pr_plain Pr_mixed Pr_func73 cmd_part_number_1_ann (rT2 rB rB) (args := [(.agg ⟨[(.int .i64 1), (.int .i64 4294967296), .nilFunc, (.func (.func 63) #[] #[])]⟩), (.pointer c), (.int .i64 f)]) (by kernel_rfl) h

/- (changeover/cmd.part).number -/
def cmd_part_number_2 (c : Option Addr) (f : Int) (K : (Bool × Bool) → World → Prop) (w : World) : Prop :=
  newV (fun b1 w2 =>
  callV Pr vval 65 #[(.pointer c)] w2 fun t3 w4 =>
  kp b1 w2 w4 <|
  opRd Pr (Instr.typeAssert t3 20 66 true) (tval2 Value.pointer Value.bool) (fun t5 =>
  ifB (!t5.2)
  (K (true, true) w4)
  (ifB ((bAnd .i64 f 2) == 0)
  (drewM (fun w6 =>
  opRd Pr (nilSem (.pointer t5.1)) pav (fun t7 =>
  opRd Pr (Instr.loadAt 3 (.pointer (some t7))) (Value.int .i64) (fun t8 =>
  K (true, (t8 == 0)) w6) w6) w6) w4)
  (drewM (fun w9 =>
  opRd Pr (nilSem (.pointer t5.1)) pav (fun t10 =>
  opRd Pr (Instr.loadAt 3 (.pointer (some t10))) (Value.int .i64) (fun t11 =>
  ifB (decide (t11 ≥ 1))
  (opRd Pr (nilSem (.pointer t5.1)) pav (fun t12 =>
  opRd Pr (Instr.loadAt 3 (.pointer (some t12))) (Value.int .i64) (fun t13 =>
  K ((decide (t13 ≤ 0)), true) w9) w9) w9)
  (K (false, true) w9)) w9) w9) w4))) w4) w
def cmd_part_number_2_ann : Ann := (.s (.r [(0, .nl 3)]) (.s (.r [(3, .call rV), (4, .rd (rT2 rP rB))]) (.s (.s .d (.c (.s .d .d) .d)) (.s (.s .d (.c (.s (.r [(1, .rd rPA), (2, .rd (rI .i64))]) .d) .d)) (.s (.r [(1, .rd rPA), (2, .rd (rI .i64)), (6, .rd rPA), (7, .rd (rI .i64))]) .d)))))
theorem cmd_part_number_2_calls {c : Option Addr} {f : Int} {K : (Bool × Bool) → World → Prop} {w : World} (h : cmd_part_number_2 c f K w) : callV Pr (tval2 Value.bool Value.bool) 73 #[(.agg ⟨[(.int .i64 2), (.int .i64 0), (.func (.func 64) #[] #[]), (.func (.func 65) #[] #[])]⟩), (.pointer c), (.int .i64 f)] w K :=
  calls_of Pr_plain Pr_mixed Pr_func73 cmd_part_number_2_ann (rT2 rB rB) (args := [(.agg ⟨[(.int .i64 2), (.int .i64 0), (.func (.func 64) #[] #[]), (.func (.func 65) #[] #[])]⟩), (.pointer c), (.int .i64 f)]) (by kernel_rfl) h

/- (changeover/cmd.part).number -/
def cmd_part_number_3 (c : Option Addr) (f : Int) (K : (Bool × Bool) → World → Prop) (w : World) : Prop :=
  newV (fun b1 w2 =>
  callV Pr vval 67 #[(.pointer c)] w2 fun t3 w4 =>
  kp b1 w2 w4 <|
  opRd Pr (Instr.typeAssert t3 20 66 true) (tval2 Value.pointer Value.bool) (fun t5 =>
  ifB (!t5.2)
  (K (true, true) w4)
  (ifB ((bAnd .i64 f 4) == 0)
  (drewM (fun w6 =>
  opRd Pr (nilSem (.pointer t5.1)) pav (fun t7 =>
  opRd Pr (Instr.loadAt 3 (.pointer (some t7))) (Value.int .i64) (fun t8 =>
  K (true, (t8 == 0)) w6) w6) w6) w4)
  (drewM (fun w9 =>
  opRd Pr (nilSem (.pointer t5.1)) pav (fun t10 =>
  opRd Pr (Instr.loadAt 3 (.pointer (some t10))) (Value.int .i64) (fun t11 =>
  ifB (decide (t11 ≥ 1))
  (opRd Pr (nilSem (.pointer t5.1)) pav (fun t12 =>
  opRd Pr (Instr.loadAt 3 (.pointer (some t12))) (Value.int .i64) (fun t13 =>
  K ((decide (t13 ≤ 0)), true) w9) w9) w9)
  (K (false, true) w9)) w9) w9) w4))) w4) w
def cmd_part_number_3_ann : Ann := (.s (.r [(0, .nl 3)]) (.s (.r [(3, .call rV), (4, .rd (rT2 rP rB))]) (.s (.s .d (.c (.s .d .d) .d)) (.s (.s .d (.c (.s (.r [(1, .rd rPA), (2, .rd (rI .i64))]) .d) .d)) (.s (.r [(1, .rd rPA), (2, .rd (rI .i64)), (6, .rd rPA), (7, .rd (rI .i64))]) .d)))))
theorem cmd_part_number_3_calls {c : Option Addr} {f : Int} {K : (Bool × Bool) → World → Prop} {w : World} (h : cmd_part_number_3 c f K w) : callV Pr (tval2 Value.bool Value.bool) 73 #[(.agg ⟨[(.int .i64 4), (.int .i64 0), (.func (.func 66) #[] #[]), (.func (.func 67) #[] #[])]⟩), (.pointer c), (.int .i64 f)] w K :=
  calls_of Pr_plain Pr_mixed Pr_func73 cmd_part_number_3_ann (rT2 rB rB) (args := [(.agg ⟨[(.int .i64 4), (.int .i64 0), (.func (.func 66) #[] #[]), (.func (.func 67) #[] #[])]⟩), (.pointer c), (.int .i64 f)]) (by kernel_rfl) h

/- (changeover/cmd.part).number -/
def cmd_part_number_4 (c : Option Addr) (f : Int) (K : (Bool × Bool) → World → Prop) (w : World) : Prop :=
  newV (fun b1 w2 =>
  callV Pr vval 68 #[(.pointer c)] w2 fun t3 w4 =>
  kp b1 w2 w4 <|
  opRd Pr (Instr.typeAssert t3 20 66 true) (tval2 Value.pointer Value.bool) (fun t5 =>
  ifB (!t5.2)
  (K (true, true) w4)
  (ifB ((bAnd .i64 f 8) == 0)
  (drewM (fun w6 =>
  opRd Pr (nilSem (.pointer t5.1)) pav (fun t7 =>
  opRd Pr (Instr.loadAt 3 (.pointer (some t7))) (Value.int .i64) (fun t8 =>
  K (true, (t8 == 0)) w6) w6) w6) w4)
  (drewM (fun w9 =>
  opRd Pr (nilSem (.pointer t5.1)) pav (fun t10 =>
  opRd Pr (Instr.loadAt 3 (.pointer (some t10))) (Value.int .i64) (fun t11 =>
  ifB (decide (t11 ≥ 1))
  (opRd Pr (nilSem (.pointer t5.1)) pav (fun t12 =>
  opRd Pr (Instr.loadAt 3 (.pointer (some t12))) (Value.int .i64) (fun t13 =>
  K ((decide (t13 ≤ 0)), true) w9) w9) w9)
  (K (false, true) w9)) w9) w9) w4))) w4) w
def cmd_part_number_4_ann : Ann := (.s (.r [(0, .nl 3)]) (.s (.r [(3, .call rV), (4, .rd (rT2 rP rB))]) (.s (.s .d (.c (.s .d .d) .d)) (.s (.s .d (.c (.s (.r [(1, .rd rPA), (2, .rd (rI .i64))]) .d) .d)) (.s (.r [(1, .rd rPA), (2, .rd (rI .i64)), (6, .rd rPA), (7, .rd (rI .i64))]) .d)))))
theorem cmd_part_number_4_calls {c : Option Addr} {f : Int} {K : (Bool × Bool) → World → Prop} {w : World} (h : cmd_part_number_4 c f K w) : callV Pr (tval2 Value.bool Value.bool) 73 #[(.agg ⟨[(.int .i64 8), (.int .i64 0), (.func (.func 66) #[] #[]), (.func (.func 68) #[] #[])]⟩), (.pointer c), (.int .i64 f)] w K :=
  calls_of Pr_plain Pr_mixed Pr_func73 cmd_part_number_4_ann (rT2 rB rB) (args := [(.agg ⟨[(.int .i64 8), (.int .i64 0), (.func (.func 66) #[] #[]), (.func (.func 68) #[] #[])]⟩), (.pointer c), (.int .i64 f)]) (by kernel_rfl) h

/- (changeover/cmd.part).number -/
def cmd_part_number_5 (c : Option Addr) (f : Int) (K : (Bool × Bool) → World → Prop) (w : World) : Prop :=
  newV (fun b1 w2 =>
  callV Pr vval 69 #[(.pointer c)] w2 fun t3 w4 =>
  kp b1 w2 w4 <|
  opRd Pr (Instr.typeAssert t3 20 66 true) (tval2 Value.pointer Value.bool) (fun t5 =>
  ifB (!t5.2)
  (K (true, true) w4)
  (ifB ((bAnd .i64 f 16) == 0)
  (drewM (fun w6 =>
  opRd Pr (nilSem (.pointer t5.1)) pav (fun t7 =>
  opRd Pr (Instr.loadAt 3 (.pointer (some t7))) (Value.int .i64) (fun t8 =>
  K (true, (t8 == 0)) w6) w6) w6) w4)
  (drewM (fun w9 =>
  opRd Pr (nilSem (.pointer t5.1)) pav (fun t10 =>
  opRd Pr (Instr.loadAt 3 (.pointer (some t10))) (Value.int .i64) (fun t11 =>
  ifB (decide (t11 ≥ 1))
  (opRd Pr (nilSem (.pointer t5.1)) pav (fun t12 =>
  opRd Pr (Instr.loadAt 3 (.pointer (some t12))) (Value.int .i64) (fun t13 =>
  K ((decide (t13 ≤ 9)), true) w9) w9) w9)
  (K (false, true) w9)) w9) w9) w4))) w4) w
def cmd_part_number_5_ann : Ann := (.s (.r [(0, .nl 3)]) (.s (.r [(3, .call rV), (4, .rd (rT2 rP rB))]) (.s (.s .d (.c (.s .d .d) .d)) (.s (.s .d (.c (.s (.r [(1, .rd rPA), (2, .rd (rI .i64))]) .d) .d)) (.s (.r [(1, .rd rPA), (2, .rd (rI .i64)), (6, .rd rPA), (7, .rd (rI .i64))]) .d)))))
theorem cmd_part_number_5_calls {c : Option Addr} {f : Int} {K : (Bool × Bool) → World → Prop} {w : World} (h : cmd_part_number_5 c f K w) : callV Pr (tval2 Value.bool Value.bool) 73 #[(.agg ⟨[(.int .i64 16), (.int .i64 9), .nilFunc, (.func (.func 69) #[] #[])]⟩), (.pointer c), (.int .i64 f)] w K :=
  calls_of Pr_plain Pr_mixed Pr_func73 cmd_part_number_5_ann (rT2 rB rB) (args := [(.agg ⟨[(.int .i64 16), (.int .i64 9), .nilFunc, (.func (.func 69) #[] #[])]⟩), (.pointer c), (.int .i64 f)]) (by kernel_rfl) h

/- (changeover/cmd.part).text -/
def cmd_part_text_0 (c : Option Addr) (f : Int) (K : (Bool × Bool) → World → Prop) (w : World) : Prop :=
  newV (fun b1 w2 =>
  callV Pr vval 62 #[(.pointer c)] w2 fun t3 w4 =>
  kp b1 w2 w4 <|
  opRd Pr (Instr.typeAssert t3 20 67 true) (tval2 Value.pointer Value.bool) (fun t5 =>
  ifB (!t5.2)
  (K (true, true) w4)
  (ifB ((bAnd .i64 f 1) == 0)
  (drewM (fun w6 =>
  opRd Pr (nilSem (.pointer t5.1)) pav (fun t7 =>
  opRd Pr (Instr.loadAt 9 (.pointer (some t7))) sval (fun t8 =>
  K (true, (strEq t8 [])) w6) w6) w6) w4)
  (heldM (fun S10 w9 =>
  opH Pr S10 (nilSem (.pointer t5.1)) pav (fun t11 =>
  opH Pr S10 (Instr.loadAt 9 (.pointer (some t11))) sval (fun t12 =>
  False))) w4))) w4) w
def cmd_part_text_0_ann : Ann := (.s (.r [(0, .nl 3)]) (.s (.r [(3, .call rV), (4, .rd (rT2 rP rB))]) (.s (.s .d (.c (.s .d .d) .d)) (.s (.s .d (.c (.s (.r [(1, .rd rPA), (2, .rd rS)]) .d) .d)) (.s (.h (.take 0 (.take 1 (.take 2 (.take 3 (.take 4 (.one 5 (.take 6 (.take 7 .done)))))))) [(3, .rd rPA), (4, .rd rS), (5, .call rB)]) .d)))))
theorem cmd_part_text_0_calls {c : Option Addr} {f : Int} {K : (Bool × Bool) → World → Prop} {w : World} (h : cmd_part_text_0 c f K w) : callV Pr (tval2 Value.bool Value.bool) 74 #[(.agg ⟨[(.int .i64 1), (.int .i64 8), .nilFunc, (.func (.func 62) #[] #[])]⟩), (.pointer c), (.int .i64 f)] w K :=
  calls_of Pr_plain Pr_mixed Pr_func74 cmd_part_text_0_ann (rT2 rB rB) (args := [(.agg ⟨[(.int .i64 1), (.int .i64 8), .nilFunc, (.func (.func 62) #[] #[])]⟩), (.pointer c), (.int .i64 f)]) (by kernel_rfl) h

/- (changeover/cmd.part).text -/
def cmd_part_text_1 (c : Option Addr) (f : Int) (K : (Bool × Bool) → World → Prop) (w : World) : Prop :=
  newV (fun b1 w2 =>
  callV Pr vval 63 #[(.pointer c)] w2 fun t3 w4 =>
  kp b1 w2 w4 <|
  opRd Pr (Instr.typeAssert t3 20 67 true) (tval2 Value.pointer Value.bool) (fun t5 =>
  ifB (!t5.2)
  (K (true, true) w4)
  (ifB ((bAnd .i64 f 1) == 0)
  (drewM (fun w6 =>
  opRd Pr (nilSem (.pointer t5.1)) pav (fun t7 =>
  opRd Pr (Instr.loadAt 9 (.pointer (some t7))) sval (fun t8 =>
  K (true, (strEq t8 [])) w6) w6) w6) w4)
  (heldM (fun S10 w9 =>
  opH Pr S10 (nilSem (.pointer t5.1)) pav (fun t11 =>
  opH Pr S10 (Instr.loadAt 9 (.pointer (some t11))) sval (fun t12 =>
  False))) w4))) w4) w
def cmd_part_text_1_ann : Ann := (.s (.r [(0, .nl 3)]) (.s (.r [(3, .call rV), (4, .rd (rT2 rP rB))]) (.s (.s .d (.c (.s .d .d) .d)) (.s (.s .d (.c (.s (.r [(1, .rd rPA), (2, .rd rS)]) .d) .d)) (.s (.h (.take 0 (.take 1 (.take 2 (.take 3 (.take 4 (.one 5 (.take 6 (.take 7 .done)))))))) [(3, .rd rPA), (4, .rd rS), (5, .call rB)]) .d)))))
theorem cmd_part_text_1_calls {c : Option Addr} {f : Int} {K : (Bool × Bool) → World → Prop} {w : World} (h : cmd_part_text_1 c f K w) : callV Pr (tval2 Value.bool Value.bool) 74 #[(.agg ⟨[(.int .i64 1), (.int .i64 4294967296), .nilFunc, (.func (.func 63) #[] #[])]⟩), (.pointer c), (.int .i64 f)] w K :=
  calls_of Pr_plain Pr_mixed Pr_func74 cmd_part_text_1_ann (rT2 rB rB) (args := [(.agg ⟨[(.int .i64 1), (.int .i64 4294967296), .nilFunc, (.func (.func 63) #[] #[])]⟩), (.pointer c), (.int .i64 f)]) (by kernel_rfl) h

/- (changeover/cmd.part).text -/
def cmd_part_text_2 (c : Option Addr) (f : Int) (K : (Bool × Bool) → World → Prop) (w : World) : Prop :=
  newV (fun b1 w2 =>
  callV Pr vval 65 #[(.pointer c)] w2 fun t3 w4 =>
  kp b1 w2 w4 <|
  opRd Pr (Instr.typeAssert t3 20 67 true) (tval2 Value.pointer Value.bool) (fun t5 =>
  ifB (!t5.2)
  (K (true, true) w4)
  (ifB ((bAnd .i64 f 2) == 0)
  (drewM (fun w6 =>
  opRd Pr (nilSem (.pointer t5.1)) pav (fun t7 =>
  opRd Pr (Instr.loadAt 9 (.pointer (some t7))) sval (fun t8 =>
  K (true, (strEq t8 [])) w6) w6) w6) w4)
  (heldM (fun S10 w9 =>
  opH Pr S10 (nilSem (.pointer t5.1)) pav (fun t11 =>
  opH Pr S10 (Instr.loadAt 9 (.pointer (some t11))) sval (fun t12 =>
  callV Pr Value.bool 64 #[(sval t12)] w9 fun t13 w14 =>
  kp b1 w9 w14 <|
  (S10 w14) ∧
  (K (t13, true) w14)))) w4))) w4) w
def cmd_part_text_2_ann : Ann := (.s (.r [(0, .nl 3)]) (.s (.r [(3, .call rV), (4, .rd (rT2 rP rB))]) (.s (.s .d (.c (.s .d .d) .d)) (.s (.s .d (.c (.s (.r [(1, .rd rPA), (2, .rd rS)]) .d) .d)) (.s (.h (.take 0 (.take 1 (.take 2 (.take 3 (.take 4 (.one 5 (.take 6 (.take 7 .done)))))))) [(3, .rd rPA), (4, .rd rS), (5, .call rB)]) .d)))))
theorem cmd_part_text_2_calls {c : Option Addr} {f : Int} {K : (Bool × Bool) → World → Prop} {w : World} (h : cmd_part_text_2 c f K w) : callV Pr (tval2 Value.bool Value.bool) 74 #[(.agg ⟨[(.int .i64 2), (.int .i64 0), (.func (.func 64) #[] #[]), (.func (.func 65) #[] #[])]⟩), (.pointer c), (.int .i64 f)] w K :=
  calls_of Pr_plain Pr_mixed Pr_func74 cmd_part_text_2_ann (rT2 rB rB) (args := [(.agg ⟨[(.int .i64 2), (.int .i64 0), (.func (.func 64) #[] #[]), (.func (.func 65) #[] #[])]⟩), (.pointer c), (.int .i64 f)]) (by kernel_rfl) h

/- (changeover/cmd.part).text -/
def cmd_part_text_3 (c : Option Addr) (f : Int) (K : (Bool × Bool) → World → Prop) (w : World) : Prop :=
  newV (fun b1 w2 =>
  callV Pr vval 67 #[(.pointer c)] w2 fun t3 w4 =>
  kp b1 w2 w4 <|
  opRd Pr (Instr.typeAssert t3 20 67 true) (tval2 Value.pointer Value.bool) (fun t5 =>
  ifB (!t5.2)
  (K (true, true) w4)
  (ifB ((bAnd .i64 f 4) == 0)
  (drewM (fun w6 =>
  opRd Pr (nilSem (.pointer t5.1)) pav (fun t7 =>
  opRd Pr (Instr.loadAt 9 (.pointer (some t7))) sval (fun t8 =>
  K (true, (strEq t8 [])) w6) w6) w6) w4)
  (heldM (fun S10 w9 =>
  opH Pr S10 (nilSem (.pointer t5.1)) pav (fun t11 =>
  opH Pr S10 (Instr.loadAt 9 (.pointer (some t11))) sval (fun t12 =>
  callV Pr Value.bool 66 #[(sval t12)] w9 fun t13 w14 =>
  kp b1 w9 w14 <|
  (S10 w14) ∧
  (K (t13, true) w14)))) w4))) w4) w
def cmd_part_text_3_ann : Ann := (.s (.r [(0, .nl 3)]) (.s (.r [(3, .call rV), (4, .rd (rT2 rP rB))]) (.s (.s .d (.c (.s .d .d) .d)) (.s (.s .d (.c (.s (.r [(1, .rd rPA), (2, .rd rS)]) .d) .d)) (.s (.h (.take 0 (.take 1 (.take 2 (.take 3 (.take 4 (.one 5 (.take 6 (.take 7 .done)))))))) [(3, .rd rPA), (4, .rd rS), (5, .call rB)]) .d)))))
theorem cmd_part_text_3_calls {c : Option Addr} {f : Int} {K : (Bool × Bool) → World → Prop} {w : World} (h : cmd_part_text_3 c f K w) : callV Pr (tval2 Value.bool Value.bool) 74 #[(.agg ⟨[(.int .i64 4), (.int .i64 0), (.func (.func 66) #[] #[]), (.func (.func 67) #[] #[])]⟩), (.pointer c), (.int .i64 f)] w K :=
  calls_of Pr_plain Pr_mixed Pr_func74 cmd_part_text_3_ann (rT2 rB rB) (args := [(.agg ⟨[(.int .i64 4), (.int .i64 0), (.func (.func 66) #[] #[]), (.func (.func 67) #[] #[])]⟩), (.pointer c), (.int .i64 f)]) (by kernel_rfl) h

end Go.Chg
