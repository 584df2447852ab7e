/-
  Functions of the program, told by a program of ours (gen.py), each held by the kernel to what is to be shown of its code.
-/
import Derived.Test.YthofeajlmgecmaaGreatDoorTy
set_option maxRecDepth 100000
set_option linter.unusedVariables false
namespace Go.Chg
open Go.Vc

/- changeover/changeoverlaw15.TagWraps -/
def law15_TagWraps (v : Int) (m : ApiMsg) (reader : Int) (K : Bool → World → Prop) (w : World) : Prop :=
  newV (fun b1 w2 =>
  callV Pr Value.bool 15 #[(.agg ⟨[(.int .i64 m.Kind), (.int .i64 m.From), (.int .i64 m.To), (.int .i64 m.Ballot.Round), (.int .i64 m.Ballot.Node), (.int .i64 m.Index), (.int .i64 m.Commit), (.int .i64 m.Version), m.Entries.val, m.Image.val]⟩)] w2 fun t3 w4 =>
  kp b1 w2 w4 <|
  ifB t3
  (callV Pr Value.bool 16 #[] w4 fun t5 w6 =>
  kp b1 w4 w6 <|
  K t5 w6)
  (callV Pr (tval2 Sl.val (Value.int .i64)) 17 #[(.int .i64 v), (.agg ⟨[(.int .i64 m.Kind), (.int .i64 m.From), (.int .i64 m.To), (.int .i64 m.Ballot.Round), (.int .i64 m.Ballot.Node), (.int .i64 m.Index), (.int .i64 m.Commit), (.int .i64 m.Version), m.Entries.val, m.Image.val]⟩)] w4 fun t7 w8 =>
  kp b1 w4 w8 <|
  callV Pr (Value.int .i64) 18 #[(.int .i64 v), (.agg ⟨[(.int .i64 m.Kind), (.int .i64 m.From), (.int .i64 m.To), (.int .i64 m.Ballot.Round), (.int .i64 m.Ballot.Node), (.int .i64 m.Index), (.int .i64 m.Commit), (.int .i64 m.Version), m.Entries.val, m.Image.val]⟩)] w8 fun want9 w10 =>
  kp b1 w8 w10 <|
  ifB (want9 != 0)
  (ifB ((t7.1.len : Int) == 0)
  (ifB (t7.2 == want9)
  (callV Pr Value.bool 16 #[] w10 fun t11 w12 =>
  kp b1 w10 w12 <|
  K t11 w12)
  (K false w10))
  (K false w10))
  (callV Pr (tval3 ApiMsg.val (Value.int .i64) (Value.int .i64)) 19 #[(.int .i64 reader), t7.1.val] w10 fun t13 w14 =>
  kp b1 w10 w14 <|
  newV (fun b15 w16 =>
  wrM b15 (fun w17 =>
  callV Pr Sl.val 20 #[(.int .i64 v), (.agg ⟨[(.int .i64 m.Kind), (.int .i64 m.From), (.int .i64 m.To), (.int .i64 m.Ballot.Round), (.int .i64 m.Ballot.Node), (.int .i64 m.Index), (.int .i64 m.Commit), (.int .i64 m.Version), m.Entries.val, m.Image.val]⟩)] w17 fun t18 w19 =>
  kp b15 w17 w19 <|
  kp b1 w17 w19 <|
  callV Pr Value.bool 12 #[t7.1.val, t18.val] w19 fun t20 w21 =>
  kp b15 w19 w21 <|
  kp b1 w19 w21 <|
  ifB (!t20)
  (K false w21)
  (ifB (t7.2 != 0)
  (K false w21)
  (ifB (decide (reader < v))
  (ifB (t13.2.2 == 8)
  (ifB (t13.2.1 == 0)
  (callV Pr Value.bool 21 #[(.agg ⟨[(.int .i64 t13.1.Kind), (.int .i64 t13.1.From), (.int .i64 t13.1.To), (.int .i64 t13.1.Ballot.Round), (.int .i64 t13.1.Ballot.Node), (.int .i64 t13.1.Index), (.int .i64 t13.1.Commit), (.int .i64 t13.1.Version), t13.1.Entries.val, t13.1.Image.val]⟩), (.agg ⟨[(.int .i64 0), (.int .i64 0), (.int .i64 0), (.int .i64 0), (.int .i64 0), (.int .i64 0), (.int .i64 0), (.int .i64 0), Sl.nil.val, Sl.nil.val]⟩)] w21 fun t22 w23 =>
  kp b15 w21 w23 <|
  kp b1 w21 w23 <|
  ifB t22
  (callV Pr Value.bool 16 #[] w23 fun t24 w25 =>
  kp b15 w23 w25 <|
  kp b1 w23 w25 <|
  K t24 w25)
  (K false w23))
  (K false w21))
  (K false w21))
  (ifB (decide (reader > 2))
  (ifB (t13.2.2 == 8)
  (ifB (t13.2.1 == 0)
  (callV Pr Value.bool 21 #[(.agg ⟨[(.int .i64 t13.1.Kind), (.int .i64 t13.1.From), (.int .i64 t13.1.To), (.int .i64 t13.1.Ballot.Round), (.int .i64 t13.1.Ballot.Node), (.int .i64 t13.1.Index), (.int .i64 t13.1.Commit), (.int .i64 t13.1.Version), t13.1.Entries.val, t13.1.Image.val]⟩), (.agg ⟨[(.int .i64 0), (.int .i64 0), (.int .i64 0), (.int .i64 0), (.int .i64 0), (.int .i64 0), (.int .i64 0), (.int .i64 0), Sl.nil.val, Sl.nil.val]⟩)] w21 fun t26 w27 =>
  kp b15 w21 w27 <|
  kp b1 w21 w27 <|
  ifB t26
  (callV Pr Value.bool 16 #[] w27 fun t28 w29 =>
  kp b15 w27 w29 <|
  kp b1 w27 w29 <|
  K t28 w29)
  (K false w27))
  (K false w21))
  (K false w21))
  (ifB (t13.2.2 == 0)
  (ifB (t13.2.1 == v)
  (callV Pr Value.bool 21 #[(.agg ⟨[(.int .i64 t13.1.Kind), (.int .i64 t13.1.From), (.int .i64 t13.1.To), (.int .i64 t13.1.Ballot.Round), (.int .i64 t13.1.Ballot.Node), (.int .i64 t13.1.Index), (.int .i64 t13.1.Commit), (.int .i64 t13.1.Version), t13.1.Entries.val, t13.1.Image.val]⟩), (.agg ⟨[(.int .i64 m.Kind), (.int .i64 m.From), (.int .i64 m.To), (.int .i64 m.Ballot.Round), (.int .i64 m.Ballot.Node), (.int .i64 m.Index), (.int .i64 m.Commit), (.int .i64 m.Version), m.Entries.val, m.Image.val]⟩)] w21 fun t30 w31 =>
  kp b15 w21 w31 <|
  kp b1 w21 w31 <|
  ifB t30
  (callV Pr Value.bool 16 #[] w31 fun t32 w33 =>
  kp b15 w31 w33 <|
  kp b1 w31 w33 <|
  K t32 w33)
  (K false w31))
  (K false w21))
  (K false w21)))))) w16) w14))) w
def law15_TagWraps_ann : Ann := (.s (.r [(0, .nl 4)]) (.s (.s (.r [(1, .call rB)]) (.c (.s (.r [(0, .call rB)]) .d) .d)) (.s (.r [(2, .call (rT2 rSl (rI .i64)))]) (.s (.s (.r [(2, .call (rI .i64))]) (.s .d (.c (.s (.r [(9, .call rB)]) .d) .d))) (.s (.r [(2, .call (rT3 rApiMsg (rI .i64) (rI .i64))), (7, .nl 10), (8, .ls 10)]) (.s (.s (.r [(3, .call rSl), (4, .call rB)]) (.c (.s .d .d) .d)) (.s (.s .d (.c (.s (.r [(9, .call rB), (12, .call rB)]) .d) .d)) (.s (.r [(10, .call rB), (13, .call rB)]) .d))))))))
theorem law15_TagWraps_calls {v : Int} {m : ApiMsg} {reader : Int} {K : Bool → World → Prop} {w : World} (h : law15_TagWraps v m reader K w) : callV Pr Value.bool 4 #[(.int .i64 v), (.agg ⟨m.cs⟩), (.int .i64 reader)] w K :=
  calls_of Pr_plain Pr_mixed Pr_func4 law15_TagWraps_ann rB (args := [(.int .i64 v), (.agg ⟨m.cs⟩), (.int .i64 reader)]) (by kernel_rfl) h

/- changeover/changeoverlaw37.LinkOpens -/
def law37_LinkOpens (a : List Value) (b : List Value) (m : ApiMsg) (K : Bool → World → Prop) (w : World) : Prop :=
  opTy Pr (Instr.box 58 (.agg ⟨a⟩)) pav (fun a1 w2 =>
  opTy Pr (Instr.box 58 (.agg ⟨b⟩)) pav (fun b3 w4 =>
  newV (fun b5 w6 =>
  opTy Pr (Instr.buildSlice 60 1 #[(0, (.agg ⟨[(.int .i64 m.Kind), (.int .i64 m.From), (.int .i64 m.To), (.int .i64 m.Ballot.Round), (.int .i64 m.Ballot.Node), (.int .i64 m.Index), (.int .i64 m.Commit), (.int .i64 m.Version), m.Entries.val, m.Image.val]⟩))]) Sl.val (fun t7 w8 =>
  kp b5 w6 w8 <|
  callV Pr Value.bool 24 #[t7.val] w8 fun t9 w10 =>
  kp b5 w8 w10 <|
  ifB t9
  (callV Pr Value.bool 25 #[] w10 fun t11 w12 =>
  kp b5 w10 w12 <|
  K t11 w12)
  (heldM (fun S14 w13 =>
  opH Pr S14 (Instr.indexAt 58 (.pointer (some a1)) (.int .i64 0)) pav (fun t15 =>
  opH Pr S14 (Instr.loadAt 3 (.pointer (some t15))) (Value.int .i64) (fun t16 =>
  opH Pr S14 (Instr.indexAt 58 (.pointer (some a1)) (.int .i64 1)) pav (fun t17 =>
  opH Pr S14 (Instr.loadAt 3 (.pointer (some t17))) (Value.int .i64) (fun t18 =>
  opH Pr S14 (Instr.indexAt 58 (.pointer (some b3)) (.int .i64 0)) pav (fun t19 =>
  opH Pr S14 (Instr.loadAt 3 (.pointer (some t19))) (Value.int .i64) (fun t20 =>
  opH Pr S14 (Instr.indexAt 58 (.pointer (some b3)) (.int .i64 1)) pav (fun t21 =>
  opH Pr S14 (Instr.loadAt 3 (.pointer (some t21))) (Value.int .i64) (fun t22 =>
  callV Pr Value.pointer 26 #[(.int .i64 t16), (.int .i64 t18)] w13 fun x23 w24 =>
  kp b5 w13 w24 <|
  (S14 w24) ∧
  (callV Pr Value.pointer 26 #[(.int .i64 t20), (.int .i64 t22)] w24 fun y25 w26 =>
  kp b5 w24 w26 <|
  (S14 w26) ∧
  (opRd Pr (binSem .eql 61 (.tmp 31) (.const (.pointer none)) (.pointer x23) (.pointer none)) Value.bool (fun t27 =>
  ifB t27
  (callV Pr Value.bool 25 #[] w26 fun t28 w29 =>
  kp b5 w26 w29 <|
  K t28 w29)
  (opRd Pr (binSem .eql 61 (.tmp 34) (.const (.pointer none)) (.pointer y25) (.pointer none)) Value.bool (fun t30 =>
  ifB t30
  (callV Pr Value.bool 25 #[] w26 fun t31 w32 =>
  kp b5 w26 w32 <|
  K t31 w32)
  (opRd Pr (Instr.indexAt 58 (.pointer (some a1)) (.int .i64 0)) pav (fun t33 =>
  opRd Pr (Instr.loadAt 3 (.pointer (some t33))) (Value.int .i64) (fun t34 =>
  opRd Pr (Instr.indexAt 58 (.pointer (some b3)) (.int .i64 0)) pav (fun t35 =>
  opRd Pr (Instr.loadAt 3 (.pointer (some t35))) (Value.int .i64) (fun t36 =>
  ifB (t34 == t36)
  (callV Pr Value.bool 25 #[] w26 fun t37 w38 =>
  kp b5 w26 w38 <|
  K t37 w38)
  (opRd Pr (Instr.indexAt 58 (.pointer (some a1)) (.int .i64 0)) pav (fun t39 =>
  opRd Pr (Instr.loadAt 3 (.pointer (some t39))) (Value.int .i64) (fun t40 =>
  callV Pr ApiMsg.val 28 #[(.pointer y25), (.int .i64 1), (.int .i64 t40)] w26 fun t41 w42 =>
  kp b5 w26 w42 <|
  callV Pr Value.bool 27 #[(.pointer x23), (.agg ⟨t41.cs⟩)] w42 fun t43 w44 =>
  kp b5 w42 w44 <|
  opRd Pr (Instr.indexAt 58 (.pointer (some a1)) (.int .i64 0)) pav (fun t45 =>
  opRd Pr (Instr.loadAt 3 (.pointer (some t45))) (Value.int .i64) (fun t46 =>
  wrM b5 (fun w47 =>
  opRd Pr (Instr.indexAt 58 (.pointer (some b3)) (.int .i64 0)) pav (fun t48 =>
  opRd Pr (Instr.loadAt 3 (.pointer (some t48))) (Value.int .i64) (fun t49 =>
  wrM b5 (fun w50 =>
  callV Pr (Value.int .i64) 29 #[(.agg ⟨[(.int .i64 m.Kind), (.int .i64 t46), (.int .i64 t49), (.int .i64 m.Ballot.Round), (.int .i64 m.Ballot.Node), (.int .i64 m.Index), (.int .i64 m.Commit), (.int .i64 m.Version), m.Entries.val, m.Image.val]⟩)] w50 fun t51 w52 =>
  kp b5 w50 w52 <|
  ifB (t51 != 0)
  (callV Pr Value.bool 25 #[] w52 fun t53 w54 =>
  kp b5 w52 w54 <|
  K t53 w54)
  (callV Pr (tval2 Sl.val (Value.int .i64)) 30 #[(.pointer x23), (.agg ⟨[(.int .i64 m.Kind), (.int .i64 t46), (.int .i64 t49), (.int .i64 m.Ballot.Round), (.int .i64 m.Ballot.Node), (.int .i64 m.Index), (.int .i64 m.Commit), (.int .i64 m.Version), m.Entries.val, m.Image.val]⟩)] w52 fun t55 w56 =>
  kp b5 w52 w56 <|
  opRd Pr (Instr.indexAt 58 (.pointer (some a1)) (.int .i64 1)) pav (fun t57 =>
  opRd Pr (Instr.loadAt 3 (.pointer (some t57))) (Value.int .i64) (fun least58 =>
  join1 (fun (j59 : Int → World → Prop) =>
  opRd Pr (Instr.indexAt 58 (.pointer (some b3)) (.int .i64 1)) pav (fun t60 =>
  opRd Pr (Instr.loadAt 3 (.pointer (some t60))) (Value.int .i64) (fun t61 =>
  ifB (decide (t61 < least58))
  (opRd Pr (Instr.indexAt 58 (.pointer (some b3)) (.int .i64 1)) pav (fun t62 =>
  opRd Pr (Instr.loadAt 3 (.pointer (some t62))) (Value.int .i64) (fun least63 =>
  j59 least63 w56) w56) w56)
  (j59 least58 w56)) w56) w56)
  (fun least64 w65 =>
  ifB (m.Kind == 1)
  (join0 (fun (j66 : World → Prop) =>
  ifB (!true)
  (callV Pr Value.bool 31 #[(.int .i64 least64), m.Entries.val] w65 fun t67 w68 =>
  kp b5 w65 w68 <|
  ifB (!t67)
  (ifB ((t55.1.len : Int) == 0)
  (ifB (t55.2 == 8)
  (callV Pr Value.bool 25 #[] w68 fun t69 w70 =>
  kp b5 w68 w70 <|
  K t69 w70)
  (K false w68))
  (K false w68))
  (j66 w68))
  (j66 w65))
  (fun w71 =>
  join0 (fun (j72 : World → Prop) =>
  opRd Pr (Instr.indexAt 58 (.pointer (some a1)) (.int .i64 1)) pav (fun t73 =>
  opRd Pr (Instr.loadAt 3 (.pointer (some t73))) (Value.int .i64) (fun t74 =>
  ifB (decide (m.Version > t74))
  (callV Pr Value.bool 25 #[] w71 fun t75 w76 =>
  kp b5 w71 w76 <|
  K t75 w76)
  (ifB (least64 == 2)
  (ifB ((t55.1.len : Int) != 1)
  (callV Pr Value.bool 25 #[] w71 fun t77 w78 =>
  kp b5 w71 w78 <|
  K t77 w78)
  (j72 w71))
  (j72 w71))) w71) w71)
  (fun w79 =>
  loop2 (false : Bool) (0 : Int) (fun some80 i81 k82 w83 =>
  ifB (decide (i81 < (t55.1.len : Int)))
  (opRd Pr (Instr.indexAt 65 t55.1.val (.int .i64 i81)) pav (fun t84 =>
  opRd Pr (Instr.loadAt 22 (.pointer (some t84))) Sl.val (fun t85 =>
  callV Pr (tval2 ApiMsg.val (Value.int .i64)) 32 #[(.pointer y25), t85.val] w83 fun t86 w87 =>
  kp b5 w83 w87 <|
  newV (fun b88 w89 =>
  wrM b88 (fun w90 =>
  ifB (t86.2 == 0)
  (callV Pr Value.bool 21 #[(.agg ⟨[(.int .i64 t86.1.Kind), (.int .i64 t86.1.From), (.int .i64 t86.1.To), (.int .i64 t86.1.Ballot.Round), (.int .i64 t86.1.Ballot.Node), (.int .i64 t86.1.Index), (.int .i64 t86.1.Commit), (.int .i64 t86.1.Version), t86.1.Entries.val, t86.1.Image.val]⟩), (.agg ⟨[(.int .i64 m.Kind), (.int .i64 t46), (.int .i64 t49), (.int .i64 m.Ballot.Round), (.int .i64 m.Ballot.Node), (.int .i64 m.Index), (.int .i64 m.Commit), (.int .i64 m.Version), m.Entries.val, m.Image.val]⟩)] w90 fun t91 w92 =>
  kp b88 w90 w92 <|
  kp b5 w90 w92 <|
  ifB t91
  (k82 true (i64 (i81 + 1)) w92)
  (ifB (t86.1.Kind == m.Kind)
  (ifB (t86.1.Version == 1)
  (k82 true (i64 (i81 + 1)) w92)
  (k82 some80 (i64 (i81 + 1)) w92))
  (k82 some80 (i64 (i81 + 1)) w92)))
  (k82 some80 (i64 (i81 + 1)) w90)) w89) w87) w83) w83)
  (ifB (t55.2 == 0)
  (ifB some80
  (callV Pr Value.bool 25 #[] w83 fun t93 w94 =>
  kp b5 w83 w94 <|
  K t93 w94)
  (K false w83))
  (K false w83))) w79)))
  (join0 (fun (j95 : World → Prop) =>
  ifB (!(m.Kind == 2))
  (callV Pr Value.bool 31 #[(.int .i64 least64), m.Entries.val] w65 fun t96 w97 =>
  kp b5 w65 w97 <|
  ifB (!t96)
  (ifB ((t55.1.len : Int) == 0)
  (ifB (t55.2 == 8)
  (callV Pr Value.bool 25 #[] w97 fun t98 w99 =>
  kp b5 w97 w99 <|
  K t98 w99)
  (K false w97))
  (K false w97))
  (j95 w97))
  (j95 w65))
  (fun w100 =>
  join0 (fun (j101 : World → Prop) =>
  ifB (m.Kind == 2)
  (opRd Pr (Instr.indexAt 58 (.pointer (some a1)) (.int .i64 1)) pav (fun t102 =>
  opRd Pr (Instr.loadAt 3 (.pointer (some t102))) (Value.int .i64) (fun t103 =>
  ifB (decide (m.Version > t103))
  (callV Pr Value.bool 25 #[] w100 fun t104 w105 =>
  kp b5 w100 w105 <|
  K t104 w105)
  (ifB (least64 == 2)
  (ifB ((t55.1.len : Int) != 1)
  (callV Pr Value.bool 25 #[] w100 fun t106 w107 =>
  kp b5 w100 w107 <|
  K t106 w107)
  (j101 w100))
  (j101 w100))) w100) w100)
  (j101 w100))
  (fun w108 =>
  loop2 (false : Bool) (0 : Int) (fun some109 i110 k111 w112 =>
  ifB (decide (i110 < (t55.1.len : Int)))
  (opRd Pr (Instr.indexAt 65 t55.1.val (.int .i64 i110)) pav (fun t113 =>
  opRd Pr (Instr.loadAt 22 (.pointer (some t113))) Sl.val (fun t114 =>
  callV Pr (tval2 ApiMsg.val (Value.int .i64)) 32 #[(.pointer y25), t114.val] w112 fun t115 w116 =>
  kp b5 w112 w116 <|
  newV (fun b117 w118 =>
  wrM b117 (fun w119 =>
  ifB (t115.2 == 0)
  (callV Pr Value.bool 21 #[(.agg ⟨[(.int .i64 t115.1.Kind), (.int .i64 t115.1.From), (.int .i64 t115.1.To), (.int .i64 t115.1.Ballot.Round), (.int .i64 t115.1.Ballot.Node), (.int .i64 t115.1.Index), (.int .i64 t115.1.Commit), (.int .i64 t115.1.Version), t115.1.Entries.val, t115.1.Image.val]⟩), (.agg ⟨[(.int .i64 m.Kind), (.int .i64 t46), (.int .i64 t49), (.int .i64 m.Ballot.Round), (.int .i64 m.Ballot.Node), (.int .i64 m.Index), (.int .i64 m.Commit), (.int .i64 m.Version), m.Entries.val, m.Image.val]⟩)] w119 fun t120 w121 =>
  kp b117 w119 w121 <|
  kp b5 w119 w121 <|
  ifB t120
  (k111 true (i64 (i110 + 1)) w121)
  (ifB (m.Kind == 2)
  (ifB (t115.1.Kind == m.Kind)
  (ifB (t115.1.Version == 1)
  (k111 true (i64 (i110 + 1)) w121)
  (k111 some109 (i64 (i110 + 1)) w121))
  (k111 some109 (i64 (i110 + 1)) w121))
  (k111 some109 (i64 (i110 + 1)) w121)))
  (k111 some109 (i64 (i110 + 1)) w119)) w118) w116) w112) w112)
  (ifB (t55.2 == 0)
  (ifB some109
  (callV Pr Value.bool 25 #[] w112 fun t122 w123 =>
  kp b5 w112 w123 <|
  K t122 w123)
  (K false w112))
  (K false w112))) w108))))) w56) w56)) w47) w47) w47) w44) w44) w44) w26) w26)) w26) w26) w26) w26)) w26)) w26))))))))))) w10)) w6) w4) w2) w
def law37_LinkOpens_ann : Ann := (.s (.r [(0, .ty rPA), (1, .ty rPA), (2, .nl 5)]) (.s (.s (.r [(1, .ty rSl), (2, .call rB)]) (.c (.s (.r [(0, .call rB)]) .d) .d)) (.s (.h (.take 0 (.take 1 (.take 2 (.take 3 (.take 5 (.take 6 (.take 7 (.take 8 (.one 4 (.one 9 (.take 10 (.take 11 .done)))))))))))) [(0, .rd rPA), (1, .rd (rI .i64)), (2, .rd rPA), (3, .rd (rI .i64)), (4, .call rP), (5, .rd rPA), (6, .rd (rI .i64)), (7, .rd rPA), (8, .rd (rI .i64)), (9, .call rP)]) (.s (.s (.r [(1, .rd rB), (4, .rd rB), (7, .rd rPA), (8, .rd (rI .i64)), (9, .rd rPA), (10, .rd (rI .i64))]) (.c (.s (.r [(0, .call rB)]) .d) .d)) (.s (.r [(2, .rd rPA), (3, .rd (rI .i64)), (4, .call rApiMsg), (5, .call rB)]) (.s (.r [(0, .rd rPA), (1, .rd (rI .i64)), (3, .ls 5)]) (.s (.r [(0, .rd rPA), (1, .rd (rI .i64)), (3, .ls 5)]) (.s (.s (.r [(1, .call (rI .i64))]) (.c (.s (.r [(0, .call rB)]) .d) .d)) (.s (.r [(2, .call (rT2 rSl (rI .i64)))]) (.s (.r [(0, .rd rPA), (1, .rd (rI .i64))]) (.sj [(.s 11, (rI .i64))] (.s (.r [(0, .rd rPA), (1, .rd (rI .i64))]) (.c (.r [(0, .rd rPA), (1, .rd (rI .i64))]) .d)) (.s .d (.sj [] (.s (.r [(6, .call rB)]) (.c (.s (.r [(8, .call rB)]) .d) .d)) (.sj [] (.s (.r [(4, .rd rPA), (5, .rd (rI .i64))]) (.c (.s (.r [(0, .call rB)]) .d) .d)) (.s .d (.s (.s .d (.b (.l [(.s 13, rB), (.s 14, (rI .i64))] (.s (.s .d (.c .d .d)) (.s (.b (.s (.r [(3, .rd rPA), (4, .rd rSl), (5, .call (rT2 rApiMsg (rI .i64))), (9, .nl 15), (10, .ls 15)]) (.s (.r [(5, .call rB)]) (.c .d .d)))) .d))))) (.s (.r [(6, .call rB)]) .d)))))))))))))))))
theorem law37_LinkOpens_calls {a : List Value} {b : List Value} {m : ApiMsg} {K : Bool → World → Prop} {w : World} (h : law37_LinkOpens a b m K w) : callV Pr Value.bool 7 #[(.agg ⟨a⟩), (.agg ⟨b⟩), (.agg ⟨m.cs⟩)] w K :=
  calls_of Pr_plain Pr_mixed Pr_func7 law37_LinkOpens_ann rB (args := [(.agg ⟨a⟩), (.agg ⟨b⟩), (.agg ⟨m.cs⟩)]) (by kernel_rfl) h

/- changeover/changeoverref01.Same -/
def ref01_Same (a : Sl) (b : Sl) (K : Bool → World → Prop) (w : World) : Prop :=
  ifB ((a.len : Int) != (b.len : Int))
  (K false w)
  (loop1 (0 : Int) (fun i1 k2 w3 =>
  ifB (decide (i1 < (a.len : Int)))
  (drewM (fun w4 =>
  opRd Pr (Instr.indexAt 22 a.val (.int .i64 i1)) pav (fun t5 =>
  opRd Pr (Instr.loadAt 5 (.pointer (some t5))) (Value.int .u8) (fun t6 =>
  opRd Pr (Instr.indexAt 22 b.val (.int .i64 i1)) pav (fun t7 =>
  opRd Pr (Instr.loadAt 5 (.pointer (some t7))) (Value.int .u8) (fun t8 =>
  ifB (t6 != t8)
  (K false w4)
  (k2 (i64 (i1 + 1)) w4)) w4) w4) w4) w4) w3)
  (K true w3)) w)
def ref01_Same_ann : Ann := (.s .d (.s (.s .d (.c (.s .d .d) .d)) (.s (.s .d (.b (.l [(.s 5, (rI .i64))] (.s (.s .d (.c .d .d)) (.s (.b (.s (.r [(2, .rd rPA), (3, .rd (rI .u8)), (6, .rd rPA), (7, .rd (rI .u8))]) (.c (.s .d .d) .d))) .d))))) (.s .d .d))))
theorem ref01_Same_calls {a : Sl} {b : Sl} {K : Bool → World → Prop} {w : World} (h : ref01_Same a b K w) : callV Pr Value.bool 12 #[a.val, b.val] w K :=
  calls_of Pr_plain Pr_mixed Pr_func12 ref01_Same_ann rB (args := [a.val, b.val]) (by kernel_rfl) h

/- changeover/changeoverref13.Large -/
def ref13_Large (m : ApiMsg) (K : Bool → World → Prop) (w : World) : Prop :=
  newV (fun b1 w2 =>
  callV Pr Value.bool 45 #[m.Entries.val] w2 fun t3 w4 =>
  kp b1 w2 w4 <|
  ifB t3
  (K true w4)
  (ifB (decide ((m.Image.len : Int) > 300))
  (ifB (decide ((m.Image.len : Int) < 32760))
  (K true w4)
  (K (decide ((m.Image.len : Int) > 32780)) w4))
  (K (decide ((m.Image.len : Int) > 32780)) w4))) w
def ref13_Large_ann : Ann := (.s (.r [(0, .nl 1)]) (.s (.r [(2, .call rB)]) .d))
theorem ref13_Large_calls {m : ApiMsg} {K : Bool → World → Prop} {w : World} (h : ref13_Large m K w) : callV Pr Value.bool 15 #[(.agg ⟨m.cs⟩)] w K :=
  calls_of Pr_plain Pr_mixed Pr_func15 ref13_Large_ann rB (args := [(.agg ⟨m.cs⟩)]) (by kernel_rfl) h

/- changeover/changeoverlaw15.awake -/
def law15_awake (K : Bool → World → Prop) (w : World) : Prop :=
  callV Pr (tval2 Sl.val (Value.int .i64)) 17 #[(.int .i64 2), (.agg ⟨[(.int .i64 1), (.int .i64 1), (.int .i64 2), (.int .i64 0), (.int .i64 0), (.int .i64 0), (.int .i64 0), (.int .i64 2), Sl.nil.val, Sl.nil.val]⟩)] w fun t1 w2 =>
  callV Pr (tval3 ApiMsg.val (Value.int .i64) (Value.int .i64)) 19 #[(.int .i64 2), t1.1.val] w2 fun t3 w4 =>
  newV (fun b5 w6 =>
  wrM b5 (fun w7 =>
  ifB (t1.2 == 0)
  (ifB (t3.2.2 == 0)
  (ifB (t3.2.1 == 2)
  (K (t3.1.Version == 2) w7)
  (K false w7))
  (K false w7))
  (K false w7)) w6) w4
def law15_awake_ann : Ann := (.s .d (.s (.r [(1, .call (rT2 rSl (rI .i64)))]) (.s (.r [(1, .call (rT3 rApiMsg (rI .i64) (rI .i64))), (6, .nl 3), (7, .ls 3)]) (.s .d .d))))
theorem law15_awake_calls {K : Bool → World → Prop} {w : World} (h : law15_awake K w) : callV Pr Value.bool 16 #[] w K :=
  calls_of Pr_plain Pr_mixed Pr_func16 law15_awake_ann rB (args := []) (by kernel_rfl) h

/- changeover/tag.Wrap -/
def tag_Wrap (v : Int) (m : ApiMsg) (K : (Sl × Int) → World → Prop) (w : World) : Prop :=
  newV (fun b1 w2 =>
  callV Pr Value.bool 35 #[(.int .i64 v)] w2 fun t3 w4 =>
  kp b1 w2 w4 <|
  ifB (!t3)
  (K (Sl.nil, 8) w4)
  (callV Pr (tval2 Sl.val (Value.int .i64)) 46 #[(.int .i64 v), (.agg ⟨[(.int .i64 m.Kind), (.int .i64 m.From), (.int .i64 m.To), (.int .i64 m.Ballot.Round), (.int .i64 m.Ballot.Node), (.int .i64 m.Index), (.int .i64 m.Commit), (.int .i64 m.Version), m.Entries.val, m.Image.val]⟩)] w4 fun t5 w6 =>
  kp b1 w4 w6 <|
  ifB (t5.2 != 0)
  (K (Sl.nil, t5.2) w6)
  (opTy Pr (Instr.buildSlice 22 1 #[(0, (.int .u8 (IntKind.u8.wrap v)))]) Sl.val (fun t7 w8 =>
  kp b1 w6 w8 <|
  opTy Pr (Builtin.append_ #[22, 22] 22 #[t7.val, t5.1.val]) Sl.val (fun t9 w10 =>
  kp b1 w8 w10 <|
  callV Pr (tval2 Sl.val (Value.int .i64)) 47 #[Sl.nil.val, t9.val] w10 fun t11 w12 =>
  kp b1 w10 w12 <|
  K (t11.1, t11.2) w12) w8) w6))) w
def tag_Wrap_ann : Ann := (.s (.r [(0, .nl 3)]) (.s (.s (.r [(1, .call rB)]) (.c (.s .d .d) .d)) (.s (.r [(2, .call (rT2 rSl (rI .i64)))]) (.s (.s .d (.c (.s .d .d) .d)) (.s (.r [(2, .ty rSl), (4, .ty rSl), (5, .call (rT2 rSl (rI .i64)))]) .d)))))
theorem tag_Wrap_calls {v : Int} {m : ApiMsg} {K : (Sl × Int) → World → Prop} {w : World} (h : tag_Wrap v m K w) : callV Pr (tval2 Sl.val (Value.int .i64)) 17 #[(.int .i64 v), (.agg ⟨m.cs⟩)] w K :=
  calls_of Pr_plain Pr_mixed Pr_func17 tag_Wrap_ann (rT2 rSl (rI .i64)) (args := [(.int .i64 v), (.agg ⟨m.cs⟩)]) (by kernel_rfl) h

/- changeover/changeoverref15.Check -/
def ref15_Check (v : Int) (m : ApiMsg) (K : Int → World → Prop) (w : World) : Prop :=
  newV (fun b1 w2 =>
  ifB (decide (v < 1))
  (K 8 w2)
  (ifB (decide (v > 2))
  (K 8 w2)
  (ifB (v == 1)
  (callV Pr (Value.int .i64) 48 #[(.agg ⟨[(.int .i64 m.Kind), (.int .i64 m.From), (.int .i64 m.To), (.int .i64 m.Ballot.Round), (.int .i64 m.Ballot.Node), (.int .i64 m.Index), (.int .i64 m.Commit), (.int .i64 m.Version), m.Entries.val, m.Image.val]⟩)] w2 fun t3 w4 =>
  kp b1 w2 w4 <|
  K t3 w4)
  (callV Pr (Value.int .i64) 29 #[(.agg ⟨[(.int .i64 m.Kind), (.int .i64 m.From), (.int .i64 m.To), (.int .i64 m.Ballot.Round), (.int .i64 m.Ballot.Node), (.int .i64 m.Index), (.int .i64 m.Commit), (.int .i64 m.Version), m.Entries.val, m.Image.val]⟩)] w2 fun t5 w6 =>
  kp b1 w2 w6 <|
  K t5 w6)))) w
def ref15_Check_ann : Ann := (.s (.r [(0, .nl 3)]) (.s (.s .d (.c (.s .d .d) .d)) (.s (.s .d (.c (.s (.r [(1, .call (rI .i64))]) .d) .d)) (.s (.r [(1, .call (rI .i64))]) .d))))
theorem ref15_Check_calls {v : Int} {m : ApiMsg} {K : Int → World → Prop} {w : World} (h : ref15_Check v m K w) : callV Pr (Value.int .i64) 18 #[(.int .i64 v), (.agg ⟨m.cs⟩)] w K :=
  calls_of Pr_plain Pr_mixed Pr_func18 ref15_Check_ann (rI .i64) (args := [(.int .i64 v), (.agg ⟨m.cs⟩)]) (by kernel_rfl) h

/- changeover/tag.Open -/
def tag_Open (v : Int) (b : Sl) (K : (ApiMsg × Int × Int) → World → Prop) (w : World) : Prop :=
  newV (fun b1 w2 =>
  callV Pr Value.bool 35 #[(.int .i64 v)] w2 fun t3 w4 =>
  kp b1 w2 w4 <|
  ifB (!t3)
  (callV Pr (tval3 ApiMsg.val (Value.int .i64) (Value.int .i64)) 49 #[(.int .i64 8)] w4 fun t5 w6 =>
  kp b1 w4 w6 <|
  wrM b1 (fun w7 =>
  K ((ApiMsg.mk t5.1.Kind t5.1.From t5.1.To (ApiBallot.mk t5.1.Ballot.Round t5.1.Ballot.Node) t5.1.Index t5.1.Commit t5.1.Version t5.1.Entries t5.1.Image), t5.2.1, t5.2.2) w7) w6)
  (callV Pr (tval3 Sl.val (Value.int .i64) (Value.int .i64)) 50 #[b.val, (.int .i64 0)] w4 fun t8 w9 =>
  kp b1 w4 w9 <|
  ifB (t8.2.2 != 0)
  (callV Pr (tval3 ApiMsg.val (Value.int .i64) (Value.int .i64)) 49 #[(.int .i64 t8.2.2)] w9 fun t10 w11 =>
  kp b1 w9 w11 <|
  wrM b1 (fun w12 =>
  K ((ApiMsg.mk t10.1.Kind t10.1.From t10.1.To (ApiBallot.mk t10.1.Ballot.Round t10.1.Ballot.Node) t10.1.Index t10.1.Commit t10.1.Version t10.1.Entries t10.1.Image), t10.2.1, t10.2.2) w12) w11)
  (ifB (decide (t8.2.1 < (b.len : Int)))
  (callV Pr (tval3 ApiMsg.val (Value.int .i64) (Value.int .i64)) 49 #[(.int .i64 3)] w9 fun t13 w14 =>
  kp b1 w9 w14 <|
  wrM b1 (fun w15 =>
  K ((ApiMsg.mk t13.1.Kind t13.1.From t13.1.To (ApiBallot.mk t13.1.Ballot.Round t13.1.Ballot.Node) t13.1.Index t13.1.Commit t13.1.Version t13.1.Entries t13.1.Image), t13.2.1, t13.2.2) w15) w14)
  (opRd Pr (Instr.indexAt 22 t8.1.val (.int .i64 0)) pav (fun t16 =>
  opRd Pr (Instr.loadAt 5 (.pointer (some t16))) (Value.int .u8) (fun t17 =>
  callV Pr Value.bool 35 #[(.int .i64 (IntKind.i64.wrap t17))] w9 fun t18 w19 =>
  kp b1 w9 w19 <|
  ifB (!t18)
  (callV Pr (tval3 ApiMsg.val (Value.int .i64) (Value.int .i64)) 49 #[(.int .i64 8)] w19 fun t20 w21 =>
  kp b1 w19 w21 <|
  wrM b1 (fun w22 =>
  K ((ApiMsg.mk t20.1.Kind t20.1.From t20.1.To (ApiBallot.mk t20.1.Ballot.Round t20.1.Ballot.Node) t20.1.Index t20.1.Commit t20.1.Version t20.1.Entries t20.1.Image), t20.2.1, t20.2.2) w22) w21)
  (ifB (decide ((IntKind.i64.wrap t17) > v))
  (callV Pr (tval3 ApiMsg.val (Value.int .i64) (Value.int .i64)) 49 #[(.int .i64 8)] w19 fun t23 w24 =>
  kp b1 w19 w24 <|
  wrM b1 (fun w25 =>
  K ((ApiMsg.mk t23.1.Kind t23.1.From t23.1.To (ApiBallot.mk t23.1.Ballot.Round t23.1.Ballot.Node) t23.1.Index t23.1.Commit t23.1.Version t23.1.Entries t23.1.Image), t23.2.1, t23.2.2) w25) w24)
  (opRd Pr (Instr.sliceAt 22 t8.1.val (some (.int .i64 1)) none none) Sl.val (fun t26 =>
  callV Pr (tval2 ApiMsg.val (Value.int .i64)) 51 #[(.int .i64 (IntKind.i64.wrap t17)), t26.val] w19 fun t27 w28 =>
  kp b1 w19 w28 <|
  newV (fun b29 w30 =>
  wrM b29 (fun w31 =>
  ifB (t27.2 != 0)
  (callV Pr (tval3 ApiMsg.val (Value.int .i64) (Value.int .i64)) 49 #[(.int .i64 t27.2)] w31 fun t32 w33 =>
  kp b29 w31 w33 <|
  kp b1 w31 w33 <|
  wrM b1 (fun w34 =>
  K ((ApiMsg.mk t32.1.Kind t32.1.From t32.1.To (ApiBallot.mk t32.1.Ballot.Round t32.1.Ballot.Node) t32.1.Index t32.1.Commit t32.1.Version t32.1.Entries t32.1.Image), t32.2.1, t32.2.2) w34) w33)
  (wrM b1 (fun w35 =>
  K ((ApiMsg.mk t27.1.Kind t27.1.From t27.1.To (ApiBallot.mk t27.1.Ballot.Round t27.1.Ballot.Node) t27.1.Index t27.1.Commit t27.1.Version t27.1.Entries t27.1.Image), (IntKind.i64.wrap t17), 0) w35) w31)) w30) w28) w19))) w9) w9)))) w
def tag_Open_ann : Ann := (.s (.r [(0, .nl 4)]) (.s .d (.s (.s (.r [(1, .call rB)]) (.c (.s (.r [(1, .call (rT3 rApiMsg (rI .i64) (rI .i64))), (5, .ls 4)]) .d) .d)) (.s (.r [(1, .call (rT3 rSl (rI .i64) (rI .i64)))]) (.s (.b (.s .d (.c (.s (.r [(2, .call (rT3 rApiMsg (rI .i64) (rI .i64))), (6, .ls 4)]) .d) (.s .d (.c (.s (.r [(1, .call (rT3 rApiMsg (rI .i64) (rI .i64))), (5, .ls 4)]) .d) .d))))) (.s (.r [(1, .rd rPA), (2, .rd (rI .u8))]) (.s (.s (.r [(1, .call rB)]) (.c (.s (.r [(1, .call (rT3 rApiMsg (rI .i64) (rI .i64))), (5, .ls 4)]) .d) .d)) (.s (.r [(2, .rd rSl), (3, .call (rT2 rApiMsg (rI .i64))), (7, .nl 12), (8, .ls 12)]) (.s (.s .d (.c (.s (.r [(2, .call (rT3 rApiMsg (rI .i64) (rI .i64))), (6, .ls 4)]) .d) .d)) (.s (.r [(2, .ls 4)]) .d))))))))))
theorem tag_Open_calls {v : Int} {b : Sl} {K : (ApiMsg × Int × Int) → World → Prop} {w : World} (h : tag_Open v b K w) : callV Pr (tval3 ApiMsg.val (Value.int .i64) (Value.int .i64)) 19 #[(.int .i64 v), b.val] w K :=
  calls_of Pr_plain Pr_mixed Pr_func19 tag_Open_ann (rT3 rApiMsg (rI .i64) (rI .i64)) (args := [(.int .i64 v), b.val]) (by kernel_rfl) h

/- changeover/changeoverref15.Letter -/
def ref15_Letter (v : Int) (m : ApiMsg) (K : Sl → World → Prop) (w : World) : Prop :=
  newV (fun b1 w2 =>
  opTy Pr (Instr.buildSlice 22 1 #[(0, (.int .u8 (IntKind.u8.wrap v)))]) Sl.val (fun b3 w4 =>
  kp b1 w2 w4 <|
  ifB (v == 1)
  (callV Pr Sl.val 52 #[(.agg ⟨[(.int .i64 m.Kind), (.int .i64 m.From), (.int .i64 m.To), (.int .i64 m.Ballot.Round), (.int .i64 m.Ballot.Node), (.int .i64 m.Index), (.int .i64 m.Commit), (.int .i64 m.Version), m.Entries.val, m.Image.val]⟩)] w4 fun t5 w6 =>
  kp b1 w4 w6 <|
  opTy Pr (Builtin.append_ #[22, 22] 22 #[b3.val, t5.val]) Sl.val (fun b7 w8 =>
  kp b1 w6 w8 <|
  callV Pr Sl.val 54 #[b7.val] w8 fun t9 w10 =>
  kp b1 w8 w10 <|
  K t9 w10) w6)
  (callV Pr Sl.val 53 #[(.agg ⟨[(.int .i64 m.Kind), (.int .i64 m.From), (.int .i64 m.To), (.int .i64 m.Ballot.Round), (.int .i64 m.Ballot.Node), (.int .i64 m.Index), (.int .i64 m.Commit), (.int .i64 m.Version), m.Entries.val, m.Image.val]⟩)] w4 fun t11 w12 =>
  kp b1 w4 w12 <|
  opTy Pr (Builtin.append_ #[22, 22] 22 #[b3.val, t11.val]) Sl.val (fun b13 w14 =>
  kp b1 w12 w14 <|
  callV Pr Sl.val 54 #[b13.val] w14 fun t15 w16 =>
  kp b1 w14 w16 <|
  K t15 w16) w12)) w2) w
def ref15_Letter_ann : Ann := (.s (.r [(0, .nl 3)]) (.s (.r [(2, .ty rSl)]) (.s (.s .d (.c (.r [(2, .call rSl), (3, .ty rSl)]) (.r [(2, .call rSl), (3, .ty rSl)]))) (.s (.r [(1, .call rSl)]) .d))))
theorem ref15_Letter_calls {v : Int} {m : ApiMsg} {K : Sl → World → Prop} {w : World} (h : ref15_Letter v m K w) : callV Pr Sl.val 20 #[(.int .i64 v), (.agg ⟨m.cs⟩)] w K :=
  calls_of Pr_plain Pr_mixed Pr_func20 ref15_Letter_ann rSl (args := [(.int .i64 v), (.agg ⟨m.cs⟩)]) (by kernel_rfl) h

/- changeover/changeoverref13.Same -/
def ref13_Same (a : ApiMsg) (b : ApiMsg) (K : Bool → World → Prop) (w : World) : Prop :=
  newV (fun b1 w2 =>
  newV (fun b3 w4 =>
  ifB (a.Kind == b.Kind)
  (ifB (a.From == b.From)
  (ifB (a.To == b.To)
  (opRd Pr (binSem .eql 41 (.tmp 26) (.tmp 28) (.agg ⟨[(.int .i64 a.Ballot.Round), (.int .i64 a.Ballot.Node)]⟩) (.agg ⟨[(.int .i64 b.Ballot.Round), (.int .i64 b.Ballot.Node)]⟩)) Value.bool (fun t5 =>
  ifB t5
  (ifB (a.Index == b.Index)
  (ifB (a.Commit == b.Commit)
  (ifB (a.Version == b.Version)
  (callV Pr Value.bool 55 #[a.Entries.val, b.Entries.val] w4 fun t6 w7 =>
  kp b3 w4 w7 <|
  kp b1 w4 w7 <|
  ifB t6
  (callV Pr Value.bool 12 #[a.Image.val, b.Image.val] w7 fun t8 w9 =>
  kp b3 w7 w9 <|
  kp b1 w7 w9 <|
  K t8 w9)
  (K false w7))
  (K false w4))
  (K false w4))
  (K false w4))
  (K false w4)) w4)
  (K false w4))
  (K false w4))
  (K false w4)) w2) w
def ref13_Same_ann : Ann := (.s (.r [(0, .nl 2), (1, .nl 3)]) (.s (.r [(24, .rd rB), (52, .call rB), (59, .call rB)]) .d))
theorem ref13_Same_calls {a : ApiMsg} {b : ApiMsg} {K : Bool → World → Prop} {w : World} (h : ref13_Same a b K w) : callV Pr Value.bool 21 #[(.agg ⟨a.cs⟩), (.agg ⟨b.cs⟩)] w K :=
  calls_of Pr_plain Pr_mixed Pr_func21 ref13_Same_ann rB (args := [(.agg ⟨a.cs⟩), (.agg ⟨b.cs⟩)]) (by kernel_rfl) h

/- changeover/changeoverlaw37.large -/
def law37_large (l : Sl) (K : Bool → World → Prop) (w : World) : Prop :=
  loop1 (0 : Int) (fun i1 k2 w3 =>
  ifB (decide (i1 < (l.len : Int)))
  (ifB (decide (i1 < 30))
  (opRd Pr (Instr.indexAt 60 l.val (.int .i64 i1)) pav (fun t4 =>
  opRd Pr (Instr.loadAt 44 (.pointer (some t4))) ApiMsg.val (fun t5 =>
  callV Pr Value.bool 15 #[(.agg ⟨t5.cs⟩)] w3 fun t6 w7 =>
  ifB t6
  (K true w7)
  (opRd Pr (Instr.indexAt 60 l.val (.int .i64 i1)) pav (fun t8 =>
  opRd Pr (Instr.loadAt 22 (.pointer (some (t8.add 9)))) Sl.val (fun t9 =>
  ifB (decide ((t9.len : Int) > 300))
  (K true w7)
  (k2 (i64 (i1 + 1)) w7)) w7) w7)) w3) w3)
  (K (decide ((l.len : Int) > 30)) w3))
  (K (decide ((l.len : Int) > 30)) w3)) w
def law37_large_ann : Ann := (.s .d (.s (.s .d (.b (.l [(.s 3, (rI .i64))] (.s (.s .d (.c .d .d)) (.s (.b (.s (.r [(2, .rd rPA), (3, .rd rApiMsg), (4, .call rB), (8, .rd rPA), (10, .rd rSl)]) (.c (.s .d .d) .d))) .d))))) (.s .d .d)))
theorem law37_large_calls {l : Sl} {K : Bool → World → Prop} {w : World} (h : law37_large l K w) : callV Pr Value.bool 24 #[l.val] w K :=
  calls_of Pr_plain Pr_mixed Pr_func24 law37_large_ann rB (args := [l.val]) (by kernel_rfl) h

/- changeover/changeoverlaw37.awake -/
def law37_awake (K : Bool → World → Prop) (w : World) : Prop :=
  callV Pr Value.pointer 26 #[(.int .i64 1), (.int .i64 2)] w fun l1 w2 =>
  callV Pr ApiMsg.val 28 #[(.pointer l1), (.int .i64 1), (.int .i64 2)] w2 fun t3 w4 =>
  callV Pr (tval2 Sl.val (Value.int .i64)) 30 #[(.pointer l1), (.agg ⟨t3.cs⟩)] w4 fun t5 w6 =>
  ifB (t5.2 == 0)
  (ifB ((t5.1.len : Int) == 2)
  (callV Pr (Value.int .i64) 57 #[(.pointer l1), (.int .i64 2)] w6 fun t7 w8 =>
  ifB (t7 == 1)
  (callV Pr Value.bool 58 #[(.pointer l1), (.int .i64 2)] w8 fun t9 w10 =>
  K (!t9) w10)
  (K false w8))
  (K false w6))
  (K false w6)
def law37_awake_ann : Ann := (.s .d (.s (.r [(0, .call rP)]) (.s (.r [(2, .call rApiMsg), (3, .call (rT2 rSl (rI .i64)))]) (.s (.r [(9, .call (rI .i64)), (14, .call rB)]) .d))))
theorem law37_awake_calls {K : Bool → World → Prop} {w : World} (h : law37_awake K w) : callV Pr Value.bool 25 #[] w K :=
  calls_of Pr_plain Pr_mixed Pr_func25 law37_awake_ann rB (args := []) (by kernel_rfl) h

/- changeover/link.New -/
def link_New (node : Int) (version : Int) (K : (Option Addr) → World → Prop) (w : World) : Prop :=
  callV Pr Value.bool 59 #[(.int .i64 node)] w fun t1 w2 =>
  ifB (!t1)
  (K none w2)
  (callV Pr Value.bool 35 #[(.int .i64 version)] w2 fun t3 w4 =>
  ifB (!t3)
  (K none w4)
  (opTy Pr (Instr.box 98 (.agg ⟨[(.int .i64 node), (.int .i64 version), (.int .i64 0), (.int .i64 0), (.int .i64 0), (.int .i64 0), (.int .i64 0), (.int .i64 0), (.int .i64 0), (.int .i64 0), (.int .i64 0), (.int .i64 0)]⟩)) pav (fun l5 w6 =>
  opRd Pr (nilSem (.pointer (some l5))) pav (fun t7 =>
  opRd Pr (Instr.indexAt 96 (.pointer (some (t7.add 2))) (.int .i64 node)) pav (fun t8 =>
  opUn Pr (Instr.storeAt 3 (.pointer (some t8)) (.int .i64 version)) (fun w9 =>
  K (some l5) w9) w6) w6) w6) w4))
def link_New_ann : Ann := (.s .d (.s (.s (.r [(1, .call rB), (5, .call rB)]) (.c (.s .d .d) .d)) (.s (.r [(3, .ty rPA)]) (.s (.r [(3, .rd rPA), (5, .rd rPA), (6, .un)]) (.s .d .d)))))
theorem link_New_calls {node : Int} {version : Int} {K : (Option Addr) → World → Prop} {w : World} (h : link_New node version K w) : callV Pr Value.pointer 26 #[(.int .i64 node), (.int .i64 version)] w K :=
  calls_of Pr_plain Pr_mixed Pr_func26 link_New_ann rP (args := [(.int .i64 node), (.int .i64 version)]) (by kernel_rfl) h

/- (*changeover/link.Links).Heard -/
def link_Links_Heard (l : Option Addr) (m : ApiMsg) (K : Bool → World → Prop) (w : World) : Prop :=
  newV (fun b1 w2 =>
  heldM (fun S4 w3 =>
  opH Pr S4 (binSem .eql 61 (.tmp 5) (.const (.pointer none)) (.pointer l) (.pointer none)) Value.bool (fun t5 =>
  ifB t5
  (K false w3)
  (callV Pr (Value.int .i64) 60 #[(.agg ⟨[(.int .i64 m.Kind), (.int .i64 m.From), (.int .i64 m.To), (.int .i64 m.Ballot.Round), (.int .i64 m.Ballot.Node), (.int .i64 m.Index), (.int .i64 m.Commit), (.int .i64 m.Version), m.Entries.val, m.Image.val]⟩)] w3 fun t6 w7 =>
  kp b1 w3 w7 <|
  (S4 w7) ∧
  (ifB (t6 != 0)
  (K false w7)
  (callV Pr Value.bool 61 #[(.int .i64 m.Kind)] w7 fun t8 w9 =>
  kp b1 w7 w9 <|
  (S4 w9) ∧
  (ifB (!t8)
  (K false w9)
  (opH Pr S4 (nilSem (.pointer l)) pav (fun t10 =>
  opH Pr S4 (Instr.loadAt 3 (.pointer (some (t10.add 0)))) (Value.int .i64) (fun t11 =>
  ifB (m.To != t11)
  (K false w9)
  (drewM (fun w12 =>
  ifB (m.Kind == 1)
  (heldM (fun S14 w13 =>
  opH Pr S14 (nilSem (.pointer l)) pav (fun t15 =>
  opH Pr S14 (Instr.indexAt 96 (.pointer (some (t15.add 2))) (.int .i64 m.From)) pav (fun t16 =>
  opUn Pr (Instr.storeAt 3 (.pointer (some t16)) (.int .i64 m.Version)) (fun w17 =>
  kp b1 w13 w17 <|
  (S14 w17) ∧
  (K true w17)) w13))) w12)
  (opRd Pr (nilSem (.pointer l)) pav (fun t18 =>
  opRd Pr (Instr.indexAt 96 (.pointer (some (t18.add 2))) (.int .i64 m.From)) pav (fun t19 =>
  opRd Pr (Instr.loadAt 3 (.pointer (some t19))) (Value.int .i64) (fun t20 =>
  ifB (decide (m.Version > t20))
  (heldM (fun S22 w21 =>
  opH Pr S22 (nilSem (.pointer l)) pav (fun t23 =>
  opH Pr S22 (Instr.indexAt 96 (.pointer (some (t23.add 2))) (.int .i64 m.From)) pav (fun t24 =>
  opUn Pr (Instr.storeAt 3 (.pointer (some t24)) (.int .i64 m.Version)) (fun w25 =>
  kp b1 w21 w25 <|
  (S22 w25) ∧
  (K true w25)) w21))) w12)
  (K true w12)) w12) w12) w12)) w9)))))))))) w2) w
def link_Links_Heard_ann : Ann := (.s (.r [(0, .nl 3)]) (.s (.s (.h (.take 0 (.take 1 (.take 2 (.take 3 (.one 4 (.take 5 (.take 6 (.take 7 (.take 8 (.take 9 (.one 10 (.take 11 (.take 12 (.take 13 (.take 14 (.take 15 (.take 16 (.take 17 (.take 18 (.take 19 (.take 20 (.take 21 .done)))))))))))))))))))))) [(1, .rd rB), (4, .call (rI .i64)), (10, .call rB), (17, .rd rPA), (19, .rd (rI .i64))]) (.c (.s .d .d) .d)) (.s (.s (.r [(9, .rd rPA), (11, .rd rPA), (12, .rd (rI .i64))]) (.c (.h (.take 0 (.take 1 (.take 2 (.take 3 (.take 4 (.take 5 (.take 6 (.take 7 (.one 8 .done))))))))) [(5, .rd rPA), (7, .rd rPA), (8, .un)]) .d)) (.s .d .d))))
theorem link_Links_Heard_calls {l : Option Addr} {m : ApiMsg} {K : Bool → World → Prop} {w : World} (h : link_Links_Heard l m K w) : callV Pr Value.bool 27 #[(.pointer l), (.agg ⟨m.cs⟩)] w K :=
  calls_of Pr_plain Pr_mixed Pr_func27 link_Links_Heard_ann rB (args := [(.pointer l), (.agg ⟨m.cs⟩)]) (by kernel_rfl) h

/- (*changeover/link.Links).Greet -/
def link_Links_Greet (l : Option Addr) (kind : Int) (to : Int) (K : ApiMsg → World → Prop) (w : World) : Prop :=
  newV (fun b1 w2 =>
  opRd Pr (binSem .eql 61 (.tmp 7) (.const (.pointer none)) (.pointer l) (.pointer none)) Value.bool (fun t3 =>
  ifB t3
  (wrM b1 (fun w4 =>
  K (ApiMsg.mk 0 0 0 (ApiBallot.mk 0 0) 0 0 0 Sl.nil Sl.nil) w4) w2)
  (heldM (fun S6 w5 =>
  opH Pr S6 (nilSem (.pointer l)) pav (fun t7 =>
  opH Pr S6 (Instr.loadAt 3 (.pointer (some (t7.add 0)))) (Value.int .i64) (fun t8 =>
  opH Pr S6 (nilSem (.pointer l)) pav (fun t9 =>
  opH Pr S6 (Instr.loadAt 3 (.pointer (some (t9.add 1)))) (Value.int .i64) (fun t10 =>
  wrM b1 (fun w11 =>
  (S6 w11) ∧
  (K (ApiMsg.mk kind t8 to (ApiBallot.mk 0 0) 0 0 t10 Sl.nil Sl.nil) w11)) w5))))) w2)) w2) w
def link_Links_Greet_ann : Ann := (.s (.r [(0, .nl 6)]) (.s (.s (.r [(1, .rd rB)]) (.c (.s (.r [(1, .ls 6)]) .d) .d)) (.s (.h (.take 0 (.take 1 (.take 2 (.take 3 (.take 4 (.take 5 (.take 6 (.take 7 (.take 8 (.take 9 (.take 10 (.one 11 .done)))))))))))) [(2, .rd rPA), (4, .rd (rI .i64)), (7, .rd rPA), (9, .rd (rI .i64)), (11, .ls 6)]) .d)))
theorem link_Links_Greet_calls {l : Option Addr} {kind : Int} {to : Int} {K : ApiMsg → World → Prop} {w : World} (h : link_Links_Greet l kind to K w) : callV Pr ApiMsg.val 28 #[(.pointer l), (.int .i64 kind), (.int .i64 to)] w K :=
  calls_of Pr_plain Pr_mixed Pr_func28 link_Links_Greet_ann rApiMsg (args := [(.pointer l), (.int .i64 kind), (.int .i64 to)]) (by kernel_rfl) h

/- changeover/changeoverref13.Check -/
def ref13_Check (m : ApiMsg) (K : Int → World → Prop) (w : World) : Prop :=
  newV (fun b1 w2 =>
  callV Pr sval 62 #[(.int .i64 m.Kind)] w2 fun t3 w4 =>
  kp b1 w2 w4 <|
  ifB (strEq t3 [])
  (K 5 w4)
  (ifB (decide (m.From < 1))
  (K 6 w4)
  (ifB (decide (m.From > 9))
  (K 6 w4)
  (ifB (decide (m.To < 1))
  (K 6 w4)
  (ifB (decide (m.To > 9))
  (K 6 w4)
  (ifB (m.From == m.To)
  (K 6 w4)
  (join0 (fun (j5 : World → Prop) =>
  callV Pr Value.bool 63 #[(.int .i64 m.Kind), (.int .u8 98)] w4 fun t6 w7 =>
  kp b1 w4 w7 <|
  ifB t6
  (callV Pr Value.bool 64 #[(.agg ⟨[(.int .i64 m.Ballot.Round), (.int .i64 m.Ballot.Node)]⟩)] w7 fun t8 w9 =>
  kp b1 w7 w9 <|
  ifB (!t8)
  (K 6 w9)
  (callV Pr Value.bool 63 #[(.int .i64 m.Kind), (.int .u8 105)] w9 fun t10 w11 =>
  kp b1 w9 w11 <|
  ifB t10
  (ifB (decide (m.Index < 1))
  (K 6 w11)
  (ifB (decide (m.Index > 4294967296))
  (K 6 w11)
  (callV Pr Value.bool 63 #[(.int .i64 m.Kind), (.int .u8 99)] w11 fun t12 w13 =>
  kp b1 w11 w13 <|
  ifB t12
  (ifB (decide (m.Commit < 0))
  (K 6 w13)
  (ifB (decide (m.Commit > 4294967296))
  (K 6 w13)
  (callV Pr Value.bool 63 #[(.int .i64 m.Kind), (.int .u8 118)] w13 fun t14 w15 =>
  kp b1 w13 w15 <|
  ifB t14
  (ifB (m.Version != 1)
  (ifB (m.Version != 2)
  (K 6 w15)
  (j5 w15))
  (j5 w15))
  (j5 w15))))
  (callV Pr Value.bool 63 #[(.int .i64 m.Kind), (.int .u8 118)] w13 fun t16 w17 =>
  kp b1 w13 w17 <|
  ifB t16
  (ifB (m.Version != 1)
  (ifB (m.Version != 2)
  (K 6 w17)
  (j5 w17))
  (j5 w17))
  (j5 w17)))))
  (callV Pr Value.bool 63 #[(.int .i64 m.Kind), (.int .u8 99)] w11 fun t18 w19 =>
  kp b1 w11 w19 <|
  ifB t18
  (ifB (decide (m.Commit < 0))
  (K 6 w19)
  (ifB (decide (m.Commit > 4294967296))
  (K 6 w19)
  (callV Pr Value.bool 63 #[(.int .i64 m.Kind), (.int .u8 118)] w19 fun t20 w21 =>
  kp b1 w19 w21 <|
  ifB t20
  (ifB (m.Version != 1)
  (ifB (m.Version != 2)
  (K 6 w21)
  (j5 w21))
  (j5 w21))
  (j5 w21))))
  (callV Pr Value.bool 63 #[(.int .i64 m.Kind), (.int .u8 118)] w19 fun t22 w23 =>
  kp b1 w19 w23 <|
  ifB t22
  (ifB (m.Version != 1)
  (ifB (m.Version != 2)
  (K 6 w23)
  (j5 w23))
  (j5 w23))
  (j5 w23)))))
  (callV Pr Value.bool 63 #[(.int .i64 m.Kind), (.int .u8 105)] w7 fun t24 w25 =>
  kp b1 w7 w25 <|
  ifB t24
  (ifB (decide (m.Index < 1))
  (K 6 w25)
  (ifB (decide (m.Index > 4294967296))
  (K 6 w25)
  (callV Pr Value.bool 63 #[(.int .i64 m.Kind), (.int .u8 99)] w25 fun t26 w27 =>
  kp b1 w25 w27 <|
  ifB t26
  (ifB (decide (m.Commit < 0))
  (K 6 w27)
  (ifB (decide (m.Commit > 4294967296))
  (K 6 w27)
  (callV Pr Value.bool 63 #[(.int .i64 m.Kind), (.int .u8 118)] w27 fun t28 w29 =>
  kp b1 w27 w29 <|
  ifB t28
  (ifB (m.Version != 1)
  (ifB (m.Version != 2)
  (K 6 w29)
  (j5 w29))
  (j5 w29))
  (j5 w29))))
  (callV Pr Value.bool 63 #[(.int .i64 m.Kind), (.int .u8 118)] w27 fun t30 w31 =>
  kp b1 w27 w31 <|
  ifB t30
  (ifB (m.Version != 1)
  (ifB (m.Version != 2)
  (K 6 w31)
  (j5 w31))
  (j5 w31))
  (j5 w31)))))
  (callV Pr Value.bool 63 #[(.int .i64 m.Kind), (.int .u8 99)] w25 fun t32 w33 =>
  kp b1 w25 w33 <|
  ifB t32
  (ifB (decide (m.Commit < 0))
  (K 6 w33)
  (ifB (decide (m.Commit > 4294967296))
  (K 6 w33)
  (callV Pr Value.bool 63 #[(.int .i64 m.Kind), (.int .u8 118)] w33 fun t34 w35 =>
  kp b1 w33 w35 <|
  ifB t34
  (ifB (m.Version != 1)
  (ifB (m.Version != 2)
  (K 6 w35)
  (j5 w35))
  (j5 w35))
  (j5 w35))))
  (callV Pr Value.bool 63 #[(.int .i64 m.Kind), (.int .u8 118)] w33 fun t36 w37 =>
  kp b1 w33 w37 <|
  ifB t36
  (ifB (m.Version != 1)
  (ifB (m.Version != 2)
  (K 6 w37)
  (j5 w37))
  (j5 w37))
  (j5 w37)))))
  (fun w38 =>
  join0 (fun (j39 : World → Prop) =>
  callV Pr Value.bool 63 #[(.int .i64 m.Kind), (.int .u8 101)] w38 fun t40 w41 =>
  kp b1 w38 w41 <|
  ifB t40
  (ifB (decide ((m.Entries.len : Int) > 256))
  (K 2 w41)
  (callV Pr Value.bool 63 #[(.int .i64 m.Kind), (.int .u8 109)] w41 fun t42 w43 =>
  kp b1 w41 w43 <|
  ifB t42
  (ifB (decide ((m.Image.len : Int) > 32768))
  (K 2 w43)
  (j39 w43))
  (j39 w43)))
  (callV Pr Value.bool 63 #[(.int .i64 m.Kind), (.int .u8 109)] w41 fun t44 w45 =>
  kp b1 w41 w45 <|
  ifB t44
  (ifB (decide ((m.Image.len : Int) > 32768))
  (K 2 w45)
  (j39 w45))
  (j39 w45)))
  (fun w46 =>
  join0 (fun (j47 : World → Prop) =>
  callV Pr Value.bool 63 #[(.int .i64 m.Kind), (.int .u8 101)] w46 fun t48 w49 =>
  kp b1 w46 w49 <|
  ifB t48
  (callV Pr (Value.int .i64) 65 #[m.Entries.val] w49 fun e50 w51 =>
  kp b1 w49 w51 <|
  ifB (e50 != 0)
  (K e50 w51)
  (j47 w51))
  (j47 w49))
  (fun w52 =>
  join0 (fun (j53 : World → Prop) =>
  heldM (fun S55 w54 =>
  callV Pr Value.bool 63 #[(.int .i64 m.Kind), (.int .u8 98)] w54 fun t56 w57 =>
  kp b1 w54 w57 <|
  (S55 w57) ∧
  (ifB (!t56)
  (ifB (m.Ballot.Round != 0)
  (K 3 w57)
  (ifB (m.Ballot.Node != 0)
  (K 3 w57)
  (callV Pr Value.bool 63 #[(.int .i64 m.Kind), (.int .u8 105)] w57 fun t58 w59 =>
  kp b1 w57 w59 <|
  (S55 w59) ∧
  (ifB (!t58)
  (ifB (m.Index != 0)
  (K 3 w59)
  (callV Pr Value.bool 63 #[(.int .i64 m.Kind), (.int .u8 99)] w59 fun t60 w61 =>
  kp b1 w59 w61 <|
  (S55 w61) ∧
  (ifB (!t60)
  (ifB (m.Commit != 0)
  (K 3 w61)
  (callV Pr Value.bool 63 #[(.int .i64 m.Kind), (.int .u8 118)] w61 fun t62 w63 =>
  kp b1 w61 w63 <|
  (S55 w63) ∧
  (ifB (!t62)
  (ifB (m.Version != 0)
  (K 3 w63)
  (callV Pr Value.bool 63 #[(.int .i64 m.Kind), (.int .u8 101)] w63 fun t64 w65 =>
  kp b1 w63 w65 <|
  (S55 w65) ∧
  (ifB (!t64)
  (ifB (decide ((m.Entries.len : Int) > 0))
  (K 3 w65)
  (callV Pr Value.bool 63 #[(.int .i64 m.Kind), (.int .u8 109)] w65 fun t66 w67 =>
  kp b1 w65 w67 <|
  (S55 w67) ∧
  (ifB (!(t66 == (decide ((m.Image.len : Int) > 0))))
  (K 3 w67)
  (j53 w67))))
  (callV Pr Value.bool 63 #[(.int .i64 m.Kind), (.int .u8 109)] w65 fun t68 w69 =>
  kp b1 w65 w69 <|
  (S55 w69) ∧
  (ifB (!(t68 == (decide ((m.Image.len : Int) > 0))))
  (K 3 w69)
  (j53 w69))))))
  (callV Pr Value.bool 63 #[(.int .i64 m.Kind), (.int .u8 101)] w63 fun t70 w71 =>
  kp b1 w63 w71 <|
  (S55 w71) ∧
  (ifB (!t70)
  (ifB (decide ((m.Entries.len : Int) > 0))
  (K 3 w71)
  (callV Pr Value.bool 63 #[(.int .i64 m.Kind), (.int .u8 109)] w71 fun t72 w73 =>
  kp b1 w71 w73 <|
  (S55 w73) ∧
  (ifB (!(t72 == (decide ((m.Image.len : Int) > 0))))
  (K 3 w73)
  (j53 w73))))
  (callV Pr Value.bool 63 #[(.int .i64 m.Kind), (.int .u8 109)] w71 fun t74 w75 =>
  kp b1 w71 w75 <|
  (S55 w75) ∧
  (ifB (!(t74 == (decide ((m.Image.len : Int) > 0))))
  (K 3 w75)
  (j53 w75))))))))
  (callV Pr Value.bool 63 #[(.int .i64 m.Kind), (.int .u8 118)] w61 fun t76 w77 =>
  kp b1 w61 w77 <|
  (S55 w77) ∧
  (ifB (!t76)
  (ifB (m.Version != 0)
  (K 3 w77)
  (callV Pr Value.bool 63 #[(.int .i64 m.Kind), (.int .u8 101)] w77 fun t78 w79 =>
  kp b1 w77 w79 <|
  (S55 w79) ∧
  (ifB (!t78)
  (ifB (decide ((m.Entries.len : Int) > 0))
  (K 3 w79)
  (callV Pr Value.bool 63 #[(.int .i64 m.Kind), (.int .u8 109)] w79 fun t80 w81 =>
  kp b1 w79 w81 <|
  (S55 w81) ∧
  (ifB (!(t80 == (decide ((m.Image.len : Int) > 0))))
  (K 3 w81)
  (j53 w81))))
  (callV Pr Value.bool 63 #[(.int .i64 m.Kind), (.int .u8 109)] w79 fun t82 w83 =>
  kp b1 w79 w83 <|
  (S55 w83) ∧
  (ifB (!(t82 == (decide ((m.Image.len : Int) > 0))))
  (K 3 w83)
  (j53 w83))))))
  (callV Pr Value.bool 63 #[(.int .i64 m.Kind), (.int .u8 101)] w77 fun t84 w85 =>
  kp b1 w77 w85 <|
  (S55 w85) ∧
  (ifB (!t84)
  (ifB (decide ((m.Entries.len : Int) > 0))
  (K 3 w85)
  (callV Pr Value.bool 63 #[(.int .i64 m.Kind), (.int .u8 109)] w85 fun t86 w87 =>
  kp b1 w85 w87 <|
  (S55 w87) ∧
  (ifB (!(t86 == (decide ((m.Image.len : Int) > 0))))
  (K 3 w87)
  (j53 w87))))
  (callV Pr Value.bool 63 #[(.int .i64 m.Kind), (.int .u8 109)] w85 fun t88 w89 =>
  kp b1 w85 w89 <|
  (S55 w89) ∧
  (ifB (!(t88 == (decide ((m.Image.len : Int) > 0))))
  (K 3 w89)
  (j53 w89))))))))))
  (callV Pr Value.bool 63 #[(.int .i64 m.Kind), (.int .u8 99)] w59 fun t90 w91 =>
  kp b1 w59 w91 <|
  (S55 w91) ∧
  (ifB (!t90)
  (ifB (m.Commit != 0)
  (K 3 w91)
  (callV Pr Value.bool 63 #[(.int .i64 m.Kind), (.int .u8 118)] w91 fun t92 w93 =>
  kp b1 w91 w93 <|
  (S55 w93) ∧
  (ifB (!t92)
  (ifB (m.Version != 0)
  (K 3 w93)
  (callV Pr Value.bool 63 #[(.int .i64 m.Kind), (.int .u8 101)] w93 fun t94 w95 =>
  kp b1 w93 w95 <|
  (S55 w95) ∧
  (ifB (!t94)
  (ifB (decide ((m.Entries.len : Int) > 0))
  (K 3 w95)
  (callV Pr Value.bool 63 #[(.int .i64 m.Kind), (.int .u8 109)] w95 fun t96 w97 =>
  kp b1 w95 w97 <|
  (S55 w97) ∧
  (ifB (!(t96 == (decide ((m.Image.len : Int) > 0))))
  (K 3 w97)
  (j53 w97))))
  (callV Pr Value.bool 63 #[(.int .i64 m.Kind), (.int .u8 109)] w95 fun t98 w99 =>
  kp b1 w95 w99 <|
  (S55 w99) ∧
  (ifB (!(t98 == (decide ((m.Image.len : Int) > 0))))
  (K 3 w99)
  (j53 w99))))))
  (callV Pr Value.bool 63 #[(.int .i64 m.Kind), (.int .u8 101)] w93 fun t100 w101 =>
  kp b1 w93 w101 <|
  (S55 w101) ∧
  (ifB (!t100)
  (ifB (decide ((m.Entries.len : Int) > 0))
  (K 3 w101)
  (callV Pr Value.bool 63 #[(.int .i64 m.Kind), (.int .u8 109)] w101 fun t102 w103 =>
  kp b1 w101 w103 <|
  (S55 w103) ∧
  (ifB (!(t102 == (decide ((m.Image.len : Int) > 0))))
  (K 3 w103)
  (j53 w103))))
  (callV Pr Value.bool 63 #[(.int .i64 m.Kind), (.int .u8 109)] w101 fun t104 w105 =>
  kp b1 w101 w105 <|
  (S55 w105) ∧
  (ifB (!(t104 == (decide ((m.Image.len : Int) > 0))))
  (K 3 w105)
  (j53 w105))))))))
  (callV Pr Value.bool 63 #[(.int .i64 m.Kind), (.int .u8 118)] w91 fun t106 w107 =>
  kp b1 w91 w107 <|
  (S55 w107) ∧
  (ifB (!t106)
  (ifB (m.Version != 0)
  (K 3 w107)
  (callV Pr Value.bool 63 #[(.int .i64 m.Kind), (.int .u8 101)] w107 fun t108 w109 =>
  kp b1 w107 w109 <|
  (S55 w109) ∧
  (ifB (!t108)
  (ifB (decide ((m.Entries.len : Int) > 0))
  (K 3 w109)
  (callV Pr Value.bool 63 #[(.int .i64 m.Kind), (.int .u8 109)] w109 fun t110 w111 =>
  kp b1 w109 w111 <|
  (S55 w111) ∧
  (ifB (!(t110 == (decide ((m.Image.len : Int) > 0))))
  (K 3 w111)
  (j53 w111))))
  (callV Pr Value.bool 63 #[(.int .i64 m.Kind), (.int .u8 109)] w109 fun t112 w113 =>
  kp b1 w109 w113 <|
  (S55 w113) ∧
  (ifB (!(t112 == (decide ((m.Image.len : Int) > 0))))
  (K 3 w113)
  (j53 w113))))))
  (callV Pr Value.bool 63 #[(.int .i64 m.Kind), (.int .u8 101)] w107 fun t114 w115 =>
  kp b1 w107 w115 <|
  (S55 w115) ∧
  (ifB (!t114)
  (ifB (decide ((m.Entries.len : Int) > 0))
  (K 3 w115)
  (callV Pr Value.bool 63 #[(.int .i64 m.Kind), (.int .u8 109)] w115 fun t116 w117 =>
  kp b1 w115 w117 <|
  (S55 w117) ∧
  (ifB (!(t116 == (decide ((m.Image.len : Int) > 0))))
  (K 3 w117)
  (j53 w117))))
  (callV Pr Value.bool 63 #[(.int .i64 m.Kind), (.int .u8 109)] w115 fun t118 w119 =>
  kp b1 w115 w119 <|
  (S55 w119) ∧
  (ifB (!(t118 == (decide ((m.Image.len : Int) > 0))))
  (K 3 w119)
  (j53 w119)))))))))))))
  (callV Pr Value.bool 63 #[(.int .i64 m.Kind), (.int .u8 105)] w57 fun t120 w121 =>
  kp b1 w57 w121 <|
  (S55 w121) ∧
  (ifB (!t120)
  (ifB (m.Index != 0)
  (K 3 w121)
  (callV Pr Value.bool 63 #[(.int .i64 m.Kind), (.int .u8 99)] w121 fun t122 w123 =>
  kp b1 w121 w123 <|
  (S55 w123) ∧
  (ifB (!t122)
  (ifB (m.Commit != 0)
  (K 3 w123)
  (callV Pr Value.bool 63 #[(.int .i64 m.Kind), (.int .u8 118)] w123 fun t124 w125 =>
  kp b1 w123 w125 <|
  (S55 w125) ∧
  (ifB (!t124)
  (ifB (m.Version != 0)
  (K 3 w125)
  (callV Pr Value.bool 63 #[(.int .i64 m.Kind), (.int .u8 101)] w125 fun t126 w127 =>
  kp b1 w125 w127 <|
  (S55 w127) ∧
  (ifB (!t126)
  (ifB (decide ((m.Entries.len : Int) > 0))
  (K 3 w127)
  (callV Pr Value.bool 63 #[(.int .i64 m.Kind), (.int .u8 109)] w127 fun t128 w129 =>
  kp b1 w127 w129 <|
  (S55 w129) ∧
  (ifB (!(t128 == (decide ((m.Image.len : Int) > 0))))
  (K 3 w129)
  (j53 w129))))
  (callV Pr Value.bool 63 #[(.int .i64 m.Kind), (.int .u8 109)] w127 fun t130 w131 =>
  kp b1 w127 w131 <|
  (S55 w131) ∧
  (ifB (!(t130 == (decide ((m.Image.len : Int) > 0))))
  (K 3 w131)
  (j53 w131))))))
  (callV Pr Value.bool 63 #[(.int .i64 m.Kind), (.int .u8 101)] w125 fun t132 w133 =>
  kp b1 w125 w133 <|
  (S55 w133) ∧
  (ifB (!t132)
  (ifB (decide ((m.Entries.len : Int) > 0))
  (K 3 w133)
  (callV Pr Value.bool 63 #[(.int .i64 m.Kind), (.int .u8 109)] w133 fun t134 w135 =>
  kp b1 w133 w135 <|
  (S55 w135) ∧
  (ifB (!(t134 == (decide ((m.Image.len : Int) > 0))))
  (K 3 w135)
  (j53 w135))))
  (callV Pr Value.bool 63 #[(.int .i64 m.Kind), (.int .u8 109)] w133 fun t136 w137 =>
  kp b1 w133 w137 <|
  (S55 w137) ∧
  (ifB (!(t136 == (decide ((m.Image.len : Int) > 0))))
  (K 3 w137)
  (j53 w137))))))))
  (callV Pr Value.bool 63 #[(.int .i64 m.Kind), (.int .u8 118)] w123 fun t138 w139 =>
  kp b1 w123 w139 <|
  (S55 w139) ∧
  (ifB (!t138)
  (ifB (m.Version != 0)
  (K 3 w139)
  (callV Pr Value.bool 63 #[(.int .i64 m.Kind), (.int .u8 101)] w139 fun t140 w141 =>
  kp b1 w139 w141 <|
  (S55 w141) ∧
  (ifB (!t140)
  (ifB (decide ((m.Entries.len : Int) > 0))
  (K 3 w141)
  (callV Pr Value.bool 63 #[(.int .i64 m.Kind), (.int .u8 109)] w141 fun t142 w143 =>
  kp b1 w141 w143 <|
  (S55 w143) ∧
  (ifB (!(t142 == (decide ((m.Image.len : Int) > 0))))
  (K 3 w143)
  (j53 w143))))
  (callV Pr Value.bool 63 #[(.int .i64 m.Kind), (.int .u8 109)] w141 fun t144 w145 =>
  kp b1 w141 w145 <|
  (S55 w145) ∧
  (ifB (!(t144 == (decide ((m.Image.len : Int) > 0))))
  (K 3 w145)
  (j53 w145))))))
  (callV Pr Value.bool 63 #[(.int .i64 m.Kind), (.int .u8 101)] w139 fun t146 w147 =>
  kp b1 w139 w147 <|
  (S55 w147) ∧
  (ifB (!t146)
  (ifB (decide ((m.Entries.len : Int) > 0))
  (K 3 w147)
  (callV Pr Value.bool 63 #[(.int .i64 m.Kind), (.int .u8 109)] w147 fun t148 w149 =>
  kp b1 w147 w149 <|
  (S55 w149) ∧
  (ifB (!(t148 == (decide ((m.Image.len : Int) > 0))))
  (K 3 w149)
  (j53 w149))))
  (callV Pr Value.bool 63 #[(.int .i64 m.Kind), (.int .u8 109)] w147 fun t150 w151 =>
  kp b1 w147 w151 <|
  (S55 w151) ∧
  (ifB (!(t150 == (decide ((m.Image.len : Int) > 0))))
  (K 3 w151)
  (j53 w151))))))))))
  (callV Pr Value.bool 63 #[(.int .i64 m.Kind), (.int .u8 99)] w121 fun t152 w153 =>
  kp b1 w121 w153 <|
  (S55 w153) ∧
  (ifB (!t152)
  (ifB (m.Commit != 0)
  (K 3 w153)
  (callV Pr Value.bool 63 #[(.int .i64 m.Kind), (.int .u8 118)] w153 fun t154 w155 =>
  kp b1 w153 w155 <|
  (S55 w155) ∧
  (ifB (!t154)
  (ifB (m.Version != 0)
  (K 3 w155)
  (callV Pr Value.bool 63 #[(.int .i64 m.Kind), (.int .u8 101)] w155 fun t156 w157 =>
  kp b1 w155 w157 <|
  (S55 w157) ∧
  (ifB (!t156)
  (ifB (decide ((m.Entries.len : Int) > 0))
  (K 3 w157)
  (callV Pr Value.bool 63 #[(.int .i64 m.Kind), (.int .u8 109)] w157 fun t158 w159 =>
  kp b1 w157 w159 <|
  (S55 w159) ∧
  (ifB (!(t158 == (decide ((m.Image.len : Int) > 0))))
  (K 3 w159)
  (j53 w159))))
  (callV Pr Value.bool 63 #[(.int .i64 m.Kind), (.int .u8 109)] w157 fun t160 w161 =>
  kp b1 w157 w161 <|
  (S55 w161) ∧
  (ifB (!(t160 == (decide ((m.Image.len : Int) > 0))))
  (K 3 w161)
  (j53 w161))))))
  (callV Pr Value.bool 63 #[(.int .i64 m.Kind), (.int .u8 101)] w155 fun t162 w163 =>
  kp b1 w155 w163 <|
  (S55 w163) ∧
  (ifB (!t162)
  (ifB (decide ((m.Entries.len : Int) > 0))
  (K 3 w163)
  (callV Pr Value.bool 63 #[(.int .i64 m.Kind), (.int .u8 109)] w163 fun t164 w165 =>
  kp b1 w163 w165 <|
  (S55 w165) ∧
  (ifB (!(t164 == (decide ((m.Image.len : Int) > 0))))
  (K 3 w165)
  (j53 w165))))
  (callV Pr Value.bool 63 #[(.int .i64 m.Kind), (.int .u8 109)] w163 fun t166 w167 =>
  kp b1 w163 w167 <|
  (S55 w167) ∧
  (ifB (!(t166 == (decide ((m.Image.len : Int) > 0))))
  (K 3 w167)
  (j53 w167))))))))
  (callV Pr Value.bool 63 #[(.int .i64 m.Kind), (.int .u8 118)] w153 fun t168 w169 =>
  kp b1 w153 w169 <|
  (S55 w169) ∧
  (ifB (!t168)
  (ifB (m.Version != 0)
  (K 3 w169)
  (callV Pr Value.bool 63 #[(.int .i64 m.Kind), (.int .u8 101)] w169 fun t170 w171 =>
  kp b1 w169 w171 <|
  (S55 w171) ∧
  (ifB (!t170)
  (ifB (decide ((m.Entries.len : Int) > 0))
  (K 3 w171)
  (callV Pr Value.bool 63 #[(.int .i64 m.Kind), (.int .u8 109)] w171 fun t172 w173 =>
  kp b1 w171 w173 <|
  (S55 w173) ∧
  (ifB (!(t172 == (decide ((m.Image.len : Int) > 0))))
  (K 3 w173)
  (j53 w173))))
  (callV Pr Value.bool 63 #[(.int .i64 m.Kind), (.int .u8 109)] w171 fun t174 w175 =>
  kp b1 w171 w175 <|
  (S55 w175) ∧
  (ifB (!(t174 == (decide ((m.Image.len : Int) > 0))))
  (K 3 w175)
  (j53 w175))))))
  (callV Pr Value.bool 63 #[(.int .i64 m.Kind), (.int .u8 101)] w169 fun t176 w177 =>
  kp b1 w169 w177 <|
  (S55 w177) ∧
  (ifB (!t176)
  (ifB (decide ((m.Entries.len : Int) > 0))
  (K 3 w177)
  (callV Pr Value.bool 63 #[(.int .i64 m.Kind), (.int .u8 109)] w177 fun t178 w179 =>
  kp b1 w177 w179 <|
  (S55 w179) ∧
  (ifB (!(t178 == (decide ((m.Image.len : Int) > 0))))
  (K 3 w179)
  (j53 w179))))
  (callV Pr Value.bool 63 #[(.int .i64 m.Kind), (.int .u8 109)] w177 fun t180 w181 =>
  kp b1 w177 w181 <|
  (S55 w181) ∧
  (ifB (!(t180 == (decide ((m.Image.len : Int) > 0))))
  (K 3 w181)
  (j53 w181))))))))))))) w52)
  (fun w182 =>
  drewM (fun w183 =>
  ifB (m.Kind == 5)
  (ifB ((m.Entries.len : Int) != 1)
  (K 3 w183)
  (opRd Pr (Instr.indexAt 42 m.Entries.val (.int .i64 0)) pav (fun t184 =>
  opRd Pr (Instr.loadAt 41 (.pointer (some (t184.add 1)))) ApiBallot.val (fun t185 =>
  opRd Pr (binSem .neq 41 (.tmp 188) (.tmp 190) (.agg ⟨t185.cs⟩) (.agg ⟨[(.int .i64 m.Ballot.Round), (.int .i64 m.Ballot.Node)]⟩)) Value.bool (fun t186 =>
  ifB t186
  (K 3 w183)
  (K 0 w183)) w183) w183) w183))
  (K 0 w183)) w182))))))))))) w
def ref13_Check_ann : Ann := (.s (.r [(0, .nl 1)]) (.s .d (.s (.s (.r [(1, .call rS)]) (.c (.s .d .d) .d)) (.s (.s .d (.c (.s .d .d) .d)) (.sj [] (.s (.r [(1, .call rB), (5, .call rB), (10, .call rB), (24, .call rB), (38, .call rB)]) (.c (.s .d .d) .d)) (.sj [] (.s (.r [(1, .call rB), (10, .call rB)]) (.c (.s .d .d) .d)) (.sj [] (.s (.r [(1, .call rB)]) (.c (.s (.r [(2, .call (rI .i64))]) (.s .d (.c (.s .d .d) .d))) .d)) (.sj [] (.s (.h (.take 0 (.one 1 (.take 2 (.take 3 (.take 4 (.take 5 (.take 6 (.take 7 (.take 8 (.take 9 (.take 10 (.take 11 (.take 12 (.take 13 (.take 14 (.take 15 (.take 16 (.one 17 (.take 18 (.take 19 (.take 20 (.take 21 (.take 22 (.take 23 (.take 24 (.take 25 (.take 26 (.one 27 (.take 28 (.take 29 (.take 30 (.take 31 (.take 32 (.take 33 (.take 34 (.take 35 (.take 36 (.one 37 (.take 38 (.take 39 (.take 40 (.take 41 (.take 42 (.take 43 (.take 44 (.take 45 (.take 46 (.one 47 (.take 48 (.take 49 (.take 50 (.take 51 (.take 52 (.take 53 (.take 54 (.take 55 (.take 56 (.take 57 (.take 59 (.take 60 (.take 61 (.take 62 (.one 58 (.take 63 (.take 64 .done))))))))))))))))))))))))))))))))))))))))))))))))))))))))))))))))) [(1, .call rB), (17, .call rB), (27, .call rB), (37, .call rB), (47, .call rB), (58, .call rB)]) (.c (.s .d .d) .d)) (.s (.s (.r [(10, .rd rPA), (12, .rd rApiBallot), (15, .rd rB)]) (.c (.s .d .d) .d)) (.s .d .d))))))))))
theorem ref13_Check_calls {m : ApiMsg} {K : Int → World → Prop} {w : World} (h : ref13_Check m K w) : callV Pr (Value.int .i64) 29 #[(.agg ⟨m.cs⟩)] w K :=
  calls_of Pr_plain Pr_mixed Pr_func29 ref13_Check_ann (rI .i64) (args := [(.agg ⟨m.cs⟩)]) (by kernel_rfl) h

/- (*changeover/link.Links).Letters -/
def link_Links_Letters (l : Option Addr) (m : ApiMsg) (K : (Sl × Int) → World → Prop) (w : World) : Prop :=
  newV (fun b1 w2 =>
  drewM (fun w3 =>
  opRd Pr (binSem .eql 61 (.tmp 11) (.const (.pointer none)) (.pointer l) (.pointer none)) Value.bool (fun t4 =>
  ifB t4
  (K (Sl.nil, 10) w3)
  (opRd Pr (nilSem (.pointer l)) pav (fun t5 =>
  opRd Pr (Instr.loadAt 3 (.pointer (some (t5.add 0)))) (Value.int .i64) (fun t6 =>
  ifB (m.From != t6)
  (K (Sl.nil, 10) w3)
  (opTy Pr (Instr.alloc 65 true (.tuple #[])) pav (fun out7 w8 =>
  kp b1 w3 w8 <|
  opTy Pr (Instr.alloc 31 true (.tuple #[])) pav (fun bad9 w10 =>
  kp b1 w8 w10 <|
  opUn Pr (Instr.storeAt 31 (.pointer (some bad9)) (.int .i64 0)) (fun w11 =>
  kp b1 w10 w11 <|
  callV Pr (Value.int .i64) 57 #[(.pointer l), (.int .i64 m.To)] w11 fun t12 w13 =>
  kp b1 w11 w13 <|
  callV Pr Value.bool 61 #[(.int .i64 m.Kind)] w13 fun t14 w15 =>
  kp b1 w13 w15 <|
  ifB t14
  (ifB ((imax t12 1) == 1)
  (newV (fun b16 w17 =>
  wrM b16 (fun w18 =>
  wrM b16 (fun w19 =>
  callV Pr uval 66 #[(.int .i64 1), (.agg ⟨[(.int .i64 m.Kind), (.int .i64 m.From), (.int .i64 m.To), (.int .i64 m.Ballot.Round), (.int .i64 m.Ballot.Node), (.int .i64 m.Index), (.int .i64 m.Commit), (.int .i64 (imin m.Version 1)), m.Entries.val, m.Image.val]⟩), (.pointer (some bad9)), (.pointer (some out7))] w19 fun t20 w21 =>
  kp b16 w19 w21 <|
  kp b1 w19 w21 <|
  opRd Pr (nilSem (.pointer l)) pav (fun t22 =>
  opRd Pr (Instr.loadAt 3 (.pointer (some (t22.add 1)))) (Value.int .i64) (fun t23 =>
  ifB (t23 == 2)
  (callV Pr uval 66 #[(.int .i64 2), (.agg ⟨[(.int .i64 m.Kind), (.int .i64 m.From), (.int .i64 m.To), (.int .i64 m.Ballot.Round), (.int .i64 m.Ballot.Node), (.int .i64 m.Index), (.int .i64 m.Commit), (.int .i64 m.Version), m.Entries.val, m.Image.val]⟩), (.pointer (some bad9)), (.pointer (some out7))] w21 fun t24 w25 =>
  kp b16 w21 w25 <|
  kp b1 w21 w25 <|
  opRd Pr (Instr.loadAt 31 (.pointer (some bad9))) (Value.int .i64) (fun t26 =>
  ifB (t26 != 0)
  (drewM (fun w27 =>
  opRd Pr (Instr.loadAt 31 (.pointer (some bad9))) (Value.int .i64) (fun t28 =>
  K (Sl.nil, t28) w27) w27) w25)
  (opRd Pr (Instr.loadAt 65 (.pointer (some out7))) Sl.val (fun t29 =>
  K (t29, 0) w25) w25)) w25)
  (opRd Pr (Instr.loadAt 31 (.pointer (some bad9))) (Value.int .i64) (fun t30 =>
  ifB (t30 != 0)
  (drewM (fun w31 =>
  opRd Pr (Instr.loadAt 31 (.pointer (some bad9))) (Value.int .i64) (fun t32 =>
  K (Sl.nil, t32) w31) w31) w21)
  (opRd Pr (Instr.loadAt 65 (.pointer (some out7))) Sl.val (fun t33 =>
  K (t33, 0) w21) w21)) w21)) w21) w21) w18) w17) w15)
  (callV Pr uval 66 #[(.int .i64 (imax t12 1)), (.agg ⟨[(.int .i64 m.Kind), (.int .i64 m.From), (.int .i64 m.To), (.int .i64 m.Ballot.Round), (.int .i64 m.Ballot.Node), (.int .i64 m.Index), (.int .i64 m.Commit), (.int .i64 m.Version), m.Entries.val, m.Image.val]⟩), (.pointer (some bad9)), (.pointer (some out7))] w15 fun t34 w35 =>
  kp b1 w15 w35 <|
  opRd Pr (Instr.loadAt 31 (.pointer (some bad9))) (Value.int .i64) (fun t36 =>
  ifB (t36 != 0)
  (drewM (fun w37 =>
  opRd Pr (Instr.loadAt 31 (.pointer (some bad9))) (Value.int .i64) (fun t38 =>
  K (Sl.nil, t38) w37) w37) w35)
  (opRd Pr (Instr.loadAt 65 (.pointer (some out7))) Sl.val (fun t39 =>
  K (t39, 0) w35) w35)) w35))
  (callV Pr uval 66 #[(.int .i64 (imax t12 1)), (.agg ⟨[(.int .i64 m.Kind), (.int .i64 m.From), (.int .i64 m.To), (.int .i64 m.Ballot.Round), (.int .i64 m.Ballot.Node), (.int .i64 m.Index), (.int .i64 m.Commit), (.int .i64 m.Version), m.Entries.val, m.Image.val]⟩), (.pointer (some bad9)), (.pointer (some out7))] w15 fun t40 w41 =>
  kp b1 w15 w41 <|
  opRd Pr (Instr.loadAt 31 (.pointer (some bad9))) (Value.int .i64) (fun t42 =>
  ifB (t42 != 0)
  (drewM (fun w43 =>
  opRd Pr (Instr.loadAt 31 (.pointer (some bad9))) (Value.int .i64) (fun t44 =>
  K (Sl.nil, t44) w43) w43) w41)
  (opRd Pr (Instr.loadAt 65 (.pointer (some out7))) Sl.val (fun t45 =>
  K (t45, 0) w41) w41)) w41)) w10) w8) w3)) w3) w3)) w3) w2) w
def link_Links_Letters_ann : Ann := (.s (.r [(0, .nl 3)]) (.s (.s (.r [(1, .rd rB), (6, .rd rPA), (8, .rd (rI .i64))]) (.c (.s .d .d) .d)) (.s (.r [(0, .ty rPA)]) (.s (.r [(0, .ty rPA), (1, .un)]) (.s .d (.s (.r [(3, .call (rI .i64))]) (.s (.s (.r [(2, .call rB)]) (.c (.s (.r [(1, .nl 10), (2, .ls 10)]) (.s (.r [(4, .ls 10)]) (.s (.r [(2, .call rU)]) (.s (.r [(1, .rd rPA), (3, .rd (rI .i64))]) (.c (.r [(2, .call rU)]) .d))))) (.r [(3, .call rU)]))) (.s (.s (.r [(0, .rd (rI .i64))]) (.c (.s (.r [(0, .rd (rI .i64))]) .d) .d)) (.s (.r [(0, .rd rSl)]) .d)))))))))
theorem link_Links_Letters_calls {l : Option Addr} {m : ApiMsg} {K : (Sl × Int) → World → Prop} {w : World} (h : link_Links_Letters l m K w) : callV Pr (tval2 Sl.val (Value.int .i64)) 30 #[(.pointer l), (.agg ⟨m.cs⟩)] w K :=
  calls_of Pr_plain Pr_mixed Pr_func30 link_Links_Letters_ann (rT2 rSl (rI .i64)) (args := [(.pointer l), (.agg ⟨m.cs⟩)]) (by kernel_rfl) h

/- changeover/changeoverref12.Has -/
def ref12_Has (v : Int) (l : Sl) (K : Bool → World → Prop) (w : World) : Prop :=
  loop1 (0 : Int) (fun i1 k2 w3 =>
  ifB (decide (i1 < (l.len : Int)))
  (opRd Pr (Instr.indexAt 42 l.val (.int .i64 i1)) pav (fun t4 =>
  opRd Pr (Instr.loadAt 3 (.pointer (some ((t4.add 3).add 0)))) (Value.int .i64) (fun t5 =>
  callV Pr Value.bool 67 #[(.int .i64 v), (.int .i64 t5)] w3 fun t6 w7 =>
  ifB (!t6)
  (K false w7)
  (k2 (i64 (i1 + 1)) w7)) w3) w3)
  (K true w3)) w
def ref12_Has_ann : Ann := (.s .d (.s (.s .d (.b (.l [(.s 5, (rI .i64))] (.s (.s .d (.c .d .d)) (.s (.b (.s (.r [(3, .rd rPA), (6, .rd (rI .i64)), (7, .call rB)]) (.c (.s .d .d) .d))) .d))))) (.s .d .d)))
theorem ref12_Has_calls {v : Int} {l : Sl} {K : Bool → World → Prop} {w : World} (h : ref12_Has v l K w) : callV Pr Value.bool 31 #[(.int .i64 v), l.val] w K :=
  calls_of Pr_plain Pr_mixed Pr_func31 ref12_Has_ann rB (args := [(.int .i64 v), l.val]) (by kernel_rfl) h

/- (*changeover/link.Links).Open -/
def link_Links_Open (l : Option Addr) (b : Sl) (K : (ApiMsg × Int) → World → Prop) (w : World) : Prop :=
  newV (fun b1 w2 =>
  opRd Pr (binSem .eql 61 (.tmp 9) (.const (.pointer none)) (.pointer l) (.pointer none)) Value.bool (fun t3 =>
  ifB t3
  (wrM b1 (fun w4 =>
  K ((ApiMsg.mk 0 0 0 (ApiBallot.mk 0 0) 0 0 0 Sl.nil Sl.nil), 10) w4) w2)
  (opRd Pr (nilSem (.pointer l)) pav (fun t5 =>
  opRd Pr (Instr.loadAt 3 (.pointer (some (t5.add 1)))) (Value.int .i64) (fun t6 =>
  callV Pr (tval3 ApiMsg.val (Value.int .i64) (Value.int .i64)) 19 #[(.int .i64 t6), b.val] w2 fun t7 w8 =>
  kp b1 w2 w8 <|
  newV (fun b9 w10 =>
  wrM b9 (fun w11 =>
  ifB (t7.2.2 != 0)
  (wrM b1 (fun w12 =>
  K ((ApiMsg.mk 0 0 0 (ApiBallot.mk 0 0) 0 0 0 Sl.nil Sl.nil), t7.2.2) w12) w11)
  (drewM (fun w13 =>
  opRd Pr (nilSem (.pointer l)) pav (fun t14 =>
  opRd Pr (Instr.loadAt 3 (.pointer (some (t14.add 0)))) (Value.int .i64) (fun t15 =>
  ifB (t7.1.To != t15)
  (wrM b1 (fun w16 =>
  K ((ApiMsg.mk 0 0 0 (ApiBallot.mk 0 0) 0 0 0 Sl.nil Sl.nil), 10) w16) w13)
  (wrM b1 (fun w17 =>
  K ((ApiMsg.mk t7.1.Kind t7.1.From t7.1.To (ApiBallot.mk t7.1.Ballot.Round t7.1.Ballot.Node) t7.1.Index t7.1.Commit t7.1.Version t7.1.Entries t7.1.Image), 0) w17) w13)) w13) w13) w11)) w10) w8) w2) w2)) w2) w
def link_Links_Open_ann : Ann := (.s (.r [(0, .nl 4)]) (.s (.s (.r [(1, .rd rB)]) (.c (.s (.r [(1, .ls 4)]) .d) .d)) (.s (.r [(1, .rd rPA), (3, .rd (rI .i64)), (5, .call (rT3 rApiMsg (rI .i64) (rI .i64))), (10, .nl 6), (11, .ls 6)]) (.s (.s .d (.c (.s (.r [(2, .ls 4)]) .d) .d)) (.s (.s (.r [(3, .rd rPA), (5, .rd (rI .i64))]) (.c (.s (.r [(1, .ls 4)]) .d) .d)) (.s (.r [(1, .ls 4)]) .d))))))
theorem link_Links_Open_calls {l : Option Addr} {b : Sl} {K : (ApiMsg × Int) → World → Prop} {w : World} (h : link_Links_Open l b K w) : callV Pr (tval2 ApiMsg.val (Value.int .i64)) 32 #[(.pointer l), b.val] w K :=
  calls_of Pr_plain Pr_mixed Pr_func32 link_Links_Open_ann (rT2 rApiMsg (rI .i64)) (args := [(.pointer l), b.val]) (by kernel_rfl) h

/- changeover/vers.May -/
def vers_May (v : Int) (K : Bool → World → Prop) (w : World) : Prop :=
  ifB (v == 1)
  (K true w)
  (ifB (v == 2)
  (K true w)
  (K false w))
def vers_May_ann : Ann := (.s .d (.s (.s .d (.b (.s (.b (.b (.s (.s (.s .d (.c .d .d)) (.s .d (.c .d .d))) .d))) (.s (.s .d .d) .d)))) (.s .d .d)))
theorem vers_May_calls {v : Int} {K : Bool → World → Prop} {w : World} (h : vers_May v K w) : callV Pr Value.bool 35 #[(.int .i64 v)] w K :=
  calls_of Pr_plain Pr_mixed Pr_func35 vers_May_ann rB (args := [(.int .i64 v)]) (by kernel_rfl) h

/- changeover/pack.NewReader -/
def pack_NewReader (b : Sl) (K : (Option Addr) → World → Prop) (w : World) : Prop :=
  callV Pr Sl.val 73 #[b.val] w fun t1 w2 =>
  opTy Pr (Instr.box 118 (.agg ⟨[t1.val, (.int .i64 0), (.int .i64 0)]⟩)) pav (fun t3 w4 =>
  K (some t3) w4) w2
def pack_NewReader_ann : Ann := (.s .d (.s (.r [(1, .call rSl), (3, .ty rPA)]) .d))
theorem pack_NewReader_calls {b : Sl} {K : (Option Addr) → World → Prop} {w : World} (h : pack_NewReader b K w) : callV Pr Value.pointer 36 #[b.val] w K :=
  calls_of Pr_plain Pr_mixed Pr_func36 pack_NewReader_ann rP (args := [b.val]) (by kernel_rfl) h

/- (*changeover/pack.Reader).Number -/
def pack_Reader_Number (r : Option Addr) (most : Int) (K : Int → World → Prop) (w : World) : Prop :=
  opTy Pr (Instr.box 78 (.pointer r)) pav (fun r1 w2 =>
  opTy Pr (Instr.box 3 (.int .i64 most)) pav (fun most3 w4 =>
  opRd Pr (Instr.loadAt 78 (.pointer (some r1))) Value.pointer (fun t5 =>
  callV Pr (Value.int .i64) 74 #[(.pointer t5), (.func (.func 75) #[] #[(.pointer (some r1)), (.pointer (some most3))])] w4 fun t6 w7 =>
  K t6 w7) w4) w2) w
def pack_Reader_Number_ann : Ann := (.s (.r [(0, .ty rPA), (1, .ty rPA)]) (.s (.r [(0, .rd rP), (2, .call (rI .i64))]) .d))
theorem pack_Reader_Number_calls {r : Option Addr} {most : Int} {K : Int → World → Prop} {w : World} (h : pack_Reader_Number r most K w) : callV Pr (Value.int .i64) 37 #[(.pointer r), (.int .i64 most)] w K :=
  calls_of Pr_plain Pr_mixed Pr_func37 pack_Reader_Number_ann (rI .i64) (args := [(.pointer r), (.int .i64 most)]) (by kernel_rfl) h

/- (*changeover/pack.Reader).Err -/
def pack_Reader_Err (r : Option Addr) (K : Int → World → Prop) (w : World) : Prop :=
  opRd Pr (binSem .eql 78 (.tmp 3) (.const (.pointer none)) (.pointer r) (.pointer none)) Value.bool (fun t1 =>
  ifB t1
  (K 1 w)
  (opRd Pr (nilSem (.pointer r)) pav (fun t2 =>
  opRd Pr (Instr.loadAt 31 (.pointer (some (t2.add 2)))) (Value.int .i64) (fun t3 =>
  K t3 w) w) w)) w
def pack_Reader_Err_ann : Ann := (.s .d (.s (.s (.r [(1, .rd rB)]) (.c (.s .d .d) .d)) (.s (.r [(1, .rd rPA), (3, .rd (rI .i64))]) .d)))
theorem pack_Reader_Err_calls {r : Option Addr} {K : Int → World → Prop} {w : World} (h : pack_Reader_Err r K w) : callV Pr (Value.int .i64) 38 #[(.pointer r)] w K :=
  calls_of Pr_plain Pr_mixed Pr_func38 pack_Reader_Err_ann (rI .i64) (args := [(.pointer r)]) (by kernel_rfl) h

/- changeover/changeoverref01.Bytes -/
def ref01_Bytes (n : Int) (K : Sl → World → Prop) (w : World) : Prop :=
  join1 (fun (j1 : Int → World → Prop) =>
  ifB (decide (n < 0))
  (j1 0 w)
  (j1 n w))
  (fun n2 w3 =>
  loop2 (n2 : Int) (Sl.nil : Sl) (fun n4 out5 k6 w7 =>
  ifB (decide (n4 > 127))
  (opTy Pr (Instr.buildSlice 22 1 #[(0, (.int .u8 (IntKind.u8.wrap (i64 (128 + (Int.tmod n4 128))))))]) Sl.val (fun t8 w9 =>
  opTy Pr (Builtin.append_ #[22, 22] 22 #[out5.val, t8.val]) Sl.val (fun out10 w11 =>
  k6 (IntKind.i64.wrap (Int.tdiv n4 128)) out10 w11) w9) w7)
  (opTy Pr (Instr.buildSlice 22 1 #[(0, (.int .u8 (IntKind.u8.wrap n4)))]) Sl.val (fun t12 w13 =>
  opTy Pr (Builtin.append_ #[22, 22] 22 #[out5.val, t12.val]) Sl.val (fun t14 w15 =>
  K t14 w15) w13) w7)) w3)
def ref01_Bytes_ann : Ann := (.s .d (.sj [(.s 0, (rI .i64))] (.s .d (.c .d .d)) (.s .d (.s (.b (.l [(.s 0, (rI .i64)), (.s 3, rSl)] (.s (.s .d (.c .d .d)) (.b (.s (.r [(5, .ty rSl), (6, .ty rSl)]) .d))))) (.s (.r [(3, .ty rSl), (4, .ty rSl)]) .d)))))
theorem ref01_Bytes_calls {n : Int} {K : Sl → World → Prop} {w : World} (h : ref01_Bytes n K w) : callV Pr Sl.val 43 #[(.int .i64 n)] w K :=
  calls_of Pr_plain Pr_mixed Pr_func43 ref01_Bytes_ann rSl (args := [(.int .i64 n)]) (by kernel_rfl) h

/- changeover/changeoverref12.Large -/
def ref12_Large (l : Sl) (K : Bool → World → Prop) (w : World) : Prop :=
  loop1 (0 : Int) (fun i1 k2 w3 =>
  ifB (decide (i1 < (l.len : Int)))
  (ifB (decide (i1 < 40))
  (opRd Pr (Instr.indexAt 42 l.val (.int .i64 i1)) pav (fun t4 =>
  opRd Pr (Instr.loadAt 9 (.pointer (some ((t4.add 3).add 3)))) sval (fun t5 =>
  ifB (decide (((t5 : List UInt8).length : Int) > 200))
  (K true w3)
  (opRd Pr (Instr.indexAt 42 l.val (.int .i64 i1)) pav (fun t6 =>
  opRd Pr (Instr.loadAt 9 (.pointer (some ((t6.add 3).add 4)))) sval (fun t7 =>
  ifB (decide (((t7 : List UInt8).length : Int) > 200))
  (K true w3)
  (opRd Pr (Instr.indexAt 42 l.val (.int .i64 i1)) pav (fun t8 =>
  opRd Pr (Instr.loadAt 9 (.pointer (some ((t8.add 3).add 5)))) sval (fun t9 =>
  ifB (decide (((t9 : List UInt8).length : Int) > 200))
  (K true w3)
  (k2 (i64 (i1 + 1)) w3)) w3) w3)) w3) w3)) w3) w3)
  (K (decide ((l.len : Int) > 40)) w3))
  (K (decide ((l.len : Int) > 40)) w3)) w
def ref12_Large_ann : Ann := (.s .d (.s (.s .d (.b (.l [(.s 3, (rI .i64))] (.s (.s .d (.c .d .d)) (.s (.b (.s (.r [(2, .rd rPA), (5, .rd rS), (11, .rd rPA), (14, .rd rS), (21, .rd rPA), (24, .rd rS)]) (.c (.s .d .d) .d))) .d))))) (.s .d .d)))
theorem ref12_Large_calls {l : Sl} {K : Bool → World → Prop} {w : World} (h : ref12_Large l K w) : callV Pr Value.bool 45 #[l.val] w K :=
  calls_of Pr_plain Pr_mixed Pr_func45 ref12_Large_ann rB (args := [l.val]) (by kernel_rfl) h

/- changeover/tag.encode -/
def tag_encode (v : Int) (m : ApiMsg) (K : (Sl × Int) → World → Prop) (w : World) : Prop :=
  newV (fun b1 w2 =>
  ifB (v == 1)
  (callV Pr (tval2 Sl.val (Value.int .i64)) 88 #[(.agg ⟨[(.int .i64 m.Kind), (.int .i64 m.From), (.int .i64 m.To), (.int .i64 m.Ballot.Round), (.int .i64 m.Ballot.Node), (.int .i64 m.Index), (.int .i64 m.Commit), (.int .i64 m.Version), m.Entries.val, m.Image.val]⟩)] w2 fun t3 w4 =>
  kp b1 w2 w4 <|
  K (t3.1, t3.2) w4)
  (callV Pr (tval2 Sl.val (Value.int .i64)) 89 #[(.agg ⟨[(.int .i64 m.Kind), (.int .i64 m.From), (.int .i64 m.To), (.int .i64 m.Ballot.Round), (.int .i64 m.Ballot.Node), (.int .i64 m.Index), (.int .i64 m.Commit), (.int .i64 m.Version), m.Entries.val, m.Image.val]⟩)] w2 fun t5 w6 =>
  kp b1 w2 w6 <|
  K (t5.1, t5.2) w6)) w
def tag_encode_ann : Ann := (.s (.r [(0, .nl 3)]) (.s (.s .d (.c (.s (.r [(1, .call (rT2 rSl (rI .i64)))]) .d) .d)) (.s (.r [(1, .call (rT2 rSl (rI .i64)))]) .d)))
theorem tag_encode_calls {v : Int} {m : ApiMsg} {K : (Sl × Int) → World → Prop} {w : World} (h : tag_encode v m K w) : callV Pr (tval2 Sl.val (Value.int .i64)) 46 #[(.int .i64 v), (.agg ⟨m.cs⟩)] w K :=
  calls_of Pr_plain Pr_mixed Pr_func46 tag_encode_ann (rT2 rSl (rI .i64)) (args := [(.int .i64 v), (.agg ⟨m.cs⟩)]) (by kernel_rfl) h

/- changeover/frame.Add -/
def frame_Add (b : Sl) (body : Sl) (K : (Sl × Int) → World → Prop) (w : World) : Prop :=
  callV Pr (Value.int .i64) 90 #[(.int .i64 (body.len : Int))] w fun e1 w2 =>
  ifB (e1 != 0)
  (K (Sl.nil, e1) w2)
  (callV Pr Sl.val 92 #[b.val, (.int .i64 (body.len : Int))] w2 fun t3 w4 =>
  callV Pr Sl.val 93 #[body.val] w4 fun t5 w6 =>
  opTy Pr (Instr.buildSlice 65 3 #[(0, t3.val), (1, body.val), (2, t5.val)]) Sl.val (fun t7 w8 =>
  callV Pr Sl.val 91 #[t7.val] w8 fun t9 w10 =>
  K (t9, 0) w10) w6)
def frame_Add_ann : Ann := (.s .d (.s (.s (.r [(2, .call (rI .i64))]) (.s .d (.c (.s .d .d) .d))) (.s (.r [(3, .call rSl), (6, .call rSl), (7, .ty rSl), (8, .call rSl)]) .d)))
theorem frame_Add_calls {b : Sl} {body : Sl} {K : (Sl × Int) → World → Prop} {w : World} (h : frame_Add b body K w) : callV Pr (tval2 Sl.val (Value.int .i64)) 47 #[b.val, body.val] w K :=
  calls_of Pr_plain Pr_mixed Pr_func47 frame_Add_ann (rT2 rSl (rI .i64)) (args := [b.val, body.val]) (by kernel_rfl) h

/- changeover/changeoverref13.Older -/
def ref13_Older (m : ApiMsg) (K : Int → World → Prop) (w : World) : Prop :=
  newV (fun b1 w2 =>
  callV Pr (Value.int .i64) 29 #[(.agg ⟨[(.int .i64 m.Kind), (.int .i64 m.From), (.int .i64 m.To), (.int .i64 m.Ballot.Round), (.int .i64 m.Ballot.Node), (.int .i64 m.Index), (.int .i64 m.Commit), (.int .i64 m.Version), m.Entries.val, m.Image.val]⟩)] w2 fun e3 w4 =>
  kp b1 w2 w4 <|
  ifB (e3 != 0)
  (K e3 w4)
  (ifB (m.Version == 2)
  (K 8 w4)
  (callV Pr Value.bool 31 #[(.int .i64 1), m.Entries.val] w4 fun t5 w6 =>
  kp b1 w4 w6 <|
  ifB (!t5)
  (K 8 w6)
  (K 0 w6)))) w
def ref13_Older_ann : Ann := (.s (.r [(0, .nl 1)]) (.s (.s (.r [(1, .call (rI .i64))]) (.s .d (.c (.s .d .d) .d))) (.s (.s (.r [(6, .call rB)]) (.c (.s .d .d) .d)) (.s .d .d))))
theorem ref13_Older_calls {m : ApiMsg} {K : Int → World → Prop} {w : World} (h : ref13_Older m K w) : callV Pr (Value.int .i64) 48 #[(.agg ⟨m.cs⟩)] w K :=
  calls_of Pr_plain Pr_mixed Pr_func48 ref13_Older_ann (rI .i64) (args := [(.agg ⟨m.cs⟩)]) (by kernel_rfl) h

/- changeover/tag.Open$1 -/
def tag_Open_1 (e : Int) (K : (ApiMsg × Int × Int) → World → Prop) (w : World) : Prop :=
  newV (fun b1 w2 =>
  wrM b1 (fun w3 =>
  K ((ApiMsg.mk 0 0 0 (ApiBallot.mk 0 0) 0 0 0 Sl.nil Sl.nil), 0, e) w3) w2) w
def tag_Open_1_ann : Ann := (.s (.r [(0, .nl 2)]) (.s (.r [(2, .ls 2)]) .d))
theorem tag_Open_1_calls {e : Int} {K : (ApiMsg × Int × Int) → World → Prop} {w : World} (h : tag_Open_1 e K w) : callV Pr (tval3 ApiMsg.val (Value.int .i64) (Value.int .i64)) 49 #[(.int .i64 e)] w K :=
  calls_of Pr_plain Pr_mixed Pr_func49 tag_Open_1_ann (rT3 rApiMsg (rI .i64) (rI .i64)) (args := [(.int .i64 e)]) (by kernel_rfl) h

/- changeover/frame.Next -/
def frame_Next (b : Sl) (at_ : Int) (K : (Sl × Int × Int) → World → Prop) (w : World) : Prop :=
  callV Pr (tval3 (Value.int .i64) (Value.int .i64) (Value.int .i64)) 94 #[b.val, (.int .i64 at_)] w fun t1 w2 =>
  ifB (t1.2.2 != 0)
  (K (Sl.nil, 0, t1.2.2) w2)
  (callV Pr (Value.int .i64) 90 #[(.int .i64 t1.1)] w2 fun e3 w4 =>
  ifB (e3 != 0)
  (K (Sl.nil, 0, e3) w4)
  (ifB (decide ((i64 ((b.len : Int) - t1.2.1)) < (i64 (t1.1 + 4))))
  (K (Sl.nil, 0, 1) w4)
  (opRd Pr (Instr.sliceAt 22 b.val (some (.int .i64 t1.2.1)) (some (.int .i64 (i64 (t1.2.1 + t1.1)))) none) Sl.val (fun body5 =>
  heldM (fun S7 w6 =>
  opH Pr S7 (Instr.sliceAt 22 b.val (some (.int .i64 (i64 (t1.2.1 + t1.1)))) (some (.int .i64 (i64 ((i64 (t1.2.1 + t1.1)) + 4)))) none) Sl.val (fun t8 =>
  callV Pr Sl.val 93 #[body5.val] w6 fun t9 w10 =>
  (S7 w10) ∧
  (callV Pr Value.bool 95 #[t8.val, t9.val] w10 fun t11 w12 =>
  (S7 w12) ∧
  (ifB (!t11)
  (K (Sl.nil, 0, 4) w12)
  (callV Pr Sl.val 73 #[body5.val] w12 fun t13 w14 =>
  K (t13, (i64 ((i64 (t1.2.1 + t1.1)) + 4)), 0) w14))))) w4) w4)))
def frame_Next_ann : Ann := (.s .d (.s (.r [(2, .call (rT3 (rI .i64) (rI .i64) (rI .i64)))]) (.s (.s .d (.c (.s .d .d) .d)) (.s (.s (.r [(1, .call (rI .i64))]) (.s .d (.c (.s .d .d) .d))) (.s (.s .d (.c (.s .d .d) .d)) (.s (.r [(5, .rd rSl)]) (.s (.s (.h (.take 0 (.take 1 (.take 2 (.take 3 (.take 4 (.take 5 (.take 6 (.one 7 (.one 8 (.take 9 .done)))))))))) [(5, .rd rSl), (7, .call rSl), (8, .call rB)]) (.c (.s .d .d) .d)) (.s (.r [(1, .call rSl)]) .d))))))))
theorem frame_Next_calls {b : Sl} {at_ : Int} {K : (Sl × Int × Int) → World → Prop} {w : World} (h : frame_Next b at_ K w) : callV Pr (tval3 Sl.val (Value.int .i64) (Value.int .i64)) 50 #[b.val, (.int .i64 at_)] w K :=
  calls_of Pr_plain Pr_mixed Pr_func50 frame_Next_ann (rT3 rSl (rI .i64) (rI .i64)) (args := [b.val, (.int .i64 at_)]) (by kernel_rfl) h

/- changeover/tag.decode -/
def tag_decode (v : Int) (b : Sl) (K : (ApiMsg × Int) → World → Prop) (w : World) : Prop :=
  newV (fun b1 w2 =>
  ifB (v == 1)
  (callV Pr (tval2 ApiMsg.val (Value.int .i64)) 96 #[b.val] w2 fun t3 w4 =>
  kp b1 w2 w4 <|
  wrM b1 (fun w5 =>
  K ((ApiMsg.mk t3.1.Kind t3.1.From t3.1.To (ApiBallot.mk t3.1.Ballot.Round t3.1.Ballot.Node) t3.1.Index t3.1.Commit t3.1.Version t3.1.Entries t3.1.Image), t3.2) w5) w4)
  (callV Pr (tval2 ApiMsg.val (Value.int .i64)) 97 #[b.val] w2 fun t6 w7 =>
  kp b1 w2 w7 <|
  wrM b1 (fun w8 =>
  K ((ApiMsg.mk t6.1.Kind t6.1.From t6.1.To (ApiBallot.mk t6.1.Ballot.Round t6.1.Ballot.Node) t6.1.Index t6.1.Commit t6.1.Version t6.1.Entries t6.1.Image), t6.2) w8) w7)) w
def tag_decode_ann : Ann := (.s (.r [(0, .nl 4)]) (.s (.s .d (.c (.s (.r [(1, .call (rT2 rApiMsg (rI .i64))), (4, .ls 4)]) .d) .d)) (.s (.r [(1, .call (rT2 rApiMsg (rI .i64))), (4, .ls 4)]) .d)))
theorem tag_decode_calls {v : Int} {b : Sl} {K : (ApiMsg × Int) → World → Prop} {w : World} (h : tag_decode v b K w) : callV Pr (tval2 ApiMsg.val (Value.int .i64)) 51 #[(.int .i64 v), b.val] w K :=
  calls_of Pr_plain Pr_mixed Pr_func51 tag_decode_ann (rT2 rApiMsg (rI .i64)) (args := [(.int .i64 v), b.val]) (by kernel_rfl) h

/- changeover/changeoverref13.Bytes -/
def ref13_Bytes (m : ApiMsg) (K : Sl → World → Prop) (w : World) : Prop :=
  newV (fun b1 w2 =>
  opTy Pr (Instr.buildSlice 73 7 #[(0, (.int .i64 m.Kind)), (1, (.int .i64 m.From)), (2, (.int .i64 m.To)), (3, (.int .i64 m.Ballot.Round)), (4, (.int .i64 m.Ballot.Node)), (5, (.int .i64 m.Index)), (6, (.int .i64 m.Commit))]) Sl.val (fun l3 w4 =>
  kp b1 w2 w4 <|
  loop2 (Sl.nil : Sl) (0 : Int) (fun out5 i6 k7 w8 =>
  ifB (decide (i6 < (l3.len : Int)))
  (opRd Pr (Instr.indexAt 73 l3.val (.int .i64 i6)) pav (fun t9 =>
  opRd Pr (Instr.loadAt 3 (.pointer (some t9))) (Value.int .i64) (fun t10 =>
  callV Pr Sl.val 43 #[(.int .i64 t10)] w8 fun t11 w12 =>
  kp b1 w8 w12 <|
  opTy Pr (Builtin.append_ #[22, 22] 22 #[out5.val, t11.val]) Sl.val (fun out13 w14 =>
  kp b1 w12 w14 <|
  k7 out13 (i64 (i6 + 1)) w14) w12) w8) w8)
  (callV Pr Sl.val 98 #[(.int .i64 1), m.Entries.val] w8 fun t15 w16 =>
  kp b1 w8 w16 <|
  opTy Pr (Builtin.append_ #[22, 22] 22 #[out5.val, t15.val]) Sl.val (fun out17 w18 =>
  kp b1 w16 w18 <|
  callV Pr Sl.val 43 #[(.int .i64 (m.Image.len : Int))] w18 fun t19 w20 =>
  kp b1 w18 w20 <|
  opTy Pr (Builtin.append_ #[22, 22] 22 #[out17.val, t19.val]) Sl.val (fun out21 w22 =>
  kp b1 w20 w22 <|
  opTy Pr (Builtin.append_ #[22, 22] 22 #[out21.val, m.Image.val]) Sl.val (fun t23 w24 =>
  kp b1 w22 w24 <|
  K t23 w24) w22) w20) w16)) w4) w2) w
def ref13_Bytes_ann : Ann := (.s (.r [(0, .nl 1)]) (.s (.r [(16, .ty rSl)]) (.s .d (.s (.s .d (.b (.l [(.s 4, rSl), (.s 5, (rI .i64))] (.s (.s .d (.c .d .d)) (.s (.b (.r [(3, .rd rPA), (4, .rd (rI .i64)), (5, .call rSl), (6, .ty rSl)])) .d))))) (.s (.r [(3, .call rSl), (4, .ty rSl)]) (.s (.r [(4, .call rSl), (5, .ty rSl)]) (.s (.r [(3, .ty rSl)]) .d)))))))
theorem ref13_Bytes_calls {m : ApiMsg} {K : Sl → World → Prop} {w : World} (h : ref13_Bytes m K w) : callV Pr Sl.val 52 #[(.agg ⟨m.cs⟩)] w K :=
  calls_of Pr_plain Pr_mixed Pr_func52 ref13_Bytes_ann rSl (args := [(.agg ⟨m.cs⟩)]) (by kernel_rfl) h

/- changeover/changeoverref14.Bytes -/
def ref14_Bytes (m : ApiMsg) (K : Sl → World → Prop) (w : World) : Prop :=
  newV (fun b1 w2 =>
  opTy Pr (Instr.buildSlice 73 3 #[(0, (.int .i64 m.Kind)), (1, (.int .i64 m.From)), (2, (.int .i64 m.To))]) Sl.val (fun t3 w4 =>
  kp b1 w2 w4 <|
  callV Pr Sl.val 99 #[Sl.nil.val, t3.val] w4 fun out5 w6 =>
  kp b1 w4 w6 <|
  join1 (fun (j7 : Sl → World → Prop) =>
  callV Pr Value.bool 63 #[(.int .i64 m.Kind), (.int .u8 98)] w6 fun t8 w9 =>
  kp b1 w6 w9 <|
  ifB t8
  (opTy Pr (Instr.buildSlice 73 2 #[(0, (.int .i64 m.Ballot.Round)), (1, (.int .i64 m.Ballot.Node))]) Sl.val (fun t10 w11 =>
  kp b1 w9 w11 <|
  callV Pr Sl.val 99 #[out5.val, t10.val] w11 fun out12 w13 =>
  kp b1 w11 w13 <|
  j7 out12 w13) w9)
  (j7 out5 w9))
  (fun out14 w15 =>
  join1 (fun (j16 : Sl → World → Prop) =>
  callV Pr Value.bool 63 #[(.int .i64 m.Kind), (.int .u8 105)] w15 fun t17 w18 =>
  kp b1 w15 w18 <|
  ifB t17
  (opTy Pr (Instr.buildSlice 73 1 #[(0, (.int .i64 m.Index))]) Sl.val (fun t19 w20 =>
  kp b1 w18 w20 <|
  callV Pr Sl.val 99 #[out14.val, t19.val] w20 fun out21 w22 =>
  kp b1 w20 w22 <|
  j16 out21 w22) w18)
  (j16 out14 w18))
  (fun out23 w24 =>
  join1 (fun (j25 : Sl → World → Prop) =>
  callV Pr Value.bool 63 #[(.int .i64 m.Kind), (.int .u8 99)] w24 fun t26 w27 =>
  kp b1 w24 w27 <|
  ifB t26
  (opTy Pr (Instr.buildSlice 73 1 #[(0, (.int .i64 m.Commit))]) Sl.val (fun t28 w29 =>
  kp b1 w27 w29 <|
  callV Pr Sl.val 99 #[out23.val, t28.val] w29 fun out30 w31 =>
  kp b1 w29 w31 <|
  j25 out30 w31) w27)
  (j25 out23 w27))
  (fun out32 w33 =>
  join1 (fun (j34 : Sl → World → Prop) =>
  callV Pr Value.bool 63 #[(.int .i64 m.Kind), (.int .u8 118)] w33 fun t35 w36 =>
  kp b1 w33 w36 <|
  ifB t35
  (opTy Pr (Instr.buildSlice 73 1 #[(0, (.int .i64 m.Version))]) Sl.val (fun t37 w38 =>
  kp b1 w36 w38 <|
  callV Pr Sl.val 99 #[out32.val, t37.val] w38 fun out39 w40 =>
  kp b1 w38 w40 <|
  j34 out39 w40) w36)
  (j34 out32 w36))
  (fun out41 w42 =>
  join1 (fun (j43 : Sl → World → Prop) =>
  ifB (m.Kind == 5)
  (opRd Pr (Instr.indexAt 42 m.Entries.val (.int .i64 0)) pav (fun t44 =>
  opRd Pr (Instr.loadAt 3 (.pointer (some (t44.add 0)))) (Value.int .i64) (fun t45 =>
  opTy Pr (Instr.buildSlice 73 1 #[(0, (.int .i64 t45))]) Sl.val (fun t46 w47 =>
  kp b1 w42 w47 <|
  callV Pr Sl.val 99 #[out41.val, t46.val] w47 fun out48 w49 =>
  kp b1 w47 w49 <|
  opRd Pr (Instr.indexAt 42 m.Entries.val (.int .i64 0)) pav (fun t50 =>
  opRd Pr (Instr.loadAt 104 (.pointer (some (t50.add 3)))) ApiCmd.val (fun t51 =>
  callV Pr Sl.val 100 #[(.int .i64 2), (.agg ⟨t51.cs⟩)] w49 fun t52 w53 =>
  kp b1 w49 w53 <|
  opTy Pr (Builtin.append_ #[22, 22] 22 #[out48.val, t52.val]) Sl.val (fun out54 w55 =>
  kp b1 w53 w55 <|
  j43 out54 w55) w53) w49) w49) w42) w42) w42)
  (callV Pr Value.bool 63 #[(.int .i64 m.Kind), (.int .u8 101)] w42 fun t56 w57 =>
  kp b1 w42 w57 <|
  ifB t56
  (callV Pr Sl.val 98 #[(.int .i64 2), m.Entries.val] w57 fun t58 w59 =>
  kp b1 w57 w59 <|
  opTy Pr (Builtin.append_ #[22, 22] 22 #[out41.val, t58.val]) Sl.val (fun out60 w61 =>
  kp b1 w59 w61 <|
  j43 out60 w61) w59)
  (j43 out41 w57)))
  (fun out62 w63 =>
  callV Pr Value.bool 63 #[(.int .i64 m.Kind), (.int .u8 109)] w63 fun t64 w65 =>
  kp b1 w63 w65 <|
  ifB t64
  (opTy Pr (Instr.buildSlice 73 1 #[(0, (.int .i64 (m.Image.len : Int)))]) Sl.val (fun t66 w67 =>
  kp b1 w65 w67 <|
  callV Pr Sl.val 99 #[out62.val, t66.val] w67 fun out68 w69 =>
  kp b1 w67 w69 <|
  opTy Pr (Builtin.append_ #[22, 22] 22 #[out68.val, m.Image.val]) Sl.val (fun out70 w71 =>
  kp b1 w69 w71 <|
  K out70 w71) w69) w65)
  (K out62 w65))))))) w2) w
def ref14_Bytes_ann : Ann := (.s (.r [(0, .nl 1)]) (.s .d (.s (.r [(5, .ty rSl), (6, .call rSl)]) (.sj [(.s 4, rSl)] (.s (.r [(1, .call rB)]) (.c (.r [(7, .ty rSl), (8, .call rSl)]) .d)) (.sj [(.s 4, rSl)] (.s (.r [(1, .call rB)]) (.c (.r [(3, .ty rSl), (4, .call rSl)]) .d)) (.sj [(.s 4, rSl)] (.s (.r [(1, .call rB)]) (.c (.r [(3, .ty rSl), (4, .call rSl)]) .d)) (.sj [(.s 4, rSl)] (.s (.r [(1, .call rB)]) (.c (.r [(3, .ty rSl), (4, .call rSl)]) .d)) (.sj [(.s 4, rSl)] (.s .d (.c (.s (.r [(3, .rd rPA), (5, .rd (rI .i64)), (6, .ty rSl), (7, .call rSl)]) (.r [(3, .rd rPA), (5, .rd rApiCmd), (6, .call rSl), (7, .ty rSl)])) (.s (.r [(1, .call rB)]) (.c (.r [(3, .call rSl), (4, .ty rSl)]) .d)))) (.s (.s (.r [(1, .call rB)]) (.c (.s (.r [(4, .ty rSl), (5, .call rSl)]) (.r [(3, .ty rSl)])) .d)) (.s .d .d))))))))))
theorem ref14_Bytes_calls {m : ApiMsg} {K : Sl → World → Prop} {w : World} (h : ref14_Bytes m K w) : callV Pr Sl.val 53 #[(.agg ⟨m.cs⟩)] w K :=
  calls_of Pr_plain Pr_mixed Pr_func53 ref14_Bytes_ann rSl (args := [(.agg ⟨m.cs⟩)]) (by kernel_rfl) h

/- changeover/changeoverref03.Frame -/
def ref03_Frame (body : Sl) (K : Sl → World → Prop) (w : World) : Prop :=
  callV Pr Sl.val 43 #[(.int .i64 (body.len : Int))] w fun t1 w2 =>
  opTy Pr (Builtin.append_ #[22, 22] 22 #[t1.val, body.val]) Sl.val (fun out3 w4 =>
  callV Pr (Value.int .u32) 101 #[body.val] w4 fun s5 w6 =>
  loop3 (out3 : Sl) (s5 : Int) (0 : Int) (fun out7 s8 i9 k10 w11 =>
  ifB (decide (i9 < 4))
  (opTy Pr (Instr.buildSlice 22 1 #[(0, (.int .u8 (IntKind.u8.wrap (Int.tmod s8 256))))]) Sl.val (fun t12 w13 =>
  opTy Pr (Builtin.append_ #[22, 22] 22 #[out7.val, t12.val]) Sl.val (fun out14 w15 =>
  k10 out14 (IntKind.u32.wrap (Int.tdiv s8 256)) (i64 (i9 + 1)) w15) w13) w11)
  (K out7 w11)) w6) w2
def ref03_Frame_ann : Ann := (.s .d (.s (.r [(2, .call rSl), (4, .ty rSl)]) (.s (.r [(1, .call (rI .u32))]) (.s (.s .d (.b (.l [(.s 3, rSl), (.s 4, (rI .u32)), (.s 5, (rI .i64))] (.s (.s .d (.c .d .d)) (.s (.b (.s (.r [(4, .ty rSl), (5, .ty rSl)]) .d)) .d))))) (.s .d .d)))))
theorem ref03_Frame_calls {body : Sl} {K : Sl → World → Prop} {w : World} (h : ref03_Frame body K w) : callV Pr Sl.val 54 #[body.val] w K :=
  calls_of Pr_plain Pr_mixed Pr_func54 ref03_Frame_ann rSl (args := [body.val]) (by kernel_rfl) h

/- changeover/changeoverref12.Same -/
def ref12_Same (a : Sl) (b : Sl) (K : Bool → World → Prop) (w : World) : Prop :=
  ifB ((a.len : Int) != (b.len : Int))
  (K false w)
  (loop1 (0 : Int) (fun i1 k2 w3 =>
  ifB (decide (i1 < (a.len : Int)))
  (drewM (fun w4 =>
  opRd Pr (Instr.indexAt 42 a.val (.int .i64 i1)) pav (fun t5 =>
  opRd Pr (Instr.loadAt 106 (.pointer (some t5))) ApiEntry.val (fun t6 =>
  opRd Pr (Instr.indexAt 42 b.val (.int .i64 i1)) pav (fun t7 =>
  opRd Pr (Instr.loadAt 106 (.pointer (some t7))) ApiEntry.val (fun t8 =>
  opRd Pr (binSem .neq 106 (.tmp 20) (.tmp 24) (.agg ⟨t6.cs⟩) (.agg ⟨t8.cs⟩)) Value.bool (fun t9 =>
  ifB t9
  (K false w4)
  (k2 (i64 (i1 + 1)) w4)) w4) w4) w4) w4) w4) w3)
  (K true w3)) w)
def ref12_Same_ann : Ann := (.s .d (.s (.s .d (.c (.s .d .d) .d)) (.s (.s .d (.b (.l [(.s 5, (rI .i64))] (.s (.s .d (.c .d .d)) (.s (.b (.s (.r [(2, .rd rPA), (3, .rd rApiEntry), (6, .rd rPA), (7, .rd rApiEntry), (8, .rd rB)]) (.c (.s .d .d) .d))) .d))))) (.s .d .d))))
theorem ref12_Same_calls {a : Sl} {b : Sl} {K : Bool → World → Prop} {w : World} (h : ref12_Same a b K w) : callV Pr Value.bool 55 #[a.val, b.val] w K :=
  calls_of Pr_plain Pr_mixed Pr_func55 ref12_Same_ann rB (args := [a.val, b.val]) (by kernel_rfl) h

/- (*changeover/link.Links).Spoken -/
def link_Links_Spoken (l : Option Addr) (node : Int) (K : Int → World → Prop) (w : World) : Prop :=
  opRd Pr (binSem .eql 61 (.tmp 6) (.const (.pointer none)) (.pointer l) (.pointer none)) Value.bool (fun t1 =>
  ifB t1
  (K 0 w)
  (callV Pr Value.bool 59 #[(.int .i64 node)] w fun t2 w3 =>
  ifB (!t2)
  (K 0 w3)
  (opRd Pr (nilSem (.pointer l)) pav (fun t4 =>
  opRd Pr (Instr.indexAt 96 (.pointer (some (t4.add 2))) (.int .i64 node)) pav (fun t5 =>
  opRd Pr (Instr.loadAt 3 (.pointer (some t5))) (Value.int .i64) (fun t6 =>
  ifB (t6 == 0)
  (K 1 w3)
  (heldM (fun S8 w7 =>
  opH Pr S8 (nilSem (.pointer l)) pav (fun t9 =>
  opH Pr S8 (Instr.loadAt 3 (.pointer (some (t9.add 1)))) (Value.int .i64) (fun t10 =>
  opH Pr S8 (nilSem (.pointer l)) pav (fun t11 =>
  opH Pr S8 (Instr.indexAt 96 (.pointer (some (t11.add 2))) (.int .i64 node)) pav (fun t12 =>
  opH Pr S8 (Instr.loadAt 3 (.pointer (some t12))) (Value.int .i64) (fun t13 =>
  callV Pr (Value.int .i64) 102 #[(.int .i64 t10), (.int .i64 t13)] w7 fun t14 w15 =>
  (S8 w15) ∧
  (K t14 w15))))))) w3)) w3) w3) w3))) w
def link_Links_Spoken_ann : Ann := (.s .d (.s (.b (.s (.r [(1, .rd rB), (4, .call rB)]) (.c (.s .d .d) (.s (.r [(2, .rd rPA), (4, .rd rPA), (5, .rd (rI .i64))]) (.c (.s .d .d) .d))))) (.s (.h (.take 0 (.take 1 (.take 2 (.take 3 (.take 4 (.take 5 (.take 6 (.take 7 (.take 8 (.take 9 (.one 10 (.take 11 .done)))))))))))) [(1, .rd rPA), (3, .rd (rI .i64)), (6, .rd rPA), (8, .rd rPA), (9, .rd (rI .i64)), (10, .call (rI .i64))]) .d)))
theorem link_Links_Spoken_calls {l : Option Addr} {node : Int} {K : Int → World → Prop} {w : World} (h : link_Links_Spoken l node K w) : callV Pr (Value.int .i64) 57 #[(.pointer l), (.int .i64 node)] w K :=
  calls_of Pr_plain Pr_mixed Pr_func57 link_Links_Spoken_ann (rI .i64) (args := [(.pointer l), (.int .i64 node)]) (by kernel_rfl) h

/- (*changeover/link.Links).Known -/
def link_Links_Known (l : Option Addr) (node : Int) (K : Bool → World → Prop) (w : World) : Prop :=
  opRd Pr (binSem .neq 61 (.tmp 5) (.const (.pointer none)) (.pointer l) (.pointer none)) Value.bool (fun t1 =>
  ifB t1
  (callV Pr Value.bool 59 #[(.int .i64 node)] w fun t2 w3 =>
  ifB t2
  (opRd Pr (nilSem (.pointer l)) pav (fun t4 =>
  opRd Pr (Instr.indexAt 96 (.pointer (some (t4.add 2))) (.int .i64 node)) pav (fun t5 =>
  opRd Pr (Instr.loadAt 3 (.pointer (some t5))) (Value.int .i64) (fun t6 =>
  K (decide (t6 > 0)) w3) w3) w3) w3)
  (K false w3))
  (K false w)) w
def link_Links_Known_ann : Ann := (.s .d (.s (.r [(1, .rd rB), (4, .call rB), (9, .rd rPA), (11, .rd rPA), (12, .rd (rI .i64))]) .d))
theorem link_Links_Known_calls {l : Option Addr} {node : Int} {K : Bool → World → Prop} {w : World} (h : link_Links_Known l node K w) : callV Pr Value.bool 58 #[(.pointer l), (.int .i64 node)] w K :=
  calls_of Pr_plain Pr_mixed Pr_func58 link_Links_Known_ann rB (args := [(.pointer l), (.int .i64 node)]) (by kernel_rfl) h

/- changeover/link.is -/
def link_is (node : Int) (K : Bool → World → Prop) (w : World) : Prop :=
  ifB (decide (node ≥ 1))
  (K (decide (node ≤ 9)) w)
  (K false w)
def link_is_ann : Ann := (.s .d (.s .d .d))
theorem link_is_calls {node : Int} {K : Bool → World → Prop} {w : World} (h : link_is node K w) : callV Pr Value.bool 59 #[(.int .i64 node)] w K :=
  calls_of Pr_plain Pr_mixed Pr_func59 link_is_ann rB (args := [(.int .i64 node)]) (by kernel_rfl) h

/- changeover/msgone.Check -/
def msgone_Check (m : ApiMsg) (K : Int → World → Prop) (w : World) : Prop :=
  newV (fun b1 w2 =>
  callV Pr (Value.int .i64) 103 #[(.int .i64 m.Kind)] w2 fun f3 w4 =>
  kp b1 w2 w4 <|
  join0 (fun (j5 : World → Prop) =>
  ifB (f3 == 0)
  (K 5 w4)
  (callV Pr Value.bool 104 #[(.agg ⟨[(.int .i64 m.Kind), (.int .i64 m.From), (.int .i64 m.To), (.int .i64 m.Ballot.Round), (.int .i64 m.Ballot.Node), (.int .i64 m.Index), (.int .i64 m.Commit), (.int .i64 m.Version), m.Entries.val, m.Image.val]⟩), (.int .i64 f3)] w4 fun t6 w7 =>
  kp b1 w4 w7 <|
  ifB (!t6)
  (K 6 w7)
  (ifB ((bAnd .i64 f3 16) != 0)
  (ifB (decide ((m.Entries.len : Int) > 256))
  (ifB (decide ((m.Entries.len : Int) > 256))
  (K 2 w7)
  (j5 w7))
  (ifB ((bAnd .i64 f3 32) != 0)
  (ifB (decide ((m.Image.len : Int) > 32768))
  (K 2 w7)
  (j5 w7))
  (j5 w7)))
  (ifB ((bAnd .i64 f3 32) != 0)
  (ifB (decide ((m.Image.len : Int) > 32768))
  (K 2 w7)
  (j5 w7))
  (j5 w7)))))
  (fun w8 =>
  join0 (fun (j9 : World → Prop) =>
  ifB ((bAnd .i64 f3 16) != 0)
  (callV Pr (Value.int .i64) 105 #[m.Entries.val] w8 fun e10 w11 =>
  kp b1 w8 w11 <|
  ifB (e10 != 0)
  (K e10 w11)
  (j9 w11))
  (j9 w8))
  (fun w12 =>
  callV Pr Value.bool 106 #[(.agg ⟨[(.int .i64 m.Kind), (.int .i64 m.From), (.int .i64 m.To), (.int .i64 m.Ballot.Round), (.int .i64 m.Ballot.Node), (.int .i64 m.Index), (.int .i64 m.Commit), (.int .i64 m.Version), m.Entries.val, m.Image.val]⟩), (.int .i64 f3)] w12 fun t13 w14 =>
  kp b1 w12 w14 <|
  ifB t13
  (K 3 w14)
  (ifB (m.Kind == 5)
  (callV Pr Value.bool 107 #[(.agg ⟨[(.int .i64 m.Kind), (.int .i64 m.From), (.int .i64 m.To), (.int .i64 m.Ballot.Round), (.int .i64 m.Ballot.Node), (.int .i64 m.Index), (.int .i64 m.Commit), (.int .i64 m.Version), m.Entries.val, m.Image.val]⟩)] w14 fun t15 w16 =>
  kp b1 w14 w16 <|
  ifB (!t15)
  (K 3 w16)
  (ifB (m.Kind == 11)
  (ifB ((m.Image.len : Int) == 0)
  (K 3 w16)
  (K 0 w16))
  (K 0 w16)))
  (ifB (m.Kind == 11)
  (ifB ((m.Image.len : Int) == 0)
  (K 3 w14)
  (K 0 w14))
  (K 0 w14)))))) w
def msgone_Check_ann : Ann := (.s (.r [(0, .nl 1)]) (.s (.r [(2, .call (rI .i64))]) (.sj [] (.b (.s .d (.c (.s .d .d) (.s (.r [(2, .call rB)]) (.c (.s .d .d) (.s (.s .d (.c .d .d)) (.c (.s .d .d) .d))))))) (.sj [] (.s .d (.c (.s (.r [(2, .call (rI .i64))]) (.s .d (.c (.s .d .d) .d))) .d)) (.s (.s (.r [(2, .call rB), (9, .call rB)]) (.c (.s .d .d) .d)) (.s .d .d))))))
theorem msgone_Check_calls {m : ApiMsg} {K : Int → World → Prop} {w : World} (h : msgone_Check m K w) : callV Pr (Value.int .i64) 60 #[(.agg ⟨m.cs⟩)] w K :=
  calls_of Pr_plain Pr_mixed Pr_func60 msgone_Check_ann (rI .i64) (args := [(.agg ⟨m.cs⟩)]) (by kernel_rfl) h

/- changeover/link.greets -/
def link_greets (kind : Int) (K : Bool → World → Prop) (w : World) : Prop :=
  ifB (kind == 1)
  (K true w)
  (K (kind == 2) w)
def link_greets_ann : Ann := (.s .d (.s .d .d))
theorem link_greets_calls {kind : Int} {K : Bool → World → Prop} {w : World} (h : link_greets kind K w) : callV Pr Value.bool 61 #[(.int .i64 kind)] w K :=
  calls_of Pr_plain Pr_mixed Pr_func61 link_greets_ann rB (args := [(.int .i64 kind)]) (by kernel_rfl) h

/- changeover/changeoverref13.Letters -/
def ref13_Letters (kind : Int) (K : (List UInt8) → World → Prop) (w : World) : Prop :=
  opTy Pr (Instr.buildSlice 148 12 #[(0, (sval [])), (1, (sval [118])), (2, (sval [118])), (3, (sval [98, 105])), (4, (sval [98, 105, 99, 101])), (5, (sval [98, 101])), (6, (sval [98, 105])), (7, (sval [98])), (8, (sval [98, 99])), (9, (sval [105])), (10, (sval [99, 101])), (11, (sval [109]))]) Sl.val (fun l1 w2 =>
  ifB (decide (kind < 1))
  (K [] w2)
  (ifB (decide (kind > 11))
  (K [] w2)
  (opRd Pr (Instr.indexAt 148 l1.val (.int .i64 kind)) pav (fun t3 =>
  opRd Pr (Instr.loadAt 9 (.pointer (some t3))) sval (fun t4 =>
  K t4 w2) w2) w2))) w
def ref13_Letters_ann : Ann := (.s .d (.s (.r [(0, .ty rSl)]) (.s (.s .d (.c (.s .d .d) .d)) (.s (.r [(2, .rd rPA), (3, .rd rS)]) .d))))
theorem ref13_Letters_calls {kind : Int} {K : (List UInt8) → World → Prop} {w : World} (h : ref13_Letters kind K w) : callV Pr sval 62 #[(.int .i64 kind)] w K :=
  calls_of Pr_plain Pr_mixed Pr_func62 ref13_Letters_ann rS (args := [(.int .i64 kind)]) (by kernel_rfl) h

/- changeover/changeoverref13.Has -/
def ref13_Has (kind : Int) (c : Int) (K : Bool → World → Prop) (w : World) : Prop :=
  callV Pr sval 62 #[(.int .i64 kind)] w fun l1 w2 =>
  loop1 (0 : Int) (fun i3 k4 w5 =>
  ifB (decide (i3 < ((l1 : List UInt8).length : Int)))
  (opRd Pr (Instr.index 9 (sval l1) (.int .i64 i3)) (Value.int .u8) (fun t6 =>
  ifB (t6 == c)
  (K true w5)
  (k4 (i64 (i3 + 1)) w5)) w5)
  (K false w5)) w2
def ref13_Has_ann : Ann := (.s .d (.s (.r [(1, .call rS)]) (.s (.s .d (.b (.l [(.s 6, (rI .i64))] (.s (.s .d (.c .d .d)) (.s (.b (.s (.r [(2, .rd (rI .u8))]) (.c (.s .d .d) .d))) .d))))) (.s .d .d))))
theorem ref13_Has_calls {kind : Int} {c : Int} {K : Bool → World → Prop} {w : World} (h : ref13_Has kind c K w) : callV Pr Value.bool 63 #[(.int .i64 kind), (.int .u8 c)] w K :=
  calls_of Pr_plain Pr_mixed Pr_func63 ref13_Has_ann rB (args := [(.int .i64 kind), (.int .u8 c)]) (by kernel_rfl) h

/- changeover/changeoverref13.ballot -/
def ref13_ballot (b : ApiBallot) (K : Bool → World → Prop) (w : World) : Prop :=
  newV (fun b1 w2 =>
  callV Pr Value.bool 108 #[(.agg ⟨[(.int .i64 b.Round), (.int .i64 b.Node)]⟩)] w2 fun t3 w4 =>
  kp b1 w2 w4 <|
  ifB t3
  (K (decide (b.Round > 0)) w4)
  (K false w4)) w
def ref13_ballot_ann : Ann := (.s (.r [(0, .nl 1)]) (.s (.r [(1, .call rB)]) .d))
theorem ref13_ballot_calls {b : ApiBallot} {K : Bool → World → Prop} {w : World} (h : ref13_ballot b K w) : callV Pr Value.bool 64 #[(.agg ⟨b.cs⟩)] w K :=
  calls_of Pr_plain Pr_mixed Pr_func64 ref13_ballot_ann rB (args := [(.agg ⟨b.cs⟩)]) (by kernel_rfl) h

/- changeover/changeoverref12.Check -/
def ref12_Check (l : Sl) (K : Int → World → Prop) (w : World) : Prop :=
  loop1 (0 : Int) (fun i1 k2 w3 =>
  ifB (decide (i1 < (l.len : Int)))
  (opRd Pr (Instr.indexAt 42 l.val (.int .i64 i1)) pav (fun t4 =>
  opRd Pr (Instr.loadAt 3 (.pointer (some (t4.add 0)))) (Value.int .i64) (fun t5 =>
  ifB (decide (t5 < 1))
  (K 6 w3)
  (opRd Pr (Instr.indexAt 42 l.val (.int .i64 i1)) pav (fun t6 =>
  opRd Pr (Instr.loadAt 3 (.pointer (some (t6.add 0)))) (Value.int .i64) (fun t7 =>
  ifB (decide (t7 > 4294967296))
  (K 6 w3)
  (opRd Pr (Instr.indexAt 42 l.val (.int .i64 i1)) pav (fun t8 =>
  opRd Pr (Instr.loadAt 41 (.pointer (some (t8.add 1)))) ApiBallot.val (fun t9 =>
  callV Pr Value.bool 108 #[(.agg ⟨t9.cs⟩)] w3 fun t10 w11 =>
  ifB (!t10)
  (K 6 w11)
  (opRd Pr (Instr.indexAt 42 l.val (.int .i64 i1)) pav (fun t12 =>
  opRd Pr (Instr.loadAt 104 (.pointer (some (t12.add 3)))) ApiCmd.val (fun t13 =>
  callV Pr (Value.int .i64) 109 #[(.agg ⟨t13.cs⟩)] w11 fun e14 w15 =>
  ifB (e14 != 0)
  (K e14 w15)
  (drewM (fun w16 =>
  ifB (decide (i1 > 0))
  (opRd Pr (Instr.indexAt 42 l.val (.int .i64 i1)) pav (fun t17 =>
  opRd Pr (Instr.loadAt 3 (.pointer (some (t17.add 0)))) (Value.int .i64) (fun t18 =>
  opRd Pr (Instr.indexAt 42 l.val (.int .i64 (i64 (i1 - 1)))) pav (fun t19 =>
  opRd Pr (Instr.loadAt 3 (.pointer (some (t19.add 0)))) (Value.int .i64) (fun t20 =>
  ifB (decide (t18 ≤ t20))
  (K 12 w16)
  (k2 (i64 (i1 + 1)) w16)) w16) w16) w16) w16)
  (k2 (i64 (i1 + 1)) w16)) w15)) w11) w11)) w3) w3)) w3) w3)) w3) w3)
  (K 0 w3)) w
def ref12_Check_ann : Ann := (.s .d (.s (.s .d (.b (.l [(.s 3, (rI .i64))] (.s (.s .d (.c .d .d)) (.s (.b (.s (.s (.r [(2, .rd rPA), (4, .rd (rI .i64)), (9, .rd rPA), (11, .rd (rI .i64)), (17, .rd rPA), (19, .rd rApiBallot), (20, .call rB)]) (.c (.s .d .d) .d)) (.s (.s (.r [(2, .rd rPA), (4, .rd rApiCmd), (5, .call (rI .i64))]) (.s .d (.c (.s .d .d) .d))) (.s (.r [(5, .rd rPA), (7, .rd (rI .i64)), (11, .rd rPA), (13, .rd (rI .i64))]) (.c (.s .d .d) .d))))) .d))))) (.s .d .d)))
theorem ref12_Check_calls {l : Sl} {K : Int → World → Prop} {w : World} (h : ref12_Check l K w) : callV Pr (Value.int .i64) 65 #[l.val] w K :=
  calls_of Pr_plain Pr_mixed Pr_func65 ref12_Check_ann (rI .i64) (args := [l.val]) (by kernel_rfl) h

/- (*changeover/link.Links).Letters$1 -/
def link_Links_Letters_1 (v : Int) (x : ApiMsg) (c_x0 : Addr) (c_x1 : Addr) (K : Unit → World → Prop) (w : World) : Prop :=
  newV (fun b1 w2 =>
  callV Pr (tval2 Sl.val (Value.int .i64)) 17 #[(.int .i64 v), (.agg ⟨[(.int .i64 x.Kind), (.int .i64 x.From), (.int .i64 x.To), (.int .i64 x.Ballot.Round), (.int .i64 x.Ballot.Node), (.int .i64 x.Index), (.int .i64 x.Commit), (.int .i64 x.Version), x.Entries.val, x.Image.val]⟩)] w2 fun t3 w4 =>
  kp b1 w2 w4 <|
  ifB (t3.2 != 0)
  (opUn Pr (Instr.storeAt 31 (.pointer (some c_x0)) (.int .i64 t3.2)) (fun w5 =>
  kp b1 w4 w5 <|
  K () w5) w4)
  (opRd Pr (Instr.loadAt 65 (.pointer (some c_x1))) Sl.val (fun t6 =>
  opTy Pr (Instr.buildSlice 65 1 #[(0, t3.1.val)]) Sl.val (fun t7 w8 =>
  kp b1 w4 w8 <|
  opTy Pr (Builtin.append_ #[65, 65] 65 #[t6.val, t7.val]) Sl.val (fun t9 w10 =>
  kp b1 w8 w10 <|
  opUn Pr (Instr.storeAt 65 (.pointer (some c_x1)) t9.val) (fun w11 =>
  kp b1 w10 w11 <|
  K () w11) w10) w8) w4) w4)) w
def link_Links_Letters_1_ann : Ann := (.s (.r [(0, .nl 5)]) (.s (.r [(2, .call (rT2 rSl (rI .i64)))]) (.s (.s .d (.c (.s (.r [(1, .un)]) .d) .d)) (.r [(0, .rd rSl), (2, .ty rSl), (3, .ty rSl), (4, .un)]))))
theorem link_Links_Letters_1_calls {v : Int} {x : ApiMsg} {c_x0 : Addr} {c_x1 : Addr} {K : Unit → World → Prop} {w : World} (h : link_Links_Letters_1 v x c_x0 c_x1 K w) : callV Pr uval 66 #[(.int .i64 v), (.agg ⟨x.cs⟩), (.pointer (some c_x0)), (.pointer (some c_x1))] w K :=
  calls_of Pr_plain Pr_mixed Pr_func66 link_Links_Letters_1_ann rU (args := [(.int .i64 v), (.agg ⟨x.cs⟩), (.pointer (some c_x0)), (.pointer (some c_x1))]) (by kernel_rfl) h

/- changeover/changeoverref07.Has -/
def ref07_Has (v : Int) (kind : Int) (K : Bool → World → Prop) (w : World) : Prop :=
  ifB (decide (kind < 1))
  (K false w)
  (ifB (decide (kind > 8))
  (K false w)
  (ifB (v == 2)
  (K true w)
  (ifB (v == 1)
  (K (kind != 5) w)
  (K false w))))
def ref07_Has_ann : Ann := (.s .d (.s (.s .d (.c (.s .d .d) .d)) (.s .d .d)))
theorem ref07_Has_calls {v : Int} {kind : Int} {K : Bool → World → Prop} {w : World} (h : ref07_Has v kind K w) : callV Pr Value.bool 67 #[(.int .i64 v), (.int .i64 kind)] w K :=
  calls_of Pr_plain Pr_mixed Pr_func67 ref07_Has_ann rB (args := [(.int .i64 v), (.int .i64 kind)]) (by kernel_rfl) h

/- (*changeover/pack.Writer).Number -/
def pack_Writer_Number (w_ : Option Addr) (n : Int) (K : Unit → World → Prop) (w : World) : Prop :=
  opRd Pr (binSem .neq 111 (.tmp 4) (.const (.pointer none)) (.pointer w_) (.pointer none)) Value.bool (fun t1 =>
  ifB t1
  (opRd Pr (nilSem (.pointer w_)) pav (fun t2 =>
  opRd Pr (Instr.loadAt 22 (.pointer (some (t2.add 0)))) Sl.val (fun t3 =>
  callV Pr Sl.val 92 #[t3.val, (.int .i64 n)] w fun t4 w5 =>
  opRd Pr (nilSem (.pointer w_)) pav (fun t6 =>
  opUn Pr (Instr.storeAt 22 (.pointer (some (t6.add 0))) t4.val) (fun w7 =>
  K () w7) w5) w5) w) w)
  (K () w)) w
def pack_Writer_Number_ann : Ann := (.s (.r [(1, .rd rB)]) (.c (.r [(2, .rd rPA), (4, .rd rSl), (6, .call rSl), (7, .rd rPA), (9, .un)]) .d))
theorem pack_Writer_Number_calls {w_ : Option Addr} {n : Int} {K : Unit → World → Prop} {w : World} (h : pack_Writer_Number w_ n K w) : callV Pr uval 70 #[(.pointer w_), (.int .i64 n)] w K :=
  calls_of Pr_plain Pr_mixed Pr_func70 pack_Writer_Number_ann rU (args := [(.pointer w_), (.int .i64 n)]) (by kernel_rfl) h

/- (*changeover/pack.Writer).Raw -/
def pack_Writer_Raw (w_ : Option Addr) (b : Sl) (K : Unit → World → Prop) (w : World) : Prop :=
  opRd Pr (binSem .neq 111 (.tmp 4) (.const (.pointer none)) (.pointer w_) (.pointer none)) Value.bool (fun t1 =>
  ifB t1
  (opRd Pr (nilSem (.pointer w_)) pav (fun t2 =>
  opRd Pr (Instr.loadAt 22 (.pointer (some (t2.add 0)))) Sl.val (fun t3 =>
  callV Pr Sl.val 92 #[t3.val, (.int .i64 (b.len : Int))] w fun t4 w5 =>
  opTy Pr (Builtin.append_ #[22, 22] 22 #[t4.val, b.val]) Sl.val (fun t6 w7 =>
  opRd Pr (nilSem (.pointer w_)) pav (fun t8 =>
  opUn Pr (Instr.storeAt 22 (.pointer (some (t8.add 0))) t6.val) (fun w9 =>
  K () w9) w7) w7) w5) w) w)
  (K () w)) w
def pack_Writer_Raw_ann : Ann := (.s (.r [(1, .rd rB)]) (.c (.r [(2, .rd rPA), (4, .rd rSl), (7, .call rSl), (9, .ty rSl), (10, .rd rPA), (12, .un)]) .d))
theorem pack_Writer_Raw_calls {w_ : Option Addr} {b : Sl} {K : Unit → World → Prop} {w : World} (h : pack_Writer_Raw w_ b K w) : callV Pr uval 71 #[(.pointer w_), b.val] w K :=
  calls_of Pr_plain Pr_mixed Pr_func71 pack_Writer_Raw_ann rU (args := [(.pointer w_), b.val]) (by kernel_rfl) h

/- (*changeover/pack.Writer).Bytes -/
def pack_Writer_Bytes (w_ : Option Addr) (K : Sl → World → Prop) (w : World) : Prop :=
  opRd Pr (binSem .eql 111 (.tmp 3) (.const (.pointer none)) (.pointer w_) (.pointer none)) Value.bool (fun t1 =>
  ifB t1
  (K Sl.nil w)
  (opRd Pr (nilSem (.pointer w_)) pav (fun t2 =>
  opRd Pr (Instr.loadAt 22 (.pointer (some (t2.add 0)))) Sl.val (fun t3 =>
  callV Pr Sl.val 73 #[t3.val] w fun t4 w5 =>
  K t4 w5) w) w)) w
def pack_Writer_Bytes_ann : Ann := (.s .d (.s (.s (.r [(1, .rd rB)]) (.c (.s .d .d) .d)) (.s (.r [(1, .rd rPA), (3, .rd rSl), (4, .call rSl)]) .d)))
theorem pack_Writer_Bytes_calls {w_ : Option Addr} {K : Sl → World → Prop} {w : World} (h : pack_Writer_Bytes w_ K w) : callV Pr Sl.val 72 #[(.pointer w_)] w K :=
  calls_of Pr_plain Pr_mixed Pr_func72 pack_Writer_Bytes_ann rSl (args := [(.pointer w_)]) (by kernel_rfl) h

/- slices.Clone[[]byte,byte] -/
def slices_Clone_byte_byte (s : Sl) (K : Sl → World → Prop) (w : World) : Prop :=
  opRd Pr (binSem .eql 22 (.tmp 3) (.const Sl.nil.val) s.val Sl.nil.val) Value.bool (fun t1 =>
  ifB t1
  (K Sl.nil w)
  (opTy Pr (Instr.buildSlice 22 0 #[]) Sl.val (fun t2 w3 =>
  opTy Pr (Builtin.append_ #[22, 22] 22 #[t2.val, s.val]) Sl.val (fun t4 w5 =>
  K t4 w5) w3) w)) w
def slices_Clone_byte_byte_ann : Ann := (.s .d (.s (.s (.r [(1, .rd rB)]) (.c (.s .d .d) .d)) (.s (.r [(0, .ty rSl), (2, .ty rSl)]) .d)))
theorem slices_Clone_byte_byte_calls {s : Sl} {K : Sl → World → Prop} {w : World} (h : slices_Clone_byte_byte s K w) : callV Pr Sl.val 73 #[s.val] w K :=
  calls_of Pr_plain Pr_mixed Pr_func73 slices_Clone_byte_byte_ann rSl (args := [s.val]) (by kernel_rfl) h

/- (*changeover/pack.Reader).Number$1 -/
def pack_Reader_Number_1 (c_x0 : Addr) (c_x1 : Addr) (K : Int → World → Prop) (w : World) : Prop :=
  opRd Pr (Instr.loadAt 78 (.pointer (some c_x0))) Value.pointer (fun t1 =>
  opRd Pr (Instr.loadAt 3 (.pointer (some c_x1))) (Value.int .i64) (fun t2 =>
  callV Pr (Value.int .i64) 76 #[(.pointer t1), (.int .i64 t2)] w fun t3 w4 =>
  K t3 w4) w) w
def pack_Reader_Number_1_ann : Ann := (.s .d (.s (.r [(0, .rd rP), (1, .rd (rI .i64)), (2, .call (rI .i64))]) .d))
theorem pack_Reader_Number_1_calls {c_x0 : Addr} {c_x1 : Addr} {K : Int → World → Prop} {w : World} (h : pack_Reader_Number_1 c_x0 c_x1 K w) : callV Pr (Value.int .i64) 75 #[(.pointer (some c_x0)), (.pointer (some c_x1))] w K :=
  calls_of Pr_plain Pr_mixed Pr_func75 pack_Reader_Number_1_ann (rI .i64) (args := [(.pointer (some c_x0)), (.pointer (some c_x1))]) (by kernel_rfl) h

/- (*changeover/pack.Reader).limited -/
def pack_Reader_limited (r : Option Addr) (most : Int) (K : Int → World → Prop) (w : World) : Prop :=
  heldM (fun S2 w1 =>
  opH Pr S2 (nilSem (.pointer r)) pav (fun t3 =>
  opH Pr S2 (Instr.loadAt 22 (.pointer (some (t3.add 0)))) Sl.val (fun t4 =>
  opH Pr S2 (nilSem (.pointer r)) pav (fun t5 =>
  opH Pr S2 (Instr.loadAt 3 (.pointer (some (t5.add 1)))) (Value.int .i64) (fun t6 =>
  callV Pr (tval3 (Value.int .i64) (Value.int .i64) (Value.int .i64)) 94 #[t4.val, (.int .i64 t6)] w1 fun t7 w8 =>
  (S2 w8) ∧
  (ifB (t7.2.2 != 0)
  (callV Pr uval 115 #[(.pointer r), (.int .i64 t7.2.2)] w8 fun t9 w10 =>
  opRd Pr (nilSem (.pointer r)) pav (fun t11 =>
  opUn Pr (Instr.storeAt 3 (.pointer (some (t11.add 1))) (.int .i64 t7.2.1)) (fun w12 =>
  K t7.1 w12) w10) w10)
  (ifB (decide (t7.1 > most))
  (callV Pr uval 115 #[(.pointer r), (.int .i64 2)] w8 fun t13 w14 =>
  opRd Pr (nilSem (.pointer r)) pav (fun t15 =>
  opUn Pr (Instr.storeAt 3 (.pointer (some (t15.add 1))) (.int .i64 t7.2.1)) (fun w16 =>
  K t7.1 w16) w14) w14)
  (opRd Pr (nilSem (.pointer r)) pav (fun t17 =>
  opUn Pr (Instr.storeAt 3 (.pointer (some (t17.add 1))) (.int .i64 t7.2.1)) (fun w18 =>
  K t7.1 w18) w8) w8)))))))) w
def pack_Reader_limited_ann : Ann := (.s .d (.s (.h (.take 0 (.take 1 (.take 2 (.take 3 (.take 4 (.take 5 (.take 6 (.take 7 (.one 8 (.take 9 (.take 10 (.take 11 (.take 12 (.take 13 (.take 14 (.take 15 .done)))))))))))))))) [(1, .rd rPA), (3, .rd rSl), (5, .rd rPA), (7, .rd (rI .i64)), (8, .call (rT3 (rI .i64) (rI .i64) (rI .i64)))]) (.s (.b (.s .d (.c (.r [(2, .call rU)]) (.s .d (.c (.r [(1, .call rU)]) .d))))) (.s (.r [(2, .rd rPA), (4, .un)]) (.s .d .d)))))
theorem pack_Reader_limited_calls {r : Option Addr} {most : Int} {K : Int → World → Prop} {w : World} (h : pack_Reader_limited r most K w) : callV Pr (Value.int .i64) 76 #[(.pointer r), (.int .i64 most)] w K :=
  calls_of Pr_plain Pr_mixed Pr_func76 pack_Reader_limited_ann (rI .i64) (args := [(.pointer r), (.int .i64 most)]) (by kernel_rfl) h

/- (*changeover/pack.Reader).Raw -/
def pack_Reader_Raw (r : Option Addr) (most : Int) (K : Sl → World → Prop) (w : World) : Prop :=
  opTy Pr (Instr.box 78 (.pointer r)) pav (fun r1 w2 =>
  opTy Pr (Instr.box 3 (.int .i64 most)) pav (fun most3 w4 =>
  opRd Pr (Instr.loadAt 78 (.pointer (some r1))) Value.pointer (fun t5 =>
  callV Pr Sl.val 117 #[(.pointer t5), (.func (.func 118) #[] #[(.pointer (some r1)), (.pointer (some most3))])] w4 fun t6 w7 =>
  K t6 w7) w4) w2) w
def pack_Reader_Raw_ann : Ann := (.s (.r [(0, .ty rPA), (1, .ty rPA)]) (.s (.r [(0, .rd rP), (2, .call rSl)]) .d))
theorem pack_Reader_Raw_calls {r : Option Addr} {most : Int} {K : Sl → World → Prop} {w : World} (h : pack_Reader_Raw r most K w) : callV Pr Sl.val 78 #[(.pointer r), (.int .i64 most)] w K :=
  calls_of Pr_plain Pr_mixed Pr_func78 pack_Reader_Raw_ann rSl (args := [(.pointer r), (.int .i64 most)]) (by kernel_rfl) h

/- (*changeover/pack.Reader).Done -/
def pack_Reader_Done (r : Option Addr) (K : Int → World → Prop) (w : World) : Prop :=
  callV Pr (Value.int .i64) 38 #[(.pointer r)] w fun e1 w2 =>
  ifB (e1 != 0)
  (K e1 w2)
  (callV Pr (Value.int .i64) 120 #[(.pointer r)] w2 fun t3 w4 =>
  ifB (decide (t3 > 0))
  (K 3 w4)
  (K 0 w4))
def pack_Reader_Done_ann : Ann := (.s .d (.s (.s (.r [(1, .call (rI .i64))]) (.s .d (.c (.s .d .d) .d))) (.s (.s (.r [(1, .call (rI .i64))]) (.c (.s .d .d) .d)) (.s .d .d))))
theorem pack_Reader_Done_calls {r : Option Addr} {K : Int → World → Prop} {w : World} (h : pack_Reader_Done r K w) : callV Pr (Value.int .i64) 79 #[(.pointer r)] w K :=
  calls_of Pr_plain Pr_mixed Pr_func79 pack_Reader_Done_ann (rI .i64) (args := [(.pointer r)]) (by kernel_rfl) h

/- changeover/changeoverref04.Text -/
def ref04_Text (s : List UInt8) (K : Sl → World → Prop) (w : World) : Prop :=
  callV Pr Sl.val 43 #[(.int .i64 ((s : List UInt8).length : Int))] w fun t1 w2 =>
  opTy Pr (Builtin.append_ #[22, 9] 22 #[t1.val, (sval s)]) Sl.val (fun t3 w4 =>
  K t3 w4) w2
def ref04_Text_ann : Ann := (.s .d (.s (.r [(2, .call rSl), (4, .ty rSl)]) .d))
theorem ref04_Text_calls {s : List UInt8} {K : Sl → World → Prop} {w : World} (h : ref04_Text s K w) : callV Pr Sl.val 86 #[(sval s)] w K :=
  calls_of Pr_plain Pr_mixed Pr_func86 ref04_Text_ann rSl (args := [(sval s)]) (by kernel_rfl) h

/- changeover/msgone.Encode -/
def msgone_Encode (m : ApiMsg) (K : (Sl × Int) → World → Prop) (w : World) : Prop :=
  newV (fun b1 w2 =>
  callV Pr (Value.int .i64) 60 #[(.agg ⟨[(.int .i64 m.Kind), (.int .i64 m.From), (.int .i64 m.To), (.int .i64 m.Ballot.Round), (.int .i64 m.Ballot.Node), (.int .i64 m.Index), (.int .i64 m.Commit), (.int .i64 m.Version), m.Entries.val, m.Image.val]⟩)] w2 fun e3 w4 =>
  kp b1 w2 w4 <|
  ifB (e3 != 0)
  (K (Sl.nil, e3) w4)
  (callV Pr Value.bool 127 #[(.agg ⟨[(.int .i64 m.Kind), (.int .i64 m.From), (.int .i64 m.To), (.int .i64 m.Ballot.Round), (.int .i64 m.Ballot.Node), (.int .i64 m.Index), (.int .i64 m.Commit), (.int .i64 m.Version), m.Entries.val, m.Image.val]⟩)] w4 fun t5 w6 =>
  kp b1 w4 w6 <|
  ifB (!t5)
  (K (Sl.nil, 8) w6)
  (opTy Pr (Instr.box 113 (.agg ⟨[Sl.nil.val]⟩)) pav (fun w7 w8 =>
  kp b1 w6 w8 <|
  loop1 (0 : Int) (fun t9 k10 w11 =>
  ifB (decide (t9 < 7))
  (opRd Pr (Instr.index 159 (.agg ⟨[(.int .i64 m.Kind), (.int .i64 m.From), (.int .i64 m.To), (.int .i64 m.Ballot.Round), (.int .i64 m.Ballot.Node), (.int .i64 m.Index), (.int .i64 m.Commit)]⟩) (.int .i64 t9)) (Value.int .i64) (fun n12 =>
  callV Pr uval 70 #[(.pointer (some w7)), (.int .i64 n12)] w11 fun t13 w14 =>
  kp b1 w11 w14 <|
  k10 (i64 (t9 + 1)) w14) w11)
  (callV Pr uval 128 #[(.pointer (some w7)), (.int .i64 1), m.Entries.val] w11 fun t15 w16 =>
  kp b1 w11 w16 <|
  callV Pr uval 71 #[(.pointer (some w7)), m.Image.val] w16 fun t17 w18 =>
  kp b1 w16 w18 <|
  callV Pr Sl.val 72 #[(.pointer (some w7))] w18 fun t19 w20 =>
  kp b1 w18 w20 <|
  K (t19, 0) w20)) w8) w6))) w
def msgone_Encode_ann : Ann := (.s (.r [(0, .nl 1)]) (.s (.s (.r [(1, .call (rI .i64))]) (.s .d (.c (.s .d .d) .d))) (.s (.s (.r [(1, .call rB)]) (.c (.s .d .d) .d)) (.s (.r [(1, .ty rPA)]) (.s (.s .d (.b (.l [(.s 35, (rI .i64))] (.s .d (.s (.c .d .d) (.s (.b (.s (.r [(0, .rd (rI .i64))]) (.r [(2, .call rU)]))) .d)))))) (.s (.r [(3, .call rU)]) (.s (.r [(3, .call rU)]) (.s (.r [(1, .call rSl)]) .d))))))))
theorem msgone_Encode_calls {m : ApiMsg} {K : (Sl × Int) → World → Prop} {w : World} (h : msgone_Encode m K w) : callV Pr (tval2 Sl.val (Value.int .i64)) 88 #[(.agg ⟨m.cs⟩)] w K :=
  calls_of Pr_plain Pr_mixed Pr_func88 msgone_Encode_ann (rT2 rSl (rI .i64)) (args := [(.agg ⟨m.cs⟩)]) (by kernel_rfl) h

/- changeover/msgtwo.Encode -/
def msgtwo_Encode (m : ApiMsg) (K : (Sl × Int) → World → Prop) (w : World) : Prop :=
  opTy Pr (Instr.box 44 (.agg ⟨m.cs⟩)) pav (fun m1 w2 =>
  opRd Pr (Instr.loadAt 44 (.pointer (some m1))) ApiMsg.val (fun t3 =>
  callV Pr (Value.int .i64) 60 #[(.agg ⟨t3.cs⟩)] w2 fun e4 w5 =>
  ifB (e4 != 0)
  (K (Sl.nil, e4) w5)
  (opTy Pr (Instr.box 113 (.agg ⟨[Sl.nil.val]⟩)) pav (fun w6 w7 =>
  opRd Pr (Instr.loadAt 3 (.pointer (some (m1.add 0)))) (Value.int .i64) (fun t8 =>
  callV Pr uval 70 #[(.pointer (some w6)), (.int .i64 t8)] w7 fun t9 w10 =>
  opRd Pr (Instr.loadAt 3 (.pointer (some (m1.add 1)))) (Value.int .i64) (fun t11 =>
  callV Pr uval 70 #[(.pointer (some w6)), (.int .i64 t11)] w10 fun t12 w13 =>
  opRd Pr (Instr.loadAt 3 (.pointer (some (m1.add 2)))) (Value.int .i64) (fun t14 =>
  callV Pr uval 70 #[(.pointer (some w6)), (.int .i64 t14)] w13 fun t15 w16 =>
  callV Pr (tval2 Sl.val Value.bool) 129 #[(.pointer (some m1))] w16 fun t17 w18 =>
  loop1 (0 : Int) (fun t19 k20 w21 =>
  ifB (decide (t19 < (t17.1.len : Int)))
  (opRd Pr (Instr.indexAt 161 t17.1.val (.int .i64 t19)) pav (fun t22 =>
  opRd Pr (Instr.loadAt 20 (.pointer (some t22))) vval (fun x23 =>
  callV Pr uval 130 #[(.pointer (some w6)), x23] w21 fun t24 w25 =>
  k20 (i64 (t19 + 1)) w25) w21) w21)
  (callV Pr Sl.val 72 #[(.pointer (some w6))] w21 fun t26 w27 =>
  K (t26, 0) w27)) w18) w13) w10) w7) w5)) w2) w
def msgtwo_Encode_ann : Ann := (.s (.r [(0, .ty rPA)]) (.s (.s (.r [(0, .rd rApiMsg), (1, .call (rI .i64))]) (.s .d (.c (.s .d .d) .d))) (.s (.r [(1, .ty rPA)]) (.s (.r [(2, .rd (rI .i64)), (3, .call rU)]) (.s (.r [(2, .rd (rI .i64)), (3, .call rU)]) (.s (.r [(2, .rd (rI .i64)), (3, .call rU)]) (.s (.r [(0, .call (rT2 rSl rB))]) (.s (.s .d (.b (.l [(.s 35, (rI .i64))] (.s .d (.s (.c .d .d) (.s (.b (.s (.r [(0, .rd rPA), (1, .rd rV)]) (.r [(2, .call rU)]))) .d)))))) (.s (.r [(1, .call rSl)]) .d)))))))))
theorem msgtwo_Encode_calls {m : ApiMsg} {K : (Sl × Int) → World → Prop} {w : World} (h : msgtwo_Encode m K w) : callV Pr (tval2 Sl.val (Value.int .i64)) 89 #[(.agg ⟨m.cs⟩)] w K :=
  calls_of Pr_plain Pr_mixed Pr_func89 msgtwo_Encode_ann (rT2 rSl (rI .i64)) (args := [(.agg ⟨m.cs⟩)]) (by kernel_rfl) h

/- changeover/frame.may -/
def frame_may (n : Int) (K : Int → World → Prop) (w : World) : Prop :=
  ifB (decide (n ≤ 0))
  (K 3 w)
  (ifB (decide (n > 65536))
  (K 2 w)
  (K 0 w))
def frame_may_ann : Ann := (.s .d (.s (.b (.s .d (.c (.s .d .d) (.s .d (.c (.s .d .d) .d))))) (.s .d .d)))
theorem frame_may_calls {n : Int} {K : Int → World → Prop} {w : World} (h : frame_may n K w) : callV Pr (Value.int .i64) 90 #[(.int .i64 n)] w K :=
  calls_of Pr_plain Pr_mixed Pr_func90 frame_may_ann (rI .i64) (args := [(.int .i64 n)]) (by kernel_rfl) h

/- slices.Concat[[]byte,byte] -/
def slices_Concat_byte_byte (slices : Sl) (K : Sl → World → Prop) (w : World) : Prop :=
  loop2 (0 : Int) (0 : Int) (fun size1 t2 k3 w4 =>
  ifB (decide (t2 < (slices.len : Int)))
  (opRd Pr (Instr.indexAt 65 slices.val (.int .i64 t2)) pav (fun t5 =>
  opRd Pr (Instr.loadAt 22 (.pointer (some t5))) Sl.val (fun s6 =>
  ifB (decide ((i64 (size1 + (s6.len : Int))) < 0))
  (False)
  (k3 (i64 (size1 + (s6.len : Int))) (i64 (t2 + 1)) w4)) w4) w4)
  (callV Pr Sl.val 131 #[Sl.nil.val, (.int .i64 size1)] w4 fun newslice7 w8 =>
  loop2 (newslice7 : Sl) (0 : Int) (fun newslice9 t10 k11 w12 =>
  ifB (decide (t10 < (slices.len : Int)))
  (opRd Pr (Instr.indexAt 65 slices.val (.int .i64 t10)) pav (fun t13 =>
  opRd Pr (Instr.loadAt 22 (.pointer (some t13))) Sl.val (fun s14 =>
  opTy Pr (Builtin.append_ #[22, 22] 22 #[newslice9.val, s14.val]) Sl.val (fun newslice15 w16 =>
  k11 newslice15 (i64 (t10 + 1)) w16) w12) w12) w12)
  (K newslice9 w12)) w8)) w
def slices_Concat_byte_byte_ann : Ann := (.s .d (.s .d (.s (.s .d (.b (.l [(.s 3, (rI .i64)), (.s 11, (rI .i64))] (.s .d (.s (.c .d .d) (.s (.b (.s (.r [(0, .rd rPA), (1, .rd rSl)]) (.s .d (.s .d (.c .d .d))))) .d)))))) (.s (.r [(1, .call rSl)]) (.s (.s .d (.b (.l [(.s 6, rSl), (.s 27, (rI .i64))] (.s .d (.s (.c .d .d) (.s (.b (.s (.r [(0, .rd rPA), (1, .rd rSl)]) (.r [(2, .ty rSl)]))) .d)))))) (.s .d .d))))))
theorem slices_Concat_byte_byte_calls {slices : Sl} {K : Sl → World → Prop} {w : World} (h : slices_Concat_byte_byte slices K w) : callV Pr Sl.val 91 #[slices.val] w K :=
  calls_of Pr_plain Pr_mixed Pr_func91 slices_Concat_byte_byte_ann rSl (args := [slices.val]) (by kernel_rfl) h

/- changeover/varint.Put -/
def varint_Put (b : Sl) (n : Int) (K : Sl → World → Prop) (w : World) : Prop :=
  callV Pr Sl.val 73 #[b.val] w fun out1 w2 =>
  loop2 ((imax n 0) : Int) (out1 : Sl) (fun n3 out4 k5 w6 =>
  ifB (decide (n3 ≥ 128))
  (opTy Pr (Instr.buildSlice 22 1 #[(0, (.int .u8 (bOr .u8 (IntKind.u8.wrap n3) 128)))]) Sl.val (fun t7 w8 =>
  opTy Pr (Builtin.append_ #[22, 22] 22 #[out4.val, t7.val]) Sl.val (fun out9 w10 =>
  k5 (shR .i64 n3 7) out9 w10) w8) w6)
  (opTy Pr (Instr.buildSlice 22 1 #[(0, (.int .u8 (IntKind.u8.wrap n3)))]) Sl.val (fun t11 w12 =>
  opTy Pr (Builtin.append_ #[22, 22] 22 #[out4.val, t11.val]) Sl.val (fun t13 w14 =>
  K t13 w14) w12) w6)) w2
def varint_Put_ann : Ann := (.s .d (.s (.r [(1, .call rSl)]) (.s (.s .d (.b (.l [(.s 1, (rI .i64)), (.s 5, rSl)] (.s (.s .d (.c .d .d)) (.s (.b (.r [(4, .ty rSl), (5, .ty rSl)])) .d))))) (.s (.r [(3, .ty rSl), (4, .ty rSl)]) .d))))
theorem varint_Put_calls {b : Sl} {n : Int} {K : Sl → World → Prop} {w : World} (h : varint_Put b n K w) : callV Pr Sl.val 92 #[b.val, (.int .i64 n)] w K :=
  calls_of Pr_plain Pr_mixed Pr_func92 varint_Put_ann rSl (args := [b.val, (.int .i64 n)]) (by kernel_rfl) h

/- changeover/frame.sum -/
def frame_sum (b : Sl) (K : Sl → World → Prop) (w : World) : Prop :=
  callV Pr (Value.int .u32) 132 #[b.val] w fun s1 w2 =>
  opTy Pr (Instr.buildSlice 22 4 #[(0, (.int .u8 (IntKind.u8.wrap s1))), (1, (.int .u8 (IntKind.u8.wrap (shR .u32 s1 8)))), (2, (.int .u8 (IntKind.u8.wrap (shR .u32 s1 16)))), (3, (.int .u8 (IntKind.u8.wrap (shR .u32 s1 24))))]) Sl.val (fun t3 w4 =>
  K t3 w4) w2
def frame_sum_ann : Ann := (.s .d (.s (.r [(1, .call (rI .u32))]) (.s (.r [(11, .ty rSl)]) .d)))
theorem frame_sum_calls {b : Sl} {K : Sl → World → Prop} {w : World} (h : frame_sum b K w) : callV Pr Sl.val 93 #[b.val] w K :=
  calls_of Pr_plain Pr_mixed Pr_func93 frame_sum_ann rSl (args := [b.val]) (by kernel_rfl) h

/- changeover/varint.Get -/
def varint_Get (b : Sl) (at_ : Int) (K : (Int × Int × Int) → World → Prop) (w : World) : Prop :=
  ifB (decide (at_ < 0))
  (K (0, 0, 6) w)
  (ifB (decide (at_ > (b.len : Int)))
  (K (0, 0, 6) w)
  (join2 (fun (j1 : Int → Int → World → Prop) =>
  loop2 (0 : Int) (at_ : Int) (fun n2 i3 k4 w5 =>
  ifB (decide (i3 < (b.len : Int)))
  (opRd Pr (Instr.indexAt 22 b.val (.int .i64 i3)) pav (fun t6 =>
  opRd Pr (Instr.loadAt 5 (.pointer (some t6))) (Value.int .u8) (fun c7 =>
  join0 (fun (j8 : World → Prop) =>
  ifB (c7 == 0)
  (ifB (decide (i3 > at_))
  (ifB (decide (i3 > at_))
  (K (0, 0, 3) w5)
  (j8 w5))
  (ifB (decide ((i64 (7 * (i64 (i3 - at_)))) > 56))
  (ifB (decide ((i64 (7 * (i64 (i3 - at_)))) > 56))
  (K (0, 0, 3) w5)
  (j8 w5))
  (ifB (decide (n2 > 9223372036854775807))
  (K (0, 0, 3) w5)
  (j8 w5))))
  (ifB (decide ((i64 (7 * (i64 (i3 - at_)))) > 56))
  (ifB (decide ((i64 (7 * (i64 (i3 - at_)))) > 56))
  (K (0, 0, 3) w5)
  (j8 w5))
  (ifB (decide (n2 > 9223372036854775807))
  (K (0, 0, 3) w5)
  (j8 w5))))
  (fun w9 =>
  opRd Pr (binSem .shl 167 (.tmp 49) (.tmp 50) (.int .u64 (IntKind.u64.wrap (bAnd .u8 c7 127))) (.int .i64 (i64 (7 * (i64 (i3 - at_)))))) (Value.int .u64) (fun t10 =>
  ifB (decide (c7 < 128))
  (j1 (bOr .u64 n2 t10) i3 w9)
  (k4 (bOr .u64 n2 t10) (i64 (i3 + 1)) w9)) w9)) w5) w5)
  (j1 n2 i3 w5)) w)
  (fun n11 i12 w13 =>
  ifB (i12 == (b.len : Int))
  (K (0, 0, 1) w13)
  (K ((IntKind.i64.wrap n11), (i64 (i12 + 1)), 0) w13))))
def varint_Get_ann : Ann := (.s .d (.b (.s (.s .d (.c (.s .d .d) .d)) (.s .d (.s .d (.s .d (.sj [(.s 7, (rI .u64)), (.s 8, (rI .i64))] (.b (.l [(.s 7, (rI .u64)), (.s 8, (rI .i64))] (.s (.s .d (.c .d .d)) (.s (.b (.s (.r [(2, .rd rPA), (3, .rd (rI .u8))]) (.sj [] (.b (.s (.s .d (.c .d (.s .d (.c .d .d)))) (.c (.s .d .d) .d))) (.s (.r [(5, .rd (rI .u64))]) (.s .d (.c .d .d)))))) .d)))) (.s (.s .d (.c (.s .d .d) .d)) (.s .d .d)))))))))
theorem varint_Get_calls {b : Sl} {at_ : Int} {K : (Int × Int × Int) → World → Prop} {w : World} (h : varint_Get b at_ K w) : callV Pr (tval3 (Value.int .i64) (Value.int .i64) (Value.int .i64)) 94 #[b.val, (.int .i64 at_)] w K :=
  calls_of Pr_plain Pr_mixed Pr_func94 varint_Get_ann (rT3 (rI .i64) (rI .i64) (rI .i64)) (args := [b.val, (.int .i64 at_)]) (by kernel_rfl) h

/- slices.Equal[[]byte,byte] -/
def slices_Equal_byte_byte (s1 : Sl) (s2 : Sl) (K : Bool → World → Prop) (w : World) : Prop :=
  ifB ((s1.len : Int) != (s2.len : Int))
  (K false w)
  (loop1 (0 : Int) (fun t1 k2 w3 =>
  ifB (decide (t1 < (s1.len : Int)))
  (drewM (fun w4 =>
  opRd Pr (Instr.indexAt 22 s1.val (.int .i64 t1)) pav (fun t5 =>
  opRd Pr (Instr.loadAt 5 (.pointer (some t5))) (Value.int .u8) (fun t6 =>
  opRd Pr (Instr.indexAt 22 s2.val (.int .i64 t1)) pav (fun t7 =>
  opRd Pr (Instr.loadAt 5 (.pointer (some t7))) (Value.int .u8) (fun t8 =>
  ifB (t6 != t8)
  (K false w4)
  (k2 (i64 (t1 + 1)) w4)) w4) w4) w4) w4) w3)
  (K true w3)) w)
def slices_Equal_byte_byte_ann : Ann := (.s .d (.s (.s .d (.c (.s .d .d) .d)) (.s (.s .d (.b (.l [(.s 13, (rI .i64))] (.s .d (.s (.c .d .d) (.s (.b (.s .d (.s (.r [(2, .rd rPA), (3, .rd (rI .u8)), (6, .rd rPA), (7, .rd (rI .u8))]) (.c (.s .d .d) .d)))) .d)))))) (.s .d .d))))
theorem slices_Equal_byte_byte_calls {s1 : Sl} {s2 : Sl} {K : Bool → World → Prop} {w : World} (h : slices_Equal_byte_byte s1 s2 K w) : callV Pr Value.bool 95 #[s1.val, s2.val] w K :=
  calls_of Pr_plain Pr_mixed Pr_func95 slices_Equal_byte_byte_ann rB (args := [s1.val, s2.val]) (by kernel_rfl) h

/- changeover/msgone.Decode -/
def msgone_Decode (b : Sl) (K : (ApiMsg × Int) → World → Prop) (w : World) : Prop :=
  newV (fun b1 w2 =>
  callV Pr Value.pointer 36 #[b.val] w2 fun r3 w4 =>
  kp b1 w2 w4 <|
  callV Pr ApiMsg.val 133 #[(.pointer r3)] w4 fun t5 w6 =>
  kp b1 w4 w6 <|
  newV (fun b7 w8 =>
  wrM b7 (fun w9 =>
  callV Pr (Value.int .i64) 79 #[(.pointer r3)] w9 fun e10 w11 =>
  kp b7 w9 w11 <|
  kp b1 w9 w11 <|
  join1 (fun (j12 : Int → World → Prop) =>
  ifB (e10 == 0)
  (callV Pr (Value.int .i64) 60 #[(.agg ⟨[(.int .i64 t5.Kind), (.int .i64 t5.From), (.int .i64 t5.To), (.int .i64 t5.Ballot.Round), (.int .i64 t5.Ballot.Node), (.int .i64 t5.Index), (.int .i64 t5.Commit), (.int .i64 t5.Version), t5.Entries.val, t5.Image.val]⟩)] w11 fun e13 w14 =>
  kp b7 w11 w14 <|
  kp b1 w11 w14 <|
  j12 e13 w14)
  (j12 e10 w11))
  (fun e15 w16 =>
  join1 (fun (j17 : Int → World → Prop) =>
  ifB (e15 == 0)
  (callV Pr Value.bool 127 #[(.agg ⟨[(.int .i64 t5.Kind), (.int .i64 t5.From), (.int .i64 t5.To), (.int .i64 t5.Ballot.Round), (.int .i64 t5.Ballot.Node), (.int .i64 t5.Index), (.int .i64 t5.Commit), (.int .i64 t5.Version), t5.Entries.val, t5.Image.val]⟩)] w16 fun t18 w19 =>
  kp b7 w16 w19 <|
  kp b1 w16 w19 <|
  ifB (!t18)
  (j17 8 w19)
  (j17 e15 w19))
  (j17 e15 w16))
  (fun e20 w21 =>
  ifB (e20 != 0)
  (wrM b1 (fun w22 =>
  K ((ApiMsg.mk 0 0 0 (ApiBallot.mk 0 0) 0 0 0 Sl.nil Sl.nil), e20) w22) w21)
  (wrM b1 (fun w23 =>
  K (t5, 0) w23) w21)))) w8) w6) w
def msgone_Decode_ann : Ann := (.s (.r [(0, .nl 2)]) (.s (.r [(1, .call rP)]) (.s (.r [(1, .call rApiMsg), (2, .nl 5), (3, .ls 5)]) (.s (.r [(1, .call (rI .i64))]) (.sj [(.s 6, (rI .i64))] (.s .d (.c (.r [(1, .call (rI .i64))]) .d)) (.sj [(.s 6, (rI .i64))] (.s (.r [(4, .call rB)]) (.c .d .d)) (.s (.s .d (.c (.s (.r [(2, .ls 2)]) .d) .d)) (.s (.r [(1, .ls 2)]) .d))))))))
theorem msgone_Decode_calls {b : Sl} {K : (ApiMsg × Int) → World → Prop} {w : World} (h : msgone_Decode b K w) : callV Pr (tval2 ApiMsg.val (Value.int .i64)) 96 #[b.val] w K :=
  calls_of Pr_plain Pr_mixed Pr_func96 msgone_Decode_ann (rT2 rApiMsg (rI .i64)) (args := [b.val]) (by kernel_rfl) h

/- changeover/msgtwo.Decode -/
def msgtwo_Decode (b : Sl) (K : (ApiMsg × Int) → World → Prop) (w : World) : Prop :=
  newV (fun b1 w2 =>
  callV Pr Value.pointer 36 #[b.val] w2 fun r3 w4 =>
  kp b1 w2 w4 <|
  callV Pr (tval2 ApiMsg.val Value.bool) 134 #[(.pointer r3)] w4 fun t5 w6 =>
  kp b1 w4 w6 <|
  newV (fun b7 w8 =>
  wrM b7 (fun w9 =>
  callV Pr (Value.int .i64) 38 #[(.pointer r3)] w9 fun e10 w11 =>
  kp b7 w9 w11 <|
  kp b1 w9 w11 <|
  join1 (fun (j12 : Int → World → Prop) =>
  ifB (e10 == 0)
  (ifB (!t5.2)
  (j12 3 w11)
  (j12 e10 w11))
  (j12 e10 w11))
  (fun e13 w14 =>
  join1 (fun (j15 : Int → World → Prop) =>
  ifB (e13 == 0)
  (callV Pr (Value.int .i64) 79 #[(.pointer r3)] w14 fun e16 w17 =>
  kp b7 w14 w17 <|
  kp b1 w14 w17 <|
  j15 e16 w17)
  (j15 e13 w14))
  (fun e18 w19 =>
  join1 (fun (j20 : Int → World → Prop) =>
  ifB (e18 == 0)
  (callV Pr (Value.int .i64) 60 #[(.agg ⟨[(.int .i64 t5.1.Kind), (.int .i64 t5.1.From), (.int .i64 t5.1.To), (.int .i64 t5.1.Ballot.Round), (.int .i64 t5.1.Ballot.Node), (.int .i64 t5.1.Index), (.int .i64 t5.1.Commit), (.int .i64 t5.1.Version), t5.1.Entries.val, t5.1.Image.val]⟩)] w19 fun e21 w22 =>
  kp b7 w19 w22 <|
  kp b1 w19 w22 <|
  j20 e21 w22)
  (j20 e18 w19))
  (fun e23 w24 =>
  ifB (e23 != 0)
  (wrM b1 (fun w25 =>
  K ((ApiMsg.mk 0 0 0 (ApiBallot.mk 0 0) 0 0 0 Sl.nil Sl.nil), e23) w25) w24)
  (wrM b1 (fun w26 =>
  K ((ApiMsg.mk t5.1.Kind t5.1.From t5.1.To (ApiBallot.mk t5.1.Ballot.Round t5.1.Ballot.Node) t5.1.Index t5.1.Commit t5.1.Version t5.1.Entries t5.1.Image), 0) w26) w24))))) w8) w6) w
def msgtwo_Decode_ann : Ann := (.s (.r [(0, .nl 2)]) (.s (.r [(1, .call rP)]) (.s (.r [(1, .call (rT2 rApiMsg rB)), (5, .nl 5), (6, .ls 5)]) (.s (.r [(1, .call (rI .i64))]) (.sj [(.s 7, (rI .i64))] (.s .d (.c .d .d)) (.sj [(.s 7, (rI .i64))] (.s .d (.c (.r [(1, .call (rI .i64))]) .d)) (.sj [(.s 7, (rI .i64))] (.s .d (.c (.r [(1, .call (rI .i64))]) .d)) (.s (.s .d (.c (.s (.r [(2, .ls 2)]) .d) .d)) (.s (.r [(1, .ls 2)]) .d)))))))))
theorem msgtwo_Decode_calls {b : Sl} {K : (ApiMsg × Int) → World → Prop} {w : World} (h : msgtwo_Decode b K w) : callV Pr (tval2 ApiMsg.val (Value.int .i64)) 97 #[b.val] w K :=
  calls_of Pr_plain Pr_mixed Pr_func97 msgtwo_Decode_ann (rT2 rApiMsg (rI .i64)) (args := [b.val]) (by kernel_rfl) h

/- changeover/changeoverref12.Bytes -/
def ref12_Bytes (v : Int) (l : Sl) (K : Sl → World → Prop) (w : World) : Prop :=
  callV Pr Sl.val 43 #[(.int .i64 (l.len : Int))] w fun out1 w2 =>
  loop2 (out1 : Sl) (0 : Int) (fun out3 i4 k5 w6 =>
  ifB (decide (i4 < (l.len : Int)))
  (opRd Pr (Instr.indexAt 42 l.val (.int .i64 i4)) pav (fun t7 =>
  opRd Pr (Instr.loadAt 3 (.pointer (some (t7.add 0)))) (Value.int .i64) (fun t8 =>
  callV Pr Sl.val 43 #[(.int .i64 t8)] w6 fun t9 w10 =>
  opTy Pr (Builtin.append_ #[22, 22] 22 #[out3.val, t9.val]) Sl.val (fun out11 w12 =>
  opRd Pr (Instr.indexAt 42 l.val (.int .i64 i4)) pav (fun t13 =>
  opRd Pr (Instr.loadAt 3 (.pointer (some ((t13.add 1).add 0)))) (Value.int .i64) (fun t14 =>
  callV Pr Sl.val 43 #[(.int .i64 t14)] w12 fun t15 w16 =>
  opTy Pr (Builtin.append_ #[22, 22] 22 #[out11.val, t15.val]) Sl.val (fun out17 w18 =>
  opRd Pr (Instr.indexAt 42 l.val (.int .i64 i4)) pav (fun t19 =>
  opRd Pr (Instr.loadAt 3 (.pointer (some ((t19.add 1).add 1)))) (Value.int .i64) (fun t20 =>
  callV Pr Sl.val 43 #[(.int .i64 t20)] w18 fun t21 w22 =>
  opTy Pr (Builtin.append_ #[22, 22] 22 #[out17.val, t21.val]) Sl.val (fun out23 w24 =>
  opRd Pr (Instr.indexAt 42 l.val (.int .i64 i4)) pav (fun t25 =>
  opRd Pr (Instr.loadAt 104 (.pointer (some (t25.add 3)))) ApiCmd.val (fun t26 =>
  callV Pr Sl.val 100 #[(.int .i64 v), (.agg ⟨t26.cs⟩)] w24 fun t27 w28 =>
  opTy Pr (Builtin.append_ #[22, 22] 22 #[out23.val, t27.val]) Sl.val (fun out29 w30 =>
  k5 out29 (i64 (i4 + 1)) w30) w28) w24) w24) w22) w18) w18) w16) w12) w12) w10) w6) w6)
  (K out3 w6)) w2
def ref12_Bytes_ann : Ann := (.s .d (.s (.r [(2, .call rSl)]) (.s (.s .d (.b (.l [(.s 5, rSl), (.s 6, (rI .i64))] (.s (.s .d (.c .d .d)) (.s (.b (.s (.r [(3, .rd rPA), (5, .rd (rI .i64)), (6, .call rSl), (7, .ty rSl)]) (.s (.r [(3, .rd rPA), (6, .rd (rI .i64)), (7, .call rSl), (8, .ty rSl)]) (.s (.r [(3, .rd rPA), (6, .rd (rI .i64)), (7, .call rSl), (8, .ty rSl)]) (.r [(4, .rd rPA), (6, .rd rApiCmd), (7, .call rSl), (8, .ty rSl)]))))) .d))))) (.s .d .d))))
theorem ref12_Bytes_calls {v : Int} {l : Sl} {K : Sl → World → Prop} {w : World} (h : ref12_Bytes v l K w) : callV Pr Sl.val 98 #[(.int .i64 v), l.val] w K :=
  calls_of Pr_plain Pr_mixed Pr_func98 ref12_Bytes_ann rSl (args := [(.int .i64 v), l.val]) (by kernel_rfl) h

/- changeover/changeoverref14.numbers -/
def ref14_numbers (out : Sl) (l : Sl) (K : Sl → World → Prop) (w : World) : Prop :=
  loop2 (out : Sl) (0 : Int) (fun out1 i2 k3 w4 =>
  ifB (decide (i2 < (l.len : Int)))
  (opRd Pr (Instr.indexAt 73 l.val (.int .i64 i2)) pav (fun t5 =>
  opRd Pr (Instr.loadAt 3 (.pointer (some t5))) (Value.int .i64) (fun t6 =>
  callV Pr Sl.val 43 #[(.int .i64 t6)] w4 fun t7 w8 =>
  opTy Pr (Builtin.append_ #[22, 22] 22 #[out1.val, t7.val]) Sl.val (fun out9 w10 =>
  k3 out9 (i64 (i2 + 1)) w10) w8) w4) w4)
  (K out1 w4)) w
def ref14_numbers_ann : Ann := (.s .d (.s (.s .d (.b (.l [(.s 0, rSl), (.s 5, (rI .i64))] (.s (.s .d (.c .d .d)) (.s (.b (.r [(3, .rd rPA), (4, .rd (rI .i64)), (5, .call rSl), (6, .ty rSl)])) .d))))) (.s .d .d)))
theorem ref14_numbers_calls {out : Sl} {l : Sl} {K : Sl → World → Prop} {w : World} (h : ref14_numbers out l K w) : callV Pr Sl.val 99 #[out.val, l.val] w K :=
  calls_of Pr_plain Pr_mixed Pr_func99 ref14_numbers_ann rSl (args := [out.val, l.val]) (by kernel_rfl) h

/- changeover/changeoverref08.Bytes -/
def ref08_Bytes (v : Int) (c : ApiCmd) (K : Sl → World → Prop) (w : World) : Prop :=
  newV (fun b1 w2 =>
  callV Pr Sl.val 43 #[(.int .i64 c.Kind)] w2 fun out3 w4 =>
  kp b1 w2 w4 <|
  join1 (fun (j5 : Sl → World → Prop) =>
  ifB (v == 1)
  (callV Pr Sl.val 43 #[(.int .i64 c.Client)] w4 fun t6 w7 =>
  kp b1 w4 w7 <|
  opTy Pr (Builtin.append_ #[22, 22] 22 #[out3.val, t6.val]) Sl.val (fun out8 w9 =>
  kp b1 w7 w9 <|
  callV Pr Sl.val 43 #[(.int .i64 c.Seq)] w9 fun t10 w11 =>
  kp b1 w9 w11 <|
  opTy Pr (Builtin.append_ #[22, 22] 22 #[out8.val, t10.val]) Sl.val (fun out12 w13 =>
  kp b1 w11 w13 <|
  callV Pr Sl.val 86 #[(sval c.Key)] w13 fun t14 w15 =>
  kp b1 w13 w15 <|
  opTy Pr (Builtin.append_ #[22, 22] 22 #[out12.val, t14.val]) Sl.val (fun out16 w17 =>
  kp b1 w15 w17 <|
  j5 out16 w17) w15) w11) w7)
  (callV Pr Value.bool 135 #[(.int .i64 c.Kind)] w4 fun t18 w19 =>
  kp b1 w4 w19 <|
  ifB t18
  (callV Pr Sl.val 43 #[(.int .i64 c.Client)] w19 fun t20 w21 =>
  kp b1 w19 w21 <|
  opTy Pr (Builtin.append_ #[22, 22] 22 #[out3.val, t20.val]) Sl.val (fun out22 w23 =>
  kp b1 w21 w23 <|
  callV Pr Sl.val 43 #[(.int .i64 c.Seq)] w23 fun t24 w25 =>
  kp b1 w23 w25 <|
  opTy Pr (Builtin.append_ #[22, 22] 22 #[out22.val, t24.val]) Sl.val (fun out26 w27 =>
  kp b1 w25 w27 <|
  callV Pr Sl.val 86 #[(sval c.Key)] w27 fun t28 w29 =>
  kp b1 w27 w29 <|
  opTy Pr (Builtin.append_ #[22, 22] 22 #[out26.val, t28.val]) Sl.val (fun out30 w31 =>
  kp b1 w29 w31 <|
  j5 out30 w31) w29) w25) w21)
  (j5 out3 w19)))
  (fun out32 w33 =>
  join1 (fun (j34 : Sl → World → Prop) =>
  ifB (!(v == 1))
  (ifB (c.Kind == 5)
  (callV Pr Sl.val 86 #[(sval c.Old)] w33 fun t35 w36 =>
  kp b1 w33 w36 <|
  opTy Pr (Builtin.append_ #[22, 22] 22 #[out32.val, t35.val]) Sl.val (fun out37 w38 =>
  kp b1 w36 w38 <|
  j34 out37 w38) w36)
  (j34 out32 w33))
  (j34 out32 w33))
  (fun out39 w40 =>
  join1 (fun (j41 : Sl → World → Prop) =>
  ifB (v == 1)
  (callV Pr Sl.val 86 #[(sval c.Val)] w40 fun t42 w43 =>
  kp b1 w40 w43 <|
  opTy Pr (Builtin.append_ #[22, 22] 22 #[out39.val, t42.val]) Sl.val (fun out44 w45 =>
  kp b1 w43 w45 <|
  j41 out44 w45) w43)
  (ifB (c.Kind == 2)
  (callV Pr Sl.val 86 #[(sval c.Val)] w40 fun t46 w47 =>
  kp b1 w40 w47 <|
  opTy Pr (Builtin.append_ #[22, 22] 22 #[out39.val, t46.val]) Sl.val (fun out48 w49 =>
  kp b1 w47 w49 <|
  j41 out48 w49) w47)
  (ifB (c.Kind == 5)
  (callV Pr Sl.val 86 #[(sval c.Val)] w40 fun t50 w51 =>
  kp b1 w40 w51 <|
  opTy Pr (Builtin.append_ #[22, 22] 22 #[out39.val, t50.val]) Sl.val (fun out52 w53 =>
  kp b1 w51 w53 <|
  j41 out52 w53) w51)
  (j41 out39 w40))))
  (fun out54 w55 =>
  ifB (v == 1)
  (callV Pr Sl.val 43 #[(.int .i64 c.Node)] w55 fun t56 w57 =>
  kp b1 w55 w57 <|
  opTy Pr (Builtin.append_ #[22, 22] 22 #[out54.val, t56.val]) Sl.val (fun out58 w59 =>
  kp b1 w57 w59 <|
  K out58 w59) w57)
  (callV Pr Value.bool 136 #[(.int .i64 c.Kind)] w55 fun t60 w61 =>
  kp b1 w55 w61 <|
  ifB t60
  (callV Pr Sl.val 43 #[(.int .i64 c.Node)] w61 fun t62 w63 =>
  kp b1 w61 w63 <|
  opTy Pr (Builtin.append_ #[22, 22] 22 #[out54.val, t62.val]) Sl.val (fun out64 w65 =>
  kp b1 w63 w65 <|
  K out64 w65) w63)
  (K out54 w61)))))) w
def ref08_Bytes_ann : Ann := (.s (.r [(0, .nl 3)]) (.s (.r [(2, .call rSl)]) (.s .d (.sj [(.s 5, rSl)] (.s (.r [(4, .call rB)]) (.c (.s (.r [(3, .call rSl), (4, .ty rSl)]) (.s (.r [(3, .call rSl), (4, .ty rSl)]) (.r [(3, .call rSl), (4, .ty rSl)]))) .d)) (.sj [(.s 5, rSl)] (.s .d (.c (.r [(3, .call rSl), (4, .ty rSl)]) .d)) (.sj [(.s 5, rSl)] (.s .d (.c (.r [(3, .call rSl), (4, .ty rSl)]) .d)) (.s (.s (.r [(4, .call rB)]) (.c (.r [(3, .call rSl), (4, .ty rSl)]) .d)) (.s .d .d))))))))
theorem ref08_Bytes_calls {v : Int} {c : ApiCmd} {K : Sl → World → Prop} {w : World} (h : ref08_Bytes v c K w) : callV Pr Sl.val 100 #[(.int .i64 v), (.agg ⟨c.cs⟩)] w K :=
  calls_of Pr_plain Pr_mixed Pr_func100 ref08_Bytes_ann rSl (args := [(.int .i64 v), (.agg ⟨c.cs⟩)]) (by kernel_rfl) h

/- changeover/changeoverref02.Sum -/
def ref02_Sum (b : Sl) (K : Int → World → Prop) (w : World) : Prop :=
  loop2 (4294967295 : Int) (0 : Int) (fun r1 i2 k3 w4 =>
  ifB (decide (i2 < (b.len : Int)))
  (opRd Pr (Instr.indexAt 22 b.val (.int .i64 i2)) pav (fun t5 =>
  opRd Pr (Instr.loadAt 5 (.pointer (some t5))) (Value.int .u8) (fun t6 =>
  loop2 ((bXor .u32 r1 (IntKind.u32.wrap t6)) : Int) (0 : Int) (fun r7 k8 k9 w10 =>
  ifB (decide (k8 < 8))
  (ifB ((Int.tmod r7 2) == 1)
  (k9 (bXor .u32 (IntKind.u32.wrap (Int.tdiv r7 2)) 3988292384) (i64 (k8 + 1)) w10)
  (k9 (IntKind.u32.wrap (Int.tdiv r7 2)) (i64 (k8 + 1)) w10))
  (k3 r7 (i64 (i2 + 1)) w10)) w4) w4) w4)
  (K (IntKind.u32.wrap (4294967295 - r1)) w4)) w
def ref02_Sum_ann : Ann := (.s .d (.s .d (.s (.s .d (.b (.l [(.s 3, (rI .u32)), (.s 4, (rI .i64))] (.s (.s .d (.c .d .d)) (.s (.b (.s (.r [(3, .rd rPA), (4, .rd (rI .u8))]) (.s .d (.b (.l [(.s 3, (rI .u32)), (.s 5, (rI .i64))] (.s (.s .d (.c .d .d)) (.s (.b (.s .d (.s .d (.s .d (.c .d .d))))) .d))))))) .d))))) (.s .d .d))))
theorem ref02_Sum_calls {b : Sl} {K : Int → World → Prop} {w : World} (h : ref02_Sum b K w) : callV Pr (Value.int .u32) 101 #[b.val] w K :=
  calls_of Pr_plain Pr_mixed Pr_func101 ref02_Sum_ann (rI .u32) (args := [b.val]) (by kernel_rfl) h

/- changeover/vers.Least -/
def vers_Least (a : Int) (b : Int) (K : Int → World → Prop) (w : World) : Prop :=
  callV Pr Value.bool 35 #[(.int .i64 a)] w fun t1 w2 =>
  ifB (!t1)
  (K 0 w2)
  (callV Pr Value.bool 35 #[(.int .i64 b)] w2 fun t3 w4 =>
  ifB (!t3)
  (K 0 w4)
  (K (imin a b) w4))
def vers_Least_ann : Ann := (.s .d (.s (.s (.r [(1, .call rB), (5, .call rB)]) (.c (.s .d .d) .d)) (.s .d .d)))
theorem vers_Least_calls {a : Int} {b : Int} {K : Int → World → Prop} {w : World} (h : vers_Least a b K w) : callV Pr (Value.int .i64) 102 #[(.int .i64 a), (.int .i64 b)] w K :=
  calls_of Pr_plain Pr_mixed Pr_func102 vers_Least_ann (rI .i64) (args := [(.int .i64 a), (.int .i64 b)]) (by kernel_rfl) h

/- changeover/msgone.fields -/
def msgone_fields (kind : Int) (K : Int → World → Prop) (w : World) : Prop :=
  join1 (fun (j1 : Bool → World → Prop) =>
  ifB (kind == 1)
  (j1 (kind == 1) w)
  (j1 (kind == 2) w))
  (fun t2 w3 =>
  ifB t2
  (K 8 w3)
  (join1 (fun (j4 : Bool → World → Prop) =>
  ifB (kind == 3)
  (j4 (kind == 3) w3)
  (j4 (kind == 6) w3))
  (fun t5 w6 =>
  ifB t5
  (K 3 w6)
  (ifB (kind == 4)
  (K 23 w6)
  (ifB (kind == 5)
  (K 17 w6)
  (ifB (kind == 7)
  (K 1 w6)
  (ifB (kind == 8)
  (K 5 w6)
  (ifB (kind == 9)
  (K 2 w6)
  (ifB (kind == 10)
  (K 20 w6)
  (ifB (kind == 11)
  (K 32 w6)
  (K 0 w6)))))))))))
def msgone_fields_ann : Ann := (.s .d (.s (.s .d (.b (.sj [(.s 4, rB)] (.s .d (.c .d .d)) (.c (.s .d .d) (.sj [(.s 7, rB)] (.s .d (.c .d .d)) (.c (.s .d .d) (.s .d (.c (.s .d .d) (.s .d (.c (.s .d .d) (.s .d (.c (.s .d .d) (.s .d (.c (.s .d .d) (.s .d (.c (.s .d .d) (.s .d (.c (.s .d .d) (.s .d (.c (.s .d .d) .d)))))))))))))))))))) (.s .d .d)))
theorem msgone_fields_calls {kind : Int} {K : Int → World → Prop} {w : World} (h : msgone_fields kind K w) : callV Pr (Value.int .i64) 103 #[(.int .i64 kind)] w K :=
  calls_of Pr_plain Pr_mixed Pr_func103 msgone_fields_ann (rI .i64) (args := [(.int .i64 kind)]) (by kernel_rfl) h

/- changeover/msgone.ranges -/
def msgone_ranges (m : ApiMsg) (f : Int) (K : Bool → World → Prop) (w : World) : Prop :=
  newV (fun b1 w2 =>
  join0 (fun (j3 : World → Prop) =>
  join1 (fun (j4 : Bool → World → Prop) =>
  callV Pr Value.bool 137 #[(.int .i64 m.From)] w2 fun t5 w6 =>
  kp b1 w2 w6 <|
  ifB (!t5)
  (j4 (!t5) w6)
  (callV Pr Value.bool 137 #[(.int .i64 m.To)] w6 fun t7 w8 =>
  kp b1 w6 w8 <|
  ifB (!t7)
  (j4 (!t7) w8)
  (j4 (m.From == m.To) w8)))
  (fun t9 w10 =>
  ifB t9
  (K false w10)
  (ifB ((bAnd .i64 f 1) != 0)
  (callV Pr Value.bool 138 #[(.agg ⟨[(.int .i64 m.Ballot.Round), (.int .i64 m.Ballot.Node)]⟩)] w10 fun t11 w12 =>
  kp b1 w10 w12 <|
  ifB (!t11)
  (K false w12)
  (opRd Pr (binSem .eql 41 (.tmp 33) (.tmp 34) (.agg ⟨[(.int .i64 m.Ballot.Round), (.int .i64 m.Ballot.Node)]⟩) (.agg ⟨[(.int .i64 0), (.int .i64 0)]⟩)) Value.bool (fun t13 =>
  ifB t13
  (K false w12)
  (ifB ((bAnd .i64 f 2) != 0)
  (ifB (decide (m.Index < 1))
  (K false w12)
  (ifB (decide (m.Index > 4294967296))
  (K false w12)
  (ifB ((bAnd .i64 f 4) != 0)
  (ifB (decide (m.Commit < 0))
  (K false w12)
  (ifB (decide (m.Commit > 4294967296))
  (K false w12)
  (j3 w12)))
  (j3 w12))))
  (ifB ((bAnd .i64 f 4) != 0)
  (ifB (decide (m.Commit < 0))
  (K false w12)
  (ifB (decide (m.Commit > 4294967296))
  (K false w12)
  (j3 w12)))
  (j3 w12)))) w12))
  (ifB ((bAnd .i64 f 2) != 0)
  (ifB (decide (m.Index < 1))
  (K false w10)
  (ifB (decide (m.Index > 4294967296))
  (K false w10)
  (ifB ((bAnd .i64 f 4) != 0)
  (ifB (decide (m.Commit < 0))
  (K false w10)
  (ifB (decide (m.Commit > 4294967296))
  (K false w10)
  (j3 w10)))
  (j3 w10))))
  (ifB ((bAnd .i64 f 4) != 0)
  (ifB (decide (m.Commit < 0))
  (K false w10)
  (ifB (decide (m.Commit > 4294967296))
  (K false w10)
  (j3 w10)))
  (j3 w10))))))
  (fun w14 =>
  ifB ((bAnd .i64 f 8) == 0)
  (K true w14)
  (callV Pr Value.bool 35 #[(.int .i64 m.Version)] w14 fun t15 w16 =>
  kp b1 w14 w16 <|
  K t15 w16))) w
def msgone_ranges_ann : Ann := (.s (.r [(0, .nl 2)]) (.s .d (.sj [] (.b (.sj [(.s 6, rB)] (.s (.r [(3, .call rB)]) (.c .d (.s (.r [(3, .call rB)]) (.c .d .d)))) (.c (.s .d .d) (.s (.r [(6, .call rB), (12, .rd rB)]) (.c (.s .d .d) (.s .d (.c (.s .d .d) (.s .d (.c (.s .d .d) .d))))))))) (.s (.r [(6, .call rB)]) .d))))
theorem msgone_ranges_calls {m : ApiMsg} {f : Int} {K : Bool → World → Prop} {w : World} (h : msgone_ranges m f K w) : callV Pr Value.bool 104 #[(.agg ⟨m.cs⟩), (.int .i64 f)] w K :=
  calls_of Pr_plain Pr_mixed Pr_func104 msgone_ranges_ann rB (args := [(.agg ⟨m.cs⟩), (.int .i64 f)]) (by kernel_rfl) h

/- changeover/entry.Check -/
def entry_Check (l : Sl) (K : Int → World → Prop) (w : World) : Prop :=
  loop1 (0 : Int) (fun t1 k2 w3 =>
  ifB (decide (t1 < (l.len : Int)))
  (opRd Pr (Instr.indexAt 42 l.val (.int .i64 t1)) pav (fun t4 =>
  opRd Pr (Instr.loadAt 106 (.pointer (some t4))) ApiEntry.val (fun t5 =>
  newV (fun b6 w7 =>
  wrM b6 (fun w8 =>
  callV Pr (Value.int .i64) 139 #[(.agg ⟨[(.int .i64 t5.Index), (.int .i64 t5.Ballot.Round), (.int .i64 t5.Ballot.Node), (.int .i64 t5.Cmd.Kind), (.int .i64 t5.Cmd.Client), (.int .i64 t5.Cmd.Seq), (sval t5.Cmd.Key), (sval t5.Cmd.Val), (sval t5.Cmd.Old), (.int .i64 t5.Cmd.Node)]⟩)] w8 fun no9 w10 =>
  kp b6 w8 w10 <|
  ifB (no9 != 0)
  (K no9 w10)
  (drewM (fun w11 =>
  ifB (decide (t1 > 0))
  (opRd Pr (Instr.indexAt 42 l.val (.int .i64 (i64 (t1 - 1)))) pav (fun t12 =>
  opRd Pr (Instr.loadAt 3 (.pointer (some (t12.add 0)))) (Value.int .i64) (fun t13 =>
  ifB (decide (t5.Index ≤ t13))
  (K 12 w11)
  (k2 (i64 (t1 + 1)) w11)) w11) w11)
  (k2 (i64 (t1 + 1)) w11)) w10)) w7) w3) w3) w3)
  (K 0 w3)) w
def entry_Check_ann : Ann := (.s .d (.s (.s .d (.b (.l [(.s 8, (rI .i64))] (.s .d (.s (.c .d .d) (.s (.b (.s (.r [(1, .rd rPA), (2, .rd rApiEntry), (3, .nl 4), (5, .ls 4)]) (.s (.s (.r [(1, .call (rI .i64))]) (.s .d (.c (.s .d .d) .d))) (.s (.r [(8, .rd rPA), (10, .rd (rI .i64))]) (.c (.s .d .d) .d))))) .d)))))) (.s .d .d)))
theorem entry_Check_calls {l : Sl} {K : Int → World → Prop} {w : World} (h : entry_Check l K w) : callV Pr (Value.int .i64) 105 #[l.val] w K :=
  calls_of Pr_plain Pr_mixed Pr_func105 entry_Check_ann (rI .i64) (args := [l.val]) (by kernel_rfl) h

/- changeover/msgone.others -/
def msgone_others (m : ApiMsg) (f : Int) (K : Bool → World → Prop) (w : World) : Prop :=
  newV (fun b1 w2 =>
  join1 (fun (j3 : Bool → World → Prop) =>
  ifB ((bAnd .i64 f 1) == 0)
  (opRd Pr (binSem .neq 41 (.tmp 11) (.tmp 12) (.agg ⟨[(.int .i64 m.Ballot.Round), (.int .i64 m.Ballot.Node)]⟩) (.agg ⟨[(.int .i64 0), (.int .i64 0)]⟩)) Value.bool (fun t4 =>
  ifB t4
  (j3 t4 w2)
  (ifB ((bAnd .i64 f 2) == 0)
  (ifB (m.Index != 0)
  (j3 (m.Index != 0) w2)
  (ifB ((bAnd .i64 f 4) == 0)
  (j3 (m.Commit != 0) w2)
  (j3 false w2)))
  (ifB ((bAnd .i64 f 4) == 0)
  (j3 (m.Commit != 0) w2)
  (j3 false w2)))) w2)
  (ifB ((bAnd .i64 f 2) == 0)
  (ifB (m.Index != 0)
  (j3 (m.Index != 0) w2)
  (ifB ((bAnd .i64 f 4) == 0)
  (j3 (m.Commit != 0) w2)
  (j3 false w2)))
  (ifB ((bAnd .i64 f 4) == 0)
  (j3 (m.Commit != 0) w2)
  (j3 false w2))))
  (fun t5 w6 =>
  ifB t5
  (K true w6)
  (join1 (fun (j7 : Bool → World → Prop) =>
  ifB ((bAnd .i64 f 8) == 0)
  (ifB (m.Version != 0)
  (j7 (m.Version != 0) w6)
  (ifB ((bAnd .i64 f 16) == 0)
  (ifB (decide ((m.Entries.len : Int) > 0))
  (j7 (decide ((m.Entries.len : Int) > 0)) w6)
  (ifB ((bAnd .i64 f 32) == 0)
  (j7 (decide ((m.Image.len : Int) > 0)) w6)
  (j7 false w6)))
  (ifB ((bAnd .i64 f 32) == 0)
  (j7 (decide ((m.Image.len : Int) > 0)) w6)
  (j7 false w6))))
  (ifB ((bAnd .i64 f 16) == 0)
  (ifB (decide ((m.Entries.len : Int) > 0))
  (j7 (decide ((m.Entries.len : Int) > 0)) w6)
  (ifB ((bAnd .i64 f 32) == 0)
  (j7 (decide ((m.Image.len : Int) > 0)) w6)
  (j7 false w6)))
  (ifB ((bAnd .i64 f 32) == 0)
  (j7 (decide ((m.Image.len : Int) > 0)) w6)
  (j7 false w6))))
  (fun t8 w9 =>
  ifB t8
  (K true w9)
  (K false w9))))) w
def msgone_others_ann : Ann := (.s (.r [(0, .nl 2)]) (.s (.b (.sj [(.s 5, rB)] (.s (.r [(7, .rd rB)]) (.c .d (.s .d (.c .d .d)))) (.c (.s .d .d) (.sj [(.s 31, rB)] (.s .d (.c .d (.s .d (.c .d .d)))) (.c (.s .d .d) .d))))) (.s .d .d)))
theorem msgone_others_calls {m : ApiMsg} {f : Int} {K : Bool → World → Prop} {w : World} (h : msgone_others m f K w) : callV Pr Value.bool 106 #[(.agg ⟨m.cs⟩), (.int .i64 f)] w K :=
  calls_of Pr_plain Pr_mixed Pr_func106 msgone_others_ann rB (args := [(.agg ⟨m.cs⟩), (.int .i64 f)]) (by kernel_rfl) h

/- changeover/msgone.accept -/
def msgone_accept (m : ApiMsg) (K : Bool → World → Prop) (w : World) : Prop :=
  newV (fun b1 w2 =>
  drewM (fun w3 =>
  ifB ((m.Entries.len : Int) == 1)
  (opRd Pr (Instr.indexAt 42 m.Entries.val (.int .i64 0)) pav (fun t4 =>
  opRd Pr (Instr.loadAt 41 (.pointer (some (t4.add 1)))) ApiBallot.val (fun t5 =>
  opRd Pr (binSem .eql 41 (.tmp 12) (.tmp 14) (.agg ⟨t5.cs⟩) (.agg ⟨[(.int .i64 m.Ballot.Round), (.int .i64 m.Ballot.Node)]⟩)) Value.bool (fun t6 =>
  K t6 w3) w3) w3) w3)
  (K false w3)) w2) w
def msgone_accept_ann : Ann := (.s (.r [(0, .nl 1)]) (.s (.r [(7, .rd rPA), (9, .rd rApiBallot), (12, .rd rB)]) .d))
theorem msgone_accept_calls {m : ApiMsg} {K : Bool → World → Prop} {w : World} (h : msgone_accept m K w) : callV Pr Value.bool 107 #[(.agg ⟨m.cs⟩)] w K :=
  calls_of Pr_plain Pr_mixed Pr_func107 msgone_accept_ann rB (args := [(.agg ⟨m.cs⟩)]) (by kernel_rfl) h

/- changeover/changeoverref10.May -/
def ref10_May (b : ApiBallot) (K : Bool → World → Prop) (w : World) : Prop :=
  newV (fun b1 w2 =>
  join0 (fun (j3 : World → Prop) =>
  ifB (b.Round == 0)
  (ifB (b.Node == 0)
  (K true w2)
  (j3 w2))
  (j3 w2))
  (fun w4 =>
  ifB (decide (b.Round ≥ 1))
  (ifB (decide (b.Round ≤ 4294967296))
  (ifB (decide (b.Node ≥ 1))
  (K (decide (b.Node ≤ 9)) w4)
  (K false w4))
  (K false w4))
  (K false w4))) w
def ref10_May_ann : Ann := (.s (.r [(0, .nl 1)]) (.sj [] (.s .d (.c (.s .d .d) .d)) (.s .d .d)))
theorem ref10_May_calls {b : ApiBallot} {K : Bool → World → Prop} {w : World} (h : ref10_May b K w) : callV Pr Value.bool 108 #[(.agg ⟨b.cs⟩)] w K :=
  calls_of Pr_plain Pr_mixed Pr_func108 ref10_May_ann rB (args := [(.agg ⟨b.cs⟩)]) (by kernel_rfl) h

/- changeover/changeoverref08.Check -/
def ref08_Check (c : ApiCmd) (K : Int → World → Prop) (w : World) : Prop :=
  newV (fun b1 w2 =>
  ifB (decide (c.Kind < 1))
  (K 5 w2)
  (ifB (decide (c.Kind > 8))
  (K 5 w2)
  (callV Pr Value.bool 135 #[(.int .i64 c.Kind)] w2 fun own3 w4 =>
  kp b1 w2 w4 <|
  join0 (fun (j5 : World → Prop) =>
  ifB own3
  (ifB (decide (c.Client < 1))
  (K 6 w4)
  (ifB (decide (c.Client > 8))
  (K 6 w4)
  (ifB (decide (c.Seq < 1))
  (K 6 w4)
  (ifB (decide (c.Seq > 4294967296))
  (K 6 w4)
  (callV Pr Value.bool 136 #[(.int .i64 c.Kind)] w4 fun t6 w7 =>
  kp b1 w4 w7 <|
  ifB t6
  (ifB (decide (c.Node < 1))
  (K 6 w7)
  (ifB (decide (c.Node > 9))
  (K 6 w7)
  (j5 w7)))
  (j5 w7))))))
  (callV Pr Value.bool 136 #[(.int .i64 c.Kind)] w4 fun t8 w9 =>
  kp b1 w4 w9 <|
  ifB t8
  (ifB (decide (c.Node < 1))
  (K 6 w9)
  (ifB (decide (c.Node > 9))
  (K 6 w9)
  (j5 w9)))
  (j5 w9)))
  (fun w10 =>
  ifB (c.Kind == 2)
  (join0 (fun (j11 : World → Prop) =>
  ifB own3
  (callV Pr Value.bool 140 #[(sval c.Key)] w10 fun t12 w13 =>
  kp b1 w10 w13 <|
  ifB (!t12)
  (K 7 w13)
  (callV Pr Value.bool 141 #[(sval c.Val)] w13 fun t14 w15 =>
  kp b1 w13 w15 <|
  ifB (!t14)
  (K 7 w15)
  (ifB (c.Kind == 5)
  (callV Pr Value.bool 141 #[(sval c.Old)] w15 fun t16 w17 =>
  kp b1 w15 w17 <|
  ifB (!t16)
  (K 7 w17)
  (j11 w17))
  (j11 w15))))
  (callV Pr Value.bool 141 #[(sval c.Val)] w10 fun t18 w19 =>
  kp b1 w10 w19 <|
  ifB (!t18)
  (K 7 w19)
  (ifB (c.Kind == 5)
  (callV Pr Value.bool 141 #[(sval c.Old)] w19 fun t20 w21 =>
  kp b1 w19 w21 <|
  ifB (!t20)
  (K 7 w21)
  (j11 w21))
  (j11 w19))))
  (fun w22 =>
  ifB (!own3)
  (ifB (c.Client != 0)
  (K 3 w22)
  (ifB (c.Seq != 0)
  (K 3 w22)
  (ifB (!(strEq c.Key []))
  (K 3 w22)
  (ifB (!true)
  (ifB (!(strEq c.Val []))
  (K 3 w22)
  (ifB (c.Kind != 5)
  (ifB (!(strEq c.Old []))
  (K 3 w22)
  (callV Pr Value.bool 136 #[(.int .i64 c.Kind)] w22 fun t23 w24 =>
  kp b1 w22 w24 <|
  ifB (!t23)
  (ifB (c.Node != 0)
  (K 3 w24)
  (K 0 w24))
  (K 0 w24)))
  (callV Pr Value.bool 136 #[(.int .i64 c.Kind)] w22 fun t25 w26 =>
  kp b1 w22 w26 <|
  ifB (!t25)
  (ifB (c.Node != 0)
  (K 3 w26)
  (K 0 w26))
  (K 0 w26))))
  (ifB (c.Kind != 5)
  (ifB (!(strEq c.Old []))
  (K 3 w22)
  (callV Pr Value.bool 136 #[(.int .i64 c.Kind)] w22 fun t27 w28 =>
  kp b1 w22 w28 <|
  ifB (!t27)
  (ifB (c.Node != 0)
  (K 3 w28)
  (K 0 w28))
  (K 0 w28)))
  (callV Pr Value.bool 136 #[(.int .i64 c.Kind)] w22 fun t29 w30 =>
  kp b1 w22 w30 <|
  ifB (!t29)
  (ifB (c.Node != 0)
  (K 3 w30)
  (K 0 w30))
  (K 0 w30)))))))
  (ifB (!true)
  (ifB (!(strEq c.Val []))
  (K 3 w22)
  (ifB (c.Kind != 5)
  (ifB (!(strEq c.Old []))
  (K 3 w22)
  (callV Pr Value.bool 136 #[(.int .i64 c.Kind)] w22 fun t31 w32 =>
  kp b1 w22 w32 <|
  ifB (!t31)
  (ifB (c.Node != 0)
  (K 3 w32)
  (K 0 w32))
  (K 0 w32)))
  (callV Pr Value.bool 136 #[(.int .i64 c.Kind)] w22 fun t33 w34 =>
  kp b1 w22 w34 <|
  ifB (!t33)
  (ifB (c.Node != 0)
  (K 3 w34)
  (K 0 w34))
  (K 0 w34))))
  (ifB (c.Kind != 5)
  (ifB (!(strEq c.Old []))
  (K 3 w22)
  (callV Pr Value.bool 136 #[(.int .i64 c.Kind)] w22 fun t35 w36 =>
  kp b1 w22 w36 <|
  ifB (!t35)
  (ifB (c.Node != 0)
  (K 3 w36)
  (K 0 w36))
  (K 0 w36)))
  (callV Pr Value.bool 136 #[(.int .i64 c.Kind)] w22 fun t37 w38 =>
  kp b1 w22 w38 <|
  ifB (!t37)
  (ifB (c.Node != 0)
  (K 3 w38)
  (K 0 w38))
  (K 0 w38))))))
  (join0 (fun (j39 : World → Prop) =>
  ifB own3
  (callV Pr Value.bool 140 #[(sval c.Key)] w10 fun t40 w41 =>
  kp b1 w10 w41 <|
  ifB (!t40)
  (K 7 w41)
  (ifB (c.Kind == 5)
  (callV Pr Value.bool 141 #[(sval c.Val)] w41 fun t42 w43 =>
  kp b1 w41 w43 <|
  ifB (!t42)
  (K 7 w43)
  (ifB (c.Kind == 5)
  (callV Pr Value.bool 141 #[(sval c.Old)] w43 fun t44 w45 =>
  kp b1 w43 w45 <|
  ifB (!t44)
  (K 7 w45)
  (j39 w45))
  (j39 w43)))
  (ifB (c.Kind == 5)
  (callV Pr Value.bool 141 #[(sval c.Old)] w41 fun t46 w47 =>
  kp b1 w41 w47 <|
  ifB (!t46)
  (K 7 w47)
  (j39 w47))
  (j39 w41))))
  (ifB (c.Kind == 5)
  (callV Pr Value.bool 141 #[(sval c.Val)] w10 fun t48 w49 =>
  kp b1 w10 w49 <|
  ifB (!t48)
  (K 7 w49)
  (ifB (c.Kind == 5)
  (callV Pr Value.bool 141 #[(sval c.Old)] w49 fun t50 w51 =>
  kp b1 w49 w51 <|
  ifB (!t50)
  (K 7 w51)
  (j39 w51))
  (j39 w49)))
  (ifB (c.Kind == 5)
  (callV Pr Value.bool 141 #[(sval c.Old)] w10 fun t52 w53 =>
  kp b1 w10 w53 <|
  ifB (!t52)
  (K 7 w53)
  (j39 w53))
  (j39 w10))))
  (fun w54 =>
  ifB (!own3)
  (ifB (c.Client != 0)
  (K 3 w54)
  (ifB (c.Seq != 0)
  (K 3 w54)
  (ifB (!(strEq c.Key []))
  (K 3 w54)
  (ifB (!(c.Kind == 5))
  (ifB (!(strEq c.Val []))
  (K 3 w54)
  (ifB (c.Kind != 5)
  (ifB (!(strEq c.Old []))
  (K 3 w54)
  (callV Pr Value.bool 136 #[(.int .i64 c.Kind)] w54 fun t55 w56 =>
  kp b1 w54 w56 <|
  ifB (!t55)
  (ifB (c.Node != 0)
  (K 3 w56)
  (K 0 w56))
  (K 0 w56)))
  (callV Pr Value.bool 136 #[(.int .i64 c.Kind)] w54 fun t57 w58 =>
  kp b1 w54 w58 <|
  ifB (!t57)
  (ifB (c.Node != 0)
  (K 3 w58)
  (K 0 w58))
  (K 0 w58))))
  (ifB (c.Kind != 5)
  (ifB (!(strEq c.Old []))
  (K 3 w54)
  (callV Pr Value.bool 136 #[(.int .i64 c.Kind)] w54 fun t59 w60 =>
  kp b1 w54 w60 <|
  ifB (!t59)
  (ifB (c.Node != 0)
  (K 3 w60)
  (K 0 w60))
  (K 0 w60)))
  (callV Pr Value.bool 136 #[(.int .i64 c.Kind)] w54 fun t61 w62 =>
  kp b1 w54 w62 <|
  ifB (!t61)
  (ifB (c.Node != 0)
  (K 3 w62)
  (K 0 w62))
  (K 0 w62)))))))
  (ifB (!(c.Kind == 5))
  (ifB (!(strEq c.Val []))
  (K 3 w54)
  (ifB (c.Kind != 5)
  (ifB (!(strEq c.Old []))
  (K 3 w54)
  (callV Pr Value.bool 136 #[(.int .i64 c.Kind)] w54 fun t63 w64 =>
  kp b1 w54 w64 <|
  ifB (!t63)
  (ifB (c.Node != 0)
  (K 3 w64)
  (K 0 w64))
  (K 0 w64)))
  (callV Pr Value.bool 136 #[(.int .i64 c.Kind)] w54 fun t65 w66 =>
  kp b1 w54 w66 <|
  ifB (!t65)
  (ifB (c.Node != 0)
  (K 3 w66)
  (K 0 w66))
  (K 0 w66))))
  (ifB (c.Kind != 5)
  (ifB (!(strEq c.Old []))
  (K 3 w54)
  (callV Pr Value.bool 136 #[(.int .i64 c.Kind)] w54 fun t67 w68 =>
  kp b1 w54 w68 <|
  ifB (!t67)
  (ifB (c.Node != 0)
  (K 3 w68)
  (K 0 w68))
  (K 0 w68)))
  (callV Pr Value.bool 136 #[(.int .i64 c.Kind)] w54 fun t69 w70 =>
  kp b1 w54 w70 <|
  ifB (!t69)
  (ifB (c.Node != 0)
  (K 3 w70)
  (K 0 w70))
  (K 0 w70)))))))))) w
def ref08_Check_ann : Ann := (.s (.r [(0, .nl 1)]) (.s (.s .d (.c (.s .d .d) .d)) (.s (.r [(2, .call rB)]) (.sj [] (.s (.r [(24, .call rB)]) (.c (.s .d .d) .d)) (.s .d (.sj [] (.s (.r [(4, .call rB), (12, .call rB), (23, .call rB)]) (.c (.s .d .d) .d)) (.s (.s (.r [(39, .call rB)]) (.c (.s .d .d) .d)) (.s .d .d))))))))
theorem ref08_Check_calls {c : ApiCmd} {K : Int → World → Prop} {w : World} (h : ref08_Check c K w) : callV Pr (Value.int .i64) 109 #[(.agg ⟨c.cs⟩)] w K :=
  calls_of Pr_plain Pr_mixed Pr_func109 ref08_Check_ann (rI .i64) (args := [(.agg ⟨c.cs⟩)]) (by kernel_rfl) h

/- (*changeover/pack.Reader).fail -/
def pack_Reader_fail (r : Option Addr) (e : Int) (K : Unit → World → Prop) (w : World) : Prop :=
  opRd Pr (nilSem (.pointer r)) pav (fun t1 =>
  opUn Pr (Instr.storeAt 31 (.pointer (some (t1.add 2))) (.int .i64 e)) (fun w2 =>
  K () w2) w) w
def pack_Reader_fail_ann : Ann := (.r [(2, .rd rPA), (4, .un)])
theorem pack_Reader_fail_calls {r : Option Addr} {e : Int} {K : Unit → World → Prop} {w : World} (h : pack_Reader_fail r e K w) : callV Pr uval 115 #[(.pointer r), (.int .i64 e)] w K :=
  calls_of Pr_plain Pr_mixed Pr_func115 pack_Reader_fail_ann rU (args := [(.pointer r), (.int .i64 e)]) (by kernel_rfl) h

/- (*changeover/pack.Reader).Count -/
def pack_Reader_Count (r : Option Addr) (most : Int) (K : Int → World → Prop) (w : World) : Prop :=
  opTy Pr (Instr.box 78 (.pointer r)) pav (fun r1 w2 =>
  opTy Pr (Instr.box 3 (.int .i64 most)) pav (fun most3 w4 =>
  opRd Pr (Instr.loadAt 78 (.pointer (some r1))) Value.pointer (fun t5 =>
  callV Pr (Value.int .i64) 74 #[(.pointer t5), (.func (.func 150) #[] #[(.pointer (some r1)), (.pointer (some most3))])] w4 fun t6 w7 =>
  K t6 w7) w4) w2) w
def pack_Reader_Count_ann : Ann := (.s (.r [(0, .ty rPA), (1, .ty rPA)]) (.s (.r [(0, .rd rP), (2, .call (rI .i64))]) .d))
theorem pack_Reader_Count_calls {r : Option Addr} {most : Int} {K : Int → World → Prop} {w : World} (h : pack_Reader_Count r most K w) : callV Pr (Value.int .i64) 116 #[(.pointer r), (.int .i64 most)] w K :=
  calls_of Pr_plain Pr_mixed Pr_func116 pack_Reader_Count_ann (rI .i64) (args := [(.pointer r), (.int .i64 most)]) (by kernel_rfl) h

/- (*changeover/pack.Reader).Raw$1 -/
def pack_Reader_Raw_1 (c_x0 : Addr) (c_x1 : Addr) (K : Sl → World → Prop) (w : World) : Prop :=
  opRd Pr (Instr.loadAt 78 (.pointer (some c_x0))) Value.pointer (fun t1 =>
  opRd Pr (Instr.loadAt 3 (.pointer (some c_x1))) (Value.int .i64) (fun t2 =>
  callV Pr Sl.val 119 #[(.pointer t1), (.int .i64 t2)] w fun t3 w4 =>
  K t3 w4) w) w
def pack_Reader_Raw_1_ann : Ann := (.s .d (.s (.r [(0, .rd rP), (1, .rd (rI .i64)), (2, .call rSl)]) .d))
theorem pack_Reader_Raw_1_calls {c_x0 : Addr} {c_x1 : Addr} {K : Sl → World → Prop} {w : World} (h : pack_Reader_Raw_1 c_x0 c_x1 K w) : callV Pr Sl.val 118 #[(.pointer (some c_x0)), (.pointer (some c_x1))] w K :=
  calls_of Pr_plain Pr_mixed Pr_func118 pack_Reader_Raw_1_ann rSl (args := [(.pointer (some c_x0)), (.pointer (some c_x1))]) (by kernel_rfl) h

/- (*changeover/pack.Reader).raw -/
def pack_Reader_raw (r : Option Addr) (most : Int) (K : Sl → World → Prop) (w : World) : Prop :=
  callV Pr (Value.int .i64) 151 #[(.pointer r), (.int .i64 most)] w fun n1 w2 =>
  opRd Pr (nilSem (.pointer r)) pav (fun t3 =>
  opRd Pr (Instr.loadAt 31 (.pointer (some (t3.add 2)))) (Value.int .i64) (fun t4 =>
  ifB (t4 != 0)
  (K Sl.nil w2)
  (opRd Pr (nilSem (.pointer r)) pav (fun t5 =>
  opRd Pr (Instr.loadAt 3 (.pointer (some (t5.add 1)))) (Value.int .i64) (fun t6 =>
  opRd Pr (nilSem (.pointer r)) pav (fun t7 =>
  opUn Pr (Instr.storeAt 3 (.pointer (some (t7.add 1))) (.int .i64 (i64 (t6 + n1)))) (fun w8 =>
  heldM (fun S10 w9 =>
  opH Pr S10 (nilSem (.pointer r)) pav (fun t11 =>
  opH Pr S10 (Instr.loadAt 22 (.pointer (some (t11.add 0)))) Sl.val (fun t12 =>
  opH Pr S10 (nilSem (.pointer r)) pav (fun t13 =>
  opH Pr S10 (Instr.loadAt 3 (.pointer (some (t13.add 1)))) (Value.int .i64) (fun t14 =>
  opH Pr S10 (nilSem (.pointer r)) pav (fun t15 =>
  opH Pr S10 (Instr.loadAt 3 (.pointer (some (t15.add 1)))) (Value.int .i64) (fun t16 =>
  opH Pr S10 (Instr.sliceAt 22 t12.val (some (.int .i64 (i64 (t14 - n1)))) (some (.int .i64 t16)) none) Sl.val (fun t17 =>
  callV Pr Sl.val 73 #[t17.val] w9 fun t18 w19 =>
  (S10 w19) ∧
  (K t18 w19))))))))) w8) w2) w2) w2) w2)) w2) w2
def pack_Reader_raw_ann : Ann := (.s .d (.s (.r [(2, .call (rI .i64))]) (.s (.s (.r [(1, .rd rPA), (3, .rd (rI .i64))]) (.c (.s .d .d) .d)) (.s (.r [(1, .rd rPA), (3, .rd (rI .i64)), (6, .rd rPA), (8, .un)]) (.s (.h (.take 0 (.take 1 (.take 2 (.take 3 (.take 4 (.take 5 (.take 6 (.take 7 (.take 8 (.take 9 (.take 10 (.take 11 (.take 12 (.take 13 (.take 14 (.one 15 (.take 16 .done))))))))))))))))) [(1, .rd rPA), (3, .rd rSl), (5, .rd rPA), (7, .rd (rI .i64)), (11, .rd rPA), (13, .rd (rI .i64)), (14, .rd rSl), (15, .call rSl)]) .d)))))
theorem pack_Reader_raw_calls {r : Option Addr} {most : Int} {K : Sl → World → Prop} {w : World} (h : pack_Reader_raw r most K w) : callV Pr Sl.val 119 #[(.pointer r), (.int .i64 most)] w K :=
  calls_of Pr_plain Pr_mixed Pr_func119 pack_Reader_raw_ann rSl (args := [(.pointer r), (.int .i64 most)]) (by kernel_rfl) h

/- (*changeover/pack.Reader).left -/
def pack_Reader_left (r : Option Addr) (K : Int → World → Prop) (w : World) : Prop :=
  drewM (fun w1 =>
  opRd Pr (nilSem (.pointer r)) pav (fun t2 =>
  opRd Pr (Instr.loadAt 22 (.pointer (some (t2.add 0)))) Sl.val (fun t3 =>
  opRd Pr (nilSem (.pointer r)) pav (fun t4 =>
  opRd Pr (Instr.loadAt 3 (.pointer (some (t4.add 1)))) (Value.int .i64) (fun t5 =>
  K (i64 ((t3.len : Int) - t5)) w1) w1) w1) w1) w1) w
def pack_Reader_left_ann : Ann := (.s .d (.s (.r [(1, .rd rPA), (3, .rd rSl), (6, .rd rPA), (8, .rd (rI .i64))]) .d))
theorem pack_Reader_left_calls {r : Option Addr} {K : Int → World → Prop} {w : World} (h : pack_Reader_left r K w) : callV Pr (Value.int .i64) 120 #[(.pointer r)] w K :=
  calls_of Pr_plain Pr_mixed Pr_func120 pack_Reader_left_ann (rI .i64) (args := [(.pointer r)]) (by kernel_rfl) h

/- changeover/msgone.older -/
def msgone_older (m : ApiMsg) (K : Bool → World → Prop) (w : World) : Prop :=
  newV (fun b1 w2 =>
  callV Pr Value.bool 164 #[(.int .i64 1), m.Entries.val] w2 fun t3 w4 =>
  kp b1 w2 w4 <|
  ifB t3
  (K (decide (m.Version ≤ 1)) w4)
  (K false w4)) w
def msgone_older_ann : Ann := (.s (.r [(0, .nl 1)]) (.s (.r [(2, .call rB)]) .d))
theorem msgone_older_calls {m : ApiMsg} {K : Bool → World → Prop} {w : World} (h : msgone_older m K w) : callV Pr Value.bool 127 #[(.agg ⟨m.cs⟩)] w K :=
  calls_of Pr_plain Pr_mixed Pr_func127 msgone_older_ann rB (args := [(.agg ⟨m.cs⟩)]) (by kernel_rfl) h

/- changeover/entry.Put -/
def entry_Put (w_ : Option Addr) (v : Int) (l : Sl) (K : Unit → World → Prop) (w : World) : Prop :=
  callV Pr uval 70 #[(.pointer w_), (.int .i64 (l.len : Int))] w fun t1 w2 =>
  loop1 (0 : Int) (fun t3 k4 w5 =>
  ifB (decide (t3 < (l.len : Int)))
  (opRd Pr (Instr.indexAt 42 l.val (.int .i64 t3)) pav (fun t6 =>
  opRd Pr (Instr.loadAt 106 (.pointer (some t6))) ApiEntry.val (fun t7 =>
  newV (fun b8 w9 =>
  wrM b8 (fun w10 =>
  callV Pr uval 70 #[(.pointer w_), (.int .i64 t7.Index)] w10 fun t11 w12 =>
  kp b8 w10 w12 <|
  callV Pr uval 70 #[(.pointer w_), (.int .i64 t7.Ballot.Round)] w12 fun t13 w14 =>
  kp b8 w12 w14 <|
  callV Pr uval 70 #[(.pointer w_), (.int .i64 t7.Ballot.Node)] w14 fun t15 w16 =>
  kp b8 w14 w16 <|
  callV Pr uval 165 #[(.pointer w_), (.int .i64 v), (.agg ⟨[(.int .i64 t7.Cmd.Kind), (.int .i64 t7.Cmd.Client), (.int .i64 t7.Cmd.Seq), (sval t7.Cmd.Key), (sval t7.Cmd.Val), (sval t7.Cmd.Old), (.int .i64 t7.Cmd.Node)]⟩)] w16 fun t17 w18 =>
  kp b8 w16 w18 <|
  k4 (i64 (t3 + 1)) w18) w9) w5) w5) w5)
  (K () w5)) w2
def entry_Put_ann : Ann := (.s (.r [(3, .call rU)]) (.s .d (.b (.l [(.s 14, (rI .i64))] (.s .d (.s (.c .d .d) (.s (.b (.s (.r [(0, .rd rPA), (1, .rd rApiEntry), (2, .nl 7), (3, .ls 7)]) (.s (.r [(3, .call rU)]) (.s (.r [(4, .call rU)]) (.s (.r [(4, .call rU)]) (.r [(4, .call rU)])))))) .d)))))))
theorem entry_Put_calls {w_ : Option Addr} {v : Int} {l : Sl} {K : Unit → World → Prop} {w : World} (h : entry_Put w_ v l K w) : callV Pr uval 128 #[(.pointer w_), (.int .i64 v), l.val] w K :=
  calls_of Pr_plain Pr_mixed Pr_func128 entry_Put_ann rU (args := [(.pointer w_), (.int .i64 v), l.val]) (by kernel_rfl) h

/- changeover/msgtwo.pieces -/
def msgtwo_pieces (m : Option Addr) (K : (Sl × Bool) → World → Prop) (w : World) : Prop :=
  heldM (fun S2 w1 =>
  opH Pr S2 (nilSem (.pointer m)) pav (fun t3 =>
  opH Pr S2 (nilSem (.pointer m)) pav (fun t4 =>
  (newV (fun b5 w6 =>
  (S2 w6) ∧
  (newV (fun b7 w8 =>
  (S2 w8) ∧
  (wrM b5 (fun w9 =>
  (S2 w9) ∧
  (wrM b7 (fun w10 =>
  (S2 w10) ∧
  (heldM (fun S12 w11 =>
  opH Pr S12 (nilSem (.pointer m)) pav (fun t13 =>
  opH Pr S12 (nilSem (.pointer m)) pav (fun t14 =>
  (newV (fun b15 w16 =>
  (S12 w16) ∧
  (newV (fun b17 w18 =>
  (S12 w18) ∧
  (wrM b15 (fun w19 =>
  (S12 w19) ∧
  (wrM b17 (fun w20 =>
  (S12 w20) ∧
  (opRd Pr (nilSem (.pointer m)) pav (fun t21 =>
  opRd Pr (Instr.loadAt 3 (.pointer (some (t21.add 0)))) (Value.int .i64) (fun t22 =>
  join1 (fun (j23 : Bool → World → Prop) =>
  ifB (t22 == 1)
  (j23 (t22 == 1) w20)
  (j23 (t22 == 2) w20))
  (fun t24 w25 =>
  ifB t24
  (opRd Pr (nilSem (.pointer m)) pav (fun t26 =>
  opTy Pr (Instr.buildSlice 161 1 #[(0, (.iface 191 (.agg ⟨[(.pointer (some (t26.add 7)))]⟩)))]) Sl.val (fun t27 w28 =>
  kp b17 w25 w28 <|
  kp b15 w25 w28 <|
  kp b7 w25 w28 <|
  kp b5 w25 w28 <|
  K (t27, true) w28) w25) w25)
  (join1 (fun (j29 : Bool → World → Prop) =>
  ifB (t22 == 3)
  (j29 (t22 == 3) w25)
  (j29 (t22 == 6) w25))
  (fun t30 w31 =>
  ifB t30
  (opTy Pr (Instr.buildSlice 161 3 #[(0, (.iface 191 (.agg ⟨[(.pointer (some ((t3.add 3).add 0)))]⟩))), (1, (.iface 191 (.agg ⟨[(.pointer (some ((t4.add 3).add 1)))]⟩))), (2, (.iface 191 (.agg ⟨[(.pointer (some (t13.add 5)))]⟩)))]) Sl.val (fun t32 w33 =>
  kp b17 w31 w33 <|
  kp b15 w31 w33 <|
  kp b7 w31 w33 <|
  kp b5 w31 w33 <|
  K (t32, true) w33) w31)
  (ifB (t22 == 4)
  (opTy Pr (Instr.buildSlice 161 5 #[(0, (.iface 191 (.agg ⟨[(.pointer (some ((t3.add 3).add 0)))]⟩))), (1, (.iface 191 (.agg ⟨[(.pointer (some ((t4.add 3).add 1)))]⟩))), (2, (.iface 191 (.agg ⟨[(.pointer (some (t13.add 5)))]⟩))), (3, (.iface 191 (.agg ⟨[(.pointer (some (t14.add 6)))]⟩))), (4, (.iface 193 (.agg ⟨[(.pointer m)]⟩)))]) Sl.val (fun t34 w35 =>
  kp b17 w31 w35 <|
  kp b15 w31 w35 <|
  kp b7 w31 w35 <|
  kp b5 w31 w35 <|
  K (t34, true) w35) w31)
  (ifB (t22 == 5)
  (opTy Pr (Instr.buildSlice 161 3 #[(0, (.iface 191 (.agg ⟨[(.pointer (some ((t3.add 3).add 0)))]⟩))), (1, (.iface 191 (.agg ⟨[(.pointer (some ((t4.add 3).add 1)))]⟩))), (2, (.iface 194 (.agg ⟨[(.pointer m)]⟩)))]) Sl.val (fun t36 w37 =>
  kp b17 w31 w37 <|
  kp b15 w31 w37 <|
  kp b7 w31 w37 <|
  kp b5 w31 w37 <|
  K (t36, true) w37) w31)
  (ifB (t22 == 7)
  (opTy Pr (Instr.buildSlice 161 2 #[(0, (.iface 191 (.agg ⟨[(.pointer (some ((t3.add 3).add 0)))]⟩))), (1, (.iface 191 (.agg ⟨[(.pointer (some ((t4.add 3).add 1)))]⟩)))]) Sl.val (fun t38 w39 =>
  kp b17 w31 w39 <|
  kp b15 w31 w39 <|
  kp b7 w31 w39 <|
  kp b5 w31 w39 <|
  K (t38, true) w39) w31)
  (ifB (t22 == 8)
  (opTy Pr (Instr.buildSlice 161 3 #[(0, (.iface 191 (.agg ⟨[(.pointer (some ((t3.add 3).add 0)))]⟩))), (1, (.iface 191 (.agg ⟨[(.pointer (some ((t4.add 3).add 1)))]⟩))), (2, (.iface 191 (.agg ⟨[(.pointer (some (t14.add 6)))]⟩)))]) Sl.val (fun t40 w41 =>
  kp b17 w31 w41 <|
  kp b15 w31 w41 <|
  kp b7 w31 w41 <|
  kp b5 w31 w41 <|
  K (t40, true) w41) w31)
  (ifB (t22 == 9)
  (opTy Pr (Instr.buildSlice 161 1 #[(0, (.iface 191 (.agg ⟨[(.pointer (some (t13.add 5)))]⟩)))]) Sl.val (fun t42 w43 =>
  kp b17 w31 w43 <|
  kp b15 w31 w43 <|
  kp b7 w31 w43 <|
  kp b5 w31 w43 <|
  K (t42, true) w43) w31)
  (ifB (t22 == 10)
  (opTy Pr (Instr.buildSlice 161 2 #[(0, (.iface 191 (.agg ⟨[(.pointer (some (t14.add 6)))]⟩))), (1, (.iface 193 (.agg ⟨[(.pointer m)]⟩)))]) Sl.val (fun t44 w45 =>
  kp b17 w31 w45 <|
  kp b15 w31 w45 <|
  kp b7 w31 w45 <|
  kp b5 w31 w45 <|
  K (t44, true) w45) w31)
  (ifB (t22 == 11)
  (opTy Pr (Instr.buildSlice 161 1 #[(0, (.iface 195 (.agg ⟨[(.pointer m)]⟩)))]) Sl.val (fun t46 w47 =>
  kp b17 w31 w47 <|
  kp b15 w31 w47 <|
  kp b7 w31 w47 <|
  kp b5 w31 w47 <|
  K (t46, true) w47) w31)
  (K (Sl.nil, false) w31)))))))))))) w20) w20)) w19)) w18)) w16)) w11) ∧
  (newV (fun b48 w49 =>
  (S12 w49) ∧
  (newV (fun b50 w51 =>
  (S12 w51) ∧
  (wrM b50 (fun w52 =>
  (S12 w52) ∧
  (wrM b48 (fun w53 =>
  (S12 w53) ∧
  (opRd Pr (nilSem (.pointer m)) pav (fun t54 =>
  opRd Pr (Instr.loadAt 3 (.pointer (some (t54.add 0)))) (Value.int .i64) (fun t55 =>
  join1 (fun (j56 : Bool → World → Prop) =>
  ifB (t55 == 1)
  (j56 (t55 == 1) w53)
  (j56 (t55 == 2) w53))
  (fun t57 w58 =>
  ifB t57
  (opRd Pr (nilSem (.pointer m)) pav (fun t59 =>
  opTy Pr (Instr.buildSlice 161 1 #[(0, (.iface 191 (.agg ⟨[(.pointer (some (t59.add 7)))]⟩)))]) Sl.val (fun t60 w61 =>
  kp b50 w58 w61 <|
  kp b48 w58 w61 <|
  kp b7 w58 w61 <|
  kp b5 w58 w61 <|
  K (t60, true) w61) w58) w58)
  (join1 (fun (j62 : Bool → World → Prop) =>
  ifB (t55 == 3)
  (j62 (t55 == 3) w58)
  (j62 (t55 == 6) w58))
  (fun t63 w64 =>
  ifB t63
  (opTy Pr (Instr.buildSlice 161 3 #[(0, (.iface 191 (.agg ⟨[(.pointer (some ((t3.add 3).add 0)))]⟩))), (1, (.iface 191 (.agg ⟨[(.pointer (some ((t4.add 3).add 1)))]⟩))), (2, (.iface 191 (.agg ⟨[(.pointer (some (t13.add 5)))]⟩)))]) Sl.val (fun t65 w66 =>
  kp b50 w64 w66 <|
  kp b48 w64 w66 <|
  kp b7 w64 w66 <|
  kp b5 w64 w66 <|
  K (t65, true) w66) w64)
  (ifB (t55 == 4)
  (opTy Pr (Instr.buildSlice 161 5 #[(0, (.iface 191 (.agg ⟨[(.pointer (some ((t3.add 3).add 0)))]⟩))), (1, (.iface 191 (.agg ⟨[(.pointer (some ((t4.add 3).add 1)))]⟩))), (2, (.iface 191 (.agg ⟨[(.pointer (some (t13.add 5)))]⟩))), (3, (.iface 191 (.agg ⟨[(.pointer (some (t14.add 6)))]⟩))), (4, (.iface 193 (.agg ⟨[(.pointer m)]⟩)))]) Sl.val (fun t67 w68 =>
  kp b50 w64 w68 <|
  kp b48 w64 w68 <|
  kp b7 w64 w68 <|
  kp b5 w64 w68 <|
  K (t67, true) w68) w64)
  (ifB (t55 == 5)
  (opTy Pr (Instr.buildSlice 161 3 #[(0, (.iface 191 (.agg ⟨[(.pointer (some ((t3.add 3).add 0)))]⟩))), (1, (.iface 191 (.agg ⟨[(.pointer (some ((t4.add 3).add 1)))]⟩))), (2, (.iface 194 (.agg ⟨[(.pointer m)]⟩)))]) Sl.val (fun t69 w70 =>
  kp b50 w64 w70 <|
  kp b48 w64 w70 <|
  kp b7 w64 w70 <|
  kp b5 w64 w70 <|
  K (t69, true) w70) w64)
  (ifB (t55 == 7)
  (opTy Pr (Instr.buildSlice 161 2 #[(0, (.iface 191 (.agg ⟨[(.pointer (some ((t3.add 3).add 0)))]⟩))), (1, (.iface 191 (.agg ⟨[(.pointer (some ((t4.add 3).add 1)))]⟩)))]) Sl.val (fun t71 w72 =>
  kp b50 w64 w72 <|
  kp b48 w64 w72 <|
  kp b7 w64 w72 <|
  kp b5 w64 w72 <|
  K (t71, true) w72) w64)
  (ifB (t55 == 8)
  (opTy Pr (Instr.buildSlice 161 3 #[(0, (.iface 191 (.agg ⟨[(.pointer (some ((t3.add 3).add 0)))]⟩))), (1, (.iface 191 (.agg ⟨[(.pointer (some ((t4.add 3).add 1)))]⟩))), (2, (.iface 191 (.agg ⟨[(.pointer (some (t14.add 6)))]⟩)))]) Sl.val (fun t73 w74 =>
  kp b50 w64 w74 <|
  kp b48 w64 w74 <|
  kp b7 w64 w74 <|
  kp b5 w64 w74 <|
  K (t73, true) w74) w64)
  (ifB (t55 == 9)
  (opTy Pr (Instr.buildSlice 161 1 #[(0, (.iface 191 (.agg ⟨[(.pointer (some (t13.add 5)))]⟩)))]) Sl.val (fun t75 w76 =>
  kp b50 w64 w76 <|
  kp b48 w64 w76 <|
  kp b7 w64 w76 <|
  kp b5 w64 w76 <|
  K (t75, true) w76) w64)
  (ifB (t55 == 10)
  (opTy Pr (Instr.buildSlice 161 2 #[(0, (.iface 191 (.agg ⟨[(.pointer (some (t14.add 6)))]⟩))), (1, (.iface 193 (.agg ⟨[(.pointer m)]⟩)))]) Sl.val (fun t77 w78 =>
  kp b50 w64 w78 <|
  kp b48 w64 w78 <|
  kp b7 w64 w78 <|
  kp b5 w64 w78 <|
  K (t77, true) w78) w64)
  (ifB (t55 == 11)
  (opTy Pr (Instr.buildSlice 161 1 #[(0, (.iface 195 (.agg ⟨[(.pointer m)]⟩)))]) Sl.val (fun t79 w80 =>
  kp b50 w64 w80 <|
  kp b48 w64 w80 <|
  kp b7 w64 w80 <|
  kp b5 w64 w80 <|
  K (t79, true) w80) w64)
  (K (Sl.nil, false) w64)))))))))))) w53) w53)) w52)) w51)) w49)) w11)))) w10)) w9)) w8)) w6)) w1) ∧
  (newV (fun b81 w82 =>
  (S2 w82) ∧
  (newV (fun b83 w84 =>
  (S2 w84) ∧
  (wrM b83 (fun w85 =>
  (S2 w85) ∧
  (wrM b81 (fun w86 =>
  (S2 w86) ∧
  (heldM (fun S88 w87 =>
  opH Pr S88 (nilSem (.pointer m)) pav (fun t89 =>
  opH Pr S88 (nilSem (.pointer m)) pav (fun t90 =>
  (newV (fun b91 w92 =>
  (S88 w92) ∧
  (newV (fun b93 w94 =>
  (S88 w94) ∧
  (wrM b91 (fun w95 =>
  (S88 w95) ∧
  (wrM b93 (fun w96 =>
  (S88 w96) ∧
  (opRd Pr (nilSem (.pointer m)) pav (fun t97 =>
  opRd Pr (Instr.loadAt 3 (.pointer (some (t97.add 0)))) (Value.int .i64) (fun t98 =>
  join1 (fun (j99 : Bool → World → Prop) =>
  ifB (t98 == 1)
  (j99 (t98 == 1) w96)
  (j99 (t98 == 2) w96))
  (fun t100 w101 =>
  ifB t100
  (opRd Pr (nilSem (.pointer m)) pav (fun t102 =>
  opTy Pr (Instr.buildSlice 161 1 #[(0, (.iface 191 (.agg ⟨[(.pointer (some (t102.add 7)))]⟩)))]) Sl.val (fun t103 w104 =>
  kp b93 w101 w104 <|
  kp b91 w101 w104 <|
  kp b83 w101 w104 <|
  kp b81 w101 w104 <|
  K (t103, true) w104) w101) w101)
  (join1 (fun (j105 : Bool → World → Prop) =>
  ifB (t98 == 3)
  (j105 (t98 == 3) w101)
  (j105 (t98 == 6) w101))
  (fun t106 w107 =>
  ifB t106
  (opTy Pr (Instr.buildSlice 161 3 #[(0, (.iface 191 (.agg ⟨[(.pointer (some ((t3.add 3).add 0)))]⟩))), (1, (.iface 191 (.agg ⟨[(.pointer (some ((t4.add 3).add 1)))]⟩))), (2, (.iface 191 (.agg ⟨[(.pointer (some (t89.add 5)))]⟩)))]) Sl.val (fun t108 w109 =>
  kp b93 w107 w109 <|
  kp b91 w107 w109 <|
  kp b83 w107 w109 <|
  kp b81 w107 w109 <|
  K (t108, true) w109) w107)
  (ifB (t98 == 4)
  (opTy Pr (Instr.buildSlice 161 5 #[(0, (.iface 191 (.agg ⟨[(.pointer (some ((t3.add 3).add 0)))]⟩))), (1, (.iface 191 (.agg ⟨[(.pointer (some ((t4.add 3).add 1)))]⟩))), (2, (.iface 191 (.agg ⟨[(.pointer (some (t89.add 5)))]⟩))), (3, (.iface 191 (.agg ⟨[(.pointer (some (t90.add 6)))]⟩))), (4, (.iface 193 (.agg ⟨[(.pointer m)]⟩)))]) Sl.val (fun t110 w111 =>
  kp b93 w107 w111 <|
  kp b91 w107 w111 <|
  kp b83 w107 w111 <|
  kp b81 w107 w111 <|
  K (t110, true) w111) w107)
  (ifB (t98 == 5)
  (opTy Pr (Instr.buildSlice 161 3 #[(0, (.iface 191 (.agg ⟨[(.pointer (some ((t3.add 3).add 0)))]⟩))), (1, (.iface 191 (.agg ⟨[(.pointer (some ((t4.add 3).add 1)))]⟩))), (2, (.iface 194 (.agg ⟨[(.pointer m)]⟩)))]) Sl.val (fun t112 w113 =>
  kp b93 w107 w113 <|
  kp b91 w107 w113 <|
  kp b83 w107 w113 <|
  kp b81 w107 w113 <|
  K (t112, true) w113) w107)
  (ifB (t98 == 7)
  (opTy Pr (Instr.buildSlice 161 2 #[(0, (.iface 191 (.agg ⟨[(.pointer (some ((t3.add 3).add 0)))]⟩))), (1, (.iface 191 (.agg ⟨[(.pointer (some ((t4.add 3).add 1)))]⟩)))]) Sl.val (fun t114 w115 =>
  kp b93 w107 w115 <|
  kp b91 w107 w115 <|
  kp b83 w107 w115 <|
  kp b81 w107 w115 <|
  K (t114, true) w115) w107)
  (ifB (t98 == 8)
  (opTy Pr (Instr.buildSlice 161 3 #[(0, (.iface 191 (.agg ⟨[(.pointer (some ((t3.add 3).add 0)))]⟩))), (1, (.iface 191 (.agg ⟨[(.pointer (some ((t4.add 3).add 1)))]⟩))), (2, (.iface 191 (.agg ⟨[(.pointer (some (t90.add 6)))]⟩)))]) Sl.val (fun t116 w117 =>
  kp b93 w107 w117 <|
  kp b91 w107 w117 <|
  kp b83 w107 w117 <|
  kp b81 w107 w117 <|
  K (t116, true) w117) w107)
  (ifB (t98 == 9)
  (opTy Pr (Instr.buildSlice 161 1 #[(0, (.iface 191 (.agg ⟨[(.pointer (some (t89.add 5)))]⟩)))]) Sl.val (fun t118 w119 =>
  kp b93 w107 w119 <|
  kp b91 w107 w119 <|
  kp b83 w107 w119 <|
  kp b81 w107 w119 <|
  K (t118, true) w119) w107)
  (ifB (t98 == 10)
  (opTy Pr (Instr.buildSlice 161 2 #[(0, (.iface 191 (.agg ⟨[(.pointer (some (t90.add 6)))]⟩))), (1, (.iface 193 (.agg ⟨[(.pointer m)]⟩)))]) Sl.val (fun t120 w121 =>
  kp b93 w107 w121 <|
  kp b91 w107 w121 <|
  kp b83 w107 w121 <|
  kp b81 w107 w121 <|
  K (t120, true) w121) w107)
  (ifB (t98 == 11)
  (opTy Pr (Instr.buildSlice 161 1 #[(0, (.iface 195 (.agg ⟨[(.pointer m)]⟩)))]) Sl.val (fun t122 w123 =>
  kp b93 w107 w123 <|
  kp b91 w107 w123 <|
  kp b83 w107 w123 <|
  kp b81 w107 w123 <|
  K (t122, true) w123) w107)
  (K (Sl.nil, false) w107)))))))))))) w96) w96)) w95)) w94)) w92)) w87) ∧
  (newV (fun b124 w125 =>
  (S88 w125) ∧
  (newV (fun b126 w127 =>
  (S88 w127) ∧
  (wrM b126 (fun w128 =>
  (S88 w128) ∧
  (wrM b124 (fun w129 =>
  (S88 w129) ∧
  (opRd Pr (nilSem (.pointer m)) pav (fun t130 =>
  opRd Pr (Instr.loadAt 3 (.pointer (some (t130.add 0)))) (Value.int .i64) (fun t131 =>
  join1 (fun (j132 : Bool → World → Prop) =>
  ifB (t131 == 1)
  (j132 (t131 == 1) w129)
  (j132 (t131 == 2) w129))
  (fun t133 w134 =>
  ifB t133
  (opRd Pr (nilSem (.pointer m)) pav (fun t135 =>
  opTy Pr (Instr.buildSlice 161 1 #[(0, (.iface 191 (.agg ⟨[(.pointer (some (t135.add 7)))]⟩)))]) Sl.val (fun t136 w137 =>
  kp b126 w134 w137 <|
  kp b124 w134 w137 <|
  kp b83 w134 w137 <|
  kp b81 w134 w137 <|
  K (t136, true) w137) w134) w134)
  (join1 (fun (j138 : Bool → World → Prop) =>
  ifB (t131 == 3)
  (j138 (t131 == 3) w134)
  (j138 (t131 == 6) w134))
  (fun t139 w140 =>
  ifB t139
  (opTy Pr (Instr.buildSlice 161 3 #[(0, (.iface 191 (.agg ⟨[(.pointer (some ((t3.add 3).add 0)))]⟩))), (1, (.iface 191 (.agg ⟨[(.pointer (some ((t4.add 3).add 1)))]⟩))), (2, (.iface 191 (.agg ⟨[(.pointer (some (t89.add 5)))]⟩)))]) Sl.val (fun t141 w142 =>
  kp b126 w140 w142 <|
  kp b124 w140 w142 <|
  kp b83 w140 w142 <|
  kp b81 w140 w142 <|
  K (t141, true) w142) w140)
  (ifB (t131 == 4)
  (opTy Pr (Instr.buildSlice 161 5 #[(0, (.iface 191 (.agg ⟨[(.pointer (some ((t3.add 3).add 0)))]⟩))), (1, (.iface 191 (.agg ⟨[(.pointer (some ((t4.add 3).add 1)))]⟩))), (2, (.iface 191 (.agg ⟨[(.pointer (some (t89.add 5)))]⟩))), (3, (.iface 191 (.agg ⟨[(.pointer (some (t90.add 6)))]⟩))), (4, (.iface 193 (.agg ⟨[(.pointer m)]⟩)))]) Sl.val (fun t143 w144 =>
  kp b126 w140 w144 <|
  kp b124 w140 w144 <|
  kp b83 w140 w144 <|
  kp b81 w140 w144 <|
  K (t143, true) w144) w140)
  (ifB (t131 == 5)
  (opTy Pr (Instr.buildSlice 161 3 #[(0, (.iface 191 (.agg ⟨[(.pointer (some ((t3.add 3).add 0)))]⟩))), (1, (.iface 191 (.agg ⟨[(.pointer (some ((t4.add 3).add 1)))]⟩))), (2, (.iface 194 (.agg ⟨[(.pointer m)]⟩)))]) Sl.val (fun t145 w146 =>
  kp b126 w140 w146 <|
  kp b124 w140 w146 <|
  kp b83 w140 w146 <|
  kp b81 w140 w146 <|
  K (t145, true) w146) w140)
  (ifB (t131 == 7)
  (opTy Pr (Instr.buildSlice 161 2 #[(0, (.iface 191 (.agg ⟨[(.pointer (some ((t3.add 3).add 0)))]⟩))), (1, (.iface 191 (.agg ⟨[(.pointer (some ((t4.add 3).add 1)))]⟩)))]) Sl.val (fun t147 w148 =>
  kp b126 w140 w148 <|
  kp b124 w140 w148 <|
  kp b83 w140 w148 <|
  kp b81 w140 w148 <|
  K (t147, true) w148) w140)
  (ifB (t131 == 8)
  (opTy Pr (Instr.buildSlice 161 3 #[(0, (.iface 191 (.agg ⟨[(.pointer (some ((t3.add 3).add 0)))]⟩))), (1, (.iface 191 (.agg ⟨[(.pointer (some ((t4.add 3).add 1)))]⟩))), (2, (.iface 191 (.agg ⟨[(.pointer (some (t90.add 6)))]⟩)))]) Sl.val (fun t149 w150 =>
  kp b126 w140 w150 <|
  kp b124 w140 w150 <|
  kp b83 w140 w150 <|
  kp b81 w140 w150 <|
  K (t149, true) w150) w140)
  (ifB (t131 == 9)
  (opTy Pr (Instr.buildSlice 161 1 #[(0, (.iface 191 (.agg ⟨[(.pointer (some (t89.add 5)))]⟩)))]) Sl.val (fun t151 w152 =>
  kp b126 w140 w152 <|
  kp b124 w140 w152 <|
  kp b83 w140 w152 <|
  kp b81 w140 w152 <|
  K (t151, true) w152) w140)
  (ifB (t131 == 10)
  (opTy Pr (Instr.buildSlice 161 2 #[(0, (.iface 191 (.agg ⟨[(.pointer (some (t90.add 6)))]⟩))), (1, (.iface 193 (.agg ⟨[(.pointer m)]⟩)))]) Sl.val (fun t153 w154 =>
  kp b126 w140 w154 <|
  kp b124 w140 w154 <|
  kp b83 w140 w154 <|
  kp b81 w140 w154 <|
  K (t153, true) w154) w140)
  (ifB (t131 == 11)
  (opTy Pr (Instr.buildSlice 161 1 #[(0, (.iface 195 (.agg ⟨[(.pointer m)]⟩)))]) Sl.val (fun t155 w156 =>
  kp b126 w140 w156 <|
  kp b124 w140 w156 <|
  kp b83 w140 w156 <|
  kp b81 w140 w156 <|
  K (t155, true) w156) w140)
  (K (Sl.nil, false) w140)))))))))))) w129) w129)) w128)) w127)) w125)) w87)))) w86)) w85)) w84)) w82)) w1)))) w
def msgtwo_pieces_ann : Ann := (.s .d (.s (.h (.take 0 (.take 1 (.take 2 (.take 3 (.take 4 (.take 5 (.take 6 (.take 7 (.take 8 (.take 9 (.two 10 (.one 11 (.one 12 (.one 13 .done))) 11 (.one 10 (.one 12 (.one 13 .done)))))))))))))) [(1, .rd rPA), (6, .rd rPA), (10, .nl 4), (11, .nl 5), (12, .ls 4), (13, .ls 5)]) (.s (.h (.take 0 (.take 1 (.take 2 (.take 3 (.take 4 (.take 5 (.take 6 (.take 7 (.two 8 (.one 9 (.one 10 (.one 11 .done))) 9 (.one 8 (.one 10 (.one 11 .done)))))))))))) [(1, .rd rPA), (5, .rd rPA), (8, .nl 6), (9, .nl 7), (10, .ls 6), (11, .ls 7)]) (.s (.s (.r [(1, .rd rPA), (3, .rd (rI .i64))]) (.b (.sj [(.s 30, rB)] (.s .d (.c .d .d)) (.c (.s (.r [(1, .rd rPA), (5, .ty rSl)]) .d) (.sj [(.s 39, rB)] (.s .d (.c .d .d)) (.c (.s (.r [(6, .ty rSl)]) .d) (.s .d (.c (.s (.r [(11, .ty rSl)]) .d) (.s .d (.c (.s (.r [(7, .ty rSl)]) .d) (.s .d (.c (.s (.r [(4, .ty rSl)]) .d) (.s .d (.c (.s (.r [(6, .ty rSl)]) .d) (.s .d (.c (.s (.r [(2, .ty rSl)]) .d) (.s .d (.c (.s (.r [(5, .ty rSl)]) .d) (.s .d (.c (.s (.r [(3, .ty rSl)]) .d) .d)))))))))))))))))))) (.s .d .d)))))
theorem msgtwo_pieces_calls {m : Option Addr} {K : (Sl × Bool) → World → Prop} {w : World} (h : msgtwo_pieces m K w) : callV Pr (tval2 Sl.val Value.bool) 129 #[(.pointer m)] w K :=
  calls_of Pr_plain Pr_mixed Pr_func129 msgtwo_pieces_ann (rT2 rSl rB) (args := [(.pointer m)]) (by kernel_rfl) h

/- changeover/msgtwo.put -/
def msgtwo_put (w_ : Option Addr) (x : Value) (K : Unit → World → Prop) (w : World) : Prop :=
  opRd Pr (Instr.typeAssert x 20 191 true) (tval2 MsgtwoNumber.val Value.bool) (fun t1 =>
  ifB t1.2
  (newV (fun b2 w3 =>
  wrM b2 (fun w4 =>
  opRd Pr (nilSem (.pointer t1.1.at_)) pav (fun t5 =>
  opRd Pr (Instr.loadAt 3 (.pointer (some t5))) (Value.int .i64) (fun t6 =>
  callV Pr uval 70 #[(.pointer w_), (.int .i64 t6)] w4 fun t7 w8 =>
  kp b2 w4 w8 <|
  K () w8) w4) w4) w3) w)
  (opRd Pr (Instr.typeAssert x 20 193 true) (tval2 MsgtwoEntries.val Value.bool) (fun t9 =>
  ifB t9.2
  (newV (fun b10 w11 =>
  wrM b10 (fun w12 =>
  opRd Pr (nilSem (.pointer t9.1.m)) pav (fun t13 =>
  opRd Pr (Instr.loadAt 42 (.pointer (some (t13.add 8)))) Sl.val (fun t14 =>
  callV Pr uval 128 #[(.pointer w_), (.int .i64 2), t14.val] w12 fun t15 w16 =>
  kp b10 w12 w16 <|
  K () w16) w12) w12) w11) w)
  (opRd Pr (Instr.typeAssert x 20 194 true) (tval2 MsgtwoSingle.val Value.bool) (fun t17 =>
  ifB t17.2
  (newV (fun b18 w19 =>
  wrM b18 (fun w20 =>
  opRd Pr (nilSem (.pointer t17.1.m)) pav (fun t21 =>
  opRd Pr (Instr.loadAt 42 (.pointer (some (t21.add 8)))) Sl.val (fun t22 =>
  opRd Pr (Instr.indexAt 42 t22.val (.int .i64 0)) pav (fun t23 =>
  opRd Pr (Instr.loadAt 3 (.pointer (some (t23.add 0)))) (Value.int .i64) (fun t24 =>
  callV Pr uval 70 #[(.pointer w_), (.int .i64 t24)] w20 fun t25 w26 =>
  kp b18 w20 w26 <|
  opRd Pr (nilSem (.pointer t17.1.m)) pav (fun t27 =>
  opRd Pr (Instr.loadAt 42 (.pointer (some (t27.add 8)))) Sl.val (fun t28 =>
  opRd Pr (Instr.indexAt 42 t28.val (.int .i64 0)) pav (fun t29 =>
  opRd Pr (Instr.loadAt 104 (.pointer (some (t29.add 3)))) ApiCmd.val (fun t30 =>
  callV Pr uval 165 #[(.pointer w_), (.int .i64 2), (.agg ⟨t30.cs⟩)] w26 fun t31 w32 =>
  kp b18 w26 w32 <|
  K () w32) w26) w26) w26) w26) w20) w20) w20) w20) w19) w)
  (opRd Pr (Instr.typeAssert x 20 195 true) (tval2 MsgtwoImage.val Value.bool) (fun t33 =>
  ifB t33.2
  (newV (fun b34 w35 =>
  wrM b34 (fun w36 =>
  opRd Pr (nilSem (.pointer t33.1.m)) pav (fun t37 =>
  opRd Pr (Instr.loadAt 22 (.pointer (some (t37.add 9)))) Sl.val (fun t38 =>
  callV Pr uval 71 #[(.pointer w_), t38.val] w36 fun t39 w40 =>
  kp b34 w36 w40 <|
  K () w40) w36) w36) w35) w)
  (K () w)) w)) w)) w)) w
def msgtwo_put_ann : Ann := (.s .d (.b (.s (.r [(0, .rd (rT2 rMsgtwoNumber rB))]) (.c (.s (.r [(0, .nl 4), (1, .ls 4)]) (.r [(3, .rd rPA), (4, .rd (rI .i64)), (5, .call rU)])) (.s (.r [(0, .rd (rT2 rMsgtwoEntries rB))]) (.c (.s (.r [(0, .nl 5), (1, .ls 5)]) (.r [(3, .rd rPA), (5, .rd rSl), (6, .call rU)])) (.s (.r [(0, .rd (rT2 rMsgtwoSingle rB))]) (.c (.s (.r [(0, .nl 6), (1, .ls 6)]) (.s (.r [(3, .rd rPA), (5, .rd rSl), (6, .rd rPA), (8, .rd (rI .i64)), (9, .call rU)]) (.r [(3, .rd rPA), (5, .rd rSl), (6, .rd rPA), (8, .rd rApiCmd), (9, .call rU)]))) (.s (.r [(0, .rd (rT2 rMsgtwoImage rB))]) (.c (.s (.r [(0, .nl 7), (1, .ls 7)]) (.r [(3, .rd rPA), (5, .rd rSl), (6, .call rU)])) .d))))))))))
theorem msgtwo_put_calls {w_ : Option Addr} {x : Value} {K : Unit → World → Prop} {w : World} (h : msgtwo_put w_ x K w) : callV Pr uval 130 #[(.pointer w_), x] w K :=
  calls_of Pr_plain Pr_mixed Pr_func130 msgtwo_put_ann rU (args := [(.pointer w_), x]) (by kernel_rfl) h

/- slices.Grow[[]byte,byte] -/
def slices_Grow_byte_byte (s : Sl) (n : Int) (K : Sl → World → Prop) (w : World) : Prop :=
  ifB (decide (n < 0))
  (False)
  (ifB (decide ((i64 (n - (i64 ((s.cap : Int) - (s.len : Int))))) > 0))
  (opRd Pr (Instr.sliceAt 22 s.val none (some (.int .i64 (s.cap : Int))) none) Sl.val (fun t1 =>
  opTy Pr (Builtin.append_ #[22, 3] 22 #[t1.val, (.int .i64 (i64 (n - (i64 ((s.cap : Int) - (s.len : Int))))))]) Sl.val (fun t2 w3 =>
  opRd Pr (Instr.sliceAt 22 t2.val none (some (.int .i64 (s.len : Int))) none) Sl.val (fun s4 =>
  K s4 w3) w3) w) w)
  (K s w))
def slices_Grow_byte_byte_ann : Ann := (.s .d (.s (.s .d (.c .d .d)) (.s (.s .d (.s .d (.c (.r [(3, .rd rSl), (5, .ty rSl), (8, .rd rSl)]) .d))) (.s .d .d))))
theorem slices_Grow_byte_byte_calls {s : Sl} {n : Int} {K : Sl → World → Prop} {w : World} (h : slices_Grow_byte_byte s n K w) : callV Pr Sl.val 131 #[s.val, (.int .i64 n)] w K :=
  calls_of Pr_plain Pr_mixed Pr_func131 slices_Grow_byte_byte_ann rSl (args := [s.val, (.int .i64 n)]) (by kernel_rfl) h

/- changeover/crc.Sum -/
def crc_Sum (b : Sl) (K : Int → World → Prop) (w : World) : Prop :=
  callV Pr (Value.int .u32) 166 #[(.int .u32 0), b.val] w fun t1 w2 =>
  K t1 w2
def crc_Sum_ann : Ann := (.s .d (.s (.r [(1, .call (rI .u32))]) .d))
theorem crc_Sum_calls {b : Sl} {K : Int → World → Prop} {w : World} (h : crc_Sum b K w) : callV Pr (Value.int .u32) 132 #[b.val] w K :=
  calls_of Pr_plain Pr_mixed Pr_func132 crc_Sum_ann (rI .u32) (args := [b.val]) (by kernel_rfl) h

/- changeover/msgone.read -/
def msgone_read (r : Option Addr) (K : ApiMsg → World → Prop) (w : World) : Prop :=
  newV (fun b1 w2 =>
  opTy Pr (Instr.alloc 44 true (.tuple #[])) pav (fun m3 w4 =>
  kp b1 w2 w4 <|
  loop1 (0 : Int) (fun t5 k6 w7 =>
  ifB (decide (t5 < 7))
  (opRd Pr (Instr.index 197 (.agg ⟨[(.pointer (some (m3.add 0))), (.pointer (some (m3.add 1))), (.pointer (some (m3.add 2))), (.pointer (some ((m3.add 3).add 0))), (.pointer (some ((m3.add 3).add 1))), (.pointer (some (m3.add 5))), (.pointer (some (m3.add 6)))]⟩) (.int .i64 t5)) Value.pointer (fun to8 =>
  callV Pr (Value.int .i64) 37 #[(.pointer r), (.int .i64 9223372036854775807)] w7 fun t9 w10 =>
  kp b1 w7 w10 <|
  opRd Pr (nilSem (.pointer to8)) pav (fun t11 =>
  opUn Pr (Instr.storeAt 3 (.pointer (some t11)) (.int .i64 t9)) (fun w12 =>
  kp b1 w10 w12 <|
  k6 (i64 (t5 + 1)) w12) w10) w10) w7)
  (callV Pr Sl.val 167 #[(.pointer r), (.int .i64 1)] w7 fun t13 w14 =>
  kp b1 w7 w14 <|
  opUn Pr (Instr.storeAt 42 (.pointer (some (m3.add 8))) t13.val) (fun w15 =>
  kp b1 w14 w15 <|
  callV Pr Sl.val 78 #[(.pointer r), (.int .i64 32768)] w15 fun t16 w17 =>
  kp b1 w15 w17 <|
  opUn Pr (Instr.storeAt 22 (.pointer (some (m3.add 9))) t16.val) (fun w18 =>
  kp b1 w17 w18 <|
  opRd Pr (Instr.loadAt 3 (.pointer (some (m3.add 0)))) (Value.int .i64) (fun t19 =>
  callV Pr (Value.int .i64) 103 #[(.int .i64 t19)] w18 fun t20 w21 =>
  kp b1 w18 w21 <|
  ifB ((bAnd .i64 t20 8) != 0)
  (opUn Pr (Instr.storeAt 3 (.pointer (some (m3.add 7))) (.int .i64 1)) (fun w22 =>
  kp b1 w21 w22 <|
  opRd Pr (Instr.loadAt 44 (.pointer (some m3))) ApiMsg.val (fun t23 =>
  wrM b1 (fun w24 =>
  K t23 w24) w22) w22) w21)
  (opRd Pr (Instr.loadAt 44 (.pointer (some m3))) ApiMsg.val (fun t25 =>
  wrM b1 (fun w26 =>
  K t25 w26) w21) w21)) w18) w17) w14)) w4) w2) w
def msgone_read_ann : Ann := (.s (.r [(0, .nl 2)]) (.s (.r [(0, .ty rPA)]) (.s (.s .d (.b (.l [(.s 16, (rI .i64))] (.s .d (.s (.c .d .d) (.s (.b (.s (.r [(0, .rd rP)]) (.r [(2, .call (rI .i64)), (3, .rd rPA), (4, .un)]))) .d)))))) (.s (.r [(1, .call rSl), (3, .un)]) (.s (.r [(1, .call rSl), (3, .un)]) (.s (.s (.r [(1, .rd (rI .i64)), (2, .call (rI .i64))]) (.c (.r [(1, .un)]) .d)) (.s (.r [(0, .rd rApiMsg), (1, .ls 2)]) .d)))))))
theorem msgone_read_calls {r : Option Addr} {K : ApiMsg → World → Prop} {w : World} (h : msgone_read r K w) : callV Pr ApiMsg.val 133 #[(.pointer r)] w K :=
  calls_of Pr_plain Pr_mixed Pr_func133 msgone_read_ann rApiMsg (args := [(.pointer r)]) (by kernel_rfl) h

/- changeover/msgtwo.read -/
def msgtwo_read (r : Option Addr) (K : (ApiMsg × Bool) → World → Prop) (w : World) : Prop :=
  newV (fun b1 w2 =>
  callV Pr (Value.int .i64) 37 #[(.pointer r), (.int .i64 9223372036854775807)] w2 fun t3 w4 =>
  kp b1 w2 w4 <|
  opTy Pr (Instr.box 44 (.agg ⟨[(.int .i64 t3), (.int .i64 0), (.int .i64 0), (.int .i64 0), (.int .i64 0), (.int .i64 0), (.int .i64 0), (.int .i64 0), Sl.nil.val, Sl.nil.val]⟩)) pav (fun m5 w6 =>
  kp b1 w4 w6 <|
  callV Pr (Value.int .i64) 37 #[(.pointer r), (.int .i64 9223372036854775807)] w6 fun t7 w8 =>
  kp b1 w6 w8 <|
  opRd Pr (nilSem (.pointer (some m5))) pav (fun t9 =>
  opUn Pr (Instr.storeAt 3 (.pointer (some (t9.add 1))) (.int .i64 t7)) (fun w10 =>
  kp b1 w8 w10 <|
  callV Pr (Value.int .i64) 37 #[(.pointer r), (.int .i64 9223372036854775807)] w10 fun t11 w12 =>
  kp b1 w10 w12 <|
  opRd Pr (nilSem (.pointer (some m5))) pav (fun t13 =>
  opUn Pr (Instr.storeAt 3 (.pointer (some (t13.add 2))) (.int .i64 t11)) (fun w14 =>
  kp b1 w12 w14 <|
  callV Pr (tval2 Sl.val Value.bool) 129 #[(.pointer (some m5))] w14 fun t15 w16 =>
  kp b1 w14 w16 <|
  loop1 (0 : Int) (fun t17 k18 w19 =>
  ifB (decide (t17 < (t15.1.len : Int)))
  (opRd Pr (Instr.indexAt 161 t15.1.val (.int .i64 t17)) pav (fun t20 =>
  opRd Pr (Instr.loadAt 20 (.pointer (some t20))) vval (fun x21 =>
  callV Pr uval 168 #[(.pointer r), x21] w19 fun t22 w23 =>
  kp b1 w19 w23 <|
  k18 (i64 (t17 + 1)) w23) w19) w19)
  (opRd Pr (nilSem (.pointer (some m5))) pav (fun t24 =>
  opRd Pr (Instr.loadAt 44 (.pointer (some t24))) ApiMsg.val (fun t25 =>
  wrM b1 (fun w26 =>
  K (t25, t15.2) w26) w19) w19) w19)) w16) w12) w12) w8) w8) w4) w
def msgtwo_read_ann : Ann := (.s (.r [(0, .nl 2)]) (.s (.r [(1, .call (rI .i64)), (3, .ty rPA)]) (.s (.r [(2, .call (rI .i64)), (3, .rd rPA), (5, .un)]) (.s (.r [(2, .call (rI .i64)), (3, .rd rPA), (5, .un)]) (.s (.r [(1, .call (rT2 rSl rB))]) (.s (.s .d (.b (.l [(.s 30, (rI .i64))] (.s .d (.s (.c .d .d) (.s (.b (.s (.r [(0, .rd rPA), (1, .rd rV)]) (.r [(2, .call rU)]))) .d)))))) (.s (.r [(1, .rd rPA), (2, .rd rApiMsg), (4, .ls 2)]) .d)))))))
theorem msgtwo_read_calls {r : Option Addr} {K : (ApiMsg × Bool) → World → Prop} {w : World} (h : msgtwo_read r K w) : callV Pr (tval2 ApiMsg.val Value.bool) 134 #[(.pointer r)] w K :=
  calls_of Pr_plain Pr_mixed Pr_func134 msgtwo_read_ann (rT2 rApiMsg rB) (args := [(.pointer r)]) (by kernel_rfl) h

/- changeover/changeoverref08.Owned -/
def ref08_Owned (kind : Int) (K : Bool → World → Prop) (w : World) : Prop :=
  ifB (decide (kind ≥ 2))
  (K (decide (kind ≤ 5)) w)
  (K false w)
def ref08_Owned_ann : Ann := (.s .d (.s .d .d))
theorem ref08_Owned_calls {kind : Int} {K : Bool → World → Prop} {w : World} (h : ref08_Owned kind K w) : callV Pr Value.bool 135 #[(.int .i64 kind)] w K :=
  calls_of Pr_plain Pr_mixed Pr_func135 ref08_Owned_ann rB (args := [(.int .i64 kind)]) (by kernel_rfl) h

/- changeover/changeoverref08.member -/
def ref08_member (kind : Int) (K : Bool → World → Prop) (w : World) : Prop :=
  ifB (kind == 7)
  (K true w)
  (K (kind == 8) w)
def ref08_member_ann : Ann := (.s .d (.s .d .d))
theorem ref08_member_calls {kind : Int} {K : Bool → World → Prop} {w : World} (h : ref08_member kind K w) : callV Pr Value.bool 136 #[(.int .i64 kind)] w K :=
  calls_of Pr_plain Pr_mixed Pr_func136 ref08_member_ann rB (args := [(.int .i64 kind)]) (by kernel_rfl) h

/- changeover/msgone.ranges$1 -/
def msgone_ranges_1 (n : Int) (K : Bool → World → Prop) (w : World) : Prop :=
  ifB (decide (n ≥ 1))
  (K (decide (n ≤ 9)) w)
  (K false w)
def msgone_ranges_1_ann : Ann := (.s .d (.s .d .d))
theorem msgone_ranges_1_calls {n : Int} {K : Bool → World → Prop} {w : World} (h : msgone_ranges_1 n K w) : callV Pr Value.bool 137 #[(.int .i64 n)] w K :=
  calls_of Pr_plain Pr_mixed Pr_func137 msgone_ranges_1_ann rB (args := [(.int .i64 n)]) (by kernel_rfl) h

/- changeover/ballot.May -/
def ballot_May (b : ApiBallot) (K : Bool → World → Prop) (w : World) : Prop :=
  newV (fun b1 w2 =>
  opRd Pr (binSem .eql 41 (.tmp 3) (.tmp 4) (.agg ⟨[(.int .i64 b.Round), (.int .i64 b.Node)]⟩) (.agg ⟨[(.int .i64 0), (.int .i64 0)]⟩)) Value.bool (fun t3 =>
  ifB t3
  (K true w2)
  (ifB (decide (b.Round ≥ 1))
  (ifB (decide (b.Round ≤ 4294967296))
  (callV Pr Value.bool 169 #[(.int .i64 b.Node)] w2 fun t4 w5 =>
  kp b1 w2 w5 <|
  K t4 w5)
  (K false w2))
  (K false w2))) w2) w
def ballot_May_ann : Ann := (.s (.r [(0, .nl 1)]) (.s (.r [(2, .rd rB), (15, .call rB)]) .d))
theorem ballot_May_calls {b : ApiBallot} {K : Bool → World → Prop} {w : World} (h : ballot_May b K w) : callV Pr Value.bool 138 #[(.agg ⟨b.cs⟩)] w K :=
  calls_of Pr_plain Pr_mixed Pr_func138 ballot_May_ann rB (args := [(.agg ⟨b.cs⟩)]) (by kernel_rfl) h

/- changeover/entry.one -/
def entry_one (e : ApiEntry) (K : Int → World → Prop) (w : World) : Prop :=
  newV (fun b1 w2 =>
  ifB (decide (e.Index < 1))
  (K 6 w2)
  (ifB (decide (e.Index > 4294967296))
  (K 6 w2)
  (callV Pr Value.bool 138 #[(.agg ⟨[(.int .i64 e.Ballot.Round), (.int .i64 e.Ballot.Node)]⟩)] w2 fun t3 w4 =>
  kp b1 w2 w4 <|
  ifB (!t3)
  (K 6 w4)
  (callV Pr (Value.int .i64) 170 #[(.agg ⟨[(.int .i64 e.Cmd.Kind), (.int .i64 e.Cmd.Client), (.int .i64 e.Cmd.Seq), (sval e.Cmd.Key), (sval e.Cmd.Val), (sval e.Cmd.Old), (.int .i64 e.Cmd.Node)]⟩)] w4 fun t5 w6 =>
  kp b1 w4 w6 <|
  K t5 w6)))) w
def entry_one_ann : Ann := (.s (.r [(0, .nl 1)]) (.s (.s (.r [(11, .call rB)]) (.c (.s .d .d) .d)) (.s (.r [(2, .call (rI .i64))]) .d)))
theorem entry_one_calls {e : ApiEntry} {K : Int → World → Prop} {w : World} (h : entry_one e K w) : callV Pr (Value.int .i64) 139 #[(.agg ⟨e.cs⟩)] w K :=
  calls_of Pr_plain Pr_mixed Pr_func139 entry_one_ann (rI .i64) (args := [(.agg ⟨e.cs⟩)]) (by kernel_rfl) h

/- changeover/changeoverref05.Key -/
def ref05_Key (s : List UInt8) (K : Bool → World → Prop) (w : World) : Prop :=
  ifB (decide (((s : List UInt8).length : Int) < 1))
  (K false w)
  (ifB (decide (((s : List UInt8).length : Int) > 24))
  (K false w)
  (loop1 (0 : Int) (fun i1 k2 w3 =>
  ifB (decide (i1 < ((s : List UInt8).length : Int)))
  (callV Pr (tval2 (Value.int .i64) (Value.int .i64)) 171 #[(sval s), (.int .i64 i1)] w3 fun t4 w5 =>
  ifB (t4.1 == 0)
  (K false w5)
  (callV Pr Value.bool 172 #[(.int .i64 t4.2)] w5 fun t6 w7 =>
  ifB (!t6)
  (K false w7)
  (k2 (i64 (i1 + t4.1)) w7)))
  (K true w3)) w))
def ref05_Key_ann : Ann := (.s .d (.s (.s .d (.c (.s .d .d) .d)) (.s .d (.s (.b (.l [(.s 3, (rI .i64))] (.s (.s .d (.c .d .d)) (.b (.s (.r [(2, .call (rT2 (rI .i64) (rI .i64)))]) (.s (.s (.r [(4, .call rB)]) (.c (.s .d .d) .d)) .d)))))) (.s .d .d)))))
theorem ref05_Key_calls {s : List UInt8} {K : Bool → World → Prop} {w : World} (h : ref05_Key s K w) : callV Pr Value.bool 140 #[(sval s)] w K :=
  calls_of Pr_plain Pr_mixed Pr_func140 ref05_Key_ann rB (args := [(sval s)]) (by kernel_rfl) h

/- changeover/changeoverref05.Val -/
def ref05_Val (s : List UInt8) (K : Bool → World → Prop) (w : World) : Prop :=
  ifB (decide (((s : List UInt8).length : Int) > 48))
  (K false w)
  (callV Pr (Value.int .i64) 173 #[(sval s)] w fun t1 w2 =>
  ifB (decide (t1 ≥ 0))
  (K false w2)
  (loop1 (0 : Int) (fun i3 k4 w5 =>
  ifB (decide (i3 < ((s : List UInt8).length : Int)))
  (opRd Pr (Instr.index 9 (sval s) (.int .i64 i3)) (Value.int .u8) (fun t6 =>
  ifB (decide (t6 < 32))
  (K false w5)
  (opRd Pr (Instr.index 9 (sval s) (.int .i64 i3)) (Value.int .u8) (fun t7 =>
  ifB (t7 == 127)
  (K false w5)
  (k4 (i64 (i3 + 1)) w5)) w5)) w5)
  (K true w5)) w2))
def ref05_Val_ann : Ann := (.s .d (.s (.s (.r [(5, .call (rI .i64))]) (.c (.s .d .d) .d)) (.s (.s .d (.b (.l [(.s 3, (rI .i64))] (.s (.s .d (.c .d .d)) (.s (.b (.s (.r [(2, .rd (rI .u8)), (7, .rd (rI .u8))]) (.c (.s .d .d) .d))) .d))))) (.s .d .d))))
theorem ref05_Val_calls {s : List UInt8} {K : Bool → World → Prop} {w : World} (h : ref05_Val s K w) : callV Pr Value.bool 141 #[(sval s)] w K :=
  calls_of Pr_plain Pr_mixed Pr_func141 ref05_Val_ann rB (args := [(sval s)]) (by kernel_rfl) h

/- (*changeover/pack.Writer).Text -/
def pack_Writer_Text (w_ : Option Addr) (s : List UInt8) (K : Unit → World → Prop) (w : World) : Prop :=
  opTy Pr (convert 9 22 (sval s)) Sl.val (fun t1 w2 =>
  callV Pr uval 71 #[(.pointer w_), t1.val] w2 fun t3 w4 =>
  K () w4) w
def pack_Writer_Text_ann : Ann := (.r [(2, .ty rSl), (3, .call rU)])
theorem pack_Writer_Text_calls {w_ : Option Addr} {s : List UInt8} {K : Unit → World → Prop} {w : World} (h : pack_Writer_Text w_ s K w) : callV Pr uval 148 #[(.pointer w_), (sval s)] w K :=
  calls_of Pr_plain Pr_mixed Pr_func148 pack_Writer_Text_ann rU (args := [(.pointer w_), (sval s)]) (by kernel_rfl) h

/- (*changeover/pack.Reader).Count$1 -/
def pack_Reader_Count_1 (c_x0 : Addr) (c_x1 : Addr) (K : Int → World → Prop) (w : World) : Prop :=
  opRd Pr (Instr.loadAt 78 (.pointer (some c_x0))) Value.pointer (fun t1 =>
  opRd Pr (Instr.loadAt 3 (.pointer (some c_x1))) (Value.int .i64) (fun t2 =>
  callV Pr (Value.int .i64) 151 #[(.pointer t1), (.int .i64 t2)] w fun t3 w4 =>
  K t3 w4) w) w
def pack_Reader_Count_1_ann : Ann := (.s .d (.s (.r [(0, .rd rP), (1, .rd (rI .i64)), (2, .call (rI .i64))]) .d))
theorem pack_Reader_Count_1_calls {c_x0 : Addr} {c_x1 : Addr} {K : Int → World → Prop} {w : World} (h : pack_Reader_Count_1 c_x0 c_x1 K w) : callV Pr (Value.int .i64) 150 #[(.pointer (some c_x0)), (.pointer (some c_x1))] w K :=
  calls_of Pr_plain Pr_mixed Pr_func150 pack_Reader_Count_1_ann (rI .i64) (args := [(.pointer (some c_x0)), (.pointer (some c_x1))]) (by kernel_rfl) h

/- (*changeover/pack.Reader).counted -/
def pack_Reader_counted (r : Option Addr) (most : Int) (K : Int → World → Prop) (w : World) : Prop :=
  callV Pr (Value.int .i64) 76 #[(.pointer r), (.int .i64 most)] w fun n1 w2 =>
  opRd Pr (nilSem (.pointer r)) pav (fun t3 =>
  opRd Pr (Instr.loadAt 31 (.pointer (some (t3.add 2)))) (Value.int .i64) (fun t4 =>
  ifB (t4 == 0)
  (callV Pr (Value.int .i64) 120 #[(.pointer r)] w2 fun t5 w6 =>
  ifB (decide (n1 > t5))
  (callV Pr uval 115 #[(.pointer r), (.int .i64 1)] w6 fun t7 w8 =>
  K n1 w8)
  (K n1 w6))
  (K n1 w2)) w2) w2
def pack_Reader_counted_ann : Ann := (.s .d (.s (.r [(2, .call (rI .i64))]) (.s (.s (.r [(1, .rd rPA), (3, .rd (rI .i64)), (8, .call (rI .i64))]) (.c (.r [(1, .call rU)]) .d)) (.s .d .d))))
theorem pack_Reader_counted_calls {r : Option Addr} {most : Int} {K : Int → World → Prop} {w : World} (h : pack_Reader_counted r most K w) : callV Pr (Value.int .i64) 151 #[(.pointer r), (.int .i64 most)] w K :=
  calls_of Pr_plain Pr_mixed Pr_func151 pack_Reader_counted_ann (rI .i64) (args := [(.pointer r), (.int .i64 most)]) (by kernel_rfl) h

/- (*changeover/pack.Reader).Text -/
def pack_Reader_Text (r : Option Addr) (most : Int) (K : (List UInt8) → World → Prop) (w : World) : Prop :=
  callV Pr Sl.val 78 #[(.pointer r), (.int .i64 most)] w fun t1 w2 =>
  opRd Pr (convert 22 9 t1.val) sval (fun t3 =>
  K t3 w2) w2
def pack_Reader_Text_ann : Ann := (.s .d (.s (.r [(2, .call rSl), (3, .rd rS)]) .d))
theorem pack_Reader_Text_calls {r : Option Addr} {most : Int} {K : (List UInt8) → World → Prop} {w : World} (h : pack_Reader_Text r most K w) : callV Pr sval 154 #[(.pointer r), (.int .i64 most)] w K :=
  calls_of Pr_plain Pr_mixed Pr_func154 pack_Reader_Text_ann rS (args := [(.pointer r), (.int .i64 most)]) (by kernel_rfl) h

/- changeover/entry.Has -/
def entry_Has (v : Int) (l : Sl) (K : Bool → World → Prop) (w : World) : Prop :=
  opTy Pr (Instr.box 3 (.int .i64 v)) pav (fun v1 w2 =>
  callV Pr Value.bool 183 #[l.val, (.func (.func 184) #[] #[(.pointer (some v1))])] w2 fun t3 w4 =>
  K (!t3) w4) w
def entry_Has_ann : Ann := (.s (.r [(0, .ty rPA)]) (.s (.r [(2, .call rB)]) .d))
theorem entry_Has_calls {v : Int} {l : Sl} {K : Bool → World → Prop} {w : World} (h : entry_Has v l K w) : callV Pr Value.bool 164 #[(.int .i64 v), l.val] w K :=
  calls_of Pr_plain Pr_mixed Pr_func164 entry_Has_ann rB (args := [(.int .i64 v), l.val]) (by kernel_rfl) h

/- changeover/cmd.Put -/
def cmd_Put (w_ : Option Addr) (v : Int) (c : ApiCmd) (K : Unit → World → Prop) (w : World) : Prop :=
  opTy Pr (Instr.box 104 (.agg ⟨c.cs⟩)) pav (fun c1 w2 =>
  opRd Pr (Instr.loadAt 3 (.pointer (some (c1.add 0)))) (Value.int .i64) (fun t3 =>
  callV Pr uval 70 #[(.pointer w_), (.int .i64 t3)] w2 fun t4 w5 =>
  callV Pr Sl.val 186 #[] w5 fun t6 w7 =>
  loop1 (0 : Int) (fun t8 k9 w10 =>
  ifB (decide (t8 < (t6.len : Int)))
  (opRd Pr (Instr.indexAt 211 t6.val (.int .i64 t8)) pav (fun t11 =>
  opRd Pr (Instr.loadAt 215 (.pointer (some t11))) CmdPart.val (fun t12 =>
  opTy Pr (Instr.alloc 215 true (.tuple #[])) pav (fun p13 w14 =>
  opUn Pr (Instr.storeAt 215 (.pointer (some p13)) (.agg ⟨t12.cs⟩)) (fun w15 =>
  opRd Pr (Instr.loadAt 215 (.pointer (some p13))) CmdPart.val (fun t16 =>
  opRd Pr (Instr.loadAt 3 (.pointer (some (c1.add 0)))) (Value.int .i64) (fun t17 =>
  callV Pr Value.bool 187 #[(.agg ⟨t16.cs⟩), (.int .i64 v), (.int .i64 t17)] w15 fun t18 w19 =>
  ifB t18
  (opRd Pr (Instr.loadAt 215 (.pointer (some p13))) CmdPart.val (fun t20 =>
  callV Pr uval 188 #[(.agg ⟨t20.cs⟩), (.pointer w_), (.pointer (some c1))] w19 fun t21 w22 =>
  k9 (i64 (t8 + 1)) w22) w19)
  (k9 (i64 (t8 + 1)) w19)) w15) w15) w14) w10) w10) w10)
  (K () w10)) w7) w2) w
def cmd_Put_ann : Ann := (.s (.r [(0, .ty rPA)]) (.s (.r [(2, .rd (rI .i64)), (3, .call rU)]) (.s (.r [(0, .call rSl)]) (.b (.l [(.s 14, (rI .i64))] (.s .d (.s (.c .d .d) (.s (.b (.s (.r [(0, .rd rPA), (1, .rd rCmdPart), (2, .ty rPA), (3, .un)]) (.s (.r [(0, .rd rCmdPart), (3, .rd (rI .i64)), (4, .call rB)]) (.c (.r [(0, .rd rCmdPart), (2, .call rU)]) .d)))) .d))))))))
theorem cmd_Put_calls {w_ : Option Addr} {v : Int} {c : ApiCmd} {K : Unit → World → Prop} {w : World} (h : cmd_Put w_ v c K w) : callV Pr uval 165 #[(.pointer w_), (.int .i64 v), (.agg ⟨c.cs⟩)] w K :=
  calls_of Pr_plain Pr_mixed Pr_func165 cmd_Put_ann rU (args := [(.pointer w_), (.int .i64 v), (.agg ⟨c.cs⟩)]) (by kernel_rfl) h

/- changeover/crc.Add -/
def crc_Add (sum : Int) (b : Sl) (K : Int → World → Prop) (w : World) : Prop :=
  loop2 ((bXor .u32 4294967295 sum) : Int) (0 : Int) (fun r1 t2 k3 w4 =>
  ifB (decide (t2 < (b.len : Int)))
  (opRd Pr (Instr.indexAt 22 b.val (.int .i64 t2)) pav (fun t5 =>
  opRd Pr (Instr.loadAt 5 (.pointer (some t5))) (Value.int .u8) (fun c6 =>
  callV Pr (Value.int .u32) 189 #[(.int .u32 r1), (.int .u8 c6)] w4 fun r7 w8 =>
  k3 r7 (i64 (t2 + 1)) w8) w4) w4)
  (K (bXor .u32 4294967295 r1) w4)) w
def crc_Add_ann : Ann := (.s .d (.s .d (.s (.s .d (.b (.l [(.s 5, (rI .u32)), (.s 12, (rI .i64))] (.s .d (.s (.c .d .d) (.s (.b (.s (.r [(0, .rd rPA), (1, .rd (rI .u8))]) (.r [(2, .call (rI .u32))]))) .d)))))) (.s .d .d))))
theorem crc_Add_calls {sum : Int} {b : Sl} {K : Int → World → Prop} {w : World} (h : crc_Add sum b K w) : callV Pr (Value.int .u32) 166 #[(.int .u32 sum), b.val] w K :=
  calls_of Pr_plain Pr_mixed Pr_func166 crc_Add_ann (rI .u32) (args := [(.int .u32 sum), b.val]) (by kernel_rfl) h

/- changeover/entry.Get -/
def entry_Get (r : Option Addr) (v : Int) (K : Sl → World → Prop) (w : World) : Prop :=
  callV Pr (Value.int .i64) 116 #[(.pointer r), (.int .i64 256)] w fun t1 w2 =>
  loop2 (Sl.nil : Sl) (0 : Int) (fun out3 t4 k5 w6 =>
  ifB (decide (t4 < t1))
  (callV Pr (Value.int .i64) 37 #[(.pointer r), (.int .i64 9223372036854775807)] w6 fun t7 w8 =>
  newV (fun b9 w10 =>
  wrM b9 (fun w11 =>
  callV Pr (Value.int .i64) 37 #[(.pointer r), (.int .i64 9223372036854775807)] w11 fun t12 w13 =>
  kp b9 w11 w13 <|
  wrM b9 (fun w14 =>
  callV Pr (Value.int .i64) 37 #[(.pointer r), (.int .i64 9223372036854775807)] w14 fun t15 w16 =>
  kp b9 w14 w16 <|
  wrM b9 (fun w17 =>
  callV Pr ApiCmd.val 190 #[(.pointer r), (.int .i64 v)] w17 fun t18 w19 =>
  kp b9 w17 w19 <|
  wrM b9 (fun w20 =>
  opTy Pr (Instr.buildSlice 42 1 #[(0, (.agg ⟨[(.int .i64 t7), (.int .i64 t12), (.int .i64 t15), (.int .i64 t18.Kind), (.int .i64 t18.Client), (.int .i64 t18.Seq), (sval t18.Key), (sval t18.Val), (sval t18.Old), (.int .i64 t18.Node)]⟩))]) Sl.val (fun t21 w22 =>
  kp b9 w20 w22 <|
  opTy Pr (Builtin.append_ #[42, 42] 42 #[out3.val, t21.val]) Sl.val (fun out23 w24 =>
  kp b9 w22 w24 <|
  k5 out23 (i64 (t4 + 1)) w24) w22) w20) w19) w16) w13) w10) w8)
  (K out3 w6)) w2
def entry_Get_ann : Ann := (.s .d (.s .d (.s (.s (.r [(1, .call (rI .i64))]) (.b (.l [(.s 5, rSl), (.s 9, (rI .i64))] (.s .d (.s (.c .d .d) (.s (.b (.s (.r [(1, .call (rI .i64)), (3, .nl 6), (4, .ls 6)]) (.s (.r [(1, .call (rI .i64)), (4, .ls 6)]) (.s (.r [(1, .call (rI .i64)), (4, .ls 6)]) (.s (.r [(2, .call rApiCmd), (4, .ls 6)]) (.r [(2, .ty rSl), (3, .ty rSl)])))))) .d)))))) (.s .d .d))))
theorem entry_Get_calls {r : Option Addr} {v : Int} {K : Sl → World → Prop} {w : World} (h : entry_Get r v K w) : callV Pr Sl.val 167 #[(.pointer r), (.int .i64 v)] w K :=
  calls_of Pr_plain Pr_mixed Pr_func167 entry_Get_ann rSl (args := [(.pointer r), (.int .i64 v)]) (by kernel_rfl) h

/- changeover/msgtwo.get -/
def msgtwo_get (r : Option Addr) (x : Value) (K : Unit → World → Prop) (w : World) : Prop :=
  opRd Pr (Instr.typeAssert x 20 191 true) (tval2 MsgtwoNumber.val Value.bool) (fun t1 =>
  ifB t1.2
  (newV (fun b2 w3 =>
  wrM b2 (fun w4 =>
  heldM (fun S6 w5 =>
  callV Pr (Value.int .i64) 37 #[(.pointer r), (.int .i64 9223372036854775807)] w5 fun t7 w8 =>
  kp b2 w5 w8 <|
  (S6 w8) ∧
  (opH Pr S6 (nilSem (.pointer t1.1.at_)) pav (fun t9 =>
  opUn Pr (Instr.storeAt 3 (.pointer (some t9)) (.int .i64 t7)) (fun w10 =>
  kp b2 w8 w10 <|
  (S6 w10) ∧
  (K () w10)) w8))) w4) w3) w)
  (opRd Pr (Instr.typeAssert x 20 193 true) (tval2 MsgtwoEntries.val Value.bool) (fun t11 =>
  ifB t11.2
  (newV (fun b12 w13 =>
  wrM b12 (fun w14 =>
  heldM (fun S16 w15 =>
  callV Pr Sl.val 167 #[(.pointer r), (.int .i64 2)] w15 fun t17 w18 =>
  kp b12 w15 w18 <|
  (S16 w18) ∧
  (opH Pr S16 (nilSem (.pointer t11.1.m)) pav (fun t19 =>
  opUn Pr (Instr.storeAt 42 (.pointer (some (t19.add 8))) t17.val) (fun w20 =>
  kp b12 w18 w20 <|
  (S16 w20) ∧
  (K () w20)) w18))) w14) w13) w)
  (opRd Pr (Instr.typeAssert x 20 194 true) (tval2 MsgtwoSingle.val Value.bool) (fun t21 =>
  ifB t21.2
  (newV (fun b22 w23 =>
  wrM b22 (fun w24 =>
  heldM (fun S26 w25 =>
  opH Pr S26 (nilSem (.pointer t21.1.m)) pav (fun t27 =>
  opH Pr S26 (Instr.loadAt 41 (.pointer (some (t27.add 3)))) ApiBallot.val (fun t28 =>
  (callV Pr (Value.int .i64) 37 #[(.pointer r), (.int .i64 9223372036854775807)] w25 fun t29 w30 =>
  kp b22 w25 w30 <|
  (S26 w30) ∧
  (newV (fun b31 w32 =>
  (S26 w32) ∧
  (wrM b31 (fun w33 =>
  (S26 w33) ∧
  (callV Pr ApiCmd.val 190 #[(.pointer r), (.int .i64 2)] w33 fun t34 w35 =>
  kp b31 w33 w35 <|
  kp b22 w33 w35 <|
  wrM b31 (fun w36 =>
  opTy Pr (Instr.buildSlice 42 1 #[(0, (.agg ⟨[(.int .i64 t29), (.int .i64 t28.Round), (.int .i64 t28.Node), (.int .i64 t34.Kind), (.int .i64 t34.Client), (.int .i64 t34.Seq), (sval t34.Key), (sval t34.Val), (sval t34.Old), (.int .i64 t34.Node)]⟩))]) Sl.val (fun t37 w38 =>
  kp b31 w36 w38 <|
  kp b22 w36 w38 <|
  opRd Pr (nilSem (.pointer t21.1.m)) pav (fun t39 =>
  opUn Pr (Instr.storeAt 42 (.pointer (some (t39.add 8))) t37.val) (fun w40 =>
  kp b31 w38 w40 <|
  kp b22 w38 w40 <|
  K () w40) w38) w38) w36) w35)) w32)) w30)) ∧
  (newV (fun b41 w42 =>
  (S26 w42) ∧
  (callV Pr (Value.int .i64) 37 #[(.pointer r), (.int .i64 9223372036854775807)] w42 fun t43 w44 =>
  kp b41 w42 w44 <|
  kp b22 w42 w44 <|
  (S26 w44) ∧
  (wrM b41 (fun w45 =>
  (S26 w45) ∧
  (callV Pr ApiCmd.val 190 #[(.pointer r), (.int .i64 2)] w45 fun t46 w47 =>
  kp b41 w45 w47 <|
  kp b22 w45 w47 <|
  wrM b41 (fun w48 =>
  opTy Pr (Instr.buildSlice 42 1 #[(0, (.agg ⟨[(.int .i64 t43), (.int .i64 t28.Round), (.int .i64 t28.Node), (.int .i64 t46.Kind), (.int .i64 t46.Client), (.int .i64 t46.Seq), (sval t46.Key), (sval t46.Val), (sval t46.Old), (.int .i64 t46.Node)]⟩))]) Sl.val (fun t49 w50 =>
  kp b41 w48 w50 <|
  kp b22 w48 w50 <|
  opRd Pr (nilSem (.pointer t21.1.m)) pav (fun t51 =>
  opUn Pr (Instr.storeAt 42 (.pointer (some (t51.add 8))) t49.val) (fun w52 =>
  kp b41 w50 w52 <|
  kp b22 w50 w52 <|
  K () w52) w50) w50) w48) w47)) w44))) w25)))) w24) w23) w)
  (opRd Pr (Instr.typeAssert x 20 195 true) (tval2 MsgtwoImage.val Value.bool) (fun t53 =>
  ifB t53.2
  (newV (fun b54 w55 =>
  wrM b54 (fun w56 =>
  heldM (fun S58 w57 =>
  callV Pr Sl.val 78 #[(.pointer r), (.int .i64 32768)] w57 fun t59 w60 =>
  kp b54 w57 w60 <|
  (S58 w60) ∧
  (opH Pr S58 (nilSem (.pointer t53.1.m)) pav (fun t61 =>
  opUn Pr (Instr.storeAt 22 (.pointer (some (t61.add 9))) t59.val) (fun w62 =>
  kp b54 w60 w62 <|
  (S58 w62) ∧
  (K () w62)) w60))) w56) w55) w)
  (K () w)) w)) w)) w)) w
def msgtwo_get_ann : Ann := (.s .d (.b (.s (.r [(0, .rd (rT2 rMsgtwoNumber rB))]) (.c (.s (.r [(0, .nl 4), (1, .ls 4)]) (.h (.take 0 (.take 1 (.take 2 (.one 3 (.take 4 (.one 5 .done)))))) [(3, .call (rI .i64)), (4, .rd rPA), (5, .un)])) (.s (.r [(0, .rd (rT2 rMsgtwoEntries rB))]) (.c (.s (.r [(0, .nl 5), (1, .ls 5)]) (.h (.take 0 (.take 1 (.take 2 (.one 3 (.take 4 (.take 5 (.one 6 .done))))))) [(3, .call rSl), (4, .rd rPA), (6, .un)])) (.s (.r [(0, .rd (rT2 rMsgtwoSingle rB))]) (.c (.s (.r [(0, .nl 6), (1, .ls 6)]) (.s (.h (.take 0 (.take 2 (.take 3 (.take 4 (.take 5 (.take 6 (.two 1 (.take 7 (.one 8 (.one 9 .done))) 8 (.one 1 (.take 7 (.one 9 .done)))))))))) [(1, .call (rI .i64)), (4, .rd rPA), (6, .rd rApiBallot), (8, .nl 7), (9, .ls 7)]) (.s (.r [(1, .call rApiCmd), (3, .ls 7)]) (.r [(3, .ty rSl), (4, .rd rPA), (6, .un)])))) (.s (.r [(0, .rd (rT2 rMsgtwoImage rB))]) (.c (.s (.r [(0, .nl 8), (1, .ls 8)]) (.h (.take 0 (.take 1 (.take 2 (.one 3 (.take 4 (.take 5 (.one 6 .done))))))) [(3, .call rSl), (4, .rd rPA), (6, .un)])) .d))))))))))
theorem msgtwo_get_calls {r : Option Addr} {x : Value} {K : Unit → World → Prop} {w : World} (h : msgtwo_get r x K w) : callV Pr uval 168 #[(.pointer r), x] w K :=
  calls_of Pr_plain Pr_mixed Pr_func168 msgtwo_get_ann rU (args := [(.pointer r), x]) (by kernel_rfl) h

/- changeover/ballot.node -/
def ballot_node (n : Int) (K : Bool → World → Prop) (w : World) : Prop :=
  ifB (decide (n ≥ 1))
  (K (decide (n ≤ 9)) w)
  (K false w)
def ballot_node_ann : Ann := (.s .d (.s .d .d))
theorem ballot_node_calls {n : Int} {K : Bool → World → Prop} {w : World} (h : ballot_node n K w) : callV Pr Value.bool 169 #[(.int .i64 n)] w K :=
  calls_of Pr_plain Pr_mixed Pr_func169 ballot_node_ann rB (args := [(.int .i64 n)]) (by kernel_rfl) h

/- changeover/cmd.Check -/
def cmd_Check (c : ApiCmd) (K : Int → World → Prop) (w : World) : Prop :=
  opTy Pr (Instr.box 104 (.agg ⟨c.cs⟩)) pav (fun c1 w2 =>
  opRd Pr (Instr.loadAt 3 (.pointer (some (c1.add 0)))) (Value.int .i64) (fun t3 =>
  callV Pr (tval2 (Value.int .i64) Value.bool) 191 #[(.int .i64 t3)] w2 fun t4 w5 =>
  ifB (!t4.2)
  (K 5 w5)
  (callV Pr Sl.val 186 #[] w5 fun t6 w7 =>
  loop4 (true : Bool) (true : Bool) (true : Bool) (0 : Int) (fun range18 text9 form10 t11 k12 w13 =>
  ifB (decide (t11 < (t6.len : Int)))
  (opRd Pr (Instr.indexAt 211 t6.val (.int .i64 t11)) pav (fun t14 =>
  opRd Pr (Instr.loadAt 215 (.pointer (some t14))) CmdPart.val (fun t15 =>
  opTy Pr (Instr.alloc 215 true (.tuple #[])) pav (fun p16 w17 =>
  opUn Pr (Instr.storeAt 215 (.pointer (some p16)) (.agg ⟨t15.cs⟩)) (fun w18 =>
  opRd Pr (Instr.loadAt 215 (.pointer (some p16))) CmdPart.val (fun t19 =>
  callV Pr (tval2 Value.bool Value.bool) 192 #[(.agg ⟨t19.cs⟩), (.pointer (some c1)), (.int .i64 t4.1)] w18 fun t20 w21 =>
  opRd Pr (Instr.loadAt 215 (.pointer (some p16))) CmdPart.val (fun t22 =>
  callV Pr (tval2 Value.bool Value.bool) 193 #[(.agg ⟨t22.cs⟩), (.pointer (some c1)), (.int .i64 t4.1)] w21 fun t23 w24 =>
  ifB range18
  (ifB text9
  (ifB form10
  (ifB t20.2
  (k12 t20.1 t23.1 t23.2 (i64 (t11 + 1)) w24)
  (k12 t20.1 t23.1 false (i64 (t11 + 1)) w24))
  (k12 t20.1 t23.1 false (i64 (t11 + 1)) w24))
  (ifB form10
  (ifB t20.2
  (k12 t20.1 false t23.2 (i64 (t11 + 1)) w24)
  (k12 t20.1 false false (i64 (t11 + 1)) w24))
  (k12 t20.1 false false (i64 (t11 + 1)) w24)))
  (ifB text9
  (ifB form10
  (ifB t20.2
  (k12 false t23.1 t23.2 (i64 (t11 + 1)) w24)
  (k12 false t23.1 false (i64 (t11 + 1)) w24))
  (k12 false t23.1 false (i64 (t11 + 1)) w24))
  (ifB form10
  (ifB t20.2
  (k12 false false t23.2 (i64 (t11 + 1)) w24)
  (k12 false false false (i64 (t11 + 1)) w24))
  (k12 false false false (i64 (t11 + 1)) w24)))) w21) w18) w17) w13) w13) w13)
  (ifB (!range18)
  (K 6 w13)
  (ifB (!text9)
  (K 7 w13)
  (ifB (!form10)
  (K 3 w13)
  (K 0 w13))))) w7)) w2) w
def cmd_Check_ann : Ann := (.s (.r [(0, .ty rPA)]) (.s (.r [(1, .rd (rI .i64)), (2, .call (rT2 (rI .i64) rB))]) (.s (.s .d (.c (.s .d .d) .d)) (.s .d (.s (.s (.r [(0, .call rSl)]) (.b (.l [(.s 5, rB), (.s 6, rB), (.s 7, rB), (.s 24, (rI .i64))] (.s .d (.s (.c .d .d) (.s (.b (.s (.r [(0, .rd rPA), (1, .rd rCmdPart), (2, .ty rPA), (3, .un)]) (.s (.r [(0, .rd rCmdPart), (2, .call (rT2 rB rB))]) (.s (.r [(0, .rd rCmdPart), (2, .call (rT2 rB rB))]) .d)))) .d)))))) (.s (.b (.s .d (.c (.s .d .d) (.s .d (.c (.s .d .d) (.s .d (.c (.s .d .d) .d))))))) (.s .d .d)))))))
theorem cmd_Check_calls {c : ApiCmd} {K : Int → World → Prop} {w : World} (h : cmd_Check c K w) : callV Pr (Value.int .i64) 170 #[(.agg ⟨c.cs⟩)] w K :=
  calls_of Pr_plain Pr_mixed Pr_func170 cmd_Check_ann (rI .i64) (args := [(.agg ⟨c.cs⟩)]) (by kernel_rfl) h

/- changeover/changeoverref05.Size -/
def ref05_Size (s : List UInt8) (i : Int) (K : (Int × Int) → World → Prop) (w : World) : Prop :=
  opRd Pr (Instr.index 9 (sval s) (.int .i64 i)) (Value.int .u8) (fun t1 =>
  join3 (fun (j2 : Int → Int → Int → World → Prop) =>
  ifB (decide ((IntKind.i64.wrap t1) < 128))
  (K (1, (IntKind.i64.wrap t1)) w)
  (ifB (decide ((IntKind.i64.wrap t1) ≥ 194))
  (ifB (decide ((IntKind.i64.wrap t1) ≤ 223))
  (j2 2 128 (i64 ((IntKind.i64.wrap t1) - 192)) w)
  (ifB (decide ((IntKind.i64.wrap t1) ≥ 224))
  (ifB (decide ((IntKind.i64.wrap t1) ≤ 239))
  (j2 3 2048 (i64 ((IntKind.i64.wrap t1) - 224)) w)
  (ifB (decide ((IntKind.i64.wrap t1) ≥ 240))
  (ifB (decide ((IntKind.i64.wrap t1) ≤ 244))
  (j2 4 65536 (i64 ((IntKind.i64.wrap t1) - 240)) w)
  (K (0, 0) w))
  (K (0, 0) w)))
  (ifB (decide ((IntKind.i64.wrap t1) ≥ 240))
  (ifB (decide ((IntKind.i64.wrap t1) ≤ 244))
  (j2 4 65536 (i64 ((IntKind.i64.wrap t1) - 240)) w)
  (K (0, 0) w))
  (K (0, 0) w))))
  (ifB (decide ((IntKind.i64.wrap t1) ≥ 224))
  (ifB (decide ((IntKind.i64.wrap t1) ≤ 239))
  (j2 3 2048 (i64 ((IntKind.i64.wrap t1) - 224)) w)
  (ifB (decide ((IntKind.i64.wrap t1) ≥ 240))
  (ifB (decide ((IntKind.i64.wrap t1) ≤ 244))
  (j2 4 65536 (i64 ((IntKind.i64.wrap t1) - 240)) w)
  (K (0, 0) w))
  (K (0, 0) w)))
  (ifB (decide ((IntKind.i64.wrap t1) ≥ 240))
  (ifB (decide ((IntKind.i64.wrap t1) ≤ 244))
  (j2 4 65536 (i64 ((IntKind.i64.wrap t1) - 240)) w)
  (K (0, 0) w))
  (K (0, 0) w)))))
  (fun n3 low4 v5 w6 =>
  ifB (decide ((i64 (i + n3)) > ((s : List UInt8).length : Int)))
  (K (0, 0) w6)
  (loop2 (v5 : Int) (1 : Int) (fun v7 k8 k9 w10 =>
  ifB (decide (k8 < n3))
  (opRd Pr (Instr.index 9 (sval s) (.int .i64 (i64 (i + k8)))) (Value.int .u8) (fun t11 =>
  ifB (decide ((IntKind.i64.wrap t11) < 128))
  (K (0, 0) w10)
  (ifB (decide ((IntKind.i64.wrap t11) > 191))
  (K (0, 0) w10)
  (k9 (i64 ((i64 ((i64 (64 * v7)) + (IntKind.i64.wrap t11))) - 128)) (i64 (k8 + 1)) w10))) w10)
  (ifB (decide (v7 < low4))
  (K (0, 0) w10)
  (ifB (decide (v7 > 1114111))
  (K (0, 0) w10)
  (ifB (decide (v7 ≥ 55296))
  (ifB (decide (v7 ≤ 57343))
  (K (0, 0) w10)
  (K (n3, v7) w10))
  (K (n3, v7) w10))))) w6))) w
def ref05_Size_ann : Ann := (.s .d (.s (.r [(2, .rd (rI .u8))]) (.s .d (.sj [(.s 7, (rI .i64)), (.s 8, (rI .i64)), (.s 9, (rI .i64))] (.b (.s .d (.c (.s .d .d) (.s .d (.c .d (.s .d (.c .d (.s .d (.c .d (.s .d .d)))))))))) (.s (.s .d (.c (.s .d .d) .d)) (.s (.s .d (.b (.l [(.s 9, (rI .i64)), (.s 10, (rI .i64))] (.s (.s .d (.c .d .d)) (.s (.b (.s (.r [(4, .rd (rI .u8))]) (.s (.s .d (.c (.s .d .d) .d)) .d))) .d))))) (.s (.s .d (.c (.s .d .d) .d)) (.s .d .d))))))))
theorem ref05_Size_calls {s : List UInt8} {i : Int} {K : (Int × Int) → World → Prop} {w : World} (h : ref05_Size s i K w) : callV Pr (tval2 (Value.int .i64) (Value.int .i64)) 171 #[(sval s), (.int .i64 i)] w K :=
  calls_of Pr_plain Pr_mixed Pr_func171 ref05_Size_ann (rT2 (rI .i64) (rI .i64)) (args := [(sval s), (.int .i64 i)]) (by kernel_rfl) h

/- changeover/changeoverref05.Plain -/
def ref05_Plain (r : Int) (K : Bool → World → Prop) (w : World) : Prop :=
  loop1 (0 : Int) (fun i1 k2 w3 =>
  ifB (decide (i1 < ((cs66_24119 : List UInt8).length : Int)))
  (opRd Pr (Instr.index 9 (sval cs66_24119) (.int .i64 i1)) (Value.int .u8) (fun t4 =>
  ifB ((IntKind.i64.wrap t4) == r)
  (K true w3)
  (k2 (i64 (i1 + 1)) w3)) w3)
  (ifB (decide (r ≥ 161))
  (K (r != 65533) w3)
  (K false w3))) w
def ref05_Plain_ann : Ann := (.s .d (.s .d (.s (.s .d (.b (.l [(.s 4, (rI .i64))] (.s (.s .d (.c .d .d)) (.s (.b (.s (.r [(2, .rd (rI .u8))]) (.c (.s .d .d) .d))) .d))))) (.s .d .d))))
theorem ref05_Plain_calls {r : Int} {K : Bool → World → Prop} {w : World} (h : ref05_Plain r K w) : callV Pr Value.bool 172 #[(.int .i64 r)] w K :=
  calls_of Pr_plain Pr_mixed Pr_func172 ref05_Plain_ann rB (args := [(.int .i64 r)]) (by kernel_rfl) h

/- changeover/changeoverref05.Bad -/
def ref05_Bad (s : List UInt8) (K : Int → World → Prop) (w : World) : Prop :=
  loop1 (0 : Int) (fun i1 k2 w3 =>
  ifB (decide (i1 < ((s : List UInt8).length : Int)))
  (callV Pr (tval2 (Value.int .i64) (Value.int .i64)) 171 #[(sval s), (.int .i64 i1)] w3 fun t4 w5 =>
  ifB (t4.1 == 0)
  (K i1 w5)
  (k2 (i64 (i1 + t4.1)) w5))
  (K (-1) w3)) w
def ref05_Bad_ann : Ann := (.s .d (.s .d (.s (.b (.l [(.s 3, (rI .i64))] (.s (.s .d (.c .d .d)) (.b (.s (.r [(2, .call (rT2 (rI .i64) (rI .i64)))]) (.s (.s .d (.c (.s .d .d) .d)) .d)))))) (.s .d .d))))
theorem ref05_Bad_calls {s : List UInt8} {K : Int → World → Prop} {w : World} (h : ref05_Bad s K w) : callV Pr (Value.int .i64) 173 #[(sval s)] w K :=
  calls_of Pr_plain Pr_mixed Pr_func173 ref05_Bad_ann (rI .i64) (args := [(sval s)]) (by kernel_rfl) h

/- changeover/runes.Key -/
def runes_Key (s : List UInt8) (K : Bool → World → Prop) (w : World) : Prop :=
  ifB (!(strEq s []))
  (ifB (decide (((s : List UInt8).length : Int) ≤ 24))
  (callV Pr Value.bool 195 #[(sval s)] w fun t1 w2 =>
  ifB t1
  (callV Pr Value.bool 196 #[(sval s), (.func (.func 197) #[] #[])] w2 fun t3 w4 =>
  K t3 w4)
  (K false w2))
  (K false w))
  (K false w)
def runes_Key_ann : Ann := (.s .d (.s (.r [(9, .call rB), (13, .call rB)]) .d))
theorem runes_Key_calls {s : List UInt8} {K : Bool → World → Prop} {w : World} (h : runes_Key s K w) : callV Pr Value.bool 176 #[(sval s)] w K :=
  calls_of Pr_plain Pr_mixed Pr_func176 runes_Key_ann rB (args := [(sval s)]) (by kernel_rfl) h

/- changeover/runes.Val -/
def runes_Val (s : List UInt8) (K : Bool → World → Prop) (w : World) : Prop :=
  ifB (decide (((s : List UInt8).length : Int) ≤ 48))
  (callV Pr Value.bool 195 #[(sval s)] w fun t1 w2 =>
  ifB t1
  (callV Pr Value.bool 196 #[(sval s), (.func (.func 198) #[] #[])] w2 fun t3 w4 =>
  K t3 w4)
  (K false w2))
  (K false w)
def runes_Val_ann : Ann := (.s .d (.s (.r [(5, .call rB), (9, .call rB)]) .d))
theorem runes_Val_calls {s : List UInt8} {K : Bool → World → Prop} {w : World} (h : runes_Val s K w) : callV Pr Value.bool 177 #[(sval s)] w K :=
  calls_of Pr_plain Pr_mixed Pr_func177 runes_Val_ann rB (args := [(sval s)]) (by kernel_rfl) h

/- slices.ContainsFunc[[]changeover/api.Entry,changeover/api.Entry] -/
def slices_ContainsFunc_api_Entry_api_Entry (s : Sl) (f : Value) (K : Bool → World → Prop) (w : World) : Prop :=
  callV Pr (Value.int .i64) 203 #[s.val, f] w fun t1 w2 =>
  K (decide (t1 ≥ 0)) w2
def slices_ContainsFunc_api_Entry_api_Entry_ann : Ann := (.s .d (.s (.r [(2, .call (rI .i64))]) .d))
theorem slices_ContainsFunc_api_Entry_api_Entry_calls {s : Sl} {f : Value} {K : Bool → World → Prop} {w : World} (h : slices_ContainsFunc_api_Entry_api_Entry s f K w) : callV Pr Value.bool 183 #[s.val, f] w K :=
  calls_of Pr_plain Pr_mixed Pr_func183 slices_ContainsFunc_api_Entry_api_Entry_ann rB (args := [s.val, f]) (by kernel_rfl) h

/- changeover/entry.Has$1 -/
def entry_Has_1 (e : ApiEntry) (c_x0 : Addr) (K : Bool → World → Prop) (w : World) : Prop :=
  newV (fun b1 w2 =>
  opRd Pr (Instr.loadAt 3 (.pointer (some c_x0))) (Value.int .i64) (fun t3 =>
  callV Pr Value.bool 185 #[(.int .i64 t3), (.int .i64 e.Cmd.Kind)] w2 fun t4 w5 =>
  kp b1 w2 w5 <|
  K (!t4) w5) w2) w
def entry_Has_1_ann : Ann := (.s (.r [(0, .nl 2)]) (.s (.r [(0, .rd (rI .i64)), (4, .call rB)]) .d))
theorem entry_Has_1_calls {e : ApiEntry} {c_x0 : Addr} {K : Bool → World → Prop} {w : World} (h : entry_Has_1 e c_x0 K w) : callV Pr Value.bool 184 #[(.agg ⟨e.cs⟩), (.pointer (some c_x0))] w K :=
  calls_of Pr_plain Pr_mixed Pr_func184 entry_Has_1_ann rB (args := [(.agg ⟨e.cs⟩), (.pointer (some c_x0))]) (by kernel_rfl) h

/- changeover/vers.Has -/
def vers_Has (v : Int) (kind : Int) (K : Bool → World → Prop) (w : World) : Prop :=
  callV Pr Value.bool 35 #[(.int .i64 v)] w fun t1 w2 =>
  ifB (!t1)
  (K false w2)
  (ifB (kind == 1)
  (ifB (kind == 1)
  (K true w2)
  (ifB (kind == 5)
  (K (decide (v ≥ 2)) w2)
  (K false w2)))
  (ifB (kind == 2)
  (ifB (kind == 2)
  (K true w2)
  (ifB (kind == 5)
  (K (decide (v ≥ 2)) w2)
  (K false w2)))
  (ifB (kind == 3)
  (ifB (kind == 3)
  (K true w2)
  (ifB (kind == 5)
  (K (decide (v ≥ 2)) w2)
  (K false w2)))
  (ifB (kind == 4)
  (ifB (kind == 4)
  (K true w2)
  (ifB (kind == 5)
  (K (decide (v ≥ 2)) w2)
  (K false w2)))
  (ifB (kind == 6)
  (ifB (kind == 6)
  (K true w2)
  (ifB (kind == 5)
  (K (decide (v ≥ 2)) w2)
  (K false w2)))
  (ifB (kind == 7)
  (ifB (kind == 7)
  (K true w2)
  (ifB (kind == 5)
  (K (decide (v ≥ 2)) w2)
  (K false w2)))
  (ifB (kind == 8)
  (K true w2)
  (ifB (kind == 5)
  (K (decide (v ≥ 2)) w2)
  (K false w2)))))))))
def vers_Has_ann : Ann := (.s .d (.s (.s (.r [(1, .call rB)]) (.c (.s .d .d) .d)) (.s (.s .d (.b (.s (.s .d (.c .d (.s .d (.c .d (.s .d (.c .d (.s .d (.c .d (.s .d (.c .d (.s .d (.c .d .d)))))))))))) (.c (.s .d .d) (.s .d (.c (.s .d .d) .d)))))) (.s .d .d))))
theorem vers_Has_calls {v : Int} {kind : Int} {K : Bool → World → Prop} {w : World} (h : vers_Has v kind K w) : callV Pr Value.bool 185 #[(.int .i64 v), (.int .i64 kind)] w K :=
  calls_of Pr_plain Pr_mixed Pr_func185 vers_Has_ann rB (args := [(.int .i64 v), (.int .i64 kind)]) (by kernel_rfl) h

/- changeover/cmd.parts -/
def cmd_parts (K : Sl → World → Prop) (w : World) : Prop :=
  opTy Pr (Instr.buildSlice 211 6 #[(0, (.agg ⟨[(.int .i64 1), (.int .i64 8), .nilFunc, (.func (.func 204) #[] #[])]⟩)), (1, (.agg ⟨[(.int .i64 1), (.int .i64 4294967296), .nilFunc, (.func (.func 205) #[] #[])]⟩)), (2, (.agg ⟨[(.int .i64 2), (.int .i64 0), (.func (.func 176) #[] #[]), (.func (.func 206) #[] #[])]⟩)), (3, (.agg ⟨[(.int .i64 4), (.int .i64 0), (.func (.func 177) #[] #[]), (.func (.func 207) #[] #[])]⟩)), (4, (.agg ⟨[(.int .i64 8), (.int .i64 0), (.func (.func 177) #[] #[]), (.func (.func 208) #[] #[])]⟩)), (5, (.agg ⟨[(.int .i64 16), (.int .i64 9), .nilFunc, (.func (.func 209) #[] #[])]⟩))]) Sl.val (fun t1 w2 =>
  K t1 w2) w
def cmd_parts_ann : Ann := (.s .d (.s (.r [(6, .ty rSl)]) .d))
theorem cmd_parts_calls {K : Sl → World → Prop} {w : World} (h : cmd_parts K w) : callV Pr Sl.val 186 #[] w K :=
  calls_of Pr_plain Pr_mixed Pr_func186 cmd_parts_ann rSl (args := []) (by kernel_rfl) h

/- (changeover/cmd.part).wanted -/
def cmd_part_wanted (p : CmdPart) (v : Int) (kind : Int) (K : Bool → World → Prop) (w : World) : Prop :=
  newV (fun b1 w2 =>
  callV Pr (tval2 (Value.int .i64) Value.bool) 191 #[(.int .i64 kind)] w2 fun t3 w4 =>
  kp b1 w2 w4 <|
  ifB (v == 1)
  (K (p.has_ != 4) w4)
  (K ((bAnd .i64 t3.1 p.has_) != 0) w4)) w
def cmd_part_wanted_ann : Ann := (.s (.r [(0, .nl 3)]) (.s (.r [(1, .call (rT2 (rI .i64) rB))]) (.s (.s .d (.c (.s .d .d) .d)) (.s .d .d))))
theorem cmd_part_wanted_calls {p : CmdPart} {v : Int} {kind : Int} {K : Bool → World → Prop} {w : World} (h : cmd_part_wanted p v kind K w) : callV Pr Value.bool 187 #[(.agg ⟨p.cs⟩), (.int .i64 v), (.int .i64 kind)] w K :=
  calls_of Pr_plain Pr_mixed Pr_func187 cmd_part_wanted_ann rB (args := [(.agg ⟨p.cs⟩), (.int .i64 v), (.int .i64 kind)]) (by kernel_rfl) h

/- changeover/crc.turn -/
def crc_turn (r : Int) (c : Int) (K : Int → World → Prop) (w : World) : Prop :=
  opRd Pr (Instr.indexAt 232 (.pointer (some g_crc_table)) (.int .u32 (bAnd .u32 (bXor .u32 r (IntKind.u32.wrap c)) 15))) pav (fun t1 =>
  opRd Pr (Instr.loadAt 144 (.pointer (some t1))) (Value.int .u32) (fun t2 =>
  opRd Pr (Instr.indexAt 232 (.pointer (some g_crc_table)) (.int .u32 (bAnd .u32 (bXor .u32 (shR .u32 (bXor .u32 r (IntKind.u32.wrap c)) 4) t2) 15))) pav (fun t3 =>
  opRd Pr (Instr.loadAt 144 (.pointer (some t3))) (Value.int .u32) (fun t4 =>
  K (bXor .u32 (shR .u32 (bXor .u32 (shR .u32 (bXor .u32 r (IntKind.u32.wrap c)) 4) t2) 4) t4) w) w) w) w) w
def crc_turn_ann : Ann := (.s .d (.s .d (.s (.r [(4, .rd rPA), (5, .rd (rI .u32))]) (.s (.r [(4, .rd rPA), (5, .rd (rI .u32))]) .d))))
theorem crc_turn_calls {r : Int} {c : Int} {K : Int → World → Prop} {w : World} (h : crc_turn r c K w) : callV Pr (Value.int .u32) 189 #[(.int .u32 r), (.int .u8 c)] w K :=
  calls_of Pr_plain Pr_mixed Pr_func189 crc_turn_ann (rI .u32) (args := [(.int .u32 r), (.int .u8 c)]) (by kernel_rfl) h

/- changeover/cmd.Get -/
def cmd_Get (r : Option Addr) (v : Int) (K : ApiCmd → World → Prop) (w : World) : Prop :=
  newV (fun b1 w2 =>
  callV Pr (Value.int .i64) 37 #[(.pointer r), (.int .i64 9223372036854775807)] w2 fun t3 w4 =>
  kp b1 w2 w4 <|
  opTy Pr (Instr.alloc 104 true (.tuple #[])) pav (fun c5 w6 =>
  kp b1 w4 w6 <|
  opUn Pr (Instr.storeAt 104 (.pointer (some c5)) (.agg ⟨[(.int .i64 t3), (.int .i64 0), (.int .i64 0), (sval []), (sval []), (sval []), (.int .i64 0)]⟩)) (fun w7 =>
  kp b1 w6 w7 <|
  callV Pr Sl.val 186 #[] w7 fun t8 w9 =>
  kp b1 w7 w9 <|
  loop1 (0 : Int) (fun t10 k11 w12 =>
  ifB (decide (t10 < (t8.len : Int)))
  (opRd Pr (Instr.indexAt 211 t8.val (.int .i64 t10)) pav (fun t13 =>
  opRd Pr (Instr.loadAt 215 (.pointer (some t13))) CmdPart.val (fun t14 =>
  opTy Pr (Instr.alloc 215 true (.tuple #[])) pav (fun p15 w16 =>
  kp b1 w12 w16 <|
  opUn Pr (Instr.storeAt 215 (.pointer (some p15)) (.agg ⟨t14.cs⟩)) (fun w17 =>
  kp b1 w16 w17 <|
  opRd Pr (Instr.loadAt 215 (.pointer (some p15))) CmdPart.val (fun t18 =>
  opRd Pr (Instr.loadAt 3 (.pointer (some (c5.add 0)))) (Value.int .i64) (fun t19 =>
  callV Pr Value.bool 187 #[(.agg ⟨t18.cs⟩), (.int .i64 v), (.int .i64 t19)] w17 fun t20 w21 =>
  kp b1 w17 w21 <|
  ifB t20
  (opRd Pr (Instr.loadAt 215 (.pointer (some p15))) CmdPart.val (fun t22 =>
  callV Pr uval 210 #[(.agg ⟨t22.cs⟩), (.pointer r), (.pointer (some c5))] w21 fun t23 w24 =>
  kp b1 w21 w24 <|
  k11 (i64 (t10 + 1)) w24) w21)
  (k11 (i64 (t10 + 1)) w21)) w17) w17) w16) w12) w12) w12)
  (opRd Pr (Instr.loadAt 104 (.pointer (some c5))) ApiCmd.val (fun t25 =>
  wrM b1 (fun w26 =>
  K t25 w26) w12) w12)) w9) w6) w4) w
def cmd_Get_ann : Ann := (.s (.r [(0, .nl 4)]) (.s (.r [(1, .call (rI .i64)), (3, .ty rPA), (4, .un)]) (.s (.s (.r [(0, .call rSl)]) (.b (.l [(.s 13, (rI .i64))] (.s .d (.s (.c .d .d) (.s (.b (.s (.r [(0, .rd rPA), (1, .rd rCmdPart), (2, .ty rPA), (3, .un)]) (.s (.r [(0, .rd rCmdPart), (3, .rd (rI .i64)), (4, .call rB)]) (.c (.r [(0, .rd rCmdPart), (2, .call rU)]) .d)))) .d)))))) (.s (.r [(0, .rd rApiCmd), (1, .ls 4)]) .d))))
theorem cmd_Get_calls {r : Option Addr} {v : Int} {K : ApiCmd → World → Prop} {w : World} (h : cmd_Get r v K w) : callV Pr ApiCmd.val 190 #[(.pointer r), (.int .i64 v)] w K :=
  calls_of Pr_plain Pr_mixed Pr_func190 cmd_Get_ann rApiCmd (args := [(.pointer r), (.int .i64 v)]) (by kernel_rfl) h

/- changeover/cmd.fields -/
def cmd_fields (kind : Int) (K : (Int × Bool) → World → Prop) (w : World) : Prop :=
  join1 (fun (j1 : Bool → World → Prop) =>
  ifB (kind == 1)
  (j1 (kind == 1) w)
  (j1 (kind == 6) w))
  (fun t2 w3 =>
  ifB t2
  (K (0, true) w3)
  (ifB (kind == 2)
  (K (11, true) w3)
  (join1 (fun (j4 : Bool → World → Prop) =>
  ifB (kind == 3)
  (j4 (kind == 3) w3)
  (j4 (kind == 4) w3))
  (fun t5 w6 =>
  ifB t5
  (K (3, true) w6)
  (ifB (kind == 5)
  (K (15, true) w6)
  (ifB (kind == 7)
  (ifB (kind == 7)
  (K (16, true) w6)
  (K (0, false) w6))
  (ifB (kind == 8)
  (K (16, true) w6)
  (K (0, false) w6))))))))
def cmd_fields_ann : Ann := (.s .d (.s (.s .d (.b (.sj [(.s 5, rB)] (.s .d (.c .d .d)) (.c (.s .d .d) (.s .d (.c (.s .d .d) (.sj [(.s 10, rB)] (.s .d (.c .d .d)) (.c (.s .d .d) (.s .d (.c (.s .d .d) (.s (.s .d (.c .d .d)) (.c (.s .d .d) .d)))))))))))) (.s .d .d)))
theorem cmd_fields_calls {kind : Int} {K : (Int × Bool) → World → Prop} {w : World} (h : cmd_fields kind K w) : callV Pr (tval2 (Value.int .i64) Value.bool) 191 #[(.int .i64 kind)] w K :=
  calls_of Pr_plain Pr_mixed Pr_func191 cmd_fields_ann (rT2 (rI .i64) rB) (args := [(.int .i64 kind)]) (by kernel_rfl) h

/- changeover/runes.Whole -/
def runes_Whole (s : List UInt8) (K : Bool → World → Prop) (w : World) : Prop :=
  callV Pr (Value.int .i64) 211 #[(sval s)] w fun t1 w2 =>
  K (decide (t1 < 0)) w2
def runes_Whole_ann : Ann := (.s .d (.s (.r [(1, .call (rI .i64))]) .d))
theorem runes_Whole_calls {s : List UInt8} {K : Bool → World → Prop} {w : World} (h : runes_Whole s K w) : callV Pr Value.bool 195 #[(sval s)] w K :=
  calls_of Pr_plain Pr_mixed Pr_func195 runes_Whole_ann rB (args := [(sval s)]) (by kernel_rfl) h

/- changeover/runes.Plain -/
def runes_Plain (r : Int) (K : Bool → World → Prop) (w : World) : Prop :=
  join1 (fun (j1 : Bool → World → Prop) =>
  ifB (decide (r ≥ 97))
  (ifB (decide (r ≤ 122))
  (j1 (decide (r ≤ 122)) w)
  (ifB (decide (r ≥ 65))
  (ifB (decide (r ≤ 90))
  (j1 (decide (r ≤ 90)) w)
  (ifB (decide (r ≥ 48))
  (j1 (decide (r ≤ 57)) w)
  (j1 false w)))
  (ifB (decide (r ≥ 48))
  (j1 (decide (r ≤ 57)) w)
  (j1 false w))))
  (ifB (decide (r ≥ 65))
  (ifB (decide (r ≤ 90))
  (j1 (decide (r ≤ 90)) w)
  (ifB (decide (r ≥ 48))
  (j1 (decide (r ≤ 57)) w)
  (j1 false w)))
  (ifB (decide (r ≥ 48))
  (j1 (decide (r ≤ 57)) w)
  (j1 false w))))
  (fun t2 w3 =>
  ifB t2
  (K true w3)
  (ifB (r == 45)
  (ifB (r == 45)
  (K true w3)
  (ifB (decide (r ≥ 161))
  (K (r != 65533) w3)
  (K false w3)))
  (ifB (r == 95)
  (ifB (r == 95)
  (K true w3)
  (ifB (decide (r ≥ 161))
  (K (r != 65533) w3)
  (K false w3)))
  (ifB (r == 46)
  (ifB (r == 46)
  (K true w3)
  (ifB (decide (r ≥ 161))
  (K (r != 65533) w3)
  (K false w3)))
  (ifB (r == 58)
  (K true w3)
  (ifB (decide (r ≥ 161))
  (K (r != 65533) w3)
  (K false w3)))))))
def runes_Plain_ann : Ann := (.s .d (.s (.b (.sj [(.s 3, rB)] (.s .d (.c .d (.s .d (.c .d .d)))) (.c (.s .d .d) (.s (.s .d (.c .d (.s .d (.c .d (.s .d (.c .d .d)))))) (.c (.s .d .d) .d))))) (.s .d .d)))
theorem runes_Plain_calls {r : Int} {K : Bool → World → Prop} {w : World} (h : runes_Plain r K w) : callV Pr Value.bool 197 #[(.int .i32 r)] w K :=
  calls_of Pr_plain Pr_mixed Pr_func197 runes_Plain_ann rB (args := [(.int .i32 r)]) (by kernel_rfl) h

/- changeover/runes.Val$1 -/
def runes_Val_1 (r : Int) (K : Bool → World → Prop) (w : World) : Prop :=
  ifB (decide (r ≥ 32))
  (K (r != 127) w)
  (K false w)
def runes_Val_1_ann : Ann := (.s .d (.s .d .d))
theorem runes_Val_1_calls {r : Int} {K : Bool → World → Prop} {w : World} (h : runes_Val_1 r K w) : callV Pr Value.bool 198 #[(.int .i32 r)] w K :=
  calls_of Pr_plain Pr_mixed Pr_func198 runes_Val_1_ann rB (args := [(.int .i32 r)]) (by kernel_rfl) h

/- changeover/cmd.parts$1 -/
def cmd_parts_1 (c : Option Addr) (K : Value → World → Prop) (w : World) : Prop :=
  opRd Pr (nilSem (.pointer c)) pav (fun t1 =>
  K (.iface 189 (.pointer (some (t1.add 1)))) w) w
def cmd_parts_1_ann : Ann := (.s .d (.s (.r [(1, .rd rPA)]) .d))
theorem cmd_parts_1_calls {c : Option Addr} {K : Value → World → Prop} {w : World} (h : cmd_parts_1 c K w) : callV Pr vval 204 #[(.pointer c)] w K :=
  calls_of Pr_plain Pr_mixed Pr_func204 cmd_parts_1_ann rV (args := [(.pointer c)]) (by kernel_rfl) h

/- changeover/cmd.parts$2 -/
def cmd_parts_2 (c : Option Addr) (K : Value → World → Prop) (w : World) : Prop :=
  opRd Pr (nilSem (.pointer c)) pav (fun t1 =>
  K (.iface 189 (.pointer (some (t1.add 2)))) w) w
def cmd_parts_2_ann : Ann := (.s .d (.s (.r [(1, .rd rPA)]) .d))
theorem cmd_parts_2_calls {c : Option Addr} {K : Value → World → Prop} {w : World} (h : cmd_parts_2 c K w) : callV Pr vval 205 #[(.pointer c)] w K :=
  calls_of Pr_plain Pr_mixed Pr_func205 cmd_parts_2_ann rV (args := [(.pointer c)]) (by kernel_rfl) h

/- changeover/cmd.parts$3 -/
def cmd_parts_3 (c : Option Addr) (K : Value → World → Prop) (w : World) : Prop :=
  opRd Pr (nilSem (.pointer c)) pav (fun t1 =>
  K (.iface 230 (.pointer (some (t1.add 3)))) w) w
def cmd_parts_3_ann : Ann := (.s .d (.s (.r [(1, .rd rPA)]) .d))
theorem cmd_parts_3_calls {c : Option Addr} {K : Value → World → Prop} {w : World} (h : cmd_parts_3 c K w) : callV Pr vval 206 #[(.pointer c)] w K :=
  calls_of Pr_plain Pr_mixed Pr_func206 cmd_parts_3_ann rV (args := [(.pointer c)]) (by kernel_rfl) h

/- changeover/cmd.parts$4 -/
def cmd_parts_4 (c : Option Addr) (K : Value → World → Prop) (w : World) : Prop :=
  opRd Pr (nilSem (.pointer c)) pav (fun t1 =>
  K (.iface 230 (.pointer (some (t1.add 5)))) w) w
def cmd_parts_4_ann : Ann := (.s .d (.s (.r [(1, .rd rPA)]) .d))
theorem cmd_parts_4_calls {c : Option Addr} {K : Value → World → Prop} {w : World} (h : cmd_parts_4 c K w) : callV Pr vval 207 #[(.pointer c)] w K :=
  calls_of Pr_plain Pr_mixed Pr_func207 cmd_parts_4_ann rV (args := [(.pointer c)]) (by kernel_rfl) h

/- changeover/cmd.parts$5 -/
def cmd_parts_5 (c : Option Addr) (K : Value → World → Prop) (w : World) : Prop :=
  opRd Pr (nilSem (.pointer c)) pav (fun t1 =>
  K (.iface 230 (.pointer (some (t1.add 4)))) w) w
def cmd_parts_5_ann : Ann := (.s .d (.s (.r [(1, .rd rPA)]) .d))
theorem cmd_parts_5_calls {c : Option Addr} {K : Value → World → Prop} {w : World} (h : cmd_parts_5 c K w) : callV Pr vval 208 #[(.pointer c)] w K :=
  calls_of Pr_plain Pr_mixed Pr_func208 cmd_parts_5_ann rV (args := [(.pointer c)]) (by kernel_rfl) h

/- changeover/cmd.parts$6 -/
def cmd_parts_6 (c : Option Addr) (K : Value → World → Prop) (w : World) : Prop :=
  opRd Pr (nilSem (.pointer c)) pav (fun t1 =>
  K (.iface 189 (.pointer (some (t1.add 6)))) w) w
def cmd_parts_6_ann : Ann := (.s .d (.s (.r [(1, .rd rPA)]) .d))
theorem cmd_parts_6_calls {c : Option Addr} {K : Value → World → Prop} {w : World} (h : cmd_parts_6 c K w) : callV Pr vval 209 #[(.pointer c)] w K :=
  calls_of Pr_plain Pr_mixed Pr_func209 cmd_parts_6_ann rV (args := [(.pointer c)]) (by kernel_rfl) h

/- changeover/runes.Bad -/
def runes_Bad (s : List UInt8) (K : Int → World → Prop) (w : World) : Prop :=
  opTy Pr (Instr.range 9 (sval s)) pav (fun t1 w2 =>
  loop0 (fun k3 w4 =>
  opAl Pr (Instr.next (.pointer (some t1)) true 0) (nxval (Value.int .i64) (Value.int .i32)) endval (fun t5 w6 =>
  ifB (t5.2 != 65533)
  (k3 w6)
  (opRd Pr (Instr.sliceAt 9 (sval s) (some (.int .i64 t5.1)) none none) sval (fun t7 =>
  callV Pr (tval2 (Value.int .i32) (Value.int .i64)) 212 #[(sval t7)] w6 fun t8 w9 =>
  ifB (t8.2 == 1)
  (K t5.1 w9)
  (k3 w9)) w6)) (fun _ w10 =>
  K (-1) w10) w4) w2) w
def runes_Bad_ann : Ann := (.s .d (.s (.s (.r [(1, .ty rPA)]) (.b (.l [] (.s (.r [(0, .alt (rNx (rI .i64) (rI .i32)) rEnd)]) (.s (.c .d .d) (.b (.s .d (.s (.s .d (.c .d .d)) (.s (.r [(2, .rd rS), (3, .call (rT2 (rI .i32) (rI .i64)))]) (.s .d (.c (.s .d .d) .d))))))))))) (.s .d .d)))
theorem runes_Bad_calls {s : List UInt8} {K : Int → World → Prop} {w : World} (h : runes_Bad s K w) : callV Pr (Value.int .i64) 211 #[(sval s)] w K :=
  calls_of Pr_plain Pr_mixed Pr_func211 runes_Bad_ann (rI .i64) (args := [(sval s)]) (by kernel_rfl) h

/- unicode/utf8.DecodeRuneInString -/
def unicode_utf8_DecodeRuneInString (s : List UInt8) (K : (Int × Int) → World → Prop) (w : World) : Prop :=
  ifB (!(strEq s []))
  (opRd Pr (Instr.index 9 (sval s) (.int .i64 0)) (Value.int .u8) (fun t1 =>
  ifB (decide (t1 < 128))
  (opRd Pr (Instr.index 9 (sval s) (.int .i64 0)) (Value.int .u8) (fun t2 =>
  K ((IntKind.i32.wrap t2), 1) w) w)
  (callV Pr (tval2 (Value.int .i32) (Value.int .i64)) 213 #[(sval s)] w fun t3 w4 =>
  K (t3.1, t3.2) w4)) w)
  (callV Pr (tval2 (Value.int .i32) (Value.int .i64)) 213 #[(sval s)] w fun t5 w6 =>
  K (t5.1, t5.2) w6)
def unicode_utf8_DecodeRuneInString_ann : Ann := (.s .d (.s (.s (.r [(4, .rd (rI .u8))]) (.c (.s (.r [(1, .rd (rI .u8))]) .d) (.r [(1, .call (rT2 (rI .i32) (rI .i64)))]))) .d))
theorem unicode_utf8_DecodeRuneInString_calls {s : List UInt8} {K : (Int × Int) → World → Prop} {w : World} (h : unicode_utf8_DecodeRuneInString s K w) : callV Pr (tval2 (Value.int .i32) (Value.int .i64)) 212 #[(sval s)] w K :=
  calls_of Pr_plain Pr_mixed Pr_func212 unicode_utf8_DecodeRuneInString_ann (rT2 (rI .i32) (rI .i64)) (args := [(sval s)]) (by kernel_rfl) h

/- unicode/utf8.decodeRuneInStringSlow -/
def unicode_utf8_decodeRuneInStringSlow (s : List UInt8) (K : (Int × Int) → World → Prop) (w : World) : Prop :=
  ifB (decide (((s : List UInt8).length : Int) < 1))
  (K (65533, 0) w)
  (opRd Pr (Instr.index 9 (sval s) (.int .i64 0)) (Value.int .u8) (fun s01 =>
  opRd Pr (Instr.indexAt 237 (.pointer (some g_unicode_utf8_first)) (.int .u8 s01)) pav (fun t2 =>
  opRd Pr (Instr.loadAt 5 (.pointer (some t2))) (Value.int .u8) (fun x3 =>
  ifB (decide (x3 ≥ 240))
  (opRd Pr (Instr.index 9 (sval s) (.int .i64 0)) (Value.int .u8) (fun t4 =>
  K ((bOr .i32 (bAndNot .i32 (IntKind.i32.wrap t4) (shR .i32 (shL .i32 (IntKind.i32.wrap x3) 31) 31)) (bAnd .i32 65533 (shR .i32 (shL .i32 (IntKind.i32.wrap x3) 31) 31))), 1) w) w)
  (opRd Pr (Instr.indexAt 240 (.pointer (some g_unicode_utf8_acceptRanges)) (.int .u8 (shR .u8 x3 4))) pav (fun t5 =>
  opRd Pr (Instr.loadAt 239 (.pointer (some t5))) Utf8AcceptRange.val (fun t6 =>
  newV (fun b7 w8 =>
  wrM b7 (fun w9 =>
  ifB (decide (((s : List UInt8).length : Int) < (IntKind.i64.wrap (bAnd .u8 x3 7))))
  (K (65533, 1) w9)
  (opRd Pr (Instr.index 9 (sval s) (.int .i64 1)) (Value.int .u8) (fun s110 =>
  ifB (decide (s110 < t6.lo))
  (K (65533, 1) w9)
  (ifB (decide (t6.hi < s110))
  (K (65533, 1) w9)
  (ifB (decide ((IntKind.i64.wrap (bAnd .u8 x3 7)) ≤ 2))
  (K ((bOr .i32 (shL .i32 (IntKind.i32.wrap (bAnd .u8 s01 31)) 6) (IntKind.i32.wrap (bAnd .u8 s110 63))), 2) w9)
  (opRd Pr (Instr.index 9 (sval s) (.int .i64 2)) (Value.int .u8) (fun s211 =>
  ifB (decide (s211 < 128))
  (K (65533, 1) w9)
  (ifB (decide ((191 : Int) < s211))
  (K (65533, 1) w9)
  (ifB (decide ((IntKind.i64.wrap (bAnd .u8 x3 7)) ≤ 3))
  (K ((bOr .i32 (bOr .i32 (shL .i32 (IntKind.i32.wrap (bAnd .u8 s01 15)) 12) (shL .i32 (IntKind.i32.wrap (bAnd .u8 s110 63)) 6)) (IntKind.i32.wrap (bAnd .u8 s211 63))), 3) w9)
  (opRd Pr (Instr.index 9 (sval s) (.int .i64 3)) (Value.int .u8) (fun s312 =>
  ifB (decide (s312 < 128))
  (K (65533, 1) w9)
  (ifB (decide ((191 : Int) < s312))
  (K (65533, 1) w9)
  (K ((bOr .i32 (bOr .i32 (bOr .i32 (shL .i32 (IntKind.i32.wrap (bAnd .u8 s01 7)) 18) (shL .i32 (IntKind.i32.wrap (bAnd .u8 s110 63)) 12)) (shL .i32 (IntKind.i32.wrap (bAnd .u8 s211 63)) 6)) (IntKind.i32.wrap (bAnd .u8 s312 63))), 4) w9))) w9)))) w9)))) w9)) w8) w) w) w)) w) w) w)
def unicode_utf8_decodeRuneInStringSlow_ann : Ann := (.s .d (.s .d (.s (.s .d (.c (.s .d .d) .d)) (.s (.r [(1, .rd (rI .u8))]) (.s (.r [(1, .rd rPA), (2, .rd (rI .u8))]) (.s (.s .d (.c (.s .d (.s (.r [(1, .rd (rI .u8))]) .d)) .d)) (.s .d (.s (.r [(2, .rd rPA), (3, .rd rUtf8AcceptRange), (4, .nl 9), (5, .ls 9)]) (.s (.s .d (.c (.s .d .d) .d)) (.s (.r [(1, .rd (rI .u8))]) (.s (.s .d (.c (.s .d .d) .d)) (.s (.s .d (.c (.s .d .d) .d)) (.s (.r [(1, .rd (rI .u8))]) (.s (.s .d (.c (.s .d .d) .d)) (.s (.s .d (.c (.s .d .d) .d)) (.s (.r [(1, .rd (rI .u8))]) (.s (.s .d (.c (.s .d .d) .d)) (.s .d .d))))))))))))))))))
theorem unicode_utf8_decodeRuneInStringSlow_calls {s : List UInt8} {K : (Int × Int) → World → Prop} {w : World} (h : unicode_utf8_decodeRuneInStringSlow s K w) : callV Pr (tval2 (Value.int .i32) (Value.int .i64)) 213 #[(sval s)] w K :=
  calls_of Pr_plain Pr_mixed Pr_func213 unicode_utf8_decodeRuneInStringSlow_ann (rT2 (rI .i32) (rI .i64)) (args := [(sval s)]) (by kernel_rfl) h

end Go.Chg
