/-
  Functions of the program, told by a program of ours (gen.py), each held by the kernel to what is to be shown of its code.
-/
import Derived.Test.YtapepehccddjpaaDoorTy
set_option maxRecDepth 100000
set_option linter.unusedVariables false
namespace Go.Chg
open Go.Vc

/- changeover/changeoverlaw25.MigrUps -/
def law25_MigrUps (s : ApiState) (K : Bool → World → Prop) (w : World) : Prop :=
  newV (fun b1 w2 =>
  callV Pr Value.bool 11 #[(.agg ⟨[(.int .i64 s.Schema), s.Pairs.val, s.Sessions.val]⟩)] w2 fun t3 w4 =>
  kp b1 w2 w4 <|
  ifB t3
  (callV Pr Value.bool 12 #[] w4 fun t5 w6 =>
  kp b1 w4 w6 <|
  K t5 w6)
  (callV Pr (tval2 ApiState.val (Value.int .i64)) 13 #[(.agg ⟨[(.int .i64 s.Schema), s.Pairs.val, s.Sessions.val]⟩)] w4 fun t7 w8 =>
  kp b1 w4 w8 <|
  newV (fun b9 w10 =>
  wrM b9 (fun w11 =>
  callV Pr Value.bool 14 #[(.agg ⟨[(.int .i64 s.Schema), s.Pairs.val, s.Sessions.val]⟩)] w11 fun t12 w13 =>
  kp b9 w11 w13 <|
  kp b1 w11 w13 <|
  ifB (!t12)
  (ifB (t7.2 == 3)
  (callV Pr Value.bool 15 #[(.agg ⟨[(.int .i64 t7.1.Schema), t7.1.Pairs.val, t7.1.Sessions.val]⟩), (.agg ⟨[(.int .i64 0), Sl.nil.val, Sl.nil.val]⟩)] w13 fun t14 w15 =>
  kp b9 w13 w15 <|
  kp b1 w13 w15 <|
  ifB t14
  (callV Pr Value.bool 12 #[] w15 fun t16 w17 =>
  kp b9 w15 w17 <|
  kp b1 w15 w17 <|
  K t16 w17)
  (K false w15))
  (K false w13))
  (ifB (s.Schema == 2)
  (ifB (t7.2 == 12)
  (callV Pr Value.bool 15 #[(.agg ⟨[(.int .i64 t7.1.Schema), t7.1.Pairs.val, t7.1.Sessions.val]⟩), (.agg ⟨[(.int .i64 0), Sl.nil.val, Sl.nil.val]⟩)] w13 fun t18 w19 =>
  kp b9 w13 w19 <|
  kp b1 w13 w19 <|
  ifB t18
  (callV Pr Value.bool 12 #[] w19 fun t20 w21 =>
  kp b9 w19 w21 <|
  kp b1 w19 w21 <|
  K t20 w21)
  (K false w19))
  (K false w13))
  (callV Pr (tval2 ApiState.val (Value.int .i64)) 13 #[(.agg ⟨[(.int .i64 t7.1.Schema), t7.1.Pairs.val, t7.1.Sessions.val]⟩)] w13 fun t22 w23 =>
  kp b9 w13 w23 <|
  kp b1 w13 w23 <|
  newV (fun b24 w25 =>
  wrM b24 (fun w26 =>
  heldM (fun S28 w27 =>
  ifB (t7.2 == 0)
  (ifB (t22.2 == 12)
  (callV Pr ApiState.val 16 #[(.agg ⟨[(.int .i64 s.Schema), s.Pairs.val, s.Sessions.val]⟩), (.int .i64 2), (.int .i64 1)] w27 fun t29 w30 =>
  kp b24 w27 w30 <|
  kp b9 w27 w30 <|
  kp b1 w27 w30 <|
  (S28 w30) ∧
  (callV Pr Value.bool 15 #[(.agg ⟨[(.int .i64 t7.1.Schema), t7.1.Pairs.val, t7.1.Sessions.val]⟩), (.agg ⟨t29.cs⟩)] w30 fun t31 w32 =>
  kp b24 w30 w32 <|
  kp b9 w30 w32 <|
  kp b1 w30 w32 <|
  (S28 w32) ∧
  (ifB t31
  (callV Pr Value.bool 14 #[(.agg ⟨[(.int .i64 t7.1.Schema), t7.1.Pairs.val, t7.1.Sessions.val]⟩)] w32 fun t33 w34 =>
  kp b24 w32 w34 <|
  kp b9 w32 w34 <|
  kp b1 w32 w34 <|
  (S28 w34) ∧
  (ifB t33
  (callV Pr ApiState.val 17 #[(.agg ⟨[(.int .i64 t7.1.Schema), t7.1.Pairs.val, t7.1.Sessions.val]⟩)] w34 fun t35 w36 =>
  kp b24 w34 w36 <|
  kp b9 w34 w36 <|
  kp b1 w34 w36 <|
  (S28 w36) ∧
  (callV Pr ApiState.val 17 #[(.agg ⟨[(.int .i64 s.Schema), s.Pairs.val, s.Sessions.val]⟩)] w36 fun t37 w38 =>
  kp b24 w36 w38 <|
  kp b9 w36 w38 <|
  kp b1 w36 w38 <|
  (S28 w38) ∧
  (callV Pr Value.bool 15 #[(.agg ⟨t35.cs⟩), (.agg ⟨t37.cs⟩)] w38 fun t39 w40 =>
  kp b24 w38 w40 <|
  kp b9 w38 w40 <|
  kp b1 w38 w40 <|
  (S28 w40) ∧
  (ifB t39
  (callV Pr ApiState.val 17 #[(.agg ⟨[(.int .i64 s.Schema), s.Pairs.val, s.Sessions.val]⟩)] w40 fun t41 w42 =>
  kp b24 w40 w42 <|
  kp b9 w40 w42 <|
  kp b1 w40 w42 <|
  (S28 w42) ∧
  (callV Pr ApiState.val 16 #[(.agg ⟨[(.int .i64 s.Schema), s.Pairs.val, s.Sessions.val]⟩), (.int .i64 0), (.int .i64 0)] w42 fun t43 w44 =>
  kp b24 w42 w44 <|
  kp b9 w42 w44 <|
  kp b1 w42 w44 <|
  (S28 w44) ∧
  (callV Pr Value.bool 15 #[(.agg ⟨t41.cs⟩), (.agg ⟨t43.cs⟩)] w44 fun t45 w46 =>
  kp b24 w44 w46 <|
  kp b9 w44 w46 <|
  kp b1 w44 w46 <|
  (S28 w46) ∧
  (ifB t45
  (callV Pr Value.bool 12 #[] w46 fun t47 w48 =>
  kp b24 w46 w48 <|
  kp b9 w46 w48 <|
  kp b1 w46 w48 <|
  (S28 w48) ∧
  (K t47 w48))
  (K false w46)))))
  (K false w40)))))
  (K false w34)))
  (K false w32))))
  (K false w27))
  (K false w27)) w26) w25) w23))) w10) w8)) w
def law25_MigrUps_ann : Ann := (.s (.r [(0, .nl 1)]) (.s (.s (.r [(1, .call rB)]) (.c (.s (.r [(0, .call rB)]) .d) .d)) (.s (.r [(1, .call (rT2 rApiState (rI .i64))), (5, .nl 3), (6, .ls 3)]) (.s (.s (.r [(1, .call rB)]) (.c (.s (.r [(5, .call rB), (8, .call rB)]) .d) .d)) (.s (.s .d (.c (.s (.r [(5, .call rB), (8, .call rB)]) .d) .d)) (.s (.r [(1, .call (rT2 rApiState (rI .i64))), (5, .nl 5), (6, .ls 5)]) (.s (.h (.take 0 (.take 1 (.take 2 (.take 3 (.take 4 (.take 5 (.take 6 (.take 7 (.take 8 (.one 9 (.one 10 (.take 11 (.take 12 (.take 13 (.one 14 (.take 15 (.take 16 (.take 17 (.take 19 (.one 18 (.one 20 (.one 21 (.take 22 (.take 23 (.take 24 (.take 26 (.one 25 (.one 27 (.one 28 (.take 29 (.take 30 (.one 31 (.take 32 (.take 33 .done)))))))))))))))))))))))))))))))))) [(9, .call rApiState), (10, .call rB), (14, .call rB), (18, .call rApiState), (20, .call rApiState), (21, .call rB), (25, .call rApiState), (27, .call rApiState), (28, .call rB), (31, .call rB)]) .d)))))))
theorem law25_MigrUps_calls {s : ApiState} {K : Bool → World → Prop} {w : World} (h : law25_MigrUps s K w) : callV Pr Value.bool 3 #[(.agg ⟨s.cs⟩)] w K :=
  calls_of Pr_plain Pr_mixed Pr_func3 law25_MigrUps_ann rB (args := [(.agg ⟨s.cs⟩)]) (by kernel_rfl) h

/- changeover/changeoverlaw25.MigrChecks -/
def law25_MigrChecks (s : ApiState) (other : ApiState) (K : Bool → World → Prop) (w : World) : Prop :=
  newV (fun b1 w2 =>
  newV (fun b3 w4 =>
  callV Pr Value.bool 11 #[(.agg ⟨[(.int .i64 s.Schema), s.Pairs.val, s.Sessions.val]⟩)] w4 fun t5 w6 =>
  kp b3 w4 w6 <|
  kp b1 w4 w6 <|
  ifB t5
  (callV Pr Value.bool 12 #[] w6 fun t7 w8 =>
  kp b3 w6 w8 <|
  kp b1 w6 w8 <|
  K t7 w8)
  (callV Pr Value.bool 11 #[(.agg ⟨[(.int .i64 other.Schema), other.Pairs.val, other.Sessions.val]⟩)] w6 fun t9 w10 =>
  kp b3 w6 w10 <|
  kp b1 w6 w10 <|
  ifB t9
  (callV Pr Value.bool 12 #[] w10 fun t11 w12 =>
  kp b3 w10 w12 <|
  kp b1 w10 w12 <|
  K t11 w12)
  (join1 (fun (j13 : Int → World → Prop) =>
  callV Pr Value.bool 14 #[(.agg ⟨[(.int .i64 s.Schema), s.Pairs.val, s.Sessions.val]⟩)] w10 fun t14 w15 =>
  kp b3 w10 w15 <|
  kp b1 w10 w15 <|
  ifB (!t14)
  (j13 3 w15)
  (j13 0 w15))
  (fun want16 w17 =>
  heldM (fun S19 w18 =>
  callV Pr (Value.int .i64) 18 #[(.agg ⟨[(.int .i64 s.Schema), s.Pairs.val, s.Sessions.val]⟩)] w18 fun t20 w21 =>
  kp b3 w18 w21 <|
  kp b1 w18 w21 <|
  (S19 w21) ∧
  (ifB (t20 == want16)
  (callV Pr Value.bool 19 #[(.agg ⟨[(.int .i64 s.Schema), s.Pairs.val, s.Sessions.val]⟩), (.agg ⟨[(.int .i64 other.Schema), other.Pairs.val, other.Sessions.val]⟩)] w21 fun t22 w23 =>
  kp b3 w21 w23 <|
  kp b1 w21 w23 <|
  (S19 w23) ∧
  (callV Pr Value.bool 15 #[(.agg ⟨[(.int .i64 s.Schema), s.Pairs.val, s.Sessions.val]⟩), (.agg ⟨[(.int .i64 other.Schema), other.Pairs.val, other.Sessions.val]⟩)] w23 fun t24 w25 =>
  kp b3 w23 w25 <|
  kp b1 w23 w25 <|
  (S19 w25) ∧
  (ifB (t22 == t24)
  (callV Pr ApiState.val 20 #[(.agg ⟨[(.int .i64 s.Schema), s.Pairs.val, s.Sessions.val]⟩)] w25 fun t26 w27 =>
  kp b3 w25 w27 <|
  kp b1 w25 w27 <|
  (S19 w27) ∧
  (callV Pr Value.bool 19 #[(.agg ⟨[(.int .i64 s.Schema), s.Pairs.val, s.Sessions.val]⟩), (.agg ⟨t26.cs⟩)] w27 fun t28 w29 =>
  kp b3 w27 w29 <|
  kp b1 w27 w29 <|
  (S19 w29) ∧
  (ifB t28
  (callV Pr ApiState.val 20 #[(.agg ⟨[(.int .i64 s.Schema), s.Pairs.val, s.Sessions.val]⟩)] w29 fun t30 w31 =>
  kp b3 w29 w31 <|
  kp b1 w29 w31 <|
  (S19 w31) ∧
  (callV Pr Value.bool 15 #[(.agg ⟨t30.cs⟩), (.agg ⟨[(.int .i64 s.Schema), s.Pairs.val, s.Sessions.val]⟩)] w31 fun t32 w33 =>
  kp b3 w31 w33 <|
  kp b1 w31 w33 <|
  (S19 w33) ∧
  (ifB t32
  (callV Pr Value.bool 12 #[] w33 fun t34 w35 =>
  kp b3 w33 w35 <|
  kp b1 w33 w35 <|
  (S19 w35) ∧
  (K t34 w35))
  (K false w33))))
  (K false w29))))
  (K false w25))))
  (K false w21))) w17)))) w2) w
def law25_MigrChecks_ann : Ann := (.s (.r [(0, .nl 2), (1, .nl 3)]) (.s (.s (.r [(1, .call rB), (4, .call rB)]) (.c (.s (.r [(0, .call rB)]) .d) .d)) (.s .d (.sj [(.s 5, (rI .i64))] (.s (.r [(1, .call rB)]) (.c .d .d)) (.s (.h (.take 0 (.take 2 (.one 1 (.take 3 (.take 4 (.take 5 (.take 6 (.take 8 (.take 9 (.one 7 (.one 10 (.take 11 (.take 12 (.take 13 (.take 14 (.take 15 (.one 16 (.one 17 (.take 18 (.take 19 (.take 20 (.take 22 (.one 21 (.one 23 (.take 24 (.take 25 (.one 26 (.take 27 (.take 28 .done))))))))))))))))))))))))))))) [(1, .call (rI .i64)), (7, .call rB), (10, .call rB), (16, .call rApiState), (17, .call rB), (21, .call rApiState), (23, .call rB), (26, .call rB)]) .d)))))
theorem law25_MigrChecks_calls {s : ApiState} {other : ApiState} {K : Bool → World → Prop} {w : World} (h : law25_MigrChecks s other K w) : callV Pr Value.bool 4 #[(.agg ⟨s.cs⟩), (.agg ⟨other.cs⟩)] w K :=
  calls_of Pr_plain Pr_mixed Pr_func4 law25_MigrChecks_ann rB (args := [(.agg ⟨s.cs⟩), (.agg ⟨other.cs⟩)]) (by kernel_rfl) h

/- changeover/changeoverlaw10.BallotLess -/
def law10_BallotLess (a : ApiBallot) (b : ApiBallot) (K : Bool → World → Prop) (w : World) : Prop :=
  newV (fun b1 w2 =>
  newV (fun b3 w4 =>
  heldM (fun S6 w5 =>
  callV Pr Value.bool 21 #[(.agg ⟨[(.int .i64 a.Round), (.int .i64 a.Node)]⟩), (.agg ⟨[(.int .i64 b.Round), (.int .i64 b.Node)]⟩)] w5 fun x7 w8 =>
  kp b3 w5 w8 <|
  kp b1 w5 w8 <|
  (S6 w8) ∧
  (callV Pr Value.bool 21 #[(.agg ⟨[(.int .i64 b.Round), (.int .i64 b.Node)]⟩), (.agg ⟨[(.int .i64 a.Round), (.int .i64 a.Node)]⟩)] w8 fun y9 w10 =>
  kp b3 w8 w10 <|
  kp b1 w8 w10 <|
  (S6 w10) ∧
  (join1 (fun (j11 : (List UInt8) → World → Prop) =>
  callV Pr Value.bool 22 #[(.agg ⟨[(.int .i64 a.Round), (.int .i64 a.Node)]⟩)] w10 fun t12 w13 =>
  kp b3 w10 w13 <|
  kp b1 w10 w13 <|
  ifB t12
  (callV Pr sval 23 #[(.agg ⟨[(.int .i64 a.Round), (.int .i64 a.Node)]⟩)] w13 fun want14 w15 =>
  kp b3 w13 w15 <|
  kp b1 w13 w15 <|
  j11 want14 w15)
  (j11 [] w13))
  (fun want16 w17 =>
  heldM (fun S19 w18 =>
  callV Pr Value.bool 24 #[(.agg ⟨[(.int .i64 a.Round), (.int .i64 a.Node)]⟩), (.agg ⟨[(.int .i64 b.Round), (.int .i64 b.Node)]⟩)] w18 fun t20 w21 =>
  kp b3 w18 w21 <|
  kp b1 w18 w21 <|
  (S19 w21) ∧
  (ifB (x7 == t20)
  (callV Pr Value.bool 24 #[(.agg ⟨[(.int .i64 b.Round), (.int .i64 b.Node)]⟩), (.agg ⟨[(.int .i64 a.Round), (.int .i64 a.Node)]⟩)] w21 fun t22 w23 =>
  kp b3 w21 w23 <|
  kp b1 w21 w23 <|
  (S19 w23) ∧
  (ifB (y9 == t22)
  (ifB x7
  (opH Pr S19 (binSem .neq 36 (.tmp 35) (.tmp 36) (.agg ⟨[(.int .i64 a.Round), (.int .i64 a.Node)]⟩) (.agg ⟨[(.int .i64 b.Round), (.int .i64 b.Node)]⟩)) Value.bool (fun t24 =>
  ifB (true == t24)
  (ifB x7
  (ifB (!y9)
  (callV Pr Value.bool 25 #[(.agg ⟨[(.int .i64 a.Round), (.int .i64 a.Node)]⟩)] w23 fun t25 w26 =>
  kp b3 w23 w26 <|
  kp b1 w23 w26 <|
  (S19 w26) ∧
  (callV Pr Value.bool 22 #[(.agg ⟨[(.int .i64 a.Round), (.int .i64 a.Node)]⟩)] w26 fun t27 w28 =>
  kp b3 w26 w28 <|
  kp b1 w26 w28 <|
  (S19 w28) ∧
  (ifB (t25 == t27)
  (callV Pr sval 26 #[(.agg ⟨[(.int .i64 a.Round), (.int .i64 a.Node)]⟩)] w28 fun t29 w30 =>
  kp b3 w28 w30 <|
  kp b1 w28 w30 <|
  (S19 w30) ∧
  (ifB (strEq t29 want16)
  (callV Pr Value.bool 27 #[] w30 fun t31 w32 =>
  kp b3 w30 w32 <|
  kp b1 w30 w32 <|
  (S19 w32) ∧
  (K t31 w32))
  (K false w30)))
  (K false w28))))
  (K false w23))
  (ifB (!false)
  (callV Pr Value.bool 25 #[(.agg ⟨[(.int .i64 a.Round), (.int .i64 a.Node)]⟩)] w23 fun t33 w34 =>
  kp b3 w23 w34 <|
  kp b1 w23 w34 <|
  (S19 w34) ∧
  (callV Pr Value.bool 22 #[(.agg ⟨[(.int .i64 a.Round), (.int .i64 a.Node)]⟩)] w34 fun t35 w36 =>
  kp b3 w34 w36 <|
  kp b1 w34 w36 <|
  (S19 w36) ∧
  (ifB (t33 == t35)
  (callV Pr sval 26 #[(.agg ⟨[(.int .i64 a.Round), (.int .i64 a.Node)]⟩)] w36 fun t37 w38 =>
  kp b3 w36 w38 <|
  kp b1 w36 w38 <|
  (S19 w38) ∧
  (ifB (strEq t37 want16)
  (callV Pr Value.bool 27 #[] w38 fun t39 w40 =>
  kp b3 w38 w40 <|
  kp b1 w38 w40 <|
  (S19 w40) ∧
  (K t39 w40))
  (K false w38)))
  (K false w36))))
  (K false w23)))
  (K false w23)))
  (opH Pr S19 (binSem .neq 36 (.tmp 35) (.tmp 36) (.agg ⟨[(.int .i64 a.Round), (.int .i64 a.Node)]⟩) (.agg ⟨[(.int .i64 b.Round), (.int .i64 b.Node)]⟩)) Value.bool (fun t41 =>
  ifB (y9 == t41)
  (ifB x7
  (ifB (!y9)
  (callV Pr Value.bool 25 #[(.agg ⟨[(.int .i64 a.Round), (.int .i64 a.Node)]⟩)] w23 fun t42 w43 =>
  kp b3 w23 w43 <|
  kp b1 w23 w43 <|
  (S19 w43) ∧
  (callV Pr Value.bool 22 #[(.agg ⟨[(.int .i64 a.Round), (.int .i64 a.Node)]⟩)] w43 fun t44 w45 =>
  kp b3 w43 w45 <|
  kp b1 w43 w45 <|
  (S19 w45) ∧
  (ifB (t42 == t44)
  (callV Pr sval 26 #[(.agg ⟨[(.int .i64 a.Round), (.int .i64 a.Node)]⟩)] w45 fun t46 w47 =>
  kp b3 w45 w47 <|
  kp b1 w45 w47 <|
  (S19 w47) ∧
  (ifB (strEq t46 want16)
  (callV Pr Value.bool 27 #[] w47 fun t48 w49 =>
  kp b3 w47 w49 <|
  kp b1 w47 w49 <|
  (S19 w49) ∧
  (K t48 w49))
  (K false w47)))
  (K false w45))))
  (K false w23))
  (ifB (!false)
  (callV Pr Value.bool 25 #[(.agg ⟨[(.int .i64 a.Round), (.int .i64 a.Node)]⟩)] w23 fun t50 w51 =>
  kp b3 w23 w51 <|
  kp b1 w23 w51 <|
  (S19 w51) ∧
  (callV Pr Value.bool 22 #[(.agg ⟨[(.int .i64 a.Round), (.int .i64 a.Node)]⟩)] w51 fun t52 w53 =>
  kp b3 w51 w53 <|
  kp b1 w51 w53 <|
  (S19 w53) ∧
  (ifB (t50 == t52)
  (callV Pr sval 26 #[(.agg ⟨[(.int .i64 a.Round), (.int .i64 a.Node)]⟩)] w53 fun t54 w55 =>
  kp b3 w53 w55 <|
  kp b1 w53 w55 <|
  (S19 w55) ∧
  (ifB (strEq t54 want16)
  (callV Pr Value.bool 27 #[] w55 fun t56 w57 =>
  kp b3 w55 w57 <|
  kp b1 w55 w57 <|
  (S19 w57) ∧
  (K t56 w57))
  (K false w55)))
  (K false w53))))
  (K false w23)))
  (K false w23))))
  (K false w23)))
  (K false w21))) w17)))) w4) w2) w
def law10_BallotLess_ann : Ann := (.s (.r [(0, .nl 2), (1, .nl 3)]) (.s (.h (.take 0 (.take 1 (.take 3 (.take 4 (.one 2 (.one 5 (.take 6 (.take 7 .done)))))))) [(2, .call rB), (5, .call rB)]) (.s .d (.sj [(.s 7, rS)] (.s (.r [(1, .call rB)]) (.c (.r [(1, .call rS)]) .d)) (.s (.h (.take 0 (.take 1 (.take 2 (.one 3 (.take 4 (.take 5 (.take 6 (.take 7 (.take 8 (.one 9 (.take 10 (.take 11 (.take 12 (.take 13 (.take 14 (.take 15 (.take 16 (.take 17 (.take 18 (.take 19 (.take 20 (.take 21 (.take 22 (.take 23 (.take 24 (.take 25 (.take 26 (.take 27 (.take 28 (.take 29 (.take 30 (.take 32 (.one 31 (.one 33 (.take 34 (.take 35 (.take 36 (.take 37 (.take 39 (.one 38 (.take 40 (.take 41 (.take 42 (.one 43 (.take 44 (.take 45 .done)))))))))))))))))))))))))))))))))))))))))))))) [(3, .call rB), (9, .call rB), (19, .rd rB), (31, .call rB), (33, .call rB), (38, .call rS), (43, .call rB)]) .d)))))
theorem law10_BallotLess_calls {a : ApiBallot} {b : ApiBallot} {K : Bool → World → Prop} {w : World} (h : law10_BallotLess a b K w) : callV Pr Value.bool 5 #[(.agg ⟨a.cs⟩), (.agg ⟨b.cs⟩)] w K :=
  calls_of Pr_plain Pr_mixed Pr_func5 law10_BallotLess_ann rB (args := [(.agg ⟨a.cs⟩), (.agg ⟨b.cs⟩)]) (by kernel_rfl) h

/- changeover/changeoverlaw10.BallotNext -/
def law10_BallotNext (b : ApiBallot) (node : Int) (K : Bool → World → Prop) (w : World) : Prop :=
  newV (fun b1 w2 =>
  callV Pr (tval2 ApiBallot.val (Value.int .i64)) 28 #[(.agg ⟨[(.int .i64 b.Round), (.int .i64 b.Node)]⟩), (.int .i64 node)] w2 fun t3 w4 =>
  kp b1 w2 w4 <|
  newV (fun b5 w6 =>
  wrM b5 (fun w7 =>
  callV Pr (tval2 ApiBallot.val Value.bool) 29 #[(.agg ⟨[(.int .i64 b.Round), (.int .i64 b.Node)]⟩), (.int .i64 node)] w7 fun t8 w9 =>
  kp b5 w7 w9 <|
  kp b1 w7 w9 <|
  newV (fun b10 w11 =>
  wrM b10 (fun w12 =>
  ifB (!t8.2)
  (opRd Pr (binSem .eql 36 (.tmp 24) (.tmp 25) (.agg ⟨[(.int .i64 t3.1.Round), (.int .i64 t3.1.Node)]⟩) (.agg ⟨[(.int .i64 0), (.int .i64 0)]⟩)) Value.bool (fun t13 =>
  ifB t13
  (ifB (t3.2 == 6)
  (callV Pr Value.bool 27 #[] w12 fun t14 w15 =>
  kp b10 w12 w15 <|
  kp b5 w12 w15 <|
  kp b1 w12 w15 <|
  K t14 w15)
  (K false w12))
  (K false w12)) w12)
  (newV (fun b16 w17 =>
  wrM b16 (fun w18 =>
  opRd Pr (binSem .eql 36 (.tmp 39) (.tmp 40) (.agg ⟨[(.int .i64 t3.1.Round), (.int .i64 t3.1.Node)]⟩) (.agg ⟨[(.int .i64 t8.1.Round), (.int .i64 t8.1.Node)]⟩)) Value.bool (fun t19 =>
  ifB t19
  (ifB (t3.2 == 0)
  (callV Pr Value.bool 24 #[(.agg ⟨[(.int .i64 b.Round), (.int .i64 b.Node)]⟩), (.agg ⟨[(.int .i64 t3.1.Round), (.int .i64 t3.1.Node)]⟩)] w18 fun t20 w21 =>
  kp b16 w18 w21 <|
  kp b10 w18 w21 <|
  kp b5 w18 w21 <|
  kp b1 w18 w21 <|
  ifB t20
  (ifB (t3.1.Node == node)
  (ifB (t3.1.Round == 1)
  (callV Pr Value.bool 27 #[] w21 fun t22 w23 =>
  kp b16 w21 w23 <|
  kp b10 w21 w23 <|
  kp b5 w21 w23 <|
  kp b1 w21 w23 <|
  K t22 w23)
  (callV Pr Value.bool 24 #[(.agg ⟨[(.int .i64 b.Round), (.int .i64 b.Node)]⟩), (.agg ⟨[(.int .i64 (i64 (t3.1.Round - 1))), (.int .i64 node)]⟩)] w21 fun t24 w25 =>
  kp b16 w21 w25 <|
  kp b10 w21 w25 <|
  kp b5 w21 w25 <|
  kp b1 w21 w25 <|
  ifB (!t24)
  (callV Pr Value.bool 27 #[] w25 fun t26 w27 =>
  kp b16 w25 w27 <|
  kp b10 w25 w27 <|
  kp b5 w25 w27 <|
  kp b1 w25 w27 <|
  K t26 w27)
  (K false w25)))
  (K false w21))
  (K false w21))
  (K false w18))
  (K false w18)) w18) w17) w12)) w11) w9) w6) w4) w
def law10_BallotNext_ann : Ann := (.s (.r [(0, .nl 2)]) (.s (.r [(2, .call (rT2 rApiBallot (rI .i64))), (6, .nl 5), (7, .ls 5)]) (.s (.r [(2, .call (rT2 rApiBallot rB)), (6, .nl 7), (7, .ls 7)]) (.s (.s .d (.c (.s (.r [(2, .rd rB), (8, .call rB)]) .d) .d)) (.s (.r [(5, .nl 9), (6, .ls 9)]) (.s (.r [(2, .rd rB), (10, .call rB), (25, .call rB), (30, .call rB)]) .d))))))
theorem law10_BallotNext_calls {b : ApiBallot} {node : Int} {K : Bool → World → Prop} {w : World} (h : law10_BallotNext b node K w) : callV Pr Value.bool 6 #[(.agg ⟨b.cs⟩), (.int .i64 node)] w K :=
  calls_of Pr_plain Pr_mixed Pr_func6 law10_BallotNext_ann rB (args := [(.agg ⟨b.cs⟩), (.int .i64 node)]) (by kernel_rfl) h

/- changeover/changeoverlaw10.BallotMax -/
def law10_BallotMax (l : Sl) (K : Bool → World → Prop) (w : World) : Prop :=
  ifB (decide ((l.len : Int) > 200))
  (callV Pr Value.bool 27 #[] w fun t1 w2 =>
  K t1 w2)
  (callV Pr ApiBallot.val 30 #[l.val] w fun t3 w4 =>
  newV (fun b5 w6 =>
  wrM b5 (fun w7 =>
  ifB ((l.len : Int) == 0)
  (opRd Pr (binSem .eql 36 (.tmp 15) (.tmp 16) (.agg ⟨[(.int .i64 t3.Round), (.int .i64 t3.Node)]⟩) (.agg ⟨[(.int .i64 0), (.int .i64 0)]⟩)) Value.bool (fun t8 =>
  ifB t8
  (callV Pr Value.bool 27 #[] w7 fun t9 w10 =>
  kp b5 w7 w10 <|
  K t9 w10)
  (K false w7)) w7)
  (loop2 (false : Bool) (0 : Int) (fun some11 i12 k13 w14 =>
  ifB (decide (i12 < (l.len : Int)))
  (drewM (fun w15 =>
  ifB some11
  (heldM (fun S17 w16 =>
  opH Pr S17 (Instr.indexAt 45 l.val (.int .i64 i12)) pav (fun t18 =>
  opH Pr S17 (Instr.loadAt 36 (.pointer (some t18))) ApiBallot.val (fun t19 =>
  callV Pr Value.bool 24 #[(.agg ⟨[(.int .i64 t3.Round), (.int .i64 t3.Node)]⟩), (.agg ⟨t19.cs⟩)] w16 fun t20 w21 =>
  kp b5 w16 w21 <|
  (S17 w21) ∧
  (ifB t20
  (K false w21)
  (k13 true (i64 (i12 + 1)) w21))))) w15)
  (opRd Pr (Instr.indexAt 45 l.val (.int .i64 i12)) pav (fun t22 =>
  opRd Pr (Instr.loadAt 36 (.pointer (some t22))) ApiBallot.val (fun t23 =>
  opRd Pr (binSem .eql 36 (.tmp 32) (.tmp 33) (.agg ⟨t23.cs⟩) (.agg ⟨[(.int .i64 t3.Round), (.int .i64 t3.Node)]⟩)) Value.bool (fun t24 =>
  heldM (fun S26 w25 =>
  opH Pr S26 (Instr.indexAt 45 l.val (.int .i64 i12)) pav (fun t27 =>
  opH Pr S26 (Instr.loadAt 36 (.pointer (some t27))) ApiBallot.val (fun t28 =>
  callV Pr Value.bool 24 #[(.agg ⟨[(.int .i64 t3.Round), (.int .i64 t3.Node)]⟩), (.agg ⟨t28.cs⟩)] w25 fun t29 w30 =>
  kp b5 w25 w30 <|
  (S26 w30) ∧
  (ifB t29
  (K false w30)
  (k13 t24 (i64 (i12 + 1)) w30))))) w15) w15) w15) w15)) w14)
  (ifB some11
  (callV Pr Value.bool 27 #[] w14 fun t31 w32 =>
  kp b5 w14 w32 <|
  K t31 w32)
  (K false w14))) w7)) w6) w4)
def law10_BallotMax_ann : Ann := (.s .d (.s (.s .d (.c (.s (.r [(0, .call rB)]) .d) .d)) (.s (.r [(1, .call rApiBallot), (2, .nl 3), (3, .ls 3)]) (.s (.s .d (.c (.s (.r [(2, .rd rB), (4, .call rB)]) .d) .d)) (.s .d (.s (.s .d (.b (.l [(.s 4, rB), (.s 5, (rI .i64))] (.s (.s .d (.c .d .d)) (.s (.b (.s (.r [(4, .rd rPA), (5, .rd rApiBallot), (7, .rd rB)]) (.s (.h (.take 0 (.take 1 (.take 2 (.take 3 (.take 4 (.one 5 .done)))))) [(3, .rd rPA), (4, .rd rApiBallot), (5, .call rB)]) (.c (.s .d .d) .d)))) .d))))) (.s (.r [(2, .call rB)]) .d)))))))
theorem law10_BallotMax_calls {l : Sl} {K : Bool → World → Prop} {w : World} (h : law10_BallotMax l K w) : callV Pr Value.bool 7 #[l.val] w K :=
  calls_of Pr_plain Pr_mixed Pr_func7 law10_BallotMax_ann rB (args := [l.val]) (by kernel_rfl) h

/- changeover/changeoverlaw22.SessChecks -/
def law22_SessChecks (l : Sl) (K : Bool → World → Prop) (w : World) : Prop :=
  callV Pr Value.bool 31 #[l.val] w fun t1 w2 =>
  ifB t1
  (callV Pr Value.bool 32 #[] w2 fun t3 w4 =>
  K t3 w4)
  (callV Pr Value.bool 33 #[l.val] w2 fun t5 w6 =>
  ifB (!t5)
  (callV Pr (Value.int .i64) 34 #[l.val] w6 fun t7 w8 =>
  ifB (t7 == 3)
  (callV Pr Value.bool 32 #[] w8 fun t9 w10 =>
  K t9 w10)
  (K false w8))
  (callV Pr (Value.int .i64) 34 #[l.val] w6 fun t11 w12 =>
  ifB (t11 == 0)
  (callV Pr Value.bool 32 #[] w12 fun t13 w14 =>
  K t13 w14)
  (K false w12)))
def law22_SessChecks_ann : Ann := (.s .d (.s (.s (.r [(1, .call rB)]) (.c (.s (.r [(0, .call rB)]) .d) .d)) (.s .d (.s (.s (.r [(1, .call rB)]) (.c .d .d)) (.s (.r [(1, .call (rI .i64)), (5, .call rB)]) .d)))))
theorem law22_SessChecks_calls {l : Sl} {K : Bool → World → Prop} {w : World} (h : law22_SessChecks l K w) : callV Pr Value.bool 8 #[l.val] w K :=
  calls_of Pr_plain Pr_mixed Pr_func8 law22_SessChecks_ann rB (args := [l.val]) (by kernel_rfl) h

/- changeover/changeoverlaw23.KvoneChecks -/
def law23_KvoneChecks (l : Sl) (key : List UInt8) (K : Bool → World → Prop) (w : World) : Prop :=
  callV Pr Value.bool 35 #[l.val] w fun t1 w2 =>
  ifB t1
  (callV Pr Value.bool 36 #[] w2 fun t3 w4 =>
  K t3 w4)
  (ifB (decide (((key : List UInt8).length : Int) > 200))
  (callV Pr Value.bool 36 #[] w2 fun t5 w6 =>
  K t5 w6)
  (join1 (fun (j7 : Int → World → Prop) =>
  callV Pr Value.bool 37 #[(.int .i64 1), l.val] w2 fun t8 w9 =>
  ifB (!t8)
  (j7 3 w9)
  (j7 0 w9))
  (fun want10 w11 =>
  callV Pr (Value.int .i64) 38 #[l.val] w11 fun t12 w13 =>
  ifB (t12 != want10)
  (K false w13)
  (callV Pr Value.bool 39 #[l.val] w13 fun t14 w15 =>
  ifB (!t14)
  (callV Pr Value.bool 36 #[] w15 fun t16 w17 =>
  K t16 w17)
  (callV Pr (tval2 ApiPair.val Value.bool) 40 #[l.val, (sval key)] w15 fun t18 w19 =>
  newV (fun b20 w21 =>
  wrM b20 (fun w22 =>
  callV Pr (Value.int .i64) 41 #[l.val, (sval key)] w22 fun at23 w24 =>
  kp b20 w22 w24 <|
  ifB (decide (at23 < 0))
  (opRd Pr (binSem .eql 54 (.tmp 39) (.tmp 40) (.agg ⟨[(sval t18.1.Key), (sval t18.1.Val), (.int .i64 t18.1.Rev)]⟩) (.agg ⟨[(sval []), (sval []), (.int .i64 0)]⟩)) Value.bool (fun t25 =>
  ifB t25
  (ifB (!t18.2)
  (callV Pr Value.bool 36 #[] w24 fun t26 w27 =>
  kp b20 w24 w27 <|
  K t26 w27)
  (K false w24))
  (K false w24)) w24)
  (heldM (fun S29 w28 =>
  opH Pr S29 (Instr.indexAt 22 l.val (.int .i64 at23)) pav (fun t30 =>
  opH Pr S29 (Instr.loadAt 54 (.pointer (some t30))) ApiPair.val (fun t31 =>
  opH Pr S29 (binSem .eql 54 (.tmp 49) (.tmp 53) (.agg ⟨[(sval t18.1.Key), (sval t18.1.Val), (.int .i64 t18.1.Rev)]⟩) (.agg ⟨t31.cs⟩)) Value.bool (fun t32 =>
  ifB t32
  (ifB t18.2
  (callV Pr Value.bool 36 #[] w28 fun t33 w34 =>
  kp b20 w28 w34 <|
  (S29 w34) ∧
  (K t33 w34))
  (K false w28))
  (K false w28))))) w24)) w21) w19)))))
def law23_KvoneChecks_ann : Ann := (.s .d (.s (.s (.r [(1, .call rB)]) (.c (.s (.r [(0, .call rB)]) .d) .d)) (.s .d (.sj [(.s 5, (rI .i64))] (.s (.r [(1, .call rB)]) (.c .d .d)) (.s (.s (.r [(1, .call (rI .i64))]) (.c (.s .d .d) .d)) (.s (.s (.r [(1, .call rB)]) (.c (.s (.r [(0, .call rB)]) .d) .d)) (.s (.r [(2, .call (rT2 rApiPair rB)), (6, .nl 6), (7, .ls 6)]) (.s (.r [(2, .call (rI .i64))]) (.s (.s .d (.c (.s (.r [(2, .rd rB), (8, .call rB)]) .d) .d)) (.s (.h (.take 0 (.take 1 (.take 2 (.take 3 (.take 4 (.take 5 (.take 6 (.take 7 (.take 8 (.take 9 (.one 10 (.take 11 (.take 12 .done))))))))))))) [(3, .rd rPA), (4, .rd rApiPair), (5, .rd rB), (10, .call rB)]) .d))))))))))
theorem law23_KvoneChecks_calls {l : Sl} {key : List UInt8} {K : Bool → World → Prop} {w : World} (h : law23_KvoneChecks l key K w) : callV Pr Value.bool 9 #[l.val, (sval key)] w K :=
  calls_of Pr_plain Pr_mixed Pr_func9 law23_KvoneChecks_ann rB (args := [l.val, (sval key)]) (by kernel_rfl) h

/- changeover/changeoverlaw24.KvtwoChecks -/
def law24_KvtwoChecks (l : Sl) (K : Bool → World → Prop) (w : World) : Prop :=
  callV Pr Value.bool 35 #[l.val] w fun t1 w2 =>
  ifB t1
  (callV Pr Value.bool 42 #[] w2 fun t3 w4 =>
  K t3 w4)
  (join1 (fun (j5 : Int → World → Prop) =>
  callV Pr Value.bool 37 #[(.int .i64 2), l.val] w2 fun t6 w7 =>
  ifB (!t6)
  (j5 3 w7)
  (j5 0 w7))
  (fun want8 w9 =>
  callV Pr Sl.val 43 #[l.val] w9 fun p10 w11 =>
  join0 (fun (j12 : World → Prop) =>
  loop1 (0 : Int) (fun i13 k14 w15 =>
  ifB (decide (i13 < (p10.len : Int)))
  (ifB (decide (i13 < (l.len : Int)))
  (drewM (fun w16 =>
  opRd Pr (Instr.indexAt 22 p10.val (.int .i64 i13)) pav (fun t17 =>
  opRd Pr (Instr.loadAt 9 (.pointer (some (t17.add 0)))) sval (fun t18 =>
  opRd Pr (Instr.indexAt 22 l.val (.int .i64 i13)) pav (fun t19 =>
  opRd Pr (Instr.loadAt 9 (.pointer (some (t19.add 0)))) sval (fun t20 =>
  ifB (!(strEq t18 t20))
  (K false w16)
  (opRd Pr (Instr.indexAt 22 p10.val (.int .i64 i13)) pav (fun t21 =>
  opRd Pr (Instr.loadAt 9 (.pointer (some (t21.add 1)))) sval (fun t22 =>
  opRd Pr (Instr.indexAt 22 l.val (.int .i64 i13)) pav (fun t23 =>
  opRd Pr (Instr.loadAt 9 (.pointer (some (t23.add 1)))) sval (fun t24 =>
  ifB (!(strEq t22 t24))
  (K false w16)
  (opRd Pr (Instr.indexAt 22 p10.val (.int .i64 i13)) pav (fun t25 =>
  opRd Pr (Instr.loadAt 3 (.pointer (some (t25.add 2)))) (Value.int .i64) (fun t26 =>
  ifB (t26 != 0)
  (K false w16)
  (k14 (i64 (i13 + 1)) w16)) w16) w16)) w16) w16) w16) w16)) w16) w16) w16) w16) w15)
  (j12 w15))
  (j12 w15)) w11)
  (fun w27 =>
  callV Pr (Value.int .i64) 44 #[l.val] w27 fun t28 w29 =>
  ifB (t28 == want8)
  (ifB ((p10.len : Int) == (l.len : Int))
  (callV Pr Value.bool 42 #[] w29 fun t30 w31 =>
  K t30 w31)
  (K false w29))
  (K false w29))))
def law24_KvtwoChecks_ann : Ann := (.s .d (.s (.s (.r [(1, .call rB)]) (.c (.s (.r [(0, .call rB)]) .d) .d)) (.s .d (.sj [(.s 3, (rI .i64))] (.s (.r [(1, .call rB)]) (.c .d .d)) (.s (.r [(1, .call rSl)]) (.sj [] (.s .d (.b (.l [(.s 5, (rI .i64))] (.s (.s .d (.c .d .d)) (.s (.b (.s (.r [(2, .rd rPA), (4, .rd rS), (7, .rd rPA), (9, .rd rS), (14, .rd rPA), (16, .rd rS), (19, .rd rPA), (21, .rd rS), (27, .rd rPA), (29, .rd (rI .i64))]) (.c (.s .d .d) .d))) .d))))) (.s (.r [(1, .call (rI .i64)), (12, .call rB)]) .d)))))))
theorem law24_KvtwoChecks_calls {l : Sl} {K : Bool → World → Prop} {w : World} (h : law24_KvtwoChecks l K w) : callV Pr Value.bool 10 #[l.val] w K :=
  calls_of Pr_plain Pr_mixed Pr_func10 law24_KvtwoChecks_ann rB (args := [l.val]) (by kernel_rfl) h

/- changeover/changeoverref25.Large -/
def ref25_Large (s : ApiState) (K : Bool → World → Prop) (w : World) : Prop :=
  newV (fun b1 w2 =>
  callV Pr Value.bool 31 #[s.Sessions.val] w2 fun t3 w4 =>
  kp b1 w2 w4 <|
  ifB t3
  (K true w4)
  (callV Pr Value.bool 35 #[s.Pairs.val] w4 fun t5 w6 =>
  kp b1 w4 w6 <|
  K t5 w6)) w
def ref25_Large_ann : Ann := (.s (.r [(0, .nl 1)]) (.s (.r [(2, .call rB), (6, .call rB)]) .d))
theorem ref25_Large_calls {s : ApiState} {K : Bool → World → Prop} {w : World} (h : ref25_Large s K w) : callV Pr Value.bool 11 #[(.agg ⟨s.cs⟩)] w K :=
  calls_of Pr_plain Pr_mixed Pr_func11 ref25_Large_ann rB (args := [(.agg ⟨s.cs⟩)]) (by kernel_rfl) h

/- changeover/changeoverlaw25.awake -/
def law25_awake (K : Bool → World → Prop) (w : World) : Prop :=
  opTy Pr (Instr.buildSlice 22 1 #[(0, (.agg ⟨[(sval [97]), (sval [49]), (.int .i64 0)]⟩))]) Sl.val (fun t1 w2 =>
  callV Pr (tval2 ApiState.val (Value.int .i64)) 13 #[(.agg ⟨[(.int .i64 1), t1.val, Sl.nil.val]⟩)] w2 fun t3 w4 =>
  newV (fun b5 w6 =>
  wrM b5 (fun w7 =>
  ifB (t3.2 == 0)
  (ifB (t3.1.Schema == 2)
  (ifB ((t3.1.Pairs.len : Int) == 1)
  (opRd Pr (Instr.indexAt 22 t3.1.Pairs.val (.int .i64 0)) pav (fun t8 =>
  opRd Pr (Instr.loadAt 3 (.pointer (some (t8.add 2)))) (Value.int .i64) (fun t9 =>
  K (t9 == 1) w7) w7) w7)
  (K false w7))
  (K false w7))
  (K false w7)) w6) w4) w
def law25_awake_ann : Ann := (.s .d (.s (.r [(1, .ty rSl), (3, .call (rT2 rApiState (rI .i64))), (7, .nl 1), (8, .ls 1)]) (.s (.r [(16, .rd rPA), (18, .rd (rI .i64))]) .d)))
theorem law25_awake_calls {K : Bool → World → Prop} {w : World} (h : law25_awake K w) : callV Pr Value.bool 12 #[] w K :=
  calls_of Pr_plain Pr_mixed Pr_func12 law25_awake_ann rB (args := []) (by kernel_rfl) h

/- changeover/migr.Up -/
def migr_Up (s : ApiState) (K : (ApiState × Int) → World → Prop) (w : World) : Prop :=
  newV (fun b1 w2 =>
  newV (fun b3 w4 =>
  callV Pr (Value.int .i64) 18 #[(.agg ⟨[(.int .i64 s.Schema), s.Pairs.val, s.Sessions.val]⟩)] w4 fun e5 w6 =>
  kp b3 w4 w6 <|
  kp b1 w4 w6 <|
  ifB (e5 != 0)
  (wrM b3 (fun w7 =>
  K ((ApiState.mk 0 Sl.nil Sl.nil), e5) w7) w6)
  (ifB (s.Schema == 2)
  (wrM b3 (fun w8 =>
  K ((ApiState.mk 0 Sl.nil Sl.nil), 12) w8) w6)
  (callV Pr ApiState.val 20 #[(.agg ⟨[(.int .i64 s.Schema), s.Pairs.val, s.Sessions.val]⟩)] w6 fun t9 w10 =>
  kp b3 w6 w10 <|
  kp b1 w6 w10 <|
  newV (fun b11 w12 =>
  wrM b11 (fun w13 =>
  wrM b11 (fun w14 =>
  loop1 (0 : Int) (fun t15 k16 w17 =>
  ifB (decide (t15 < (t9.Pairs.len : Int)))
  (opRd Pr (Instr.indexAt 22 t9.Pairs.val (.int .i64 t15)) pav (fun t18 =>
  opUn Pr (Instr.storeAt 3 (.pointer (some (t18.add 2))) (.int .i64 1)) (fun w19 =>
  kp b11 w17 w19 <|
  kp b3 w17 w19 <|
  kp b1 w17 w19 <|
  k16 (i64 (t15 + 1)) w19) w17) w17)
  (wrM b3 (fun w20 =>
  K ((ApiState.mk 2 t9.Pairs t9.Sessions), 0) w20) w17)) w14) w13) w12) w10))) w2) w
def migr_Up_ann : Ann := (.s (.r [(0, .nl 1), (1, .nl 2)]) (.s (.s (.r [(1, .call (rI .i64))]) (.s .d (.c (.s (.r [(2, .ls 2)]) .d) .d))) (.s (.s .d (.c (.s (.r [(1, .ls 2)]) .d) .d)) (.s (.r [(1, .call rApiState), (2, .nl 5), (3, .ls 5)]) (.s (.r [(1, .ls 5)]) (.s (.s .d (.b (.l [(.s 23, (rI .i64))] (.s .d (.s (.c .d .d) (.s (.b (.s .d (.r [(3, .rd rPA), (5, .un)]))) .d)))))) (.s (.r [(1, .ls 2)]) .d)))))))
theorem migr_Up_calls {s : ApiState} {K : (ApiState × Int) → World → Prop} {w : World} (h : migr_Up s K w) : callV Pr (tval2 ApiState.val (Value.int .i64)) 13 #[(.agg ⟨s.cs⟩)] w K :=
  calls_of Pr_plain Pr_mixed Pr_func13 migr_Up_ann (rT2 rApiState (rI .i64)) (args := [(.agg ⟨s.cs⟩)]) (by kernel_rfl) h

/- changeover/changeoverref25.Check -/
def ref25_Check (s : ApiState) (K : Bool → World → Prop) (w : World) : Prop :=
  newV (fun b1 w2 =>
  ifB (decide (s.Schema < 1))
  (K false w2)
  (ifB (decide (s.Schema > 2))
  (K false w2)
  (callV Pr Value.bool 37 #[(.int .i64 s.Schema), s.Pairs.val] w2 fun t3 w4 =>
  kp b1 w2 w4 <|
  ifB (!t3)
  (K false w4)
  (callV Pr Value.bool 33 #[s.Sessions.val] w4 fun t5 w6 =>
  kp b1 w4 w6 <|
  ifB (!t5)
  (K false w6)
  (loop1 (0 : Int) (fun i7 k8 w9 =>
  ifB (decide (i7 < (s.Sessions.len : Int)))
  (ifB (s.Schema == 1)
  (opRd Pr (Instr.indexAt 23 s.Sessions.val (.int .i64 i7)) pav (fun t10 =>
  opRd Pr (Instr.loadAt 3 (.pointer (some ((t10.add 2).add 5)))) (Value.int .i64) (fun t11 =>
  ifB (t11 != 0)
  (K false w9)
  (k8 (i64 (i7 + 1)) w9)) w9) w9)
  (k8 (i64 (i7 + 1)) w9))
  (K true w9)) w6))))) w
def ref25_Check_ann : Ann := (.s (.r [(0, .nl 1)]) (.s (.s (.r [(13, .call rB), (19, .call rB)]) (.c (.s .d .d) .d)) (.s (.s .d (.b (.l [(.s 3, (rI .i64))] (.s (.s .d (.c .d .d)) (.s (.b (.s (.r [(7, .rd rPA), (10, .rd (rI .i64))]) (.c (.s .d .d) .d))) .d))))) (.s .d .d))))
theorem ref25_Check_calls {s : ApiState} {K : Bool → World → Prop} {w : World} (h : ref25_Check s K w) : callV Pr Value.bool 14 #[(.agg ⟨s.cs⟩)] w K :=
  calls_of Pr_plain Pr_mixed Pr_func14 ref25_Check_ann rB (args := [(.agg ⟨s.cs⟩)]) (by kernel_rfl) h

/- changeover/changeoverref25.Same -/
def ref25_Same (a : ApiState) (b : ApiState) (K : Bool → World → Prop) (w : World) : Prop :=
  newV (fun b1 w2 =>
  newV (fun b3 w4 =>
  ifB (a.Schema == b.Schema)
  (callV Pr Value.bool 45 #[a.Pairs.val, b.Pairs.val] w4 fun t5 w6 =>
  kp b3 w4 w6 <|
  kp b1 w4 w6 <|
  ifB t5
  (callV Pr Value.bool 46 #[a.Sessions.val, b.Sessions.val] w6 fun t7 w8 =>
  kp b3 w6 w8 <|
  kp b1 w6 w8 <|
  K t7 w8)
  (K false w6))
  (K false w4)) w2) w
def ref25_Same_ann : Ann := (.s (.r [(0, .nl 2), (1, .nl 3)]) (.s (.r [(10, .call rB), (17, .call rB)]) .d))
theorem ref25_Same_calls {a : ApiState} {b : ApiState} {K : Bool → World → Prop} {w : World} (h : ref25_Same a b K w) : callV Pr Value.bool 15 #[(.agg ⟨a.cs⟩), (.agg ⟨b.cs⟩)] w K :=
  calls_of Pr_plain Pr_mixed Pr_func15 ref25_Same_ann rB (args := [(.agg ⟨a.cs⟩), (.agg ⟨b.cs⟩)]) (by kernel_rfl) h

/- changeover/changeoverref25.Revs -/
def ref25_Revs (s : ApiState) (schema : Int) (rev : Int) (K : ApiState → World → Prop) (w : World) : Prop :=
  newV (fun b1 w2 =>
  newV (fun b3 w4 =>
  newV (fun b5 w6 =>
  wrM b5 (fun w7 =>
  loop2 (0 : Int) ((ApiState.mk schema Sl.nil s.Sessions) : ApiState) (fun i8 out9 k10 w11 =>
  ifB (decide (i8 < (s.Pairs.len : Int)))
  (opRd Pr (Instr.indexAt 22 s.Pairs.val (.int .i64 i8)) pav (fun t12 =>
  opRd Pr (Instr.loadAt 54 (.pointer (some t12))) ApiPair.val (fun t13 =>
  newV (fun b14 w15 =>
  wrM b14 (fun w16 =>
  wrM b14 (fun w17 =>
  opTy Pr (Instr.buildSlice 22 1 #[(0, (.agg ⟨[(sval t13.Key), (sval t13.Val), (.int .i64 rev)]⟩))]) Sl.val (fun t18 w19 =>
  kp b14 w17 w19 <|
  kp b5 w17 w19 <|
  kp b3 w17 w19 <|
  kp b1 w17 w19 <|
  opTy Pr (Builtin.append_ #[22, 22] 22 #[out9.Pairs.val, t18.val]) Sl.val (fun t20 w21 =>
  kp b14 w19 w21 <|
  kp b5 w19 w21 <|
  kp b3 w19 w21 <|
  kp b1 w19 w21 <|
  wrM b5 (fun w22 =>
  k10 (i64 (i8 + 1)) (ApiState.mk out9.Schema t20 out9.Sessions) w22) w21) w19) w17) w16) w15) w11) w11) w11)
  (wrM b3 (fun w23 =>
  K out9 w23) w11)) w7) w6) w4) w2) w
def ref25_Revs_ann : Ann := (.s (.r [(0, .nl 3), (1, .nl 6)]) (.s (.r [(4, .nl 7), (5, .ls 7)]) (.s (.s .d (.b (.l [(.s 8, (rI .i64)), (.h 7, rApiState)] (.s (.s .d (.c .d .d)) (.s (.b (.s (.r [(3, .rd rPA), (4, .rd rApiPair), (5, .nl 9), (6, .ls 9)]) (.s (.r [(2, .ls 9)]) (.r [(3, .ty rSl), (4, .ty rSl), (6, .ls 7)])))) .d))))) (.s (.r [(1, .ls 6)]) .d))))
theorem ref25_Revs_calls {s : ApiState} {schema : Int} {rev : Int} {K : ApiState → World → Prop} {w : World} (h : ref25_Revs s schema rev K w) : callV Pr ApiState.val 16 #[(.agg ⟨s.cs⟩), (.int .i64 schema), (.int .i64 rev)] w K :=
  calls_of Pr_plain Pr_mixed Pr_func16 ref25_Revs_ann rApiState (args := [(.agg ⟨s.cs⟩), (.int .i64 schema), (.int .i64 rev)]) (by kernel_rfl) h

/- changeover/migr.Says -/
def migr_Says (s : ApiState) (K : ApiState → World → Prop) (w : World) : Prop :=
  newV (fun b1 w2 =>
  newV (fun b3 w4 =>
  callV Pr ApiState.val 20 #[(.agg ⟨[(.int .i64 s.Schema), s.Pairs.val, s.Sessions.val]⟩)] w4 fun t5 w6 =>
  kp b3 w4 w6 <|
  kp b1 w4 w6 <|
  newV (fun b7 w8 =>
  wrM b7 (fun w9 =>
  wrM b7 (fun w10 =>
  callV Pr Sl.val 43 #[t5.Pairs.val] w10 fun t11 w12 =>
  kp b7 w10 w12 <|
  kp b3 w10 w12 <|
  kp b1 w10 w12 <|
  wrM b7 (fun w13 =>
  wrM b3 (fun w14 =>
  K (ApiState.mk 0 t11 t5.Sessions) w14) w13) w12) w9) w8) w6) w2) w
def migr_Says_ann : Ann := (.s (.r [(0, .nl 1), (1, .nl 2)]) (.s (.r [(1, .call rApiState), (2, .nl 3), (3, .ls 3)]) (.s (.r [(1, .ls 3)]) (.s (.r [(2, .call rSl), (4, .ls 3)]) (.s (.r [(1, .ls 2)]) .d)))))
theorem migr_Says_calls {s : ApiState} {K : ApiState → World → Prop} {w : World} (h : migr_Says s K w) : callV Pr ApiState.val 17 #[(.agg ⟨s.cs⟩)] w K :=
  calls_of Pr_plain Pr_mixed Pr_func17 migr_Says_ann rApiState (args := [(.agg ⟨s.cs⟩)]) (by kernel_rfl) h

/- changeover/migr.Check -/
def migr_Check (s : ApiState) (K : Int → World → Prop) (w : World) : Prop :=
  newV (fun b1 w2 =>
  callV Pr (Value.int .i64) 34 #[s.Sessions.val] w2 fun e3 w4 =>
  kp b1 w2 w4 <|
  ifB (e3 != 0)
  (K e3 w4)
  (ifB (s.Schema == 1)
  (callV Pr Value.bool 47 #[s.Sessions.val, (.func (.func 48) #[] #[])] w4 fun t5 w6 =>
  kp b1 w4 w6 <|
  ifB t5
  (K 3 w6)
  (callV Pr (Value.int .i64) 38 #[s.Pairs.val] w6 fun t7 w8 =>
  kp b1 w6 w8 <|
  K t7 w8))
  (ifB (s.Schema == 2)
  (callV Pr (Value.int .i64) 44 #[s.Pairs.val] w4 fun t9 w10 =>
  kp b1 w4 w10 <|
  K t9 w10)
  (K 3 w4)))) w
def migr_Check_ann : Ann := (.s (.r [(0, .nl 1)]) (.s (.s (.r [(2, .call (rI .i64))]) (.s .d (.c (.s .d .d) .d))) (.s (.s .d (.b (.s .d (.c (.s (.s (.r [(2, .call rB)]) (.c (.s .d .d) .d)) (.s (.r [(2, .call (rI .i64))]) .d)) (.s .d (.c (.s (.r [(2, .call (rI .i64))]) .d) .d)))))) (.s .d .d))))
theorem migr_Check_calls {s : ApiState} {K : Int → World → Prop} {w : World} (h : migr_Check s K w) : callV Pr (Value.int .i64) 18 #[(.agg ⟨s.cs⟩)] w K :=
  calls_of Pr_plain Pr_mixed Pr_func18 migr_Check_ann (rI .i64) (args := [(.agg ⟨s.cs⟩)]) (by kernel_rfl) h

/- changeover/migr.Same -/
def migr_Same (a : ApiState) (b : ApiState) (K : Bool → World → Prop) (w : World) : Prop :=
  newV (fun b1 w2 =>
  newV (fun b3 w4 =>
  ifB (a.Schema == b.Schema)
  (callV Pr Value.bool 49 #[a.Pairs.val, b.Pairs.val] w4 fun t5 w6 =>
  kp b3 w4 w6 <|
  kp b1 w4 w6 <|
  ifB t5
  (callV Pr Value.bool 50 #[a.Sessions.val, b.Sessions.val] w6 fun t7 w8 =>
  kp b3 w6 w8 <|
  kp b1 w6 w8 <|
  K t7 w8)
  (K false w6))
  (K false w4)) w2) w
def migr_Same_ann : Ann := (.s (.r [(0, .nl 2), (1, .nl 3)]) (.s (.r [(10, .call rB), (17, .call rB)]) .d))
theorem migr_Same_calls {a : ApiState} {b : ApiState} {K : Bool → World → Prop} {w : World} (h : migr_Same a b K w) : callV Pr Value.bool 19 #[(.agg ⟨a.cs⟩), (.agg ⟨b.cs⟩)] w K :=
  calls_of Pr_plain Pr_mixed Pr_func19 migr_Same_ann rB (args := [(.agg ⟨a.cs⟩), (.agg ⟨b.cs⟩)]) (by kernel_rfl) h

/- changeover/migr.Clone -/
def migr_Clone (s : ApiState) (K : ApiState → World → Prop) (w : World) : Prop :=
  newV (fun b1 w2 =>
  newV (fun b3 w4 =>
  opTy Pr (Instr.makeSlice 22 (.int .i64 (s.Pairs.len : Int)) (.int .i64 (s.Pairs.len : Int))) Sl.val (fun pairs5 w6 =>
  kp b3 w4 w6 <|
  kp b1 w4 w6 <|
  opTy Pr (Builtin.copy_ #[22, 22] 3 #[pairs5.val, s.Pairs.val]) (Value.int .i64) (fun t7 w8 =>
  kp b3 w6 w8 <|
  kp b1 w6 w8 <|
  opTy Pr (Instr.makeSlice 23 (.int .i64 (s.Sessions.len : Int)) (.int .i64 (s.Sessions.len : Int))) Sl.val (fun sessions9 w10 =>
  kp b3 w8 w10 <|
  kp b1 w8 w10 <|
  opTy Pr (Builtin.copy_ #[23, 23] 3 #[sessions9.val, s.Sessions.val]) (Value.int .i64) (fun t11 w12 =>
  kp b3 w10 w12 <|
  kp b1 w10 w12 <|
  wrM b3 (fun w13 =>
  K (ApiState.mk s.Schema pairs5 sessions9) w13) w12) w10) w8) w6) w4) w2) w
def migr_Clone_ann : Ann := (.s (.r [(0, .nl 1), (1, .nl 2)]) (.s (.r [(3, .ty rSl)]) (.s (.r [(3, .ty (rI .i64))]) (.s (.r [(3, .ty rSl)]) (.s (.r [(3, .ty (rI .i64))]) (.s (.r [(5, .ls 2)]) .d))))))
theorem migr_Clone_calls {s : ApiState} {K : ApiState → World → Prop} {w : World} (h : migr_Clone s K w) : callV Pr ApiState.val 20 #[(.agg ⟨s.cs⟩)] w K :=
  calls_of Pr_plain Pr_mixed Pr_func20 migr_Clone_ann rApiState (args := [(.agg ⟨s.cs⟩)]) (by kernel_rfl) h

/- changeover/ballot.Less -/
def ballot_Less (a : ApiBallot) (b : ApiBallot) (K : Bool → World → Prop) (w : World) : Prop :=
  newV (fun b1 w2 =>
  newV (fun b3 w4 =>
  heldM (fun S6 w5 =>
  callV Pr (Value.int .i64) 52 #[(.int .i64 a.Round), (.int .i64 b.Round)] w5 fun t7 w8 =>
  kp b3 w5 w8 <|
  kp b1 w5 w8 <|
  (S6 w8) ∧
  (callV Pr (Value.int .i64) 52 #[(.int .i64 a.Node), (.int .i64 b.Node)] w8 fun t9 w10 =>
  kp b3 w8 w10 <|
  kp b1 w8 w10 <|
  (S6 w10) ∧
  (opTy Pr (Instr.buildSlice 87 2 #[(0, (.int .i64 t7)), (1, (.int .i64 t9))]) Sl.val (fun t11 w12 =>
  kp b3 w10 w12 <|
  kp b1 w10 w12 <|
  (S6 w12) ∧
  (callV Pr (Value.int .i64) 51 #[t11.val] w12 fun t13 w14 =>
  kp b3 w12 w14 <|
  kp b1 w12 w14 <|
  (S6 w14) ∧
  (K (decide (t13 < 0)) w14))) w10))) w4) w2) w
def ballot_Less_ann : Ann := (.s (.r [(0, .nl 2), (1, .nl 3)]) (.s (.h (.take 0 (.take 1 (.take 2 (.take 3 (.take 5 (.take 6 (.take 7 (.take 8 (.one 4 (.one 9 (.one 10 (.one 11 (.take 12 (.take 13 .done)))))))))))))) [(4, .call (rI .i64)), (9, .call (rI .i64)), (10, .ty rSl), (11, .call (rI .i64))]) .d))
theorem ballot_Less_calls {a : ApiBallot} {b : ApiBallot} {K : Bool → World → Prop} {w : World} (h : ballot_Less a b K w) : callV Pr Value.bool 21 #[(.agg ⟨a.cs⟩), (.agg ⟨b.cs⟩)] w K :=
  calls_of Pr_plain Pr_mixed Pr_func21 ballot_Less_ann rB (args := [(.agg ⟨a.cs⟩), (.agg ⟨b.cs⟩)]) (by kernel_rfl) h

/- changeover/changeoverref10.May -/
def ref10_May (b : ApiBallot) (K : Bool → World → Prop) (w : World) : Prop :=
  newV (fun b1 w2 =>
  join0 (fun (j3 : World → Prop) =>
  ifB (b.Round == 0)
  (ifB (b.Node == 0)
  (K true w2)
  (j3 w2))
  (j3 w2))
  (fun w4 =>
  ifB (decide (b.Round ≥ 1))
  (ifB (decide (b.Round ≤ 4294967296))
  (ifB (decide (b.Node ≥ 1))
  (K (decide (b.Node ≤ 9)) w4)
  (K false w4))
  (K false w4))
  (K false w4))) w
def ref10_May_ann : Ann := (.s (.r [(0, .nl 1)]) (.sj [] (.s .d (.c (.s .d .d) .d)) (.s .d .d)))
theorem ref10_May_calls {b : ApiBallot} {K : Bool → World → Prop} {w : World} (h : ref10_May b K w) : callV Pr Value.bool 22 #[(.agg ⟨b.cs⟩)] w K :=
  calls_of Pr_plain Pr_mixed Pr_func22 ref10_May_ann rB (args := [(.agg ⟨b.cs⟩)]) (by kernel_rfl) h

/- changeover/changeoverref10.Text -/
def ref10_Text (b : ApiBallot) (K : (List UInt8) → World → Prop) (w : World) : Prop :=
  newV (fun b1 w2 =>
  heldM (fun S4 w3 =>
  callV Pr sval 53 #[(.int .i64 b.Round)] w3 fun t5 w6 =>
  kp b1 w3 w6 <|
  (S4 w6) ∧
  (opH Pr S4 (binSem .add 9 (.tmp 5) (.const (sval [46])) (sval t5) (sval [46])) sval (fun t7 =>
  callV Pr sval 53 #[(.int .i64 b.Node)] w6 fun t8 w9 =>
  kp b1 w6 w9 <|
  (S4 w9) ∧
  (opH Pr S4 (binSem .add 9 (.tmp 6) (.tmp 9) (sval t7) (sval t8)) sval (fun t10 =>
  K t10 w9))))) w2) w
def ref10_Text_ann : Ann := (.s (.r [(0, .nl 1)]) (.s (.h (.take 0 (.take 1 (.take 4 (.take 5 (.one 2 (.take 3 (.one 6 (.take 7 (.take 8 .done))))))))) [(2, .call rS), (3, .rd rS), (6, .call rS), (7, .rd rS)]) .d))
theorem ref10_Text_calls {b : ApiBallot} {K : (List UInt8) → World → Prop} {w : World} (h : ref10_Text b K w) : callV Pr sval 23 #[(.agg ⟨b.cs⟩)] w K :=
  calls_of Pr_plain Pr_mixed Pr_func23 ref10_Text_ann rS (args := [(.agg ⟨b.cs⟩)]) (by kernel_rfl) h

/- changeover/changeoverref10.Less -/
def ref10_Less (a : ApiBallot) (b : ApiBallot) (K : Bool → World → Prop) (w : World) : Prop :=
  newV (fun b1 w2 =>
  newV (fun b3 w4 =>
  ifB (a.Round == b.Round)
  (K (decide (a.Node < b.Node)) w4)
  (K (decide (a.Round < b.Round)) w4)) w2) w
def ref10_Less_ann : Ann := (.s (.r [(0, .nl 2), (1, .nl 3)]) (.s (.s .d (.c (.s .d .d) .d)) (.s .d .d)))
theorem ref10_Less_calls {a : ApiBallot} {b : ApiBallot} {K : Bool → World → Prop} {w : World} (h : ref10_Less a b K w) : callV Pr Value.bool 24 #[(.agg ⟨a.cs⟩), (.agg ⟨b.cs⟩)] w K :=
  calls_of Pr_plain Pr_mixed Pr_func24 ref10_Less_ann rB (args := [(.agg ⟨a.cs⟩), (.agg ⟨b.cs⟩)]) (by kernel_rfl) h

/- changeover/ballot.May -/
def ballot_May (b : ApiBallot) (K : Bool → World → Prop) (w : World) : Prop :=
  newV (fun b1 w2 =>
  opRd Pr (binSem .eql 36 (.tmp 3) (.tmp 4) (.agg ⟨[(.int .i64 b.Round), (.int .i64 b.Node)]⟩) (.agg ⟨[(.int .i64 0), (.int .i64 0)]⟩)) Value.bool (fun t3 =>
  ifB t3
  (K true w2)
  (ifB (decide (b.Round ≥ 1))
  (ifB (decide (b.Round ≤ 4294967296))
  (callV Pr Value.bool 54 #[(.int .i64 b.Node)] w2 fun t4 w5 =>
  kp b1 w2 w5 <|
  K t4 w5)
  (K false w2))
  (K false w2))) w2) w
def ballot_May_ann : Ann := (.s (.r [(0, .nl 1)]) (.s (.r [(2, .rd rB), (15, .call rB)]) .d))
theorem ballot_May_calls {b : ApiBallot} {K : Bool → World → Prop} {w : World} (h : ballot_May b K w) : callV Pr Value.bool 25 #[(.agg ⟨b.cs⟩)] w K :=
  calls_of Pr_plain Pr_mixed Pr_func25 ballot_May_ann rB (args := [(.agg ⟨b.cs⟩)]) (by kernel_rfl) h

/- changeover/ballot.Text -/
def ballot_Text (b : ApiBallot) (K : (List UInt8) → World → Prop) (w : World) : Prop :=
  newV (fun b1 w2 =>
  callV Pr Value.bool 25 #[(.agg ⟨[(.int .i64 b.Round), (.int .i64 b.Node)]⟩)] w2 fun t3 w4 =>
  kp b1 w2 w4 <|
  ifB (!t3)
  (K [] w4)
  (heldM (fun S6 w5 =>
  callV Pr sval 55 #[(.int .i64 b.Round)] w5 fun t7 w8 =>
  kp b1 w5 w8 <|
  (S6 w8) ∧
  (opH Pr S6 (binSem .add 9 (.tmp 8) (.const (sval [46])) (sval t7) (sval [46])) sval (fun t9 =>
  callV Pr sval 55 #[(.int .i64 b.Node)] w8 fun t10 w11 =>
  kp b1 w8 w11 <|
  (S6 w11) ∧
  (opH Pr S6 (binSem .add 9 (.tmp 9) (.tmp 12) (sval t9) (sval t10)) sval (fun t12 =>
  K t12 w11))))) w4)) w
def ballot_Text_ann : Ann := (.s (.r [(0, .nl 1)]) (.s (.s (.r [(1, .call rB)]) (.c (.s .d .d) .d)) (.s (.h (.take 0 (.take 1 (.take 4 (.take 5 (.one 2 (.take 3 (.one 6 (.take 7 (.take 8 .done))))))))) [(2, .call rS), (3, .rd rS), (6, .call rS), (7, .rd rS)]) .d)))
theorem ballot_Text_calls {b : ApiBallot} {K : (List UInt8) → World → Prop} {w : World} (h : ballot_Text b K w) : callV Pr sval 26 #[(.agg ⟨b.cs⟩)] w K :=
  calls_of Pr_plain Pr_mixed Pr_func26 ballot_Text_ann rS (args := [(.agg ⟨b.cs⟩)]) (by kernel_rfl) h

/- changeover/changeoverlaw10.awake -/
def law10_awake (K : Bool → World → Prop) (w : World) : Prop :=
  callV Pr (tval2 ApiBallot.val (Value.int .i64)) 28 #[(.agg ⟨[(.int .i64 3), (.int .i64 2)]⟩), (.int .i64 1)] w fun t1 w2 =>
  newV (fun b3 w4 =>
  wrM b3 (fun w5 =>
  opRd Pr (binSem .eql 36 (.tmp 8) (.tmp 9) (.agg ⟨[(.int .i64 t1.1.Round), (.int .i64 t1.1.Node)]⟩) (.agg ⟨[(.int .i64 4), (.int .i64 1)]⟩)) Value.bool (fun t6 =>
  ifB t6
  (ifB (t1.2 == 0)
  (callV Pr sval 26 #[(.agg ⟨[(.int .i64 t1.1.Round), (.int .i64 t1.1.Node)]⟩)] w5 fun t7 w8 =>
  kp b3 w5 w8 <|
  K (strEq t7 [52, 46, 49]) w8)
  (K false w5))
  (K false w5)) w5) w4) w2
def law10_awake_ann : Ann := (.s .d (.s (.r [(1, .call (rT2 rApiBallot (rI .i64))), (5, .nl 1), (6, .ls 1)]) (.s (.r [(2, .rd rB), (9, .call rS)]) .d)))
theorem law10_awake_calls {K : Bool → World → Prop} {w : World} (h : law10_awake K w) : callV Pr Value.bool 27 #[] w K :=
  calls_of Pr_plain Pr_mixed Pr_func27 law10_awake_ann rB (args := []) (by kernel_rfl) h

/- changeover/ballot.Next -/
def ballot_Next (b : ApiBallot) (n : Int) (K : (ApiBallot × Int) → World → Prop) (w : World) : Prop :=
  newV (fun b1 w2 =>
  newV (fun b3 w4 =>
  callV Pr Value.bool 25 #[(.agg ⟨[(.int .i64 b.Round), (.int .i64 b.Node)]⟩)] w4 fun t5 w6 =>
  kp b3 w4 w6 <|
  kp b1 w4 w6 <|
  ifB (!t5)
  (wrM b3 (fun w7 =>
  K ((ApiBallot.mk 0 0), 6) w7) w6)
  (callV Pr Value.bool 54 #[(.int .i64 n)] w6 fun t8 w9 =>
  kp b3 w6 w9 <|
  kp b1 w6 w9 <|
  ifB (!t8)
  (wrM b3 (fun w10 =>
  K ((ApiBallot.mk 0 0), 6) w10) w9)
  (newV (fun b11 w12 =>
  wrM b11 (fun w13 =>
  join1 (fun (j14 : ApiBallot → World → Prop) =>
  callV Pr Value.bool 21 #[(.agg ⟨[(.int .i64 b.Round), (.int .i64 b.Node)]⟩), (.agg ⟨[(.int .i64 (imax b.Round 1)), (.int .i64 n)]⟩)] w13 fun t15 w16 =>
  kp b11 w13 w16 <|
  kp b3 w13 w16 <|
  kp b1 w13 w16 <|
  ifB (!t15)
  (wrM b11 (fun w17 =>
  j14 (ApiBallot.mk (i64 ((imax b.Round 1) + 1)) n) w17) w16)
  (j14 (ApiBallot.mk (imax b.Round 1) n) w16))
  (fun out18 w19 =>
  callV Pr Value.bool 25 #[(.agg ⟨[(.int .i64 out18.Round), (.int .i64 out18.Node)]⟩)] w19 fun t20 w21 =>
  kp b11 w19 w21 <|
  kp b3 w19 w21 <|
  kp b1 w19 w21 <|
  ifB (!t20)
  (wrM b3 (fun w22 =>
  K ((ApiBallot.mk 0 0), 6) w22) w21)
  (wrM b3 (fun w23 =>
  K (out18, 0) w23) w21))) w12) w9))) w2) w
def ballot_Next_ann : Ann := (.s (.r [(0, .nl 2), (1, .nl 4)]) (.s (.s (.r [(1, .call rB), (5, .call rB)]) (.c (.s (.r [(1, .ls 4)]) .d) .d)) (.s (.r [(5, .nl 6), (6, .ls 6)]) (.sj [(.h 6, rApiBallot)] (.s (.r [(2, .call rB)]) (.c (.r [(4, .ls 6)]) .d)) (.s (.s (.r [(1, .call rB)]) (.c (.s (.r [(1, .ls 4)]) .d) .d)) (.s (.r [(1, .ls 4)]) .d))))))
theorem ballot_Next_calls {b : ApiBallot} {n : Int} {K : (ApiBallot × Int) → World → Prop} {w : World} (h : ballot_Next b n K w) : callV Pr (tval2 ApiBallot.val (Value.int .i64)) 28 #[(.agg ⟨b.cs⟩), (.int .i64 n)] w K :=
  calls_of Pr_plain Pr_mixed Pr_func28 ballot_Next_ann (rT2 rApiBallot (rI .i64)) (args := [(.agg ⟨b.cs⟩), (.int .i64 n)]) (by kernel_rfl) h

/- changeover/changeoverref10.Next -/
def ref10_Next (b : ApiBallot) (node : Int) (K : (ApiBallot × Bool) → World → Prop) (w : World) : Prop :=
  newV (fun b1 w2 =>
  newV (fun b3 w4 =>
  callV Pr Value.bool 22 #[(.agg ⟨[(.int .i64 b.Round), (.int .i64 b.Node)]⟩)] w4 fun t5 w6 =>
  kp b3 w4 w6 <|
  kp b1 w4 w6 <|
  ifB (!t5)
  (wrM b3 (fun w7 =>
  K ((ApiBallot.mk 0 0), false) w7) w6)
  (ifB (decide (node < 1))
  (wrM b3 (fun w8 =>
  K ((ApiBallot.mk 0 0), false) w8) w6)
  (ifB (decide (node > 9))
  (wrM b3 (fun w9 =>
  K ((ApiBallot.mk 0 0), false) w9) w6)
  (newV (fun b10 w11 =>
  wrM b10 (fun w12 =>
  join1 (fun (j13 : ApiBallot → World → Prop) =>
  ifB (b.Round == 0)
  (wrM b10 (fun w14 =>
  j13 (ApiBallot.mk (i64 (b.Round + 1)) node) w14) w12)
  (ifB (decide (node ≤ b.Node))
  (wrM b10 (fun w15 =>
  j13 (ApiBallot.mk (i64 (b.Round + 1)) node) w15) w12)
  (j13 (ApiBallot.mk b.Round node) w12)))
  (fun out16 w17 =>
  ifB (decide (out16.Round > 4294967296))
  (wrM b3 (fun w18 =>
  K ((ApiBallot.mk 0 0), false) w18) w17)
  (wrM b3 (fun w19 =>
  K (out16, true) w19) w17))) w11) w6)))) w2) w
def ref10_Next_ann : Ann := (.s (.r [(0, .nl 2), (1, .nl 4)]) (.s (.s (.r [(1, .call rB)]) (.c (.s (.r [(1, .ls 4)]) .d) .d)) (.s (.r [(4, .nl 6), (5, .ls 6)]) (.sj [(.h 6, rApiBallot)] (.s .d (.c (.r [(4, .ls 6)]) .d)) (.s (.s .d (.c (.s (.r [(1, .ls 4)]) .d) .d)) (.s (.r [(1, .ls 4)]) .d))))))
theorem ref10_Next_calls {b : ApiBallot} {node : Int} {K : (ApiBallot × Bool) → World → Prop} {w : World} (h : ref10_Next b node K w) : callV Pr (tval2 ApiBallot.val Value.bool) 29 #[(.agg ⟨b.cs⟩), (.int .i64 node)] w K :=
  calls_of Pr_plain Pr_mixed Pr_func29 ref10_Next_ann (rT2 rApiBallot rB) (args := [(.agg ⟨b.cs⟩), (.int .i64 node)]) (by kernel_rfl) h

/- changeover/ballot.Max -/
def ballot_Max (l : Sl) (K : ApiBallot → World → Prop) (w : World) : Prop :=
  newV (fun b1 w2 =>
  newV (fun b3 w4 =>
  loop2 (0 : Int) ((ApiBallot.mk 0 0) : ApiBallot) (fun t5 out6 k7 w8 =>
  ifB (decide (t5 < (l.len : Int)))
  (opRd Pr (Instr.indexAt 45 l.val (.int .i64 t5)) pav (fun t9 =>
  opRd Pr (Instr.loadAt 36 (.pointer (some t9))) ApiBallot.val (fun t10 =>
  newV (fun b11 w12 =>
  wrM b11 (fun w13 =>
  ifB (t5 == 0)
  (wrM b3 (fun w14 =>
  k7 (i64 (t5 + 1)) t10 w14) w13)
  (callV Pr Value.bool 21 #[(.agg ⟨[(.int .i64 out6.Round), (.int .i64 out6.Node)]⟩), (.agg ⟨[(.int .i64 t10.Round), (.int .i64 t10.Node)]⟩)] w13 fun t15 w16 =>
  kp b11 w13 w16 <|
  kp b3 w13 w16 <|
  kp b1 w13 w16 <|
  ifB t15
  (wrM b3 (fun w17 =>
  k7 (i64 (t5 + 1)) t10 w17) w16)
  (k7 (i64 (t5 + 1)) out6 w16))) w12) w8) w8) w8)
  (wrM b1 (fun w18 =>
  K out6 w18) w8)) w4) w2) w
def ballot_Max_ann : Ann := (.s (.r [(0, .nl 2)]) (.s (.r [(0, .nl 3)]) (.s (.s .d (.b (.l [(.s 8, (rI .i64)), (.h 3, rApiBallot)] (.s .d (.s (.c .d .d) (.s (.b (.s (.r [(1, .rd rPA), (2, .rd rApiBallot), (3, .nl 5), (5, .ls 5)]) (.s (.r [(5, .call rB)]) (.c (.r [(1, .ls 3)]) .d)))) .d)))))) (.s (.r [(1, .ls 2)]) .d))))
theorem ballot_Max_calls {l : Sl} {K : ApiBallot → World → Prop} {w : World} (h : ballot_Max l K w) : callV Pr ApiBallot.val 30 #[l.val] w K :=
  calls_of Pr_plain Pr_mixed Pr_func30 ballot_Max_ann rApiBallot (args := [l.val]) (by kernel_rfl) h

/- changeover/changeoverref22.Large -/
def ref22_Large (l : Sl) (K : Bool → World → Prop) (w : World) : Prop :=
  loop1 (0 : Int) (fun i1 k2 w3 =>
  ifB (decide (i1 < (l.len : Int)))
  (ifB (decide (i1 < 40))
  (opRd Pr (Instr.indexAt 23 l.val (.int .i64 i1)) pav (fun t4 =>
  opRd Pr (Instr.loadAt 9 (.pointer (some ((t4.add 2).add 4)))) sval (fun t5 =>
  ifB (decide (((t5 : List UInt8).length : Int) > 200))
  (K true w3)
  (k2 (i64 (i1 + 1)) w3)) w3) w3)
  (K (decide ((l.len : Int) > 40)) w3))
  (K (decide ((l.len : Int) > 40)) w3)) w
def ref22_Large_ann : Ann := (.s .d (.s (.s .d (.b (.l [(.s 3, (rI .i64))] (.s (.s .d (.c .d .d)) (.s (.b (.s (.r [(2, .rd rPA), (5, .rd rS)]) (.c (.s .d .d) .d))) .d))))) (.s .d .d)))
theorem ref22_Large_calls {l : Sl} {K : Bool → World → Prop} {w : World} (h : ref22_Large l K w) : callV Pr Value.bool 31 #[l.val] w K :=
  calls_of Pr_plain Pr_mixed Pr_func31 ref22_Large_ann rB (args := [l.val]) (by kernel_rfl) h

/- changeover/changeoverlaw22.awake -/
def law22_awake (K : Bool → World → Prop) (w : World) : Prop :=
  callV Pr Sl.val 56 #[Sl.nil.val, (.agg ⟨[(.int .i64 2), (.int .i64 5), (.int .i64 0), (.bool false), (sval []), (.int .i64 0)]⟩)] w fun l1 w2 =>
  callV Pr (tval2 (Value.int .i64) ApiAnswer.val) 57 #[l1.val, (.int .i64 2), (.int .i64 5)] w2 fun t3 w4 =>
  newV (fun b5 w6 =>
  wrM b5 (fun w7 =>
  ifB ((l1.len : Int) == 1)
  (ifB (t3.1 == 1)
  (ifB (t3.2.Seq == 5)
  (callV Pr (Value.int .i64) 58 #[l1.val, (.int .i64 2)] w7 fun t8 w9 =>
  kp b5 w7 w9 <|
  K (t8 == 5) w9)
  (K false w7))
  (K false w7))
  (K false w7)) w6) w4
def law22_awake_ann : Ann := (.s .d (.s (.r [(1, .call rSl)]) (.s (.r [(1, .call (rT2 (rI .i64) rApiAnswer)), (5, .nl 3), (7, .ls 3)]) (.s (.r [(14, .call (rI .i64))]) .d))))
theorem law22_awake_calls {K : Bool → World → Prop} {w : World} (h : law22_awake K w) : callV Pr Value.bool 32 #[] w K :=
  calls_of Pr_plain Pr_mixed Pr_func32 law22_awake_ann rB (args := []) (by kernel_rfl) h

/- changeover/changeoverref22.Check -/
def ref22_Check (l : Sl) (K : Bool → World → Prop) (w : World) : Prop :=
  loop1 (0 : Int) (fun i1 k2 w3 =>
  ifB (decide (i1 < (l.len : Int)))
  (heldM (fun S5 w4 =>
  opH Pr S5 (Instr.indexAt 23 l.val (.int .i64 i1)) pav (fun t6 =>
  opH Pr S5 (Instr.loadAt 3 (.pointer (some ((t6.add 2).add 0)))) (Value.int .i64) (fun t7 =>
  opH Pr S5 (Instr.indexAt 23 l.val (.int .i64 i1)) pav (fun t8 =>
  opH Pr S5 (Instr.loadAt 3 (.pointer (some (t8.add 0)))) (Value.int .i64) (fun t9 =>
  ifB (t7 != t9)
  (K false w4)
  (opH Pr S5 (Instr.indexAt 23 l.val (.int .i64 i1)) pav (fun t10 =>
  opH Pr S5 (Instr.loadAt 3 (.pointer (some ((t10.add 2).add 1)))) (Value.int .i64) (fun t11 =>
  opH Pr S5 (Instr.indexAt 23 l.val (.int .i64 i1)) pav (fun t12 =>
  opH Pr S5 (Instr.loadAt 3 (.pointer (some (t12.add 1)))) (Value.int .i64) (fun t13 =>
  ifB (t11 != t13)
  (K false w4)
  (opH Pr S5 (Instr.indexAt 23 l.val (.int .i64 i1)) pav (fun t14 =>
  opH Pr S5 (Instr.loadAt 61 (.pointer (some (t14.add 2)))) ApiAnswer.val (fun t15 =>
  callV Pr (Value.int .i64) 59 #[(.agg ⟨t15.cs⟩)] w4 fun t16 w17 =>
  (S5 w17) ∧
  (ifB (t16 != 0)
  (K false w17)
  (k2 (i64 (i1 + 1)) w17))))))))))))))) w3)
  (callV Pr Value.bool 60 #[l.val] w3 fun t18 w19 =>
  K t18 w19)) w
def ref22_Check_ann : Ann := (.s .d (.s (.s .d (.b (.l [(.s 3, (rI .i64))] (.s (.s .d (.c .d .d)) (.s (.b (.s (.h (.take 0 (.take 1 (.take 2 (.take 3 (.take 4 (.take 5 (.take 6 (.take 7 (.take 8 (.take 9 (.take 10 (.take 11 (.take 12 (.take 13 (.take 14 (.take 15 (.take 16 (.take 17 (.take 18 (.take 19 (.take 20 (.take 21 (.take 22 (.take 23 (.take 24 (.take 25 (.take 26 (.take 27 (.take 28 (.take 29 (.take 30 (.take 31 (.one 32 (.take 33 (.take 34 .done))))))))))))))))))))))))))))))))))) [(2, .rd rPA), (5, .rd (rI .i64)), (8, .rd rPA), (10, .rd (rI .i64)), (15, .rd rPA), (18, .rd (rI .i64)), (21, .rd rPA), (23, .rd (rI .i64)), (29, .rd rPA), (31, .rd rApiAnswer), (32, .call (rI .i64))]) (.c (.s .d .d) .d))) .d))))) (.s (.r [(1, .call rB)]) .d)))
theorem ref22_Check_calls {l : Sl} {K : Bool → World → Prop} {w : World} (h : ref22_Check l K w) : callV Pr Value.bool 33 #[l.val] w K :=
  calls_of Pr_plain Pr_mixed Pr_func33 ref22_Check_ann rB (args := [l.val]) (by kernel_rfl) h

/- changeover/sess.Check -/
def sess_Check (l : Sl) (K : Int → World → Prop) (w : World) : Prop :=
  loop1 (0 : Int) (fun t1 k2 w3 =>
  ifB (decide (t1 < (l.len : Int)))
  (opRd Pr (Instr.indexAt 23 l.val (.int .i64 t1)) pav (fun t4 =>
  opRd Pr (Instr.loadAt 63 (.pointer (some t4))) ApiSession.val (fun t5 =>
  newV (fun b6 w7 =>
  wrM b6 (fun w8 =>
  join0 (fun (j9 : World → Prop) =>
  drewM (fun w10 =>
  ifB (decide (t1 > 0))
  (opRd Pr (Instr.indexAt 23 l.val (.int .i64 (i64 (t1 - 1)))) pav (fun t11 =>
  opRd Pr (Instr.loadAt 3 (.pointer (some (t11.add 0)))) (Value.int .i64) (fun t12 =>
  ifB (decide (t5.Client ≤ t12))
  (K 3 w10)
  (j9 w10)) w10) w10)
  (j9 w10)) w8)
  (fun w13 =>
  ifB (t5.Last.Client != t5.Client)
  (K 3 w13)
  (ifB (t5.Last.Seq != t5.Seq)
  (K 3 w13)
  (callV Pr (Value.int .i64) 61 #[(.agg ⟨[(.int .i64 t5.Last.Client), (.int .i64 t5.Last.Seq), (.int .i64 t5.Last.Err), (.bool t5.Last.Found), (sval t5.Last.Val), (.int .i64 t5.Last.Rev)]⟩)] w13 fun t14 w15 =>
  kp b6 w13 w15 <|
  ifB (t14 != 0)
  (K 3 w15)
  (k2 (i64 (t1 + 1)) w15))))) w7) w3) w3) w3)
  (K 0 w3)) w
def sess_Check_ann : Ann := (.s .d (.s (.s .d (.b (.l [(.s 7, (rI .i64))] (.s .d (.s (.c .d .d) (.s (.b (.s (.r [(1, .rd rPA), (2, .rd rApiSession), (3, .nl 4), (5, .ls 4)]) (.sj [] (.s (.r [(8, .rd rPA), (10, .rd (rI .i64))]) (.c (.s .d .d) .d)) (.s (.r [(17, .call (rI .i64))]) (.c (.s .d .d) .d))))) .d)))))) (.s .d .d)))
theorem sess_Check_calls {l : Sl} {K : Int → World → Prop} {w : World} (h : sess_Check l K w) : callV Pr (Value.int .i64) 34 #[l.val] w K :=
  calls_of Pr_plain Pr_mixed Pr_func34 sess_Check_ann (rI .i64) (args := [l.val]) (by kernel_rfl) h

/- changeover/changeoverref23.Large -/
def ref23_Large (l : Sl) (K : Bool → World → Prop) (w : World) : Prop :=
  loop1 (0 : Int) (fun i1 k2 w3 =>
  ifB (decide (i1 < (l.len : Int)))
  (ifB (decide (i1 < 80))
  (opRd Pr (Instr.indexAt 22 l.val (.int .i64 i1)) pav (fun t4 =>
  opRd Pr (Instr.loadAt 9 (.pointer (some (t4.add 0)))) sval (fun t5 =>
  ifB (decide (((t5 : List UInt8).length : Int) > 200))
  (K true w3)
  (opRd Pr (Instr.indexAt 22 l.val (.int .i64 i1)) pav (fun t6 =>
  opRd Pr (Instr.loadAt 9 (.pointer (some (t6.add 1)))) sval (fun t7 =>
  ifB (decide (((t7 : List UInt8).length : Int) > 200))
  (K true w3)
  (k2 (i64 (i1 + 1)) w3)) w3) w3)) w3) w3)
  (K (decide ((l.len : Int) > 80)) w3))
  (K (decide ((l.len : Int) > 80)) w3)) w
def ref23_Large_ann : Ann := (.s .d (.s (.s .d (.b (.l [(.s 3, (rI .i64))] (.s (.s .d (.c .d .d)) (.s (.b (.s (.r [(2, .rd rPA), (4, .rd rS), (10, .rd rPA), (12, .rd rS)]) (.c (.s .d .d) .d))) .d))))) (.s .d .d)))
theorem ref23_Large_calls {l : Sl} {K : Bool → World → Prop} {w : World} (h : ref23_Large l K w) : callV Pr Value.bool 35 #[l.val] w K :=
  calls_of Pr_plain Pr_mixed Pr_func35 ref23_Large_ann rB (args := [l.val]) (by kernel_rfl) h

/- changeover/changeoverlaw23.awake -/
def law23_awake (K : Bool → World → Prop) (w : World) : Prop :=
  callV Pr (tval2 Sl.val ApiAnswer.val) 62 #[Sl.nil.val, (.agg ⟨[(.int .i64 2), (.int .i64 1), (.int .i64 1), (sval [97]), (sval [49]), (sval []), (.int .i64 0)]⟩)] w fun t1 w2 =>
  newV (fun b3 w4 =>
  wrM b3 (fun w5 =>
  callV Pr (tval2 Sl.val ApiAnswer.val) 62 #[t1.1.val, (.agg ⟨[(.int .i64 3), (.int .i64 1), (.int .i64 2), (sval [97]), (sval []), (sval []), (.int .i64 0)]⟩)] w5 fun t6 w7 =>
  kp b3 w5 w7 <|
  newV (fun b8 w9 =>
  wrM b8 (fun w10 =>
  ifB ((t1.1.len : Int) == 1)
  (ifB t6.2.Found
  (K (strEq t6.2.Val [49]) w10)
  (K false w10))
  (K false w10)) w9) w7) w4) w2
def law23_awake_ann : Ann := (.s .d (.s (.r [(1, .call (rT2 rSl rApiAnswer)), (5, .nl 2), (7, .ls 2)]) (.s (.r [(2, .call (rT2 rSl rApiAnswer)), (6, .nl 4), (8, .ls 4)]) (.s .d .d))))
theorem law23_awake_calls {K : Bool → World → Prop} {w : World} (h : law23_awake K w) : callV Pr Value.bool 36 #[] w K :=
  calls_of Pr_plain Pr_mixed Pr_func36 law23_awake_ann rB (args := []) (by kernel_rfl) h

/- changeover/changeoverref23.Check -/
def ref23_Check (schema : Int) (l : Sl) (K : Bool → World → Prop) (w : World) : Prop :=
  loop1 (0 : Int) (fun i1 k2 w3 =>
  ifB (decide (i1 < (l.len : Int)))
  (opRd Pr (Instr.indexAt 22 l.val (.int .i64 i1)) pav (fun t4 =>
  opRd Pr (Instr.loadAt 9 (.pointer (some (t4.add 0)))) sval (fun t5 =>
  callV Pr Value.bool 63 #[(sval t5)] w3 fun t6 w7 =>
  ifB (!t6)
  (K false w7)
  (opRd Pr (Instr.indexAt 22 l.val (.int .i64 i1)) pav (fun t8 =>
  opRd Pr (Instr.loadAt 9 (.pointer (some (t8.add 1)))) sval (fun t9 =>
  callV Pr Value.bool 64 #[(sval t9)] w7 fun t10 w11 =>
  ifB (!t10)
  (K false w11)
  (ifB (schema == 1)
  (opRd Pr (Instr.indexAt 22 l.val (.int .i64 i1)) pav (fun t12 =>
  opRd Pr (Instr.loadAt 3 (.pointer (some (t12.add 2)))) (Value.int .i64) (fun t13 =>
  ifB (t13 != 0)
  (K false w11)
  (ifB (schema == 2)
  (opRd Pr (Instr.indexAt 22 l.val (.int .i64 i1)) pav (fun t14 =>
  opRd Pr (Instr.loadAt 3 (.pointer (some (t14.add 2)))) (Value.int .i64) (fun t15 =>
  ifB (decide (t15 < 1))
  (K false w11)
  (opRd Pr (Instr.indexAt 22 l.val (.int .i64 i1)) pav (fun t16 =>
  opRd Pr (Instr.loadAt 3 (.pointer (some (t16.add 2)))) (Value.int .i64) (fun t17 =>
  ifB (decide (t17 > 4294967296))
  (K false w11)
  (k2 (i64 (i1 + 1)) w11)) w11) w11)) w11) w11)
  (k2 (i64 (i1 + 1)) w11))) w11) w11)
  (ifB (schema == 2)
  (opRd Pr (Instr.indexAt 22 l.val (.int .i64 i1)) pav (fun t18 =>
  opRd Pr (Instr.loadAt 3 (.pointer (some (t18.add 2)))) (Value.int .i64) (fun t19 =>
  ifB (decide (t19 < 1))
  (K false w11)
  (opRd Pr (Instr.indexAt 22 l.val (.int .i64 i1)) pav (fun t20 =>
  opRd Pr (Instr.loadAt 3 (.pointer (some (t20.add 2)))) (Value.int .i64) (fun t21 =>
  ifB (decide (t21 > 4294967296))
  (K false w11)
  (k2 (i64 (i1 + 1)) w11)) w11) w11)) w11) w11)
  (k2 (i64 (i1 + 1)) w11)))) w7) w7)) w3) w3)
  (ifB (decide ((l.len : Int) ≤ 64))
  (callV Pr Value.bool 39 #[l.val] w3 fun t22 w23 =>
  K t22 w23)
  (K false w3))) w
def ref23_Check_ann : Ann := (.s .d (.s (.s .d (.b (.l [(.s 5, (rI .i64))] (.s (.s .d (.c .d .d)) (.s (.b (.s (.s (.r [(2, .rd rPA), (4, .rd rS), (5, .call rB), (10, .rd rPA), (12, .rd rS), (13, .call rB)]) (.c (.s .d .d) .d)) (.s (.r [(5, .rd rPA), (7, .rd (rI .i64)), (16, .rd rPA), (18, .rd (rI .i64)), (23, .rd rPA), (25, .rd (rI .i64))]) (.c (.s .d .d) .d)))) .d))))) (.s (.r [(5, .call rB)]) .d)))
theorem ref23_Check_calls {schema : Int} {l : Sl} {K : Bool → World → Prop} {w : World} (h : ref23_Check schema l K w) : callV Pr Value.bool 37 #[(.int .i64 schema), l.val] w K :=
  calls_of Pr_plain Pr_mixed Pr_func37 ref23_Check_ann rB (args := [(.int .i64 schema), l.val]) (by kernel_rfl) h

/- changeover/kvone.Check -/
def kvone_Check (l : Sl) (K : Int → World → Prop) (w : World) : Prop :=
  ifB (decide ((l.len : Int) > 64))
  (K 3 w)
  (loop1 (0 : Int) (fun t1 k2 w3 =>
  ifB (decide (t1 < (l.len : Int)))
  (opRd Pr (Instr.indexAt 22 l.val (.int .i64 t1)) pav (fun t4 =>
  opRd Pr (Instr.loadAt 54 (.pointer (some t4))) ApiPair.val (fun t5 =>
  newV (fun b6 w7 =>
  wrM b6 (fun w8 =>
  heldM (fun S10 w9 =>
  ifB (decide (t1 > 0))
  (opH Pr S10 (Instr.indexAt 22 l.val (.int .i64 (i64 (t1 - 1)))) pav (fun t11 =>
  opH Pr S10 (Instr.loadAt 9 (.pointer (some (t11.add 0)))) sval (fun t12 =>
  ifB ((strLt t5.Key t12) || (strEq t5.Key t12))
  (K 3 w9)
  (callV Pr Value.bool 65 #[(sval t5.Key)] w9 fun t13 w14 =>
  kp b6 w9 w14 <|
  (S10 w14) ∧
  (ifB (!t13)
  (K 3 w14)
  (callV Pr Value.bool 66 #[(sval t5.Val)] w14 fun t15 w16 =>
  kp b6 w14 w16 <|
  (S10 w16) ∧
  (ifB (!t15)
  (K 3 w16)
  (ifB (t5.Rev != 0)
  (K 3 w16)
  (k2 (i64 (t1 + 1)) w16)))))))))
  (callV Pr Value.bool 65 #[(sval t5.Key)] w9 fun t17 w18 =>
  kp b6 w9 w18 <|
  (S10 w18) ∧
  (ifB (!t17)
  (K 3 w18)
  (callV Pr Value.bool 66 #[(sval t5.Val)] w18 fun t19 w20 =>
  kp b6 w18 w20 <|
  (S10 w20) ∧
  (ifB (!t19)
  (K 3 w20)
  (ifB (t5.Rev != 0)
  (K 3 w20)
  (k2 (i64 (t1 + 1)) w20))))))) w8) w7) w3) w3) w3)
  (K 0 w3)) w)
def kvone_Check_ann : Ann := (.s .d (.s (.s .d (.c (.s .d .d) .d)) (.s (.s .d (.b (.l [(.s 10, (rI .i64))] (.s .d (.s (.c .d .d) (.s (.b (.s (.r [(1, .rd rPA), (2, .rd rApiPair), (3, .nl 4), (5, .ls 4)]) (.s (.h (.take 0 (.take 1 (.take 2 (.take 3 (.take 4 (.take 5 (.take 6 (.take 7 (.take 8 (.take 9 (.take 10 (.take 11 (.take 12 (.take 13 (.take 14 (.take 15 (.one 16 (.take 17 (.take 18 (.take 19 (.take 20 (.take 21 (.one 22 (.take 23 (.take 24 (.take 25 (.take 26 (.take 27 (.take 28 (.take 29 .done)))))))))))))))))))))))))))))) [(8, .rd rPA), (10, .rd rS), (16, .call rB), (22, .call rB)]) (.c (.s .d .d) .d)))) .d)))))) (.s .d .d))))
theorem kvone_Check_calls {l : Sl} {K : Int → World → Prop} {w : World} (h : kvone_Check l K w) : callV Pr (Value.int .i64) 38 #[l.val] w K :=
  calls_of Pr_plain Pr_mixed Pr_func38 kvone_Check_ann (rI .i64) (args := [l.val]) (by kernel_rfl) h

/- changeover/changeoverref23.Rise -/
def ref23_Rise (l : Sl) (K : Bool → World → Prop) (w : World) : Prop :=
  loop1 (1 : Int) (fun i1 k2 w3 =>
  ifB (decide (i1 < (l.len : Int)))
  (drewM (fun w4 =>
  opRd Pr (Instr.indexAt 22 l.val (.int .i64 i1)) pav (fun t5 =>
  opRd Pr (Instr.loadAt 9 (.pointer (some (t5.add 0)))) sval (fun t6 =>
  opRd Pr (Instr.indexAt 22 l.val (.int .i64 (i64 (i1 - 1)))) pav (fun t7 =>
  opRd Pr (Instr.loadAt 9 (.pointer (some (t7.add 0)))) sval (fun t8 =>
  ifB ((strLt t6 t8) || (strEq t6 t8))
  (K false w4)
  (k2 (i64 (i1 + 1)) w4)) w4) w4) w4) w4) w3)
  (K true w3)) w
def ref23_Rise_ann : Ann := (.s .d (.s (.s .d (.b (.l [(.s 3, (rI .i64))] (.s (.s .d (.c .d .d)) (.s (.b (.s (.r [(2, .rd rPA), (4, .rd rS), (8, .rd rPA), (10, .rd rS)]) (.c (.s .d .d) .d))) .d))))) (.s .d .d)))
theorem ref23_Rise_calls {l : Sl} {K : Bool → World → Prop} {w : World} (h : ref23_Rise l K w) : callV Pr Value.bool 39 #[l.val] w K :=
  calls_of Pr_plain Pr_mixed Pr_func39 ref23_Rise_ann rB (args := [l.val]) (by kernel_rfl) h

/- changeover/kvone.Find -/
def kvone_Find (l : Sl) (key : List UInt8) (K : (ApiPair × Bool) → World → Prop) (w : World) : Prop :=
  newV (fun b1 w2 =>
  callV Pr (tval2 (Value.int .i64) Value.bool) 67 #[l.val, (sval key)] w2 fun t3 w4 =>
  kp b1 w2 w4 <|
  ifB (!t3.2)
  (wrM b1 (fun w5 =>
  K ((ApiPair.mk [] [] 0), false) w5) w4)
  (opRd Pr (Instr.indexAt 22 l.val (.int .i64 t3.1)) pav (fun t6 =>
  opRd Pr (Instr.loadAt 54 (.pointer (some t6))) ApiPair.val (fun t7 =>
  wrM b1 (fun w8 =>
  K (t7, true) w8) w4) w4) w4)) w
def kvone_Find_ann : Ann := (.s (.r [(0, .nl 4)]) (.s (.r [(2, .call (rT2 (rI .i64) rB))]) (.s (.s .d (.c (.s (.r [(1, .ls 4)]) .d) .d)) (.s (.r [(2, .rd rPA), (3, .rd rApiPair), (4, .ls 4)]) .d))))
theorem kvone_Find_calls {l : Sl} {key : List UInt8} {K : (ApiPair × Bool) → World → Prop} {w : World} (h : kvone_Find l key K w) : callV Pr (tval2 ApiPair.val Value.bool) 40 #[l.val, (sval key)] w K :=
  calls_of Pr_plain Pr_mixed Pr_func40 kvone_Find_ann (rT2 rApiPair rB) (args := [l.val, (sval key)]) (by kernel_rfl) h

/- changeover/changeoverref23.Place -/
def ref23_Place (l : Sl) (key : List UInt8) (K : Int → World → Prop) (w : World) : Prop :=
  loop1 (0 : Int) (fun i1 k2 w3 =>
  ifB (decide (i1 < (l.len : Int)))
  (opRd Pr (Instr.indexAt 22 l.val (.int .i64 i1)) pav (fun t4 =>
  opRd Pr (Instr.loadAt 9 (.pointer (some (t4.add 0)))) sval (fun t5 =>
  ifB (strEq t5 key)
  (K i1 w3)
  (k2 (i64 (i1 + 1)) w3)) w3) w3)
  (K (-1) w3)) w
def ref23_Place_ann : Ann := (.s .d (.s (.s .d (.b (.l [(.s 5, (rI .i64))] (.s (.s .d (.c .d .d)) (.s (.b (.s (.r [(2, .rd rPA), (4, .rd rS)]) (.c (.s .d .d) .d))) .d))))) (.s .d .d)))
theorem ref23_Place_calls {l : Sl} {key : List UInt8} {K : Int → World → Prop} {w : World} (h : ref23_Place l key K w) : callV Pr (Value.int .i64) 41 #[l.val, (sval key)] w K :=
  calls_of Pr_plain Pr_mixed Pr_func41 ref23_Place_ann (rI .i64) (args := [l.val, (sval key)]) (by kernel_rfl) h

/- changeover/changeoverlaw24.awake -/
def law24_awake (K : Bool → World → Prop) (w : World) : Prop :=
  callV Pr (tval2 Sl.val ApiAnswer.val) 68 #[Sl.nil.val, (.agg ⟨[(.int .i64 2), (.int .i64 1), (.int .i64 1), (sval [97]), (sval [49]), (sval []), (.int .i64 0)]⟩)] w fun t1 w2 =>
  newV (fun b3 w4 =>
  wrM b3 (fun w5 =>
  callV Pr (tval2 Sl.val ApiAnswer.val) 68 #[t1.1.val, (.agg ⟨[(.int .i64 5), (.int .i64 1), (.int .i64 2), (sval [97]), (sval [50]), (sval [49]), (.int .i64 0)]⟩)] w5 fun t6 w7 =>
  kp b3 w5 w7 <|
  newV (fun b8 w9 =>
  wrM b8 (fun w10 =>
  ifB ((t6.1.len : Int) == 1)
  (opRd Pr (Instr.indexAt 22 t6.1.val (.int .i64 0)) pav (fun t11 =>
  opRd Pr (Instr.loadAt 3 (.pointer (some (t11.add 2)))) (Value.int .i64) (fun t12 =>
  ifB (t12 == 2)
  (ifB t6.2.Found
  (ifB (strEq t6.2.Val [49])
  (K (t6.2.Rev == 2) w10)
  (K false w10))
  (K false w10))
  (K false w10)) w10) w10)
  (K false w10)) w9) w7) w4) w2
def law24_awake_ann : Ann := (.s .d (.s (.r [(1, .call (rT2 rSl rApiAnswer)), (5, .nl 2), (7, .ls 2)]) (.s (.r [(2, .call (rT2 rSl rApiAnswer)), (6, .nl 3), (8, .ls 3)]) (.s (.r [(5, .rd rPA), (7, .rd (rI .i64))]) .d))))
theorem law24_awake_calls {K : Bool → World → Prop} {w : World} (h : law24_awake K w) : callV Pr Value.bool 42 #[] w K :=
  calls_of Pr_plain Pr_mixed Pr_func42 law24_awake_ann rB (args := []) (by kernel_rfl) h

/- changeover/kvtwo.Plain -/
def kvtwo_Plain (l : Sl) (K : Sl → World → Prop) (w : World) : Prop :=
  callV Pr Sl.val 69 #[l.val] w fun out1 w2 =>
  loop1 (0 : Int) (fun t3 k4 w5 =>
  ifB (decide (t3 < (out1.len : Int)))
  (opRd Pr (Instr.indexAt 22 out1.val (.int .i64 t3)) pav (fun t6 =>
  opUn Pr (Instr.storeAt 3 (.pointer (some (t6.add 2))) (.int .i64 0)) (fun w7 =>
  k4 (i64 (t3 + 1)) w7) w5) w5)
  (K out1 w5)) w2
def kvtwo_Plain_ann : Ann := (.s .d (.s (.r [(1, .call rSl)]) (.s (.s .d (.b (.l [(.s 9, (rI .i64))] (.s .d (.s (.c .d .d) (.s (.b (.s .d (.r [(2, .rd rPA), (4, .un)]))) .d)))))) (.s .d .d))))
theorem kvtwo_Plain_calls {l : Sl} {K : Sl → World → Prop} {w : World} (h : kvtwo_Plain l K w) : callV Pr Sl.val 43 #[l.val] w K :=
  calls_of Pr_plain Pr_mixed Pr_func43 kvtwo_Plain_ann rSl (args := [l.val]) (by kernel_rfl) h

/- changeover/kvtwo.Check -/
def kvtwo_Check (l : Sl) (K : Int → World → Prop) (w : World) : Prop :=
  callV Pr Value.bool 71 #[l.val, (.func (.func 70) #[] #[])] w fun t1 w2 =>
  ifB t1
  (K 3 w2)
  (callV Pr Sl.val 43 #[l.val] w2 fun t3 w4 =>
  callV Pr (Value.int .i64) 38 #[t3.val] w4 fun t5 w6 =>
  K t5 w6)
def kvtwo_Check_ann : Ann := (.s .d (.s .d (.s (.s (.r [(2, .call rB)]) (.c (.s .d .d) .d)) (.s (.r [(1, .call rSl), (2, .call (rI .i64))]) .d))))
theorem kvtwo_Check_calls {l : Sl} {K : Int → World → Prop} {w : World} (h : kvtwo_Check l K w) : callV Pr (Value.int .i64) 44 #[l.val] w K :=
  calls_of Pr_plain Pr_mixed Pr_func44 kvtwo_Check_ann (rI .i64) (args := [l.val]) (by kernel_rfl) h

/- changeover/changeoverref23.Same -/
def ref23_Same (a : Sl) (b : Sl) (K : Bool → World → Prop) (w : World) : Prop :=
  ifB ((a.len : Int) != (b.len : Int))
  (K false w)
  (loop1 (0 : Int) (fun i1 k2 w3 =>
  ifB (decide (i1 < (a.len : Int)))
  (drewM (fun w4 =>
  opRd Pr (Instr.indexAt 22 a.val (.int .i64 i1)) pav (fun t5 =>
  opRd Pr (Instr.loadAt 54 (.pointer (some t5))) ApiPair.val (fun t6 =>
  opRd Pr (Instr.indexAt 22 b.val (.int .i64 i1)) pav (fun t7 =>
  opRd Pr (Instr.loadAt 54 (.pointer (some t7))) ApiPair.val (fun t8 =>
  opRd Pr (binSem .neq 54 (.tmp 20) (.tmp 24) (.agg ⟨t6.cs⟩) (.agg ⟨t8.cs⟩)) Value.bool (fun t9 =>
  ifB t9
  (K false w4)
  (k2 (i64 (i1 + 1)) w4)) w4) w4) w4) w4) w4) w3)
  (K true w3)) w)
def ref23_Same_ann : Ann := (.s .d (.s (.s .d (.c (.s .d .d) .d)) (.s (.s .d (.b (.l [(.s 5, (rI .i64))] (.s (.s .d (.c .d .d)) (.s (.b (.s (.r [(2, .rd rPA), (3, .rd rApiPair), (6, .rd rPA), (7, .rd rApiPair), (8, .rd rB)]) (.c (.s .d .d) .d))) .d))))) (.s .d .d))))
theorem ref23_Same_calls {a : Sl} {b : Sl} {K : Bool → World → Prop} {w : World} (h : ref23_Same a b K w) : callV Pr Value.bool 45 #[a.val, b.val] w K :=
  calls_of Pr_plain Pr_mixed Pr_func45 ref23_Same_ann rB (args := [a.val, b.val]) (by kernel_rfl) h

/- changeover/changeoverref22.Same -/
def ref22_Same (a : Sl) (b : Sl) (K : Bool → World → Prop) (w : World) : Prop :=
  ifB ((a.len : Int) != (b.len : Int))
  (K false w)
  (loop1 (0 : Int) (fun i1 k2 w3 =>
  ifB (decide (i1 < (a.len : Int)))
  (drewM (fun w4 =>
  opRd Pr (Instr.indexAt 23 a.val (.int .i64 i1)) pav (fun t5 =>
  opRd Pr (Instr.loadAt 63 (.pointer (some t5))) ApiSession.val (fun t6 =>
  opRd Pr (Instr.indexAt 23 b.val (.int .i64 i1)) pav (fun t7 =>
  opRd Pr (Instr.loadAt 63 (.pointer (some t7))) ApiSession.val (fun t8 =>
  opRd Pr (binSem .neq 63 (.tmp 20) (.tmp 24) (.agg ⟨t6.cs⟩) (.agg ⟨t8.cs⟩)) Value.bool (fun t9 =>
  ifB t9
  (K false w4)
  (k2 (i64 (i1 + 1)) w4)) w4) w4) w4) w4) w4) w3)
  (K true w3)) w)
def ref22_Same_ann : Ann := (.s .d (.s (.s .d (.c (.s .d .d) .d)) (.s (.s .d (.b (.l [(.s 5, (rI .i64))] (.s (.s .d (.c .d .d)) (.s (.b (.s (.r [(2, .rd rPA), (3, .rd rApiSession), (6, .rd rPA), (7, .rd rApiSession), (8, .rd rB)]) (.c (.s .d .d) .d))) .d))))) (.s .d .d))))
theorem ref22_Same_calls {a : Sl} {b : Sl} {K : Bool → World → Prop} {w : World} (h : ref22_Same a b K w) : callV Pr Value.bool 46 #[a.val, b.val] w K :=
  calls_of Pr_plain Pr_mixed Pr_func46 ref22_Same_ann rB (args := [a.val, b.val]) (by kernel_rfl) h

/- slices.ContainsFunc[[]changeover/api.Session,changeover/api.Session] -/
def slices_ContainsFunc_api_Session_api_Session (s : Sl) (f : Value) (K : Bool → World → Prop) (w : World) : Prop :=
  callV Pr (Value.int .i64) 72 #[s.val, f] w fun t1 w2 =>
  K (decide (t1 ≥ 0)) w2
def slices_ContainsFunc_api_Session_api_Session_ann : Ann := (.s .d (.s (.r [(2, .call (rI .i64))]) .d))
theorem slices_ContainsFunc_api_Session_api_Session_calls {s : Sl} {f : Value} {K : Bool → World → Prop} {w : World} (h : slices_ContainsFunc_api_Session_api_Session s f K w) : callV Pr Value.bool 47 #[s.val, f] w K :=
  calls_of Pr_plain Pr_mixed Pr_func47 slices_ContainsFunc_api_Session_api_Session_ann rB (args := [s.val, f]) (by kernel_rfl) h

/- changeover/migr.Check$1 -/
def migr_Check_1 (x : ApiSession) (K : Bool → World → Prop) (w : World) : Prop :=
  newV (fun b1 w2 =>
  K (x.Last.Rev != 0) w2) w
def migr_Check_1_ann : Ann := (.s (.r [(0, .nl 1)]) (.s .d .d))
theorem migr_Check_1_calls {x : ApiSession} {K : Bool → World → Prop} {w : World} (h : migr_Check_1 x K w) : callV Pr Value.bool 48 #[(.agg ⟨x.cs⟩)] w K :=
  calls_of Pr_plain Pr_mixed Pr_func48 migr_Check_1_ann rB (args := [(.agg ⟨x.cs⟩)]) (by kernel_rfl) h

/- slices.Equal[[]changeover/api.Pair,changeover/api.Pair] -/
def slices_Equal_api_Pair_api_Pair (s1 : Sl) (s2 : Sl) (K : Bool → World → Prop) (w : World) : Prop :=
  ifB ((s1.len : Int) != (s2.len : Int))
  (K false w)
  (loop1 (0 : Int) (fun t1 k2 w3 =>
  ifB (decide (t1 < (s1.len : Int)))
  (drewM (fun w4 =>
  opRd Pr (Instr.indexAt 22 s1.val (.int .i64 t1)) pav (fun t5 =>
  opRd Pr (Instr.loadAt 54 (.pointer (some t5))) ApiPair.val (fun t6 =>
  opRd Pr (Instr.indexAt 22 s2.val (.int .i64 t1)) pav (fun t7 =>
  opRd Pr (Instr.loadAt 54 (.pointer (some t7))) ApiPair.val (fun t8 =>
  opRd Pr (binSem .neq 54 (.tmp 19) (.tmp 23) (.agg ⟨t6.cs⟩) (.agg ⟨t8.cs⟩)) Value.bool (fun t9 =>
  ifB t9
  (K false w4)
  (k2 (i64 (t1 + 1)) w4)) w4) w4) w4) w4) w4) w3)
  (K true w3)) w)
def slices_Equal_api_Pair_api_Pair_ann : Ann := (.s .d (.s (.s .d (.c (.s .d .d) .d)) (.s (.s .d (.b (.l [(.s 13, (rI .i64))] (.s .d (.s (.c .d .d) (.s (.b (.s .d (.s (.r [(2, .rd rPA), (3, .rd rApiPair), (6, .rd rPA), (7, .rd rApiPair), (8, .rd rB)]) (.c (.s .d .d) .d)))) .d)))))) (.s .d .d))))
theorem slices_Equal_api_Pair_api_Pair_calls {s1 : Sl} {s2 : Sl} {K : Bool → World → Prop} {w : World} (h : slices_Equal_api_Pair_api_Pair s1 s2 K w) : callV Pr Value.bool 49 #[s1.val, s2.val] w K :=
  calls_of Pr_plain Pr_mixed Pr_func49 slices_Equal_api_Pair_api_Pair_ann rB (args := [s1.val, s2.val]) (by kernel_rfl) h

/- slices.Equal[[]changeover/api.Session,changeover/api.Session] -/
def slices_Equal_api_Session_api_Session (s1 : Sl) (s2 : Sl) (K : Bool → World → Prop) (w : World) : Prop :=
  ifB ((s1.len : Int) != (s2.len : Int))
  (K false w)
  (loop1 (0 : Int) (fun t1 k2 w3 =>
  ifB (decide (t1 < (s1.len : Int)))
  (drewM (fun w4 =>
  opRd Pr (Instr.indexAt 23 s1.val (.int .i64 t1)) pav (fun t5 =>
  opRd Pr (Instr.loadAt 63 (.pointer (some t5))) ApiSession.val (fun t6 =>
  opRd Pr (Instr.indexAt 23 s2.val (.int .i64 t1)) pav (fun t7 =>
  opRd Pr (Instr.loadAt 63 (.pointer (some t7))) ApiSession.val (fun t8 =>
  opRd Pr (binSem .neq 63 (.tmp 19) (.tmp 23) (.agg ⟨t6.cs⟩) (.agg ⟨t8.cs⟩)) Value.bool (fun t9 =>
  ifB t9
  (K false w4)
  (k2 (i64 (t1 + 1)) w4)) w4) w4) w4) w4) w4) w3)
  (K true w3)) w)
def slices_Equal_api_Session_api_Session_ann : Ann := (.s .d (.s (.s .d (.c (.s .d .d) .d)) (.s (.s .d (.b (.l [(.s 13, (rI .i64))] (.s .d (.s (.c .d .d) (.s (.b (.s .d (.s (.r [(2, .rd rPA), (3, .rd rApiSession), (6, .rd rPA), (7, .rd rApiSession), (8, .rd rB)]) (.c (.s .d .d) .d)))) .d)))))) (.s .d .d))))
theorem slices_Equal_api_Session_api_Session_calls {s1 : Sl} {s2 : Sl} {K : Bool → World → Prop} {w : World} (h : slices_Equal_api_Session_api_Session s1 s2 K w) : callV Pr Value.bool 50 #[s1.val, s2.val] w K :=
  calls_of Pr_plain Pr_mixed Pr_func50 slices_Equal_api_Session_api_Session_ann rB (args := [s1.val, s2.val]) (by kernel_rfl) h

/- cmp.Or[int] -/
def cmp_Or_int (vals : Sl) (K : Int → World → Prop) (w : World) : Prop :=
  loop1 (0 : Int) (fun t1 k2 w3 =>
  ifB (decide (t1 < (vals.len : Int)))
  (opRd Pr (Instr.indexAt 87 vals.val (.int .i64 t1)) pav (fun t4 =>
  opRd Pr (Instr.loadAt 3 (.pointer (some t4))) (Value.int .i64) (fun val5 =>
  ifB (val5 != 0)
  (K val5 w3)
  (k2 (i64 (t1 + 1)) w3)) w3) w3)
  (K 0 w3)) w
def cmp_Or_int_ann : Ann := (.s .d (.s .d (.s (.s .d (.b (.l [(.s 8, (rI .i64))] (.s .d (.s (.c .d .d) (.s (.b (.s (.r [(0, .rd rPA), (1, .rd (rI .i64))]) (.s .d (.c (.s .d .d) .d)))) .d)))))) (.s .d .d))))
theorem cmp_Or_int_calls {vals : Sl} {K : Int → World → Prop} {w : World} (h : cmp_Or_int vals K w) : callV Pr (Value.int .i64) 51 #[vals.val] w K :=
  calls_of Pr_plain Pr_mixed Pr_func51 cmp_Or_int_ann (rI .i64) (args := [vals.val]) (by kernel_rfl) h

/- cmp.Compare[int] -/
def cmp_Compare_int (x : Int) (y : Int) (K : Int → World → Prop) (w : World) : Prop :=
  callV Pr Value.bool 73 #[(.int .i64 x)] w fun xNaN1 w2 =>
  callV Pr Value.bool 73 #[(.int .i64 y)] w2 fun yNaN3 w4 =>
  ifB xNaN1
  (ifB yNaN3
  (K 0 w4)
  (K (-1) w4))
  (ifB yNaN3
  (K 1 w4)
  (ifB (decide (x < y))
  (K (-1) w4)
  (ifB (decide (x > y))
  (K 1 w4)
  (K 0 w4))))
def cmp_Compare_int_ann : Ann := (.s .d (.s (.r [(1, .call rB)]) (.s (.r [(1, .call rB)]) (.s (.s .d (.c (.s (.s .d (.c (.s .d .d) .d)) (.s .d .d)) .d)) (.s (.s .d (.c (.s .d .d) .d)) (.s (.s .d (.c (.s .d .d) .d)) (.s (.s .d (.c (.s .d .d) .d)) (.s .d .d))))))))
theorem cmp_Compare_int_calls {x : Int} {y : Int} {K : Int → World → Prop} {w : World} (h : cmp_Compare_int x y K w) : callV Pr (Value.int .i64) 52 #[(.int .i64 x), (.int .i64 y)] w K :=
  calls_of Pr_plain Pr_mixed Pr_func52 cmp_Compare_int_ann (rI .i64) (args := [(.int .i64 x), (.int .i64 y)]) (by kernel_rfl) h

/- changeover/changeoverref08.Digits -/
def ref08_Digits (n : Int) (K : (List UInt8) → World → Prop) (w : World) : Prop :=
  loop2 (n : Int) ([] : List UInt8) (fun n1 s2 k3 w4 =>
  opRd Pr (Instr.sliceAt 9 (sval [48, 49, 50, 51, 52, 53, 54, 55, 56, 57]) (some (.int .i64 (Int.tmod n1 10))) (some (.int .i64 (i64 ((Int.tmod n1 10) + 1)))) none) sval (fun t5 =>
  opRd Pr (binSem .add 9 (.tmp 9) (.tmp 10) (sval t5) (sval s2)) sval (fun s6 =>
  ifB (decide ((IntKind.i64.wrap (Int.tdiv n1 10)) ≤ 0))
  (K s6 w4)
  (k3 (IntKind.i64.wrap (Int.tdiv n1 10)) s6 w4)) w4) w4) w
def ref08_Digits_ann : Ann := (.s .d (.s .d (.b (.l [(.s 0, (rI .i64)), (.s 3, rS)] (.b (.s (.r [(5, .rd rS), (7, .rd rS)]) (.s .d (.s .d (.c (.s .d .d) .d)))))))))
theorem ref08_Digits_calls {n : Int} {K : (List UInt8) → World → Prop} {w : World} (h : ref08_Digits n K w) : callV Pr sval 53 #[(.int .i64 n)] w K :=
  calls_of Pr_plain Pr_mixed Pr_func53 ref08_Digits_ann rS (args := [(.int .i64 n)]) (by kernel_rfl) h

/- changeover/ballot.node -/
def ballot_node (n : Int) (K : Bool → World → Prop) (w : World) : Prop :=
  ifB (decide (n ≥ 1))
  (K (decide (n ≤ 9)) w)
  (K false w)
def ballot_node_ann : Ann := (.s .d (.s .d .d))
theorem ballot_node_calls {n : Int} {K : Bool → World → Prop} {w : World} (h : ballot_node n K w) : callV Pr Value.bool 54 #[(.int .i64 n)] w K :=
  calls_of Pr_plain Pr_mixed Pr_func54 ballot_node_ann rB (args := [(.int .i64 n)]) (by kernel_rfl) h

/- strconv.Itoa -/
def strconv_Itoa (i : Int) (K : (List UInt8) → World → Prop) (w : World) : Prop :=
  callV Pr sval 74 #[(.int .i64 i)] w fun t1 w2 =>
  K t1 w2
def strconv_Itoa_ann : Ann := (.s .d (.s (.r [(1, .call rS)]) .d))
theorem strconv_Itoa_calls {i : Int} {K : (List UInt8) → World → Prop} {w : World} (h : strconv_Itoa i K w) : callV Pr sval 55 #[(.int .i64 i)] w K :=
  calls_of Pr_plain Pr_mixed Pr_func55 strconv_Itoa_ann rS (args := [(.int .i64 i)]) (by kernel_rfl) h

/- changeover/sess.With -/
def sess_With (l : Sl) (a : ApiAnswer) (K : Sl → World → Prop) (w : World) : Prop :=
  newV (fun b1 w2 =>
  newV (fun b3 w4 =>
  wrM b3 (fun w5 =>
  callV Pr (tval2 (Value.int .i64) Value.bool) 75 #[l.val, (.int .i64 a.Client)] w5 fun t6 w7 =>
  kp b3 w5 w7 <|
  kp b1 w5 w7 <|
  callV Pr Sl.val 76 #[l.val] w7 fun out8 w9 =>
  kp b3 w7 w9 <|
  kp b1 w7 w9 <|
  ifB t6.2
  (opRd Pr (Instr.indexAt 23 out8.val (.int .i64 t6.1)) pav (fun t10 =>
  opUn Pr (Instr.storeAt 63 (.pointer (some t10)) (.agg ⟨[(.int .i64 a.Client), (.int .i64 a.Seq), (.int .i64 a.Client), (.int .i64 a.Seq), (.int .i64 a.Err), (.bool a.Found), (sval a.Val), (.int .i64 a.Rev)]⟩)) (fun w11 =>
  kp b3 w9 w11 <|
  kp b1 w9 w11 <|
  K out8 w11) w9) w9)
  (opTy Pr (Instr.buildSlice 23 1 #[(0, (.agg ⟨[(.int .i64 a.Client), (.int .i64 a.Seq), (.int .i64 a.Client), (.int .i64 a.Seq), (.int .i64 a.Err), (.bool a.Found), (sval a.Val), (.int .i64 a.Rev)]⟩))]) Sl.val (fun t12 w13 =>
  kp b3 w9 w13 <|
  kp b1 w9 w13 <|
  callV Pr Sl.val 77 #[out8.val, (.int .i64 t6.1), t12.val] w13 fun t14 w15 =>
  kp b3 w13 w15 <|
  kp b1 w13 w15 <|
  K t14 w15) w9)) w4) w2) w
def sess_With_ann : Ann := (.s (.r [(0, .nl 3)]) (.s (.r [(6, .nl 5), (7, .ls 5)]) (.s (.r [(3, .call (rT2 (rI .i64) rB))]) (.s (.r [(1, .call rSl)]) (.s (.s .d (.c (.s (.r [(3, .rd rPA), (4, .un)]) (.s .d .d)) .d)) (.s (.r [(3, .ty rSl), (4, .call rSl)]) .d))))))
theorem sess_With_calls {l : Sl} {a : ApiAnswer} {K : Sl → World → Prop} {w : World} (h : sess_With l a K w) : callV Pr Sl.val 56 #[l.val, (.agg ⟨a.cs⟩)] w K :=
  calls_of Pr_plain Pr_mixed Pr_func56 sess_With_ann rSl (args := [l.val, (.agg ⟨a.cs⟩)]) (by kernel_rfl) h

/- changeover/sess.Which -/
def sess_Which (l : Sl) (client : Int) (seq : Int) (K : (Int × ApiAnswer) → World → Prop) (w : World) : Prop :=
  newV (fun b1 w2 =>
  callV Pr (tval2 (Value.int .i64) Value.bool) 75 #[l.val, (.int .i64 client)] w2 fun t3 w4 =>
  kp b1 w2 w4 <|
  ifB (!t3.2)
  (wrM b1 (fun w5 =>
  K (0, (ApiAnswer.mk 0 0 0 false [] 0)) w5) w4)
  (opRd Pr (Instr.indexAt 23 l.val (.int .i64 t3.1)) pav (fun t6 =>
  opRd Pr (Instr.loadAt 3 (.pointer (some (t6.add 1)))) (Value.int .i64) (fun t7 =>
  ifB (decide (seq > t7))
  (wrM b1 (fun w8 =>
  K (0, (ApiAnswer.mk 0 0 0 false [] 0)) w8) w4)
  (opRd Pr (Instr.indexAt 23 l.val (.int .i64 t3.1)) pav (fun t9 =>
  opRd Pr (Instr.loadAt 3 (.pointer (some (t9.add 1)))) (Value.int .i64) (fun t10 =>
  ifB (seq == t10)
  (heldM (fun S12 w11 =>
  opH Pr S12 (Instr.indexAt 23 l.val (.int .i64 t3.1)) pav (fun t13 =>
  opH Pr S12 (Instr.loadAt 61 (.pointer (some (t13.add 2)))) ApiAnswer.val (fun t14 =>
  wrM b1 (fun w15 =>
  (S12 w15) ∧
  (K (1, t14) w15)) w11))) w4)
  (wrM b1 (fun w16 =>
  K (2, (ApiAnswer.mk 0 0 0 false [] 0)) w16) w4)) w4) w4)) w4) w4)) w
def sess_Which_ann : Ann := (.s (.r [(1, .nl 7)]) (.s (.r [(2, .call (rT2 (rI .i64) rB))]) (.s (.b (.s (.r [(6, .rd rPA), (8, .rd (rI .i64))]) (.c (.s (.r [(2, .ls 7)]) .d) (.s (.r [(3, .rd rPA), (5, .rd (rI .i64))]) (.c (.s (.h (.take 0 (.take 1 (.take 2 (.take 3 (.take 4 (.take 5 (.one 6 .done))))))) [(2, .rd rPA), (4, .rd rApiAnswer), (6, .ls 7)]) .d) .d))))) (.s (.r [(2, .ls 7)]) .d))))
theorem sess_Which_calls {l : Sl} {client : Int} {seq : Int} {K : (Int × ApiAnswer) → World → Prop} {w : World} (h : sess_Which l client seq K w) : callV Pr (tval2 (Value.int .i64) ApiAnswer.val) 57 #[l.val, (.int .i64 client), (.int .i64 seq)] w K :=
  calls_of Pr_plain Pr_mixed Pr_func57 sess_Which_ann (rT2 (rI .i64) rApiAnswer) (args := [l.val, (.int .i64 client), (.int .i64 seq)]) (by kernel_rfl) h

/- changeover/sess.Last -/
def sess_Last (l : Sl) (client : Int) (K : Int → World → Prop) (w : World) : Prop :=
  callV Pr (tval2 (Value.int .i64) Value.bool) 75 #[l.val, (.int .i64 client)] w fun t1 w2 =>
  ifB t1.2
  (opRd Pr (Instr.indexAt 23 l.val (.int .i64 t1.1)) pav (fun t3 =>
  opRd Pr (Instr.loadAt 3 (.pointer (some (t3.add 1)))) (Value.int .i64) (fun t4 =>
  K t4 w2) w2) w2)
  (K 0 w2)
def sess_Last_ann : Ann := (.s .d (.s (.s (.r [(2, .call (rT2 (rI .i64) rB))]) (.s .d (.c (.s (.r [(2, .rd rPA), (4, .rd (rI .i64))]) .d) .d))) (.s .d .d)))
theorem sess_Last_calls {l : Sl} {client : Int} {K : Int → World → Prop} {w : World} (h : sess_Last l client K w) : callV Pr (Value.int .i64) 58 #[l.val, (.int .i64 client)] w K :=
  calls_of Pr_plain Pr_mixed Pr_func58 sess_Last_ann (rI .i64) (args := [l.val, (.int .i64 client)]) (by kernel_rfl) h

/- changeover/changeoverref09.Check -/
def ref09_Check (a : ApiAnswer) (K : Int → World → Prop) (w : World) : Prop :=
  newV (fun b1 w2 =>
  ifB (decide (a.Client < 1))
  (K 6 w2)
  (ifB (decide (a.Client > 8))
  (K 6 w2)
  (ifB (decide (a.Seq < 1))
  (K 6 w2)
  (ifB (decide (a.Seq > 4294967296))
  (K 6 w2)
  (ifB (decide (a.Err < 0))
  (K 6 w2)
  (ifB (decide (a.Err > 17))
  (K 6 w2)
  (ifB (decide (a.Rev < 0))
  (K 6 w2)
  (ifB (decide (a.Rev > 4294967296))
  (K 6 w2)
  (callV Pr Value.bool 64 #[(sval a.Val)] w2 fun t3 w4 =>
  kp b1 w2 w4 <|
  ifB (!t3)
  (K 7 w4)
  (K 0 w4)))))))))) w
def ref09_Check_ann : Ann := (.s (.r [(0, .nl 1)]) (.s (.s .d (.c (.s .d .d) .d)) (.s (.s (.r [(2, .call rB)]) (.c (.s .d .d) .d)) (.s .d .d))))
theorem ref09_Check_calls {a : ApiAnswer} {K : Int → World → Prop} {w : World} (h : ref09_Check a K w) : callV Pr (Value.int .i64) 59 #[(.agg ⟨a.cs⟩)] w K :=
  calls_of Pr_plain Pr_mixed Pr_func59 ref09_Check_ann (rI .i64) (args := [(.agg ⟨a.cs⟩)]) (by kernel_rfl) h

/- changeover/changeoverref22.Rise -/
def ref22_Rise (l : Sl) (K : Bool → World → Prop) (w : World) : Prop :=
  loop1 (1 : Int) (fun i1 k2 w3 =>
  ifB (decide (i1 < (l.len : Int)))
  (drewM (fun w4 =>
  opRd Pr (Instr.indexAt 23 l.val (.int .i64 i1)) pav (fun t5 =>
  opRd Pr (Instr.loadAt 3 (.pointer (some (t5.add 0)))) (Value.int .i64) (fun t6 =>
  opRd Pr (Instr.indexAt 23 l.val (.int .i64 (i64 (i1 - 1)))) pav (fun t7 =>
  opRd Pr (Instr.loadAt 3 (.pointer (some (t7.add 0)))) (Value.int .i64) (fun t8 =>
  ifB (decide (t6 ≤ t8))
  (K false w4)
  (k2 (i64 (i1 + 1)) w4)) w4) w4) w4) w4) w3)
  (K true w3)) w
def ref22_Rise_ann : Ann := (.s .d (.s (.s .d (.b (.l [(.s 3, (rI .i64))] (.s (.s .d (.c .d .d)) (.s (.b (.s (.r [(2, .rd rPA), (4, .rd (rI .i64)), (8, .rd rPA), (10, .rd (rI .i64))]) (.c (.s .d .d) .d))) .d))))) (.s .d .d)))
theorem ref22_Rise_calls {l : Sl} {K : Bool → World → Prop} {w : World} (h : ref22_Rise l K w) : callV Pr Value.bool 60 #[l.val] w K :=
  calls_of Pr_plain Pr_mixed Pr_func60 ref22_Rise_ann rB (args := [l.val]) (by kernel_rfl) h

/- changeover/answer.Check -/
def answer_Check (a : ApiAnswer) (K : Int → World → Prop) (w : World) : Prop :=
  newV (fun b1 w2 =>
  callV Pr Value.bool 78 #[(.int .i64 a.Client), (.int .i64 1), (.int .i64 8)] w2 fun t3 w4 =>
  kp b1 w2 w4 <|
  ifB t3
  (callV Pr Value.bool 78 #[(.int .i64 a.Seq), (.int .i64 1), (.int .i64 4294967296)] w4 fun t5 w6 =>
  kp b1 w4 w6 <|
  ifB t5
  (callV Pr Value.bool 78 #[(.int .i64 a.Err), (.int .i64 0), (.int .i64 17)] w6 fun t7 w8 =>
  kp b1 w6 w8 <|
  ifB t7
  (callV Pr Value.bool 78 #[(.int .i64 a.Rev), (.int .i64 0), (.int .i64 4294967296)] w8 fun t9 w10 =>
  kp b1 w8 w10 <|
  ifB (!t9)
  (K 6 w10)
  (callV Pr Value.bool 66 #[(sval a.Val)] w10 fun t11 w12 =>
  kp b1 w10 w12 <|
  ifB (!t11)
  (K 7 w12)
  (K 0 w12)))
  (ifB (!false)
  (K 6 w8)
  (callV Pr Value.bool 66 #[(sval a.Val)] w8 fun t13 w14 =>
  kp b1 w8 w14 <|
  ifB (!t13)
  (K 7 w14)
  (K 0 w14))))
  (ifB (!false)
  (K 6 w6)
  (callV Pr Value.bool 66 #[(sval a.Val)] w6 fun t15 w16 =>
  kp b1 w6 w16 <|
  ifB (!t15)
  (K 7 w16)
  (K 0 w16))))
  (ifB (!false)
  (K 6 w4)
  (callV Pr Value.bool 66 #[(sval a.Val)] w4 fun t17 w18 =>
  kp b1 w4 w18 <|
  ifB (!t17)
  (K 7 w18)
  (K 0 w18)))) w
def answer_Check_ann : Ann := (.s (.r [(0, .nl 1)]) (.s .d (.s (.r [(3, .call rB), (8, .call rB), (14, .call rB), (20, .call rB)]) (.s (.b (.s .d (.c (.s .d .d) (.s (.r [(2, .call rB)]) (.c (.s .d .d) .d))))) (.s .d .d)))))
theorem answer_Check_calls {a : ApiAnswer} {K : Int → World → Prop} {w : World} (h : answer_Check a K w) : callV Pr (Value.int .i64) 61 #[(.agg ⟨a.cs⟩)] w K :=
  calls_of Pr_plain Pr_mixed Pr_func61 answer_Check_ann (rI .i64) (args := [(.agg ⟨a.cs⟩)]) (by kernel_rfl) h

/- changeover/kvone.Do -/
def kvone_Do (l : Sl) (c : ApiCmd) (K : (Sl × ApiAnswer) → World → Prop) (w : World) : Prop :=
  newV (fun b1 w2 =>
  newV (fun b3 w4 =>
  callV Pr Sl.val 69 #[l.val] w4 fun out5 w6 =>
  kp b3 w4 w6 <|
  kp b1 w4 w6 <|
  newV (fun b7 w8 =>
  wrM b7 (fun w9 =>
  callV Pr (tval2 ApiPair.val Value.bool) 40 #[l.val, (sval c.Key)] w9 fun t10 w11 =>
  kp b7 w9 w11 <|
  kp b3 w9 w11 <|
  kp b1 w9 w11 <|
  newV (fun b12 w13 =>
  wrM b12 (fun w14 =>
  join3 (fun (j15 : Sl → ApiAnswer → ApiAnswer → World → Prop) =>
  ifB (c.Kind == 2)
  (callV Pr (tval2 Sl.val Value.bool) 79 #[out5.val, (.agg ⟨[(sval c.Key), (sval c.Val), (.int .i64 0)]⟩)] w14 fun t16 w17 =>
  kp b12 w14 w17 <|
  kp b7 w14 w17 <|
  kp b3 w14 w17 <|
  kp b1 w14 w17 <|
  ifB (!t16.2)
  (wrM b7 (fun w18 =>
  heldM (fun S20 w19 =>
  wrM b3 (fun w21 =>
  (S20 w21) ∧
  (K (out5, (ApiAnswer.mk c.Client c.Seq 11 false [] 0)) w21)) w19) w18) w17)
  (j15 t16.1 (ApiAnswer.mk 0 0 0 false [] 0) (ApiAnswer.mk c.Client c.Seq 0 false [] 0) w17))
  (ifB (c.Kind == 3)
  (j15 out5 (ApiAnswer.mk 0 0 0 false [] 0) (ApiAnswer.mk c.Client c.Seq 0 false [] 0) w14)
  (ifB (c.Kind == 4)
  (callV Pr Sl.val 80 #[out5.val, (sval c.Key)] w14 fun out22 w23 =>
  kp b12 w14 w23 <|
  kp b7 w14 w23 <|
  kp b3 w14 w23 <|
  kp b1 w14 w23 <|
  j15 out22 (ApiAnswer.mk 0 0 0 false [] 0) (ApiAnswer.mk c.Client c.Seq 0 false [] 0) w23)
  (wrM b7 (fun w24 =>
  heldM (fun S26 w25 =>
  wrM b3 (fun w27 =>
  (S26 w27) ∧
  (K (out5, (ApiAnswer.mk c.Client c.Seq 8 false [] 0)) w27)) w25) w24) w14))))
  (fun out28 t29 a30 w31 =>
  heldM (fun S33 w32 =>
  wrM b7 (fun w34 =>
  (S33 w34) ∧
  (wrM b7 (fun w35 =>
  (S33 w35) ∧
  (heldM (fun S37 w36 =>
  wrM b3 (fun w38 =>
  (S37 w38) ∧
  (K (out28, (ApiAnswer.mk a30.Client a30.Seq a30.Err t10.2 t10.1.Val a30.Rev)) w38)) w36) w35)) w34)) w32) w31)) w13) w11) w8) w6) w2) w
def kvone_Do_ann : Ann := (.s (.r [(0, .nl 3), (2, .nl 5)]) (.s (.r [(1, .call rSl)]) (.s (.r [(5, .nl 7), (6, .ls 7)]) (.s (.r [(3, .call (rT2 rApiPair rB)), (7, .nl 8), (8, .ls 8)]) (.sj [(.s 6, rSl), (.h 5, rApiAnswer), (.h 7, rApiAnswer)] (.s .d (.b (.s .d (.c (.s (.r [(6, .call (rT2 rSl rB))]) (.s (.s .d (.c (.s (.r [(1, .ls 7)]) (.s (.h (.take 0 (.take 1 (.take 2 (.one 3 .done)))) [(3, .ls 5)]) .d)) .d)) .d)) (.s .d (.c .d (.s .d (.c (.r [(3, .call rSl)]) (.s (.r [(1, .ls 7)]) (.s (.h (.take 0 (.take 1 (.take 2 (.one 3 .done)))) [(3, .ls 5)]) .d)))))))))) (.s (.h (.take 0 (.take 1 (.take 2 (.take 3 (.one 4 (.take 5 (.one 6 .done))))))) [(4, .ls 7), (6, .ls 7)]) (.s (.h (.take 0 (.take 1 (.take 2 (.one 3 .done)))) [(3, .ls 5)]) .d)))))))
theorem kvone_Do_calls {l : Sl} {c : ApiCmd} {K : (Sl × ApiAnswer) → World → Prop} {w : World} (h : kvone_Do l c K w) : callV Pr (tval2 Sl.val ApiAnswer.val) 62 #[l.val, (.agg ⟨c.cs⟩)] w K :=
  calls_of Pr_plain Pr_mixed Pr_func62 kvone_Do_ann (rT2 rSl rApiAnswer) (args := [l.val, (.agg ⟨c.cs⟩)]) (by kernel_rfl) h

/- changeover/changeoverref05.Key -/
def ref05_Key (s : List UInt8) (K : Bool → World → Prop) (w : World) : Prop :=
  ifB (decide (((s : List UInt8).length : Int) < 1))
  (K false w)
  (ifB (decide (((s : List UInt8).length : Int) > 24))
  (K false w)
  (loop1 (0 : Int) (fun i1 k2 w3 =>
  ifB (decide (i1 < ((s : List UInt8).length : Int)))
  (callV Pr (tval2 (Value.int .i64) (Value.int .i64)) 81 #[(sval s), (.int .i64 i1)] w3 fun t4 w5 =>
  ifB (t4.1 == 0)
  (K false w5)
  (callV Pr Value.bool 82 #[(.int .i64 t4.2)] w5 fun t6 w7 =>
  ifB (!t6)
  (K false w7)
  (k2 (i64 (i1 + t4.1)) w7)))
  (K true w3)) w))
def ref05_Key_ann : Ann := (.s .d (.s (.s .d (.c (.s .d .d) .d)) (.s .d (.s (.b (.l [(.s 3, (rI .i64))] (.s (.s .d (.c .d .d)) (.b (.s (.r [(2, .call (rT2 (rI .i64) (rI .i64)))]) (.s (.s (.r [(4, .call rB)]) (.c (.s .d .d) .d)) .d)))))) (.s .d .d)))))
theorem ref05_Key_calls {s : List UInt8} {K : Bool → World → Prop} {w : World} (h : ref05_Key s K w) : callV Pr Value.bool 63 #[(sval s)] w K :=
  calls_of Pr_plain Pr_mixed Pr_func63 ref05_Key_ann rB (args := [(sval s)]) (by kernel_rfl) h

/- changeover/changeoverref05.Val -/
def ref05_Val (s : List UInt8) (K : Bool → World → Prop) (w : World) : Prop :=
  ifB (decide (((s : List UInt8).length : Int) > 48))
  (K false w)
  (callV Pr (Value.int .i64) 83 #[(sval s)] w fun t1 w2 =>
  ifB (decide (t1 ≥ 0))
  (K false w2)
  (loop1 (0 : Int) (fun i3 k4 w5 =>
  ifB (decide (i3 < ((s : List UInt8).length : Int)))
  (opRd Pr (Instr.index 9 (sval s) (.int .i64 i3)) (Value.int .u8) (fun t6 =>
  ifB (decide (t6 < 32))
  (K false w5)
  (opRd Pr (Instr.index 9 (sval s) (.int .i64 i3)) (Value.int .u8) (fun t7 =>
  ifB (t7 == 127)
  (K false w5)
  (k4 (i64 (i3 + 1)) w5)) w5)) w5)
  (K true w5)) w2))
def ref05_Val_ann : Ann := (.s .d (.s (.s (.r [(5, .call (rI .i64))]) (.c (.s .d .d) .d)) (.s (.s .d (.b (.l [(.s 3, (rI .i64))] (.s (.s .d (.c .d .d)) (.s (.b (.s (.r [(2, .rd (rI .u8)), (7, .rd (rI .u8))]) (.c (.s .d .d) .d))) .d))))) (.s .d .d))))
theorem ref05_Val_calls {s : List UInt8} {K : Bool → World → Prop} {w : World} (h : ref05_Val s K w) : callV Pr Value.bool 64 #[(sval s)] w K :=
  calls_of Pr_plain Pr_mixed Pr_func64 ref05_Val_ann rB (args := [(sval s)]) (by kernel_rfl) h

/- changeover/runes.Key -/
def runes_Key (s : List UInt8) (K : Bool → World → Prop) (w : World) : Prop :=
  ifB (!(strEq s []))
  (ifB (decide (((s : List UInt8).length : Int) ≤ 24))
  (callV Pr Value.bool 84 #[(sval s)] w fun t1 w2 =>
  ifB t1
  (callV Pr Value.bool 85 #[(sval s), (.func (.func 86) #[] #[])] w2 fun t3 w4 =>
  K t3 w4)
  (K false w2))
  (K false w))
  (K false w)
def runes_Key_ann : Ann := (.s .d (.s (.r [(9, .call rB), (13, .call rB)]) .d))
theorem runes_Key_calls {s : List UInt8} {K : Bool → World → Prop} {w : World} (h : runes_Key s K w) : callV Pr Value.bool 65 #[(sval s)] w K :=
  calls_of Pr_plain Pr_mixed Pr_func65 runes_Key_ann rB (args := [(sval s)]) (by kernel_rfl) h

/- changeover/runes.Val -/
def runes_Val (s : List UInt8) (K : Bool → World → Prop) (w : World) : Prop :=
  ifB (decide (((s : List UInt8).length : Int) ≤ 48))
  (callV Pr Value.bool 84 #[(sval s)] w fun t1 w2 =>
  ifB t1
  (callV Pr Value.bool 85 #[(sval s), (.func (.func 87) #[] #[])] w2 fun t3 w4 =>
  K t3 w4)
  (K false w2))
  (K false w)
def runes_Val_ann : Ann := (.s .d (.s (.r [(5, .call rB), (9, .call rB)]) .d))
theorem runes_Val_calls {s : List UInt8} {K : Bool → World → Prop} {w : World} (h : runes_Val s K w) : callV Pr Value.bool 66 #[(sval s)] w K :=
  calls_of Pr_plain Pr_mixed Pr_func66 runes_Val_ann rB (args := [(sval s)]) (by kernel_rfl) h

/- changeover/kvone.place -/
def kvone_place (l : Sl) (key : List UInt8) (K : (Int × Bool) → World → Prop) (w : World) : Prop :=
  callV Pr (tval2 (Value.int .i64) Value.bool) 88 #[l.val, (sval key), (.func (.func 89) #[] #[])] w fun t1 w2 =>
  K (t1.1, t1.2) w2
def kvone_place_ann : Ann := (.s .d (.s (.r [(2, .call (rT2 (rI .i64) rB))]) .d))
theorem kvone_place_calls {l : Sl} {key : List UInt8} {K : (Int × Bool) → World → Prop} {w : World} (h : kvone_place l key K w) : callV Pr (tval2 (Value.int .i64) Value.bool) 67 #[l.val, (sval key)] w K :=
  calls_of Pr_plain Pr_mixed Pr_func67 kvone_place_ann (rT2 (rI .i64) rB) (args := [l.val, (sval key)]) (by kernel_rfl) h

/- changeover/kvtwo.Do -/
def kvtwo_Do (l : Sl) (c : ApiCmd) (K : (Sl × ApiAnswer) → World → Prop) (w : World) : Prop :=
  newV (fun b1 w2 =>
  newV (fun b3 w4 =>
  callV Pr Sl.val 69 #[l.val] w4 fun out5 w6 =>
  kp b3 w4 w6 <|
  kp b1 w4 w6 <|
  ifB (c.Kind == 5)
  (callV Pr (tval2 Sl.val ApiAnswer.val) 91 #[out5.val, (.agg ⟨[(.int .i64 c.Kind), (.int .i64 c.Client), (.int .i64 c.Seq), (sval c.Key), (sval c.Val), (sval c.Old), (.int .i64 c.Node)]⟩)] w6 fun t7 w8 =>
  kp b3 w6 w8 <|
  kp b1 w6 w8 <|
  wrM b3 (fun w9 =>
  K (t7.1, (ApiAnswer.mk t7.2.Client t7.2.Seq t7.2.Err t7.2.Found t7.2.Val t7.2.Rev)) w9) w8)
  (callV Pr (tval2 ApiPair.val Value.bool) 40 #[out5.val, (sval c.Key)] w6 fun t10 w11 =>
  kp b3 w6 w11 <|
  kp b1 w6 w11 <|
  newV (fun b12 w13 =>
  wrM b12 (fun w14 =>
  callV Pr (tval2 Sl.val ApiAnswer.val) 62 #[out5.val, (.agg ⟨[(.int .i64 c.Kind), (.int .i64 c.Client), (.int .i64 c.Seq), (sval c.Key), (sval c.Val), (sval c.Old), (.int .i64 c.Node)]⟩)] w14 fun t15 w16 =>
  kp b12 w14 w16 <|
  kp b3 w14 w16 <|
  kp b1 w14 w16 <|
  newV (fun b17 w18 =>
  wrM b17 (fun w19 =>
  ifB (c.Kind == 2)
  (ifB (t15.2.Err == 0)
  (heldM (fun S21 w20 =>
  callV Pr (Value.int .i64) 93 #[(.int .i64 t10.1.Rev)] w20 fun t22 w23 =>
  kp b17 w20 w23 <|
  kp b12 w20 w23 <|
  kp b3 w20 w23 <|
  kp b1 w20 w23 <|
  (S21 w23) ∧
  (callV Pr Sl.val 92 #[t15.1.val, (.agg ⟨[(sval c.Key), (sval c.Val), (.int .i64 t22)]⟩)] w23 fun after24 w25 =>
  kp b17 w23 w25 <|
  kp b12 w23 w25 <|
  kp b3 w23 w25 <|
  kp b1 w23 w25 <|
  (S21 w25) ∧
  (heldM (fun S27 w26 =>
  wrM b3 (fun w28 =>
  (S27 w28) ∧
  (K (after24, (ApiAnswer.mk t15.2.Client t15.2.Seq t15.2.Err t15.2.Found t15.2.Val t15.2.Rev)) w28)) w26) w25))) w19)
  (heldM (fun S30 w29 =>
  wrM b3 (fun w31 =>
  (S30 w31) ∧
  (K (t15.1, (ApiAnswer.mk t15.2.Client t15.2.Seq t15.2.Err t15.2.Found t15.2.Val t15.2.Rev)) w31)) w29) w19))
  (heldM (fun S33 w32 =>
  wrM b3 (fun w34 =>
  (S33 w34) ∧
  (K (t15.1, (ApiAnswer.mk t15.2.Client t15.2.Seq t15.2.Err t15.2.Found t15.2.Val t15.2.Rev)) w34)) w32) w19)) w18) w16) w13) w11)) w2) w
def kvtwo_Do_ann : Ann := (.s (.r [(0, .nl 3), (2, .nl 5)]) (.s (.r [(1, .call rSl)]) (.s (.s .d (.c (.s (.r [(2, .call (rT2 rSl rApiAnswer)), (6, .ls 5)]) .d) .d)) (.s (.r [(3, .call (rT2 rApiPair rB)), (7, .nl 7), (8, .ls 7)]) (.s (.r [(2, .call (rT2 rSl rApiAnswer)), (6, .nl 10), (8, .ls 10)]) (.s (.s .d (.c (.h (.take 0 (.take 1 (.take 2 (.take 3 (.take 4 (.take 5 (.take 6 (.one 7 (.take 8 (.one 9 (.take 10 .done))))))))))) [(7, .call (rI .i64)), (9, .call rSl)]) .d)) (.s (.h (.take 0 (.take 1 (.take 2 (.one 3 .done)))) [(3, .ls 5)]) .d)))))))
theorem kvtwo_Do_calls {l : Sl} {c : ApiCmd} {K : (Sl × ApiAnswer) → World → Prop} {w : World} (h : kvtwo_Do l c K w) : callV Pr (tval2 Sl.val ApiAnswer.val) 68 #[l.val, (.agg ⟨c.cs⟩)] w K :=
  calls_of Pr_plain Pr_mixed Pr_func68 kvtwo_Do_ann (rT2 rSl rApiAnswer) (args := [l.val, (.agg ⟨c.cs⟩)]) (by kernel_rfl) h

/- slices.Clone[[]changeover/api.Pair,changeover/api.Pair] -/
def slices_Clone_api_Pair_api_Pair (s : Sl) (K : Sl → World → Prop) (w : World) : Prop :=
  opRd Pr (binSem .eql 22 (.tmp 3) (.const Sl.nil.val) s.val Sl.nil.val) Value.bool (fun t1 =>
  ifB t1
  (K Sl.nil w)
  (opTy Pr (Instr.buildSlice 22 0 #[]) Sl.val (fun t2 w3 =>
  opTy Pr (Builtin.append_ #[22, 22] 22 #[t2.val, s.val]) Sl.val (fun t4 w5 =>
  K t4 w5) w3) w)) w
def slices_Clone_api_Pair_api_Pair_ann : Ann := (.s .d (.s (.s (.r [(1, .rd rB)]) (.c (.s .d .d) .d)) (.s (.r [(0, .ty rSl), (2, .ty rSl)]) .d)))
theorem slices_Clone_api_Pair_api_Pair_calls {s : Sl} {K : Sl → World → Prop} {w : World} (h : slices_Clone_api_Pair_api_Pair s K w) : callV Pr Sl.val 69 #[s.val] w K :=
  calls_of Pr_plain Pr_mixed Pr_func69 slices_Clone_api_Pair_api_Pair_ann rSl (args := [s.val]) (by kernel_rfl) h

/- changeover/kvtwo.Check$1 -/
def kvtwo_Check_1 (p : ApiPair) (K : Bool → World → Prop) (w : World) : Prop :=
  newV (fun b1 w2 =>
  ifB (decide (p.Rev < 1))
  (K true w2)
  (K (decide (p.Rev > 4294967296)) w2)) w
def kvtwo_Check_1_ann : Ann := (.s (.r [(0, .nl 1)]) (.s .d .d))
theorem kvtwo_Check_1_calls {p : ApiPair} {K : Bool → World → Prop} {w : World} (h : kvtwo_Check_1 p K w) : callV Pr Value.bool 70 #[(.agg ⟨p.cs⟩)] w K :=
  calls_of Pr_plain Pr_mixed Pr_func70 kvtwo_Check_1_ann rB (args := [(.agg ⟨p.cs⟩)]) (by kernel_rfl) h

/- slices.ContainsFunc[[]changeover/api.Pair,changeover/api.Pair] -/
def slices_ContainsFunc_api_Pair_api_Pair (s : Sl) (f : Value) (K : Bool → World → Prop) (w : World) : Prop :=
  callV Pr (Value.int .i64) 94 #[s.val, f] w fun t1 w2 =>
  K (decide (t1 ≥ 0)) w2
def slices_ContainsFunc_api_Pair_api_Pair_ann : Ann := (.s .d (.s (.r [(2, .call (rI .i64))]) .d))
theorem slices_ContainsFunc_api_Pair_api_Pair_calls {s : Sl} {f : Value} {K : Bool → World → Prop} {w : World} (h : slices_ContainsFunc_api_Pair_api_Pair s f K w) : callV Pr Value.bool 71 #[s.val, f] w K :=
  calls_of Pr_plain Pr_mixed Pr_func71 slices_ContainsFunc_api_Pair_api_Pair_ann rB (args := [s.val, f]) (by kernel_rfl) h

/- cmp.isNaN[int] -/
def cmp_isNaN_int (x : Int) (K : Bool → World → Prop) (w : World) : Prop :=
  K (x != x) w
def cmp_isNaN_int_ann : Ann := (.s .d (.s .d .d))
theorem cmp_isNaN_int_calls {x : Int} {K : Bool → World → Prop} {w : World} (h : cmp_isNaN_int x K w) : callV Pr Value.bool 73 #[(.int .i64 x)] w K :=
  calls_of Pr_plain Pr_mixed Pr_func73 cmp_isNaN_int_ann rB (args := [(.int .i64 x)]) (by kernel_rfl) h

/- internal/strconv.Itoa -/
def internal_strconv_Itoa (i : Int) (K : (List UInt8) → World → Prop) (w : World) : Prop :=
  callV Pr sval 95 #[(.int .i64 i), (.int .i64 10)] w fun t1 w2 =>
  K t1 w2
def internal_strconv_Itoa_ann : Ann := (.s .d (.s (.r [(1, .call rS)]) .d))
theorem internal_strconv_Itoa_calls {i : Int} {K : (List UInt8) → World → Prop} {w : World} (h : internal_strconv_Itoa i K w) : callV Pr sval 74 #[(.int .i64 i)] w K :=
  calls_of Pr_plain Pr_mixed Pr_func74 internal_strconv_Itoa_ann rS (args := [(.int .i64 i)]) (by kernel_rfl) h

/- changeover/sess.place -/
def sess_place (l : Sl) (client : Int) (K : (Int × Bool) → World → Prop) (w : World) : Prop :=
  callV Pr (tval2 (Value.int .i64) Value.bool) 96 #[l.val, (.int .i64 client), (.func (.func 97) #[] #[])] w fun t1 w2 =>
  K (t1.1, t1.2) w2
def sess_place_ann : Ann := (.s .d (.s (.r [(2, .call (rT2 (rI .i64) rB))]) .d))
theorem sess_place_calls {l : Sl} {client : Int} {K : (Int × Bool) → World → Prop} {w : World} (h : sess_place l client K w) : callV Pr (tval2 (Value.int .i64) Value.bool) 75 #[l.val, (.int .i64 client)] w K :=
  calls_of Pr_plain Pr_mixed Pr_func75 sess_place_ann (rT2 (rI .i64) rB) (args := [l.val, (.int .i64 client)]) (by kernel_rfl) h

/- slices.Clone[[]changeover/api.Session,changeover/api.Session] -/
def slices_Clone_api_Session_api_Session (s : Sl) (K : Sl → World → Prop) (w : World) : Prop :=
  opRd Pr (binSem .eql 23 (.tmp 3) (.const Sl.nil.val) s.val Sl.nil.val) Value.bool (fun t1 =>
  ifB t1
  (K Sl.nil w)
  (opTy Pr (Instr.buildSlice 23 0 #[]) Sl.val (fun t2 w3 =>
  opTy Pr (Builtin.append_ #[23, 23] 23 #[t2.val, s.val]) Sl.val (fun t4 w5 =>
  K t4 w5) w3) w)) w
def slices_Clone_api_Session_api_Session_ann : Ann := (.s .d (.s (.s (.r [(1, .rd rB)]) (.c (.s .d .d) .d)) (.s (.r [(0, .ty rSl), (2, .ty rSl)]) .d)))
theorem slices_Clone_api_Session_api_Session_calls {s : Sl} {K : Sl → World → Prop} {w : World} (h : slices_Clone_api_Session_api_Session s K w) : callV Pr Sl.val 76 #[s.val] w K :=
  calls_of Pr_plain Pr_mixed Pr_func76 slices_Clone_api_Session_api_Session_ann rSl (args := [s.val]) (by kernel_rfl) h

/- slices.Insert[[]changeover/api.Session,changeover/api.Session] -/
def slices_Insert_api_Session_api_Session (s : Sl) (i : Int) (v : Sl) (K : Sl → World → Prop) (w : World) : Prop :=
  opRd Pr (Instr.sliceAt 23 s.val (some (.int .i64 i)) none none) Sl.val (fun t1 =>
  ifB ((v.len : Int) == 0)
  (K s w)
  (ifB (i == (s.len : Int))
  (opTy Pr (Builtin.append_ #[23, 23] 23 #[s.val, v.val]) Sl.val (fun t2 w3 =>
  K t2 w3) w)
  (ifB (decide ((i64 ((s.len : Int) + (v.len : Int))) > (s.cap : Int)))
  (opRd Pr (Instr.sliceAt 23 s.val none (some (.int .i64 i)) none) Sl.val (fun t4 =>
  opTy Pr (Builtin.append_ #[23, 3] 23 #[t4.val, (.int .i64 (i64 ((i64 ((s.len : Int) + (v.len : Int))) - i)))]) Sl.val (fun s25 w6 =>
  opRd Pr (Instr.sliceAt 23 s25.val (some (.int .i64 i)) none none) Sl.val (fun t7 =>
  opTy Pr (Builtin.copy_ #[23, 23] 3 #[t7.val, v.val]) (Value.int .i64) (fun t8 w9 =>
  heldM (fun S11 w10 =>
  opH Pr S11 (Instr.sliceAt 23 s25.val (some (.int .i64 (i64 (i + (v.len : Int))))) none none) Sl.val (fun t12 =>
  opH Pr S11 (Instr.sliceAt 23 s.val (some (.int .i64 i)) none none) Sl.val (fun t13 =>
  opTy Pr (Builtin.copy_ #[23, 23] 3 #[t12.val, t13.val]) (Value.int .i64) (fun t14 w15 =>
  (S11 w15) ∧
  (K s25 w15)) w10))) w9) w6) w6) w) w)
  (opRd Pr (Instr.sliceAt 23 s.val none (some (.int .i64 (i64 ((s.len : Int) + (v.len : Int))))) none) Sl.val (fun s16 =>
  opRd Pr (Instr.sliceAt 23 s16.val (some (.int .i64 (i64 (i + (v.len : Int))))) none none) Sl.val (fun t17 =>
  opEx Pr 98 #[v.val, t17.val] Value.bool (fun t18 w19 =>
  ifB (!t18)
  (heldM (fun S21 w20 =>
  opH Pr S21 (Instr.sliceAt 23 s16.val (some (.int .i64 (i64 (i + (v.len : Int))))) none none) Sl.val (fun t22 =>
  opH Pr S21 (Instr.sliceAt 23 s16.val (some (.int .i64 i)) none none) Sl.val (fun t23 =>
  opTy Pr (Builtin.copy_ #[23, 23] 3 #[t22.val, t23.val]) (Value.int .i64) (fun t24 w25 =>
  (S21 w25) ∧
  (opRd Pr (Instr.sliceAt 23 s16.val (some (.int .i64 i)) none none) Sl.val (fun t26 =>
  opTy Pr (Builtin.copy_ #[23, 23] 3 #[t26.val, v.val]) (Value.int .i64) (fun t27 w28 =>
  K s16 w28) w25) w25)) w20))) w19)
  (opRd Pr (Instr.sliceAt 23 s16.val (some (.int .i64 (s.len : Int))) none none) Sl.val (fun t29 =>
  opTy Pr (Builtin.copy_ #[23, 23] 3 #[t29.val, v.val]) (Value.int .i64) (fun t30 w31 =>
  opRd Pr (Instr.sliceAt 23 s16.val (some (.int .i64 i)) none none) Sl.val (fun t32 =>
  callV Pr uval 99 #[t32.val, (.int .i64 (v.len : Int))] w31 fun t33 w34 =>
  K s16 w34) w31) w19) w19)) w) w) w)))) w
def slices_Insert_api_Session_api_Session_ann : Ann := (.s .d (.s (.r [(2, .rd rSl)]) (.s .d (.s (.s .d (.c (.s .d .d) .d)) (.s .d (.s (.s .d (.c (.s (.r [(2, .ty rSl)]) .d) .d)) (.s (.s .d (.c (.s (.r [(2, .rd rSl), (8, .ty rSl)]) (.s (.r [(2, .rd rSl), (4, .ty (rI .i64))]) (.s (.h (.take 0 (.take 1 (.take 2 (.take 3 (.take 4 (.take 5 (.take 6 (.take 7 (.one 8 .done))))))))) [(4, .rd rSl), (7, .rd rSl), (8, .ty (rI .i64))]) (.s .d .d)))) .d)) (.s (.r [(4, .rd rSl)]) (.s (.s (.r [(5, .rd rSl), (6, .ext rB)]) (.c (.s (.h (.take 0 (.take 1 (.take 2 (.take 3 (.take 4 (.take 5 (.take 6 (.take 7 (.one 8 .done))))))))) [(4, .rd rSl), (7, .rd rSl), (8, .ty (rI .i64))]) (.s (.r [(2, .rd rSl), (4, .ty (rI .i64))]) (.s .d .d))) .d)) (.s (.r [(2, .rd rSl), (4, .ty (rI .i64))]) (.s (.r [(2, .rd rSl), (4, .call rU)]) (.s .d .d))))))))))))
theorem slices_Insert_api_Session_api_Session_calls {s : Sl} {i : Int} {v : Sl} {K : Sl → World → Prop} {w : World} (h : slices_Insert_api_Session_api_Session s i v K w) : callV Pr Sl.val 77 #[s.val, (.int .i64 i), v.val] w K :=
  calls_of Pr_plain Pr_mixed Pr_func77 slices_Insert_api_Session_api_Session_ann rSl (args := [s.val, (.int .i64 i), v.val]) (by kernel_rfl) h

/- changeover/answer.Check$1 -/
def answer_Check_1 (n : Int) (least : Int) (most : Int) (K : Bool → World → Prop) (w : World) : Prop :=
  ifB (decide (n ≥ least))
  (K (decide (n ≤ most)) w)
  (K false w)
def answer_Check_1_ann : Ann := (.s .d (.s .d .d))
theorem answer_Check_1_calls {n : Int} {least : Int} {most : Int} {K : Bool → World → Prop} {w : World} (h : answer_Check_1 n least most K w) : callV Pr Value.bool 78 #[(.int .i64 n), (.int .i64 least), (.int .i64 most)] w K :=
  calls_of Pr_plain Pr_mixed Pr_func78 answer_Check_1_ann rB (args := [(.int .i64 n), (.int .i64 least), (.int .i64 most)]) (by kernel_rfl) h

/- changeover/kvone.put -/
def kvone_put (l : Sl) (p : ApiPair) (K : (Sl × Bool) → World → Prop) (w : World) : Prop :=
  newV (fun b1 w2 =>
  callV Pr (tval2 (Value.int .i64) Value.bool) 67 #[l.val, (sval p.Key)] w2 fun t3 w4 =>
  kp b1 w2 w4 <|
  ifB t3.2
  (opRd Pr (Instr.indexAt 22 l.val (.int .i64 t3.1)) pav (fun t5 =>
  opUn Pr (Instr.storeAt 54 (.pointer (some t5)) (.agg ⟨[(sval p.Key), (sval p.Val), (.int .i64 p.Rev)]⟩)) (fun w6 =>
  kp b1 w4 w6 <|
  K (l, true) w6) w4) w4)
  (ifB (decide ((l.len : Int) ≥ 64))
  (K (l, false) w4)
  (opTy Pr (Instr.buildSlice 22 1 #[(0, (.agg ⟨[(sval p.Key), (sval p.Val), (.int .i64 p.Rev)]⟩))]) Sl.val (fun t7 w8 =>
  kp b1 w4 w8 <|
  callV Pr Sl.val 100 #[l.val, (.int .i64 t3.1), t7.val] w8 fun l9 w10 =>
  kp b1 w8 w10 <|
  K (l9, true) w10) w4))) w
def kvone_put_ann : Ann := (.s (.r [(0, .nl 3)]) (.s (.r [(3, .call (rT2 (rI .i64) rB))]) (.s (.b (.s .d (.c (.r [(3, .rd rPA), (4, .un)]) (.s .d (.c (.s .d .d) (.r [(3, .ty rSl), (4, .call rSl)])))))) (.s .d .d))))
theorem kvone_put_calls {l : Sl} {p : ApiPair} {K : (Sl × Bool) → World → Prop} {w : World} (h : kvone_put l p K w) : callV Pr (tval2 Sl.val Value.bool) 79 #[l.val, (.agg ⟨p.cs⟩)] w K :=
  calls_of Pr_plain Pr_mixed Pr_func79 kvone_put_ann (rT2 rSl rB) (args := [l.val, (.agg ⟨p.cs⟩)]) (by kernel_rfl) h

/- changeover/kvone.del -/
def kvone_del (l : Sl) (key : List UInt8) (K : Sl → World → Prop) (w : World) : Prop :=
  callV Pr (tval2 (Value.int .i64) Value.bool) 67 #[l.val, (sval key)] w fun t1 w2 =>
  ifB t1.2
  (callV Pr Sl.val 101 #[l.val, (.int .i64 t1.1), (.int .i64 (i64 (t1.1 + 1)))] w2 fun t3 w4 =>
  K t3 w4)
  (K l w2)
def kvone_del_ann : Ann := (.s .d (.s (.s (.r [(2, .call (rT2 (rI .i64) rB))]) (.s .d (.c (.s (.r [(4, .call rSl)]) .d) .d))) (.s .d .d)))
theorem kvone_del_calls {l : Sl} {key : List UInt8} {K : Sl → World → Prop} {w : World} (h : kvone_del l key K w) : callV Pr Sl.val 80 #[l.val, (sval key)] w K :=
  calls_of Pr_plain Pr_mixed Pr_func80 kvone_del_ann rSl (args := [l.val, (sval key)]) (by kernel_rfl) h

/- changeover/changeoverref05.Size -/
def ref05_Size (s : List UInt8) (i : Int) (K : (Int × Int) → World → Prop) (w : World) : Prop :=
  opRd Pr (Instr.index 9 (sval s) (.int .i64 i)) (Value.int .u8) (fun t1 =>
  join3 (fun (j2 : Int → Int → Int → World → Prop) =>
  ifB (decide ((IntKind.i64.wrap t1) < 128))
  (K (1, (IntKind.i64.wrap t1)) w)
  (ifB (decide ((IntKind.i64.wrap t1) ≥ 194))
  (ifB (decide ((IntKind.i64.wrap t1) ≤ 223))
  (j2 2 128 (i64 ((IntKind.i64.wrap t1) - 192)) w)
  (ifB (decide ((IntKind.i64.wrap t1) ≥ 224))
  (ifB (decide ((IntKind.i64.wrap t1) ≤ 239))
  (j2 3 2048 (i64 ((IntKind.i64.wrap t1) - 224)) w)
  (ifB (decide ((IntKind.i64.wrap t1) ≥ 240))
  (ifB (decide ((IntKind.i64.wrap t1) ≤ 244))
  (j2 4 65536 (i64 ((IntKind.i64.wrap t1) - 240)) w)
  (K (0, 0) w))
  (K (0, 0) w)))
  (ifB (decide ((IntKind.i64.wrap t1) ≥ 240))
  (ifB (decide ((IntKind.i64.wrap t1) ≤ 244))
  (j2 4 65536 (i64 ((IntKind.i64.wrap t1) - 240)) w)
  (K (0, 0) w))
  (K (0, 0) w))))
  (ifB (decide ((IntKind.i64.wrap t1) ≥ 224))
  (ifB (decide ((IntKind.i64.wrap t1) ≤ 239))
  (j2 3 2048 (i64 ((IntKind.i64.wrap t1) - 224)) w)
  (ifB (decide ((IntKind.i64.wrap t1) ≥ 240))
  (ifB (decide ((IntKind.i64.wrap t1) ≤ 244))
  (j2 4 65536 (i64 ((IntKind.i64.wrap t1) - 240)) w)
  (K (0, 0) w))
  (K (0, 0) w)))
  (ifB (decide ((IntKind.i64.wrap t1) ≥ 240))
  (ifB (decide ((IntKind.i64.wrap t1) ≤ 244))
  (j2 4 65536 (i64 ((IntKind.i64.wrap t1) - 240)) w)
  (K (0, 0) w))
  (K (0, 0) w)))))
  (fun n3 low4 v5 w6 =>
  ifB (decide ((i64 (i + n3)) > ((s : List UInt8).length : Int)))
  (K (0, 0) w6)
  (loop2 (v5 : Int) (1 : Int) (fun v7 k8 k9 w10 =>
  ifB (decide (k8 < n3))
  (opRd Pr (Instr.index 9 (sval s) (.int .i64 (i64 (i + k8)))) (Value.int .u8) (fun t11 =>
  ifB (decide ((IntKind.i64.wrap t11) < 128))
  (K (0, 0) w10)
  (ifB (decide ((IntKind.i64.wrap t11) > 191))
  (K (0, 0) w10)
  (k9 (i64 ((i64 ((i64 (64 * v7)) + (IntKind.i64.wrap t11))) - 128)) (i64 (k8 + 1)) w10))) w10)
  (ifB (decide (v7 < low4))
  (K (0, 0) w10)
  (ifB (decide (v7 > 1114111))
  (K (0, 0) w10)
  (ifB (decide (v7 ≥ 55296))
  (ifB (decide (v7 ≤ 57343))
  (K (0, 0) w10)
  (K (n3, v7) w10))
  (K (n3, v7) w10))))) w6))) w
def ref05_Size_ann : Ann := (.s .d (.s (.r [(2, .rd (rI .u8))]) (.s .d (.sj [(.s 7, (rI .i64)), (.s 8, (rI .i64)), (.s 9, (rI .i64))] (.b (.s .d (.c (.s .d .d) (.s .d (.c .d (.s .d (.c .d (.s .d (.c .d (.s .d .d)))))))))) (.s (.s .d (.c (.s .d .d) .d)) (.s (.s .d (.b (.l [(.s 9, (rI .i64)), (.s 10, (rI .i64))] (.s (.s .d (.c .d .d)) (.s (.b (.s (.r [(4, .rd (rI .u8))]) (.s (.s .d (.c (.s .d .d) .d)) .d))) .d))))) (.s (.s .d (.c (.s .d .d) .d)) (.s .d .d))))))))
theorem ref05_Size_calls {s : List UInt8} {i : Int} {K : (Int × Int) → World → Prop} {w : World} (h : ref05_Size s i K w) : callV Pr (tval2 (Value.int .i64) (Value.int .i64)) 81 #[(sval s), (.int .i64 i)] w K :=
  calls_of Pr_plain Pr_mixed Pr_func81 ref05_Size_ann (rT2 (rI .i64) (rI .i64)) (args := [(sval s), (.int .i64 i)]) (by kernel_rfl) h

/- changeover/changeoverref05.Plain -/
def ref05_Plain (r : Int) (K : Bool → World → Prop) (w : World) : Prop :=
  loop1 (0 : Int) (fun i1 k2 w3 =>
  ifB (decide (i1 < ((cs66_24119 : List UInt8).length : Int)))
  (opRd Pr (Instr.index 9 (sval cs66_24119) (.int .i64 i1)) (Value.int .u8) (fun t4 =>
  ifB ((IntKind.i64.wrap t4) == r)
  (K true w3)
  (k2 (i64 (i1 + 1)) w3)) w3)
  (ifB (decide (r ≥ 161))
  (K (r != 65533) w3)
  (K false w3))) w
def ref05_Plain_ann : Ann := (.s .d (.s .d (.s (.s .d (.b (.l [(.s 4, (rI .i64))] (.s (.s .d (.c .d .d)) (.s (.b (.s (.r [(2, .rd (rI .u8))]) (.c (.s .d .d) .d))) .d))))) (.s .d .d))))
theorem ref05_Plain_calls {r : Int} {K : Bool → World → Prop} {w : World} (h : ref05_Plain r K w) : callV Pr Value.bool 82 #[(.int .i64 r)] w K :=
  calls_of Pr_plain Pr_mixed Pr_func82 ref05_Plain_ann rB (args := [(.int .i64 r)]) (by kernel_rfl) h

/- changeover/changeoverref05.Bad -/
def ref05_Bad (s : List UInt8) (K : Int → World → Prop) (w : World) : Prop :=
  loop1 (0 : Int) (fun i1 k2 w3 =>
  ifB (decide (i1 < ((s : List UInt8).length : Int)))
  (callV Pr (tval2 (Value.int .i64) (Value.int .i64)) 81 #[(sval s), (.int .i64 i1)] w3 fun t4 w5 =>
  ifB (t4.1 == 0)
  (K i1 w5)
  (k2 (i64 (i1 + t4.1)) w5))
  (K (-1) w3)) w
def ref05_Bad_ann : Ann := (.s .d (.s .d (.s (.b (.l [(.s 3, (rI .i64))] (.s (.s .d (.c .d .d)) (.b (.s (.r [(2, .call (rT2 (rI .i64) (rI .i64)))]) (.s (.s .d (.c (.s .d .d) .d)) .d)))))) (.s .d .d))))
theorem ref05_Bad_calls {s : List UInt8} {K : Int → World → Prop} {w : World} (h : ref05_Bad s K w) : callV Pr (Value.int .i64) 83 #[(sval s)] w K :=
  calls_of Pr_plain Pr_mixed Pr_func83 ref05_Bad_ann (rI .i64) (args := [(sval s)]) (by kernel_rfl) h

/- changeover/runes.Whole -/
def runes_Whole (s : List UInt8) (K : Bool → World → Prop) (w : World) : Prop :=
  callV Pr (Value.int .i64) 102 #[(sval s)] w fun t1 w2 =>
  K (decide (t1 < 0)) w2
def runes_Whole_ann : Ann := (.s .d (.s (.r [(1, .call (rI .i64))]) .d))
theorem runes_Whole_calls {s : List UInt8} {K : Bool → World → Prop} {w : World} (h : runes_Whole s K w) : callV Pr Value.bool 84 #[(sval s)] w K :=
  calls_of Pr_plain Pr_mixed Pr_func84 runes_Whole_ann rB (args := [(sval s)]) (by kernel_rfl) h

/- changeover/runes.Plain -/
def runes_Plain (r : Int) (K : Bool → World → Prop) (w : World) : Prop :=
  join1 (fun (j1 : Bool → World → Prop) =>
  ifB (decide (r ≥ 97))
  (ifB (decide (r ≤ 122))
  (j1 (decide (r ≤ 122)) w)
  (ifB (decide (r ≥ 65))
  (ifB (decide (r ≤ 90))
  (j1 (decide (r ≤ 90)) w)
  (ifB (decide (r ≥ 48))
  (j1 (decide (r ≤ 57)) w)
  (j1 false w)))
  (ifB (decide (r ≥ 48))
  (j1 (decide (r ≤ 57)) w)
  (j1 false w))))
  (ifB (decide (r ≥ 65))
  (ifB (decide (r ≤ 90))
  (j1 (decide (r ≤ 90)) w)
  (ifB (decide (r ≥ 48))
  (j1 (decide (r ≤ 57)) w)
  (j1 false w)))
  (ifB (decide (r ≥ 48))
  (j1 (decide (r ≤ 57)) w)
  (j1 false w))))
  (fun t2 w3 =>
  ifB t2
  (K true w3)
  (ifB (r == 45)
  (ifB (r == 45)
  (K true w3)
  (ifB (decide (r ≥ 161))
  (K (r != 65533) w3)
  (K false w3)))
  (ifB (r == 95)
  (ifB (r == 95)
  (K true w3)
  (ifB (decide (r ≥ 161))
  (K (r != 65533) w3)
  (K false w3)))
  (ifB (r == 46)
  (ifB (r == 46)
  (K true w3)
  (ifB (decide (r ≥ 161))
  (K (r != 65533) w3)
  (K false w3)))
  (ifB (r == 58)
  (K true w3)
  (ifB (decide (r ≥ 161))
  (K (r != 65533) w3)
  (K false w3)))))))
def runes_Plain_ann : Ann := (.s .d (.s (.b (.sj [(.s 3, rB)] (.s .d (.c .d (.s .d (.c .d .d)))) (.c (.s .d .d) (.s (.s .d (.c .d (.s .d (.c .d (.s .d (.c .d .d)))))) (.c (.s .d .d) .d))))) (.s .d .d)))
theorem runes_Plain_calls {r : Int} {K : Bool → World → Prop} {w : World} (h : runes_Plain r K w) : callV Pr Value.bool 86 #[(.int .i32 r)] w K :=
  calls_of Pr_plain Pr_mixed Pr_func86 runes_Plain_ann rB (args := [(.int .i32 r)]) (by kernel_rfl) h

/- changeover/runes.Val$1 -/
def runes_Val_1 (r : Int) (K : Bool → World → Prop) (w : World) : Prop :=
  ifB (decide (r ≥ 32))
  (K (r != 127) w)
  (K false w)
def runes_Val_1_ann : Ann := (.s .d (.s .d .d))
theorem runes_Val_1_calls {r : Int} {K : Bool → World → Prop} {w : World} (h : runes_Val_1 r K w) : callV Pr Value.bool 87 #[(.int .i32 r)] w K :=
  calls_of Pr_plain Pr_mixed Pr_func87 runes_Val_1_ann rB (args := [(.int .i32 r)]) (by kernel_rfl) h

/- changeover/kvone.place$1 -/
def kvone_place_1 (p : ApiPair) (k : List UInt8) (K : Int → World → Prop) (w : World) : Prop :=
  newV (fun b1 w2 =>
  callV Pr (Value.int .i64) 90 #[(sval p.Key), (sval k)] w2 fun t3 w4 =>
  kp b1 w2 w4 <|
  K t3 w4) w
def kvone_place_1_ann : Ann := (.s (.r [(0, .nl 2)]) (.s (.r [(3, .call (rI .i64))]) .d))
theorem kvone_place_1_calls {p : ApiPair} {k : List UInt8} {K : Int → World → Prop} {w : World} (h : kvone_place_1 p k K w) : callV Pr (Value.int .i64) 89 #[(.agg ⟨p.cs⟩), (sval k)] w K :=
  calls_of Pr_plain Pr_mixed Pr_func89 kvone_place_1_ann (rI .i64) (args := [(.agg ⟨p.cs⟩), (sval k)]) (by kernel_rfl) h

/- strings.Compare -/
def strings_Compare (a : List UInt8) (b : List UInt8) (K : Int → World → Prop) (w : World) : Prop :=
  callV Pr (Value.int .i64) 103 #[(sval a), (sval b)] w fun t1 w2 =>
  K t1 w2
def strings_Compare_ann : Ann := (.s .d (.s (.r [(2, .call (rI .i64))]) .d))
theorem strings_Compare_calls {a : List UInt8} {b : List UInt8} {K : Int → World → Prop} {w : World} (h : strings_Compare a b K w) : callV Pr (Value.int .i64) 90 #[(sval a), (sval b)] w K :=
  calls_of Pr_plain Pr_mixed Pr_func90 strings_Compare_ann (rI .i64) (args := [(sval a), (sval b)]) (by kernel_rfl) h

/- changeover/kvtwo.cas -/
def kvtwo_cas (l : Sl) (c : ApiCmd) (K : (Sl × ApiAnswer) → World → Prop) (w : World) : Prop :=
  newV (fun b1 w2 =>
  newV (fun b3 w4 =>
  newV (fun b5 w6 =>
  wrM b5 (fun w7 =>
  callV Pr (tval2 ApiPair.val Value.bool) 40 #[l.val, (sval c.Key)] w7 fun t8 w9 =>
  kp b5 w7 w9 <|
  kp b3 w7 w9 <|
  kp b1 w7 w9 <|
  newV (fun b10 w11 =>
  wrM b10 (fun w12 =>
  ifB (!t8.2)
  (wrM b5 (fun w13 =>
  heldM (fun S15 w14 =>
  wrM b3 (fun w16 =>
  (S15 w16) ∧
  (K (l, (ApiAnswer.mk c.Client c.Seq 10 false [] 0)) w16)) w14) w13) w12)
  (heldM (fun S18 w17 =>
  wrM b5 (fun w19 =>
  (S18 w19) ∧
  (wrM b5 (fun w20 =>
  (S18 w20) ∧
  (wrM b5 (fun w21 =>
  (S18 w21) ∧
  (ifB (!(strEq t8.1.Val c.Old))
  (wrM b5 (fun w22 =>
  heldM (fun S24 w23 =>
  wrM b3 (fun w25 =>
  (S24 w25) ∧
  (K (l, (ApiAnswer.mk c.Client c.Seq 15 true t8.1.Val t8.1.Rev)) w25)) w23) w22) w21)
  (callV Pr (Value.int .i64) 93 #[(.int .i64 t8.1.Rev)] w21 fun t26 w27 =>
  kp b10 w21 w27 <|
  kp b5 w21 w27 <|
  kp b3 w21 w27 <|
  kp b1 w21 w27 <|
  wrM b5 (fun w28 =>
  heldM (fun S30 w29 =>
  callV Pr Sl.val 92 #[l.val, (.agg ⟨[(sval c.Key), (sval c.Val), (.int .i64 t26)]⟩)] w29 fun t31 w32 =>
  kp b10 w29 w32 <|
  kp b5 w29 w32 <|
  kp b3 w29 w32 <|
  kp b1 w29 w32 <|
  (S30 w32) ∧
  (wrM b3 (fun w33 =>
  (S30 w33) ∧
  (K (t31, (ApiAnswer.mk c.Client c.Seq 0 true t8.1.Val t26)) w33)) w32)) w28) w27))) w20)) w19)) w17) w12)) w11) w9) w6) w4) w2) w
def kvtwo_cas_ann : Ann := (.s (.r [(0, .nl 3), (2, .nl 5)]) (.s (.r [(5, .nl 6), (6, .ls 6)]) (.s (.r [(3, .call (rT2 rApiPair rB)), (7, .nl 7), (8, .ls 7)]) (.s (.s .d (.c (.s (.r [(1, .ls 6)]) (.s (.h (.take 0 (.take 1 (.take 2 (.one 3 .done)))) [(3, .ls 5)]) .d)) .d)) (.s (.h (.take 0 (.take 1 (.take 2 (.take 3 (.take 4 (.one 5 (.take 6 (.one 7 (.take 8 (.one 9 .done)))))))))) [(5, .ls 6), (7, .ls 6), (9, .ls 6)]) (.s (.s .d (.c (.s (.r [(1, .ls 6)]) (.s (.h (.take 0 (.take 1 (.take 2 (.one 3 .done)))) [(3, .ls 5)]) .d)) .d)) (.s (.r [(2, .call (rI .i64)), (4, .ls 6)]) (.s (.h (.take 0 (.take 1 (.take 2 (.take 3 (.take 4 (.take 5 (.take 6 (.take 7 (.take 9 (.one 8 (.take 10 (.one 11 .done)))))))))))) [(8, .call rSl), (11, .ls 5)]) .d))))))))
theorem kvtwo_cas_calls {l : Sl} {c : ApiCmd} {K : (Sl × ApiAnswer) → World → Prop} {w : World} (h : kvtwo_cas l c K w) : callV Pr (tval2 Sl.val ApiAnswer.val) 91 #[l.val, (.agg ⟨c.cs⟩)] w K :=
  calls_of Pr_plain Pr_mixed Pr_func91 kvtwo_cas_ann (rT2 rSl rApiAnswer) (args := [l.val, (.agg ⟨c.cs⟩)]) (by kernel_rfl) h

/- changeover/kvtwo.set -/
def kvtwo_set (l : Sl) (p : ApiPair) (K : Sl → World → Prop) (w : World) : Prop :=
  newV (fun b1 w2 =>
  callV Pr (tval2 (Value.int .i64) Value.bool) 104 #[l.val, (.agg ⟨[(sval p.Key), (sval p.Val), (.int .i64 p.Rev)]⟩), (.func (.func 105) #[] #[])] w2 fun t3 w4 =>
  kp b1 w2 w4 <|
  ifB (!t3.2)
  (opTy Pr (Instr.buildSlice 22 1 #[(0, (.agg ⟨[(sval p.Key), (sval p.Val), (.int .i64 p.Rev)]⟩))]) Sl.val (fun t5 w6 =>
  kp b1 w4 w6 <|
  callV Pr Sl.val 100 #[l.val, (.int .i64 t3.1), t5.val] w6 fun t7 w8 =>
  kp b1 w6 w8 <|
  K t7 w8) w4)
  (opRd Pr (Instr.indexAt 22 l.val (.int .i64 t3.1)) pav (fun t9 =>
  opUn Pr (Instr.storeAt 54 (.pointer (some t9)) (.agg ⟨[(sval p.Key), (sval p.Val), (.int .i64 p.Rev)]⟩)) (fun w10 =>
  kp b1 w4 w10 <|
  K l w10) w4) w4)) w
def kvtwo_set_ann : Ann := (.s (.r [(0, .nl 3)]) (.s (.r [(2, .call (rT2 (rI .i64) rB))]) (.s (.s .d (.c (.s (.r [(3, .ty rSl), (4, .call rSl)]) .d) .d)) (.s (.r [(3, .rd rPA), (4, .un)]) (.s .d .d)))))
theorem kvtwo_set_calls {l : Sl} {p : ApiPair} {K : Sl → World → Prop} {w : World} (h : kvtwo_set l p K w) : callV Pr Sl.val 92 #[l.val, (.agg ⟨p.cs⟩)] w K :=
  calls_of Pr_plain Pr_mixed Pr_func92 kvtwo_set_ann rSl (args := [l.val, (.agg ⟨p.cs⟩)]) (by kernel_rfl) h

/- changeover/kvtwo.next -/
def kvtwo_next (rev : Int) (K : Int → World → Prop) (w : World) : Prop :=
  K (i64 ((imin rev 4294967295) + 1)) w
def kvtwo_next_ann : Ann := (.s .d (.s .d .d))
theorem kvtwo_next_calls {rev : Int} {K : Int → World → Prop} {w : World} (h : kvtwo_next rev K w) : callV Pr (Value.int .i64) 93 #[(.int .i64 rev)] w K :=
  calls_of Pr_plain Pr_mixed Pr_func93 kvtwo_next_ann (rI .i64) (args := [(.int .i64 rev)]) (by kernel_rfl) h

/- internal/strconv.FormatInt -/
def internal_strconv_FormatInt (i : Int) (base : Int) (K : (List UInt8) → World → Prop) (w : World) : Prop :=
  ifB (base == 10)
  (join0 (fun (j1 : World → Prop) =>
  ifB (decide ((0 : Int) ≤ i))
  (ifB (decide (i < 100))
  (callV Pr sval 106 #[(.int .i64 i)] w fun t2 w3 =>
  K t2 w3)
  (j1 w))
  (j1 w))
  (fun w4 =>
  opTy Pr (Instr.alloc 115 true (.tuple #[])) pav (fun a5 w6 =>
  join1 (fun (j7 : Int → World → Prop) =>
  ifB (decide (i < 0))
  (j7 (IntKind.u64.wrap (0 - (IntKind.u64.wrap i))) w6)
  (j7 (IntKind.u64.wrap i) w6))
  (fun u8 w9 =>
  callV Pr (Value.int .i64) 107 #[(.int .u64 u8)] w9 fun nd10 w11 =>
  opRd Pr (Instr.sliceAt 115 (.pointer (some a5)) (some (.int .i64 1)) (some (.int .i64 (i64 (1 + nd10)))) none) Sl.val (fun t12 =>
  callV Pr uval 108 #[t12.val, (.int .u64 u8)] w11 fun t13 w14 =>
  ifB (decide (i < 0))
  (opRd Pr (Instr.indexAt 115 (.pointer (some a5)) (.int .i64 0)) pav (fun t15 =>
  opUn Pr (Instr.storeAt 5 (.pointer (some t15)) (.int .u8 45)) (fun w16 =>
  opRd Pr (Instr.sliceAt 115 (.pointer (some a5)) none (some (.int .i64 (i64 (1 + nd10)))) none) Sl.val (fun t17 =>
  opRd Pr (convert 119 9 t17.val) sval (fun t18 =>
  K t18 w16) w16) w16) w14) w14)
  (opRd Pr (Instr.sliceAt 115 (.pointer (some a5)) (some (.int .i64 1)) (some (.int .i64 (i64 (1 + nd10)))) none) Sl.val (fun t19 =>
  opRd Pr (convert 119 9 t19.val) sval (fun t20 =>
  K t20 w14) w14) w14)) w11)) w4))
  (callV Pr (tval2 Sl.val sval) 109 #[Sl.nil.val, (.int .u64 (IntKind.u64.wrap i)), (.int .i64 base), (.bool (decide (i < 0))), (.bool false)] w fun t21 w22 =>
  K t21.2 w22)
def internal_strconv_FormatInt_ann : Ann := (.s .d (.s (.s .d (.c (.sj [] (.s .d (.c (.s (.r [(1, .call rS)]) .d) .d)) (.s (.r [(0, .ty rPA)]) (.s .d (.sj [(.s 6, (rI .u64))] (.s .d (.c .d .d)) (.s (.r [(1, .call (rI .i64))]) (.s (.r [(2, .rd rSl), (4, .call rU)]) (.s (.s .d (.c (.s (.r [(0, .rd rPA), (1, .un)]) (.s (.r [(2, .rd rSl), (3, .rd rS)]) .d)) .d)) (.s (.r [(2, .rd rSl), (3, .rd rS)]) .d)))))))) .d)) (.s (.r [(5, .call (rT2 rSl rS))]) (.s .d .d))))
theorem internal_strconv_FormatInt_calls {i : Int} {base : Int} {K : (List UInt8) → World → Prop} {w : World} (h : internal_strconv_FormatInt i base K w) : callV Pr sval 95 #[(.int .i64 i), (.int .i64 base)] w K :=
  calls_of Pr_plain Pr_mixed Pr_func95 internal_strconv_FormatInt_ann rS (args := [(.int .i64 i), (.int .i64 base)]) (by kernel_rfl) h

/- changeover/sess.place$1 -/
def sess_place_1 (s : ApiSession) (n : Int) (K : Int → World → Prop) (w : World) : Prop :=
  newV (fun b1 w2 =>
  callV Pr (Value.int .i64) 52 #[(.int .i64 s.Client), (.int .i64 n)] w2 fun t3 w4 =>
  kp b1 w2 w4 <|
  K t3 w4) w
def sess_place_1_ann : Ann := (.s (.r [(0, .nl 2)]) (.s (.r [(3, .call (rI .i64))]) .d))
theorem sess_place_1_calls {s : ApiSession} {n : Int} {K : Int → World → Prop} {w : World} (h : sess_place_1 s n K w) : callV Pr (Value.int .i64) 97 #[(.agg ⟨s.cs⟩), (.int .i64 n)] w K :=
  calls_of Pr_plain Pr_mixed Pr_func97 sess_place_1_ann (rI .i64) (args := [(.agg ⟨s.cs⟩), (.int .i64 n)]) (by kernel_rfl) h

/- slices.rotateRight[changeover/api.Session] -/
def slices_rotateRight_api_Session (s : Sl) (r : Int) (K : Unit → World → Prop) (w : World) : Prop :=
  callV Pr uval 110 #[s.val, (.int .i64 (i64 ((s.len : Int) - r)))] w fun t1 w2 =>
  K () w2
def slices_rotateRight_api_Session_ann : Ann := (.r [(5, .call rU)])
theorem slices_rotateRight_api_Session_calls {s : Sl} {r : Int} {K : Unit → World → Prop} {w : World} (h : slices_rotateRight_api_Session s r K w) : callV Pr uval 99 #[s.val, (.int .i64 r)] w K :=
  calls_of Pr_plain Pr_mixed Pr_func99 slices_rotateRight_api_Session_ann rU (args := [s.val, (.int .i64 r)]) (by kernel_rfl) h

/- slices.Insert[[]changeover/api.Pair,changeover/api.Pair] -/
def slices_Insert_api_Pair_api_Pair (s : Sl) (i : Int) (v : Sl) (K : Sl → World → Prop) (w : World) : Prop :=
  opRd Pr (Instr.sliceAt 22 s.val (some (.int .i64 i)) none none) Sl.val (fun t1 =>
  ifB ((v.len : Int) == 0)
  (K s w)
  (ifB (i == (s.len : Int))
  (opTy Pr (Builtin.append_ #[22, 22] 22 #[s.val, v.val]) Sl.val (fun t2 w3 =>
  K t2 w3) w)
  (ifB (decide ((i64 ((s.len : Int) + (v.len : Int))) > (s.cap : Int)))
  (opRd Pr (Instr.sliceAt 22 s.val none (some (.int .i64 i)) none) Sl.val (fun t4 =>
  opTy Pr (Builtin.append_ #[22, 3] 22 #[t4.val, (.int .i64 (i64 ((i64 ((s.len : Int) + (v.len : Int))) - i)))]) Sl.val (fun s25 w6 =>
  opRd Pr (Instr.sliceAt 22 s25.val (some (.int .i64 i)) none none) Sl.val (fun t7 =>
  opTy Pr (Builtin.copy_ #[22, 22] 3 #[t7.val, v.val]) (Value.int .i64) (fun t8 w9 =>
  heldM (fun S11 w10 =>
  opH Pr S11 (Instr.sliceAt 22 s25.val (some (.int .i64 (i64 (i + (v.len : Int))))) none none) Sl.val (fun t12 =>
  opH Pr S11 (Instr.sliceAt 22 s.val (some (.int .i64 i)) none none) Sl.val (fun t13 =>
  opTy Pr (Builtin.copy_ #[22, 22] 3 #[t12.val, t13.val]) (Value.int .i64) (fun t14 w15 =>
  (S11 w15) ∧
  (K s25 w15)) w10))) w9) w6) w6) w) w)
  (opRd Pr (Instr.sliceAt 22 s.val none (some (.int .i64 (i64 ((s.len : Int) + (v.len : Int))))) none) Sl.val (fun s16 =>
  opRd Pr (Instr.sliceAt 22 s16.val (some (.int .i64 (i64 (i + (v.len : Int))))) none none) Sl.val (fun t17 =>
  opEx Pr 111 #[v.val, t17.val] Value.bool (fun t18 w19 =>
  ifB (!t18)
  (heldM (fun S21 w20 =>
  opH Pr S21 (Instr.sliceAt 22 s16.val (some (.int .i64 (i64 (i + (v.len : Int))))) none none) Sl.val (fun t22 =>
  opH Pr S21 (Instr.sliceAt 22 s16.val (some (.int .i64 i)) none none) Sl.val (fun t23 =>
  opTy Pr (Builtin.copy_ #[22, 22] 3 #[t22.val, t23.val]) (Value.int .i64) (fun t24 w25 =>
  (S21 w25) ∧
  (opRd Pr (Instr.sliceAt 22 s16.val (some (.int .i64 i)) none none) Sl.val (fun t26 =>
  opTy Pr (Builtin.copy_ #[22, 22] 3 #[t26.val, v.val]) (Value.int .i64) (fun t27 w28 =>
  K s16 w28) w25) w25)) w20))) w19)
  (opRd Pr (Instr.sliceAt 22 s16.val (some (.int .i64 (s.len : Int))) none none) Sl.val (fun t29 =>
  opTy Pr (Builtin.copy_ #[22, 22] 3 #[t29.val, v.val]) (Value.int .i64) (fun t30 w31 =>
  opRd Pr (Instr.sliceAt 22 s16.val (some (.int .i64 i)) none none) Sl.val (fun t32 =>
  callV Pr uval 112 #[t32.val, (.int .i64 (v.len : Int))] w31 fun t33 w34 =>
  K s16 w34) w31) w19) w19)) w) w) w)))) w
def slices_Insert_api_Pair_api_Pair_ann : Ann := (.s .d (.s (.r [(2, .rd rSl)]) (.s .d (.s (.s .d (.c (.s .d .d) .d)) (.s .d (.s (.s .d (.c (.s (.r [(2, .ty rSl)]) .d) .d)) (.s (.s .d (.c (.s (.r [(2, .rd rSl), (8, .ty rSl)]) (.s (.r [(2, .rd rSl), (4, .ty (rI .i64))]) (.s (.h (.take 0 (.take 1 (.take 2 (.take 3 (.take 4 (.take 5 (.take 6 (.take 7 (.one 8 .done))))))))) [(4, .rd rSl), (7, .rd rSl), (8, .ty (rI .i64))]) (.s .d .d)))) .d)) (.s (.r [(4, .rd rSl)]) (.s (.s (.r [(5, .rd rSl), (6, .ext rB)]) (.c (.s (.h (.take 0 (.take 1 (.take 2 (.take 3 (.take 4 (.take 5 (.take 6 (.take 7 (.one 8 .done))))))))) [(4, .rd rSl), (7, .rd rSl), (8, .ty (rI .i64))]) (.s (.r [(2, .rd rSl), (4, .ty (rI .i64))]) (.s .d .d))) .d)) (.s (.r [(2, .rd rSl), (4, .ty (rI .i64))]) (.s (.r [(2, .rd rSl), (4, .call rU)]) (.s .d .d))))))))))))
theorem slices_Insert_api_Pair_api_Pair_calls {s : Sl} {i : Int} {v : Sl} {K : Sl → World → Prop} {w : World} (h : slices_Insert_api_Pair_api_Pair s i v K w) : callV Pr Sl.val 100 #[s.val, (.int .i64 i), v.val] w K :=
  calls_of Pr_plain Pr_mixed Pr_func100 slices_Insert_api_Pair_api_Pair_ann rSl (args := [s.val, (.int .i64 i), v.val]) (by kernel_rfl) h

/- slices.Delete[[]changeover/api.Pair,changeover/api.Pair] -/
def slices_Delete_api_Pair_api_Pair (s : Sl) (i : Int) (j : Int) (K : Sl → World → Prop) (w : World) : Prop :=
  opRd Pr (Instr.sliceAt 22 s.val (some (.int .i64 i)) (some (.int .i64 j)) (some (.int .i64 (s.len : Int)))) Sl.val (fun t1 =>
  ifB (i == j)
  (K s w)
  (heldM (fun S3 w2 =>
  opH Pr S3 (Instr.sliceAt 22 s.val none (some (.int .i64 i)) none) Sl.val (fun t4 =>
  opH Pr S3 (Instr.sliceAt 22 s.val (some (.int .i64 j)) none none) Sl.val (fun t5 =>
  opTy Pr (Builtin.append_ #[22, 22] 22 #[t4.val, t5.val]) Sl.val (fun s6 w7 =>
  (S3 w7) ∧
  (opRd Pr (Instr.sliceAt 22 s6.val (some (.int .i64 (s6.len : Int))) (some (.int .i64 (s.len : Int))) none) Sl.val (fun t8 =>
  opTy Pr (Builtin.clear_ #[22] 0 #[t8.val]) uval (fun u9 w10 =>
  K s6 w10) w7) w7)) w2))) w)) w
def slices_Delete_api_Pair_api_Pair_ann : Ann := (.s .d (.s (.r [(5, .rd rSl)]) (.s (.s .d (.c (.s .d .d) .d)) (.s .d (.s (.h (.take 0 (.take 1 (.take 2 (.take 3 (.take 4 (.take 5 (.one 6 (.take 7 .done)))))))) [(2, .rd rSl), (5, .rd rSl), (6, .ty rSl)]) (.s (.r [(4, .rd rSl), (5, .ty rU)]) (.s .d .d)))))))
theorem slices_Delete_api_Pair_api_Pair_calls {s : Sl} {i : Int} {j : Int} {K : Sl → World → Prop} {w : World} (h : slices_Delete_api_Pair_api_Pair s i j K w) : callV Pr Sl.val 101 #[s.val, (.int .i64 i), (.int .i64 j)] w K :=
  calls_of Pr_plain Pr_mixed Pr_func101 slices_Delete_api_Pair_api_Pair_ann rSl (args := [s.val, (.int .i64 i), (.int .i64 j)]) (by kernel_rfl) h

/- changeover/runes.Bad -/
def runes_Bad (s : List UInt8) (K : Int → World → Prop) (w : World) : Prop :=
  opTy Pr (Instr.range 9 (sval s)) pav (fun t1 w2 =>
  loop0 (fun k3 w4 =>
  opAl Pr (Instr.next (.pointer (some t1)) true 0) (nxval (Value.int .i64) (Value.int .i32)) endval (fun t5 w6 =>
  ifB (t5.2 != 65533)
  (k3 w6)
  (opRd Pr (Instr.sliceAt 9 (sval s) (some (.int .i64 t5.1)) none none) sval (fun t7 =>
  callV Pr (tval2 (Value.int .i32) (Value.int .i64)) 113 #[(sval t7)] w6 fun t8 w9 =>
  ifB (t8.2 == 1)
  (K t5.1 w9)
  (k3 w9)) w6)) (fun _ w10 =>
  K (-1) w10) w4) w2) w
def runes_Bad_ann : Ann := (.s .d (.s (.s (.r [(1, .ty rPA)]) (.b (.l [] (.s (.r [(0, .alt (rNx (rI .i64) (rI .i32)) rEnd)]) (.s (.c .d .d) (.b (.s .d (.s (.s .d (.c .d .d)) (.s (.r [(2, .rd rS), (3, .call (rT2 (rI .i32) (rI .i64)))]) (.s .d (.c (.s .d .d) .d))))))))))) (.s .d .d)))
theorem runes_Bad_calls {s : List UInt8} {K : Int → World → Prop} {w : World} (h : runes_Bad s K w) : callV Pr (Value.int .i64) 102 #[(sval s)] w K :=
  calls_of Pr_plain Pr_mixed Pr_func102 runes_Bad_ann (rI .i64) (args := [(sval s)]) (by kernel_rfl) h

/- internal/bytealg.CompareString -/
def internal_bytealg_CompareString (a : List UInt8) (b : List UInt8) (K : Int → World → Prop) (w : World) : Prop :=
  opEx Pr 114 #[(sval a), (sval b)] (Value.int .i64) (fun t1 w2 =>
  K t1 w2) w
def internal_bytealg_CompareString_ann : Ann := (.s .d (.s (.r [(2, .ext (rI .i64))]) .d))
theorem internal_bytealg_CompareString_calls {a : List UInt8} {b : List UInt8} {K : Int → World → Prop} {w : World} (h : internal_bytealg_CompareString a b K w) : callV Pr (Value.int .i64) 103 #[(sval a), (sval b)] w K :=
  calls_of Pr_plain Pr_mixed Pr_func103 internal_bytealg_CompareString_ann (rI .i64) (args := [(sval a), (sval b)]) (by kernel_rfl) h

/- changeover/kvtwo.set$1 -/
def kvtwo_set_1 (a : ApiPair) (b : ApiPair) (K : Int → World → Prop) (w : World) : Prop :=
  newV (fun b1 w2 =>
  newV (fun b3 w4 =>
  ifB (strLt a.Key b.Key)
  (K (-1) w4)
  (ifB (!((strLt a.Key b.Key) || (strEq a.Key b.Key)))
  (K 1 w4)
  (K 0 w4))) w2) w
def kvtwo_set_1_ann : Ann := (.s (.r [(0, .nl 2), (1, .nl 3)]) (.s (.b (.s .d (.c (.s .d .d) (.s .d (.c (.s .d .d) .d))))) (.s .d .d)))
theorem kvtwo_set_1_calls {a : ApiPair} {b : ApiPair} {K : Int → World → Prop} {w : World} (h : kvtwo_set_1 a b K w) : callV Pr (Value.int .i64) 105 #[(.agg ⟨a.cs⟩), (.agg ⟨b.cs⟩)] w K :=
  calls_of Pr_plain Pr_mixed Pr_func105 kvtwo_set_1_ann (rI .i64) (args := [(.agg ⟨a.cs⟩), (.agg ⟨b.cs⟩)]) (by kernel_rfl) h

/- internal/strconv.small -/
def internal_strconv_small (i : Int) (K : (List UInt8) → World → Prop) (w : World) : Prop :=
  ifB (decide (i < 10))
  (opRd Pr (Instr.sliceAt 9 (sval cs36_19037) (some (.int .i64 i)) (some (.int .i64 (i64 (i + 1)))) none) sval (fun t1 =>
  K t1 w) w)
  (opRd Pr (Instr.sliceAt 9 (sval cs200_63933) (some (.int .i64 (i64 (i * 2)))) (some (.int .i64 (i64 ((i64 (i * 2)) + 2)))) none) sval (fun t2 =>
  K t2 w) w)
def internal_strconv_small_ann : Ann := (.s .d (.s (.s .d (.c (.s (.r [(3, .rd rS)]) .d) .d)) (.s (.r [(5, .rd rS)]) .d)))
theorem internal_strconv_small_calls {i : Int} {K : (List UInt8) → World → Prop} {w : World} (h : internal_strconv_small i K w) : callV Pr sval 106 #[(.int .i64 i)] w K :=
  calls_of Pr_plain Pr_mixed Pr_func106 internal_strconv_small_ann rS (args := [(.int .i64 i)]) (by kernel_rfl) h

/- internal/strconv.numDigits -/
def internal_strconv_numDigits (d : Int) (K : Int → World → Prop) (w : World) : Prop :=
  callV Pr (Value.int .i64) 116 #[(.int .u64 d)] w fun t1 w2 =>
  callV Pr (Value.int .i64) 115 #[(.int .i64 t1)] w2 fun nd3 w4 =>
  opRd Pr (Instr.indexAt 126 (.pointer (some g_internal_strconv_uint64pow10)) (.int .i64 nd3)) pav (fun t5 =>
  opRd Pr (Instr.loadAt 116 (.pointer (some t5))) (Value.int .u64) (fun t6 =>
  callV Pr (Value.int .i64) 117 #[(.bool (decide (d ≥ t6)))] w4 fun t7 w8 =>
  K (i64 (nd3 + t7)) w8) w4) w4
def internal_strconv_numDigits_ann : Ann := (.s .d (.s (.r [(1, .call (rI .i64)), (2, .call (rI .i64))]) (.s (.r [(3, .rd rPA), (4, .rd (rI .u64)), (6, .call (rI .i64))]) .d)))
theorem internal_strconv_numDigits_calls {d : Int} {K : Int → World → Prop} {w : World} (h : internal_strconv_numDigits d K w) : callV Pr (Value.int .i64) 107 #[(.int .u64 d)] w K :=
  calls_of Pr_plain Pr_mixed Pr_func107 internal_strconv_numDigits_ann (rI .i64) (args := [(.int .u64 d)]) (by kernel_rfl) h

/- internal/strconv.formatBase10 -/
def internal_strconv_formatBase10 (a : Sl) (u : Int) (K : Unit → World → Prop) (w : World) : Prop :=
  loop2 (u : Int) ((a.len : Int) : Int) (fun u1 nd2 k3 w4 =>
  ifB (decide (nd2 ≥ 8))
  (heldM (fun S6 w5 =>
  opH Pr S6 (Instr.index 9 (sval cs200_63933) (.int .u32 (IntKind.u32.wrap ((IntKind.u32.wrap ((Int.tmod (Int.tmod (IntKind.u32.wrap (Int.tmod u1 100000000)) 10000) 100) * 2)) + 1)))) (Value.int .u8) (fun t7 =>
  opH Pr S6 (Instr.index 9 (sval cs200_63933) (.int .u32 (IntKind.u32.wrap ((Int.tmod (Int.tmod (IntKind.u32.wrap (Int.tmod u1 100000000)) 10000) 100) * 2)))) (Value.int .u8) (fun t8 =>
  opH Pr S6 (Instr.indexAt 119 a.val (.int .i64 (i64 (nd2 - 1)))) pav (fun t9 =>
  opUn Pr (Instr.storeAt 5 (.pointer (some t9)) (.int .u8 t7)) (fun w10 =>
  (S6 w10) ∧
  (opH Pr S6 (Instr.indexAt 119 a.val (.int .i64 (i64 (nd2 - 2)))) pav (fun t11 =>
  opUn Pr (Instr.storeAt 5 (.pointer (some t11)) (.int .u8 t8)) (fun w12 =>
  (S6 w12) ∧
  (heldM (fun S14 w13 =>
  opH Pr S14 (Instr.index 9 (sval cs200_63933) (.int .u32 (IntKind.u32.wrap ((IntKind.u32.wrap ((IntKind.u32.wrap (Int.tdiv (Int.tmod (IntKind.u32.wrap (Int.tmod u1 100000000)) 10000) 100)) * 2)) + 1)))) (Value.int .u8) (fun t15 =>
  opH Pr S14 (Instr.index 9 (sval cs200_63933) (.int .u32 (IntKind.u32.wrap ((IntKind.u32.wrap (Int.tdiv (Int.tmod (IntKind.u32.wrap (Int.tmod u1 100000000)) 10000) 100)) * 2)))) (Value.int .u8) (fun t16 =>
  opH Pr S14 (Instr.indexAt 119 a.val (.int .i64 (i64 (nd2 - 3)))) pav (fun t17 =>
  opUn Pr (Instr.storeAt 5 (.pointer (some t17)) (.int .u8 t15)) (fun w18 =>
  (S14 w18) ∧
  (opH Pr S14 (Instr.indexAt 119 a.val (.int .i64 (i64 (nd2 - 4)))) pav (fun t19 =>
  opUn Pr (Instr.storeAt 5 (.pointer (some t19)) (.int .u8 t16)) (fun w20 =>
  (S14 w20) ∧
  (heldM (fun S22 w21 =>
  opH Pr S22 (Instr.index 9 (sval cs200_63933) (.int .u32 (IntKind.u32.wrap ((IntKind.u32.wrap ((Int.tmod (IntKind.u32.wrap (Int.tdiv (IntKind.u32.wrap (Int.tmod u1 100000000)) 10000)) 100) * 2)) + 1)))) (Value.int .u8) (fun t23 =>
  opH Pr S22 (Instr.index 9 (sval cs200_63933) (.int .u32 (IntKind.u32.wrap ((Int.tmod (IntKind.u32.wrap (Int.tdiv (IntKind.u32.wrap (Int.tmod u1 100000000)) 10000)) 100) * 2)))) (Value.int .u8) (fun t24 =>
  opH Pr S22 (Instr.indexAt 119 a.val (.int .i64 (i64 (nd2 - 5)))) pav (fun t25 =>
  opUn Pr (Instr.storeAt 5 (.pointer (some t25)) (.int .u8 t23)) (fun w26 =>
  (S22 w26) ∧
  (opH Pr S22 (Instr.indexAt 119 a.val (.int .i64 (i64 (nd2 - 6)))) pav (fun t27 =>
  opUn Pr (Instr.storeAt 5 (.pointer (some t27)) (.int .u8 t24)) (fun w28 =>
  (S22 w28) ∧
  (heldM (fun S30 w29 =>
  opH Pr S30 (Instr.index 9 (sval cs200_63933) (.int .u32 (IntKind.u32.wrap ((IntKind.u32.wrap ((IntKind.u32.wrap (Int.tdiv (IntKind.u32.wrap (Int.tdiv (IntKind.u32.wrap (Int.tmod u1 100000000)) 10000)) 100)) * 2)) + 1)))) (Value.int .u8) (fun t31 =>
  opH Pr S30 (Instr.index 9 (sval cs200_63933) (.int .u32 (IntKind.u32.wrap ((IntKind.u32.wrap (Int.tdiv (IntKind.u32.wrap (Int.tdiv (IntKind.u32.wrap (Int.tmod u1 100000000)) 10000)) 100)) * 2)))) (Value.int .u8) (fun t32 =>
  opH Pr S30 (Instr.indexAt 119 a.val (.int .i64 (i64 (nd2 - 7)))) pav (fun t33 =>
  opUn Pr (Instr.storeAt 5 (.pointer (some t33)) (.int .u8 t31)) (fun w34 =>
  (S30 w34) ∧
  (opH Pr S30 (Instr.indexAt 119 a.val (.int .i64 (i64 (nd2 - 8)))) pav (fun t35 =>
  opUn Pr (Instr.storeAt 5 (.pointer (some t35)) (.int .u8 t32)) (fun w36 =>
  (S30 w36) ∧
  (k3 (IntKind.u64.wrap (Int.tdiv u1 100000000)) (i64 (nd2 - 8)) w36)) w34))) w29)))) w28)) w26))) w21)))) w20)) w18))) w13)))) w12)) w10))) w5)))) w4)
  (join2 (fun (j37 : Int → Int → World → Prop) =>
  ifB (decide (nd2 ≥ 4))
  (heldM (fun S39 w38 =>
  opH Pr S39 (Instr.index 9 (sval cs200_63933) (.int .u32 (IntKind.u32.wrap ((IntKind.u32.wrap ((Int.tmod (Int.tmod (IntKind.u32.wrap u1) 10000) 100) * 2)) + 1)))) (Value.int .u8) (fun t40 =>
  opH Pr S39 (Instr.index 9 (sval cs200_63933) (.int .u32 (IntKind.u32.wrap ((Int.tmod (Int.tmod (IntKind.u32.wrap u1) 10000) 100) * 2)))) (Value.int .u8) (fun t41 =>
  opH Pr S39 (Instr.indexAt 119 a.val (.int .i64 (i64 (nd2 - 1)))) pav (fun t42 =>
  opUn Pr (Instr.storeAt 5 (.pointer (some t42)) (.int .u8 t40)) (fun w43 =>
  (S39 w43) ∧
  (opH Pr S39 (Instr.indexAt 119 a.val (.int .i64 (i64 (nd2 - 2)))) pav (fun t44 =>
  opUn Pr (Instr.storeAt 5 (.pointer (some t44)) (.int .u8 t41)) (fun w45 =>
  (S39 w45) ∧
  (heldM (fun S47 w46 =>
  opH Pr S47 (Instr.index 9 (sval cs200_63933) (.int .u32 (IntKind.u32.wrap ((IntKind.u32.wrap ((IntKind.u32.wrap (Int.tdiv (Int.tmod (IntKind.u32.wrap u1) 10000) 100)) * 2)) + 1)))) (Value.int .u8) (fun t48 =>
  opH Pr S47 (Instr.index 9 (sval cs200_63933) (.int .u32 (IntKind.u32.wrap ((IntKind.u32.wrap (Int.tdiv (Int.tmod (IntKind.u32.wrap u1) 10000) 100)) * 2)))) (Value.int .u8) (fun t49 =>
  opH Pr S47 (Instr.indexAt 119 a.val (.int .i64 (i64 (nd2 - 3)))) pav (fun t50 =>
  opUn Pr (Instr.storeAt 5 (.pointer (some t50)) (.int .u8 t48)) (fun w51 =>
  (S47 w51) ∧
  (opH Pr S47 (Instr.indexAt 119 a.val (.int .i64 (i64 (nd2 - 4)))) pav (fun t52 =>
  opUn Pr (Instr.storeAt 5 (.pointer (some t52)) (.int .u8 t49)) (fun w53 =>
  (S47 w53) ∧
  (j37 (i64 (nd2 - 4)) (IntKind.u32.wrap (Int.tdiv (IntKind.u32.wrap u1) 10000)) w53)) w51))) w46)))) w45)) w43))) w38)))) w4)
  (j37 nd2 (IntKind.u32.wrap u1) w4))
  (fun nd54 x55 w56 =>
  ifB (decide (nd54 ≥ 2))
  (heldM (fun S58 w57 =>
  opH Pr S58 (Instr.index 9 (sval cs200_63933) (.int .u32 (IntKind.u32.wrap ((IntKind.u32.wrap ((Int.tmod x55 100) * 2)) + 1)))) (Value.int .u8) (fun t59 =>
  opH Pr S58 (Instr.index 9 (sval cs200_63933) (.int .u32 (IntKind.u32.wrap ((Int.tmod x55 100) * 2)))) (Value.int .u8) (fun t60 =>
  opH Pr S58 (Instr.indexAt 119 a.val (.int .i64 (i64 (nd54 - 1)))) pav (fun t61 =>
  opUn Pr (Instr.storeAt 5 (.pointer (some t61)) (.int .u8 t59)) (fun w62 =>
  (S58 w62) ∧
  (opH Pr S58 (Instr.indexAt 119 a.val (.int .i64 (i64 (nd54 - 2)))) pav (fun t63 =>
  opUn Pr (Instr.storeAt 5 (.pointer (some t63)) (.int .u8 t60)) (fun w64 =>
  (S58 w64) ∧
  (ifB (decide ((i64 (nd54 - 2)) > 0))
  (opRd Pr (Instr.indexAt 119 a.val (.int .i64 0)) pav (fun t65 =>
  opUn Pr (Instr.storeAt 5 (.pointer (some t65)) (.int .u8 (IntKind.u8.wrap (IntKind.u32.wrap (48 + (IntKind.u32.wrap (Int.tdiv x55 100))))))) (fun w66 =>
  K () w66) w64) w64)
  (K () w64))) w62))) w57)))) w56)
  (ifB (decide (nd54 > 0))
  (opRd Pr (Instr.indexAt 119 a.val (.int .i64 0)) pav (fun t67 =>
  opUn Pr (Instr.storeAt 5 (.pointer (some t67)) (.int .u8 (IntKind.u8.wrap (IntKind.u32.wrap (48 + x55))))) (fun w68 =>
  K () w68) w56) w56)
  (K () w56))))) w
def internal_strconv_formatBase10_ann : Ann := (.s .d (.s (.b (.l [(.s 1, (rI .u64)), (.s 4, (rI .i64))] (.s (.s .d (.c .d .d)) (.b (.s .d (.s .d (.s .d (.s .d (.s .d (.s (.h (.take 0 (.take 1 (.take 2 (.take 3 (.take 4 (.take 5 (.take 6 (.take 7 (.take 8 (.take 9 (.take 10 (.take 11 (.one 12 (.take 13 (.one 14 .done))))))))))))))) [(8, .rd (rI .u8)), (10, .rd (rI .u8)), (11, .rd rPA), (12, .un), (13, .rd rPA), (14, .un)]) (.s (.h (.take 0 (.take 1 (.take 2 (.take 3 (.take 4 (.take 5 (.take 6 (.take 7 (.take 8 (.take 9 (.take 10 (.take 11 (.one 12 (.take 13 (.one 14 .done))))))))))))))) [(8, .rd (rI .u8)), (10, .rd (rI .u8)), (11, .rd rPA), (12, .un), (13, .rd rPA), (14, .un)]) (.s (.h (.take 0 (.take 1 (.take 2 (.take 3 (.take 4 (.take 5 (.take 6 (.take 7 (.take 8 (.take 9 (.take 10 (.take 11 (.one 12 (.take 13 (.one 14 .done))))))))))))))) [(8, .rd (rI .u8)), (10, .rd (rI .u8)), (11, .rd rPA), (12, .un), (13, .rd rPA), (14, .un)]) (.s (.h (.take 0 (.take 1 (.take 2 (.take 3 (.take 4 (.take 5 (.take 6 (.take 7 (.take 8 (.take 9 (.take 10 (.take 11 (.one 12 (.take 13 (.one 14 .done))))))))))))))) [(8, .rd (rI .u8)), (10, .rd (rI .u8)), (11, .rd rPA), (12, .un), (13, .rd rPA), (14, .un)]) .d))))))))))))) (.s .d (.sj [(.s 4, (rI .i64)), (.s 12, (rI .u32))] (.s .d (.c (.s .d (.s .d (.s .d (.s (.h (.take 0 (.take 1 (.take 2 (.take 3 (.take 4 (.take 5 (.take 6 (.take 7 (.take 8 (.take 9 (.take 10 (.take 11 (.one 12 (.take 13 (.one 14 .done))))))))))))))) [(8, .rd (rI .u8)), (10, .rd (rI .u8)), (11, .rd rPA), (12, .un), (13, .rd rPA), (14, .un)]) (.s (.h (.take 0 (.take 1 (.take 2 (.take 3 (.take 4 (.take 5 (.take 6 (.take 7 (.take 8 (.take 9 (.take 10 (.take 11 (.one 12 (.take 13 (.one 14 .done))))))))))))))) [(8, .rd (rI .u8)), (10, .rd (rI .u8)), (11, .rd rPA), (12, .un), (13, .rd rPA), (14, .un)]) .d))))) .d)) (.s (.s .d (.c (.s .d (.s .d (.s (.h (.take 0 (.take 1 (.take 2 (.take 3 (.take 4 (.take 5 (.take 6 (.take 7 (.take 8 (.take 9 (.take 10 (.take 11 (.one 12 (.take 13 (.one 14 .done))))))))))))))) [(8, .rd (rI .u8)), (10, .rd (rI .u8)), (11, .rd rPA), (12, .un), (13, .rd rPA), (14, .un)]) .d))) .d)) (.s .d (.c (.r [(4, .rd rPA), (5, .un)]) .d)))))))
theorem internal_strconv_formatBase10_calls {a : Sl} {u : Int} {K : Unit → World → Prop} {w : World} (h : internal_strconv_formatBase10 a u K w) : callV Pr uval 108 #[a.val, (.int .u64 u)] w K :=
  calls_of Pr_plain Pr_mixed Pr_func108 internal_strconv_formatBase10_ann rU (args := [a.val, (.int .u64 u)]) (by kernel_rfl) h

/- internal/strconv.formatBits -/
def internal_strconv_formatBits (dst : Sl) (u : Int) (base : Int) (neg : Bool) (append : Bool) (K : (Sl × (List UInt8)) → World → Prop) (w : World) : Prop :=
  ifB (decide (base < 2))
  (False)
  (ifB (base == 10)
  (False)
  (ifB (decide (base > 36))
  (False)
  (opTy Pr (Instr.alloc 128 true (.tuple #[])) pav (fun a1 w2 =>
  join1 (fun (j3 : Int → World → Prop) =>
  ifB neg
  (j3 (IntKind.u64.wrap (0 - u)) w2)
  (j3 u w2))
  (fun u4 w5 =>
  join1 (fun (j6 : Int → World → Prop) =>
  callV Pr Value.bool 118 #[(.int .i64 base)] w5 fun t7 w8 =>
  ifB t7
  (callV Pr (Value.int .i64) 119 #[(.int .u64 (IntKind.u64.wrap base))] w8 fun t9 w10 =>
  loop2 (u4 : Int) (65 : Int) (fun u11 i12 k13 w14 =>
  ifB (decide (u11 ≥ (IntKind.u64.wrap base)))
  (opRd Pr (Instr.index 9 (sval cs36_19037) (.int .u64 (bAnd .u64 u11 (IntKind.u64.wrap ((IntKind.u64.wrap base) - 1))))) (Value.int .u8) (fun t15 =>
  opRd Pr (Instr.indexAt 128 (.pointer (some a1)) (.int .i64 (i64 (i12 - 1)))) pav (fun t16 =>
  opUn Pr (Instr.storeAt 5 (.pointer (some t16)) (.int .u8 t15)) (fun w17 =>
  opRd Pr (binSem .shr 116 (.tmp 55) (.tmp 56) (.int .u64 u11) (.int .u64 (IntKind.u64.wrap t9))) (Value.int .u64) (fun u18 =>
  k13 u18 (i64 (i12 - 1)) w17) w17) w14) w14) w14)
  (opRd Pr (Instr.index 9 (sval cs36_19037) (.int .u64 u11)) (Value.int .u8) (fun t19 =>
  opRd Pr (Instr.indexAt 128 (.pointer (some a1)) (.int .i64 (i64 (i12 - 1)))) pav (fun t20 =>
  opUn Pr (Instr.storeAt 5 (.pointer (some t20)) (.int .u8 t19)) (fun w21 =>
  j6 (i64 (i12 - 1)) w21) w14) w14) w14)) w10)
  (loop2 (u4 : Int) (65 : Int) (fun u22 i23 k24 w25 =>
  ifB (decide (u22 ≥ (IntKind.u64.wrap base)))
  (opRd Pr (binSem .quo 116 (.tmp 71) (.tmp 72) (.int .u64 u22) (.int .u64 (IntKind.u64.wrap base))) (Value.int .u64) (fun q26 =>
  opRd Pr (Instr.index 9 (sval cs36_19037) (.int .u64 (IntKind.u64.wrap (u22 - (IntKind.u64.wrap (q26 * (IntKind.u64.wrap base))))))) (Value.int .u8) (fun t27 =>
  opRd Pr (Instr.indexAt 128 (.pointer (some a1)) (.int .i64 (i64 (i23 - 1)))) pav (fun t28 =>
  opUn Pr (Instr.storeAt 5 (.pointer (some t28)) (.int .u8 t27)) (fun w29 =>
  k24 q26 (i64 (i23 - 1)) w29) w25) w25) w25) w25)
  (opRd Pr (Instr.index 9 (sval cs36_19037) (.int .u64 u22)) (Value.int .u8) (fun t30 =>
  opRd Pr (Instr.indexAt 128 (.pointer (some a1)) (.int .i64 (i64 (i23 - 1)))) pav (fun t31 =>
  opUn Pr (Instr.storeAt 5 (.pointer (some t31)) (.int .u8 t30)) (fun w32 =>
  j6 (i64 (i23 - 1)) w32) w25) w25) w25)) w8))
  (fun i33 w34 =>
  join1 (fun (j35 : Int → World → Prop) =>
  ifB neg
  (opRd Pr (Instr.indexAt 128 (.pointer (some a1)) (.int .i64 (i64 (i33 - 1)))) pav (fun t36 =>
  opUn Pr (Instr.storeAt 5 (.pointer (some t36)) (.int .u8 45)) (fun w37 =>
  j35 (i64 (i33 - 1)) w37) w34) w34)
  (j35 i33 w34))
  (fun i38 w39 =>
  ifB append
  (opRd Pr (Instr.sliceAt 128 (.pointer (some a1)) (some (.int .i64 i38)) none none) Sl.val (fun t40 =>
  opTy Pr (Builtin.append_ #[119, 119] 119 #[dst.val, t40.val]) Sl.val (fun d41 w42 =>
  K (d41, []) w42) w39) w39)
  (opRd Pr (Instr.sliceAt 128 (.pointer (some a1)) (some (.int .i64 i38)) none none) Sl.val (fun t43 =>
  opRd Pr (convert 119 9 t43.val) sval (fun s44 =>
  K (Sl.nil, s44) w39) w39) w39))))) w)))
def internal_strconv_formatBits_ann : Ann := (.s .d (.s (.s .d (.c .d .d)) (.s (.r [(0, .ty rPA)]) (.s .d (.sj [(.s 1, (rI .u64))] (.s .d (.c .d .d)) (.sj [(.s 13, (rI .i64))] (.s (.r [(1, .call rB)]) (.c (.s (.r [(2, .call (rI .i64))]) (.s .d (.s .d (.s (.b (.l [(.s 1, (rI .u64)), (.s 13, (rI .i64))] (.s (.s .d (.c .d .d)) (.b (.s .d (.s (.r [(4, .rd (rI .u8)), (5, .rd rPA), (6, .un)]) (.r [(2, .rd (rI .u64))]))))))) (.s .d (.r [(2, .rd (rI .u8)), (3, .rd rPA), (4, .un)])))))) (.s .d (.s (.b (.l [(.s 1, (rI .u64)), (.s 13, (rI .i64))] (.s (.s .d (.c .d .d)) (.b (.s .d (.s (.r [(2, .rd (rI .u64))]) (.s (.r [(6, .rd (rI .u8)), (7, .rd rPA), (8, .un)]) .d))))))) (.s .d (.r [(2, .rd (rI .u8)), (3, .rd rPA), (4, .un)])))))) (.sj [(.s 13, (rI .i64))] (.s .d (.c (.s .d (.r [(1, .rd rPA), (2, .un)])) .d)) (.s (.s .d (.c (.s (.r [(2, .rd rSl), (3, .ty rSl)]) .d) .d)) (.s (.r [(1, .rd rSl), (2, .rd rS)]) .d)))))))))
theorem internal_strconv_formatBits_calls {dst : Sl} {u : Int} {base : Int} {neg : Bool} {append : Bool} {K : (Sl × (List UInt8)) → World → Prop} {w : World} (h : internal_strconv_formatBits dst u base neg append K w) : callV Pr (tval2 Sl.val sval) 109 #[dst.val, (.int .u64 u), (.int .i64 base), (.bool neg), (.bool append)] w K :=
  calls_of Pr_plain Pr_mixed Pr_func109 internal_strconv_formatBits_ann (rT2 rSl rS) (args := [dst.val, (.int .u64 u), (.int .i64 base), (.bool neg), (.bool append)]) (by kernel_rfl) h

/- slices.rotateLeft[changeover/api.Session] -/
def slices_rotateLeft_api_Session (s : Sl) (r : Int) (K : Unit → World → Prop) (w : World) : Prop :=
  opRd Pr (Instr.sliceAt 23 s.val none (some (.int .i64 r)) none) Sl.val (fun t1 =>
  callV Pr uval 120 #[t1.val] w fun t2 w3 =>
  opRd Pr (Instr.sliceAt 23 s.val (some (.int .i64 r)) none none) Sl.val (fun t4 =>
  callV Pr uval 120 #[t4.val] w3 fun t5 w6 =>
  callV Pr uval 120 #[s.val] w6 fun t7 w8 =>
  K () w8) w3) w
def slices_rotateLeft_api_Session_ann : Ann := (.s (.r [(2, .rd rSl), (3, .call rU)]) (.s (.r [(2, .rd rSl), (3, .call rU)]) (.r [(1, .call rU)])))
theorem slices_rotateLeft_api_Session_calls {s : Sl} {r : Int} {K : Unit → World → Prop} {w : World} (h : slices_rotateLeft_api_Session s r K w) : callV Pr uval 110 #[s.val, (.int .i64 r)] w K :=
  calls_of Pr_plain Pr_mixed Pr_func110 slices_rotateLeft_api_Session_ann rU (args := [s.val, (.int .i64 r)]) (by kernel_rfl) h

/- slices.rotateRight[changeover/api.Pair] -/
def slices_rotateRight_api_Pair (s : Sl) (r : Int) (K : Unit → World → Prop) (w : World) : Prop :=
  callV Pr uval 121 #[s.val, (.int .i64 (i64 ((s.len : Int) - r)))] w fun t1 w2 =>
  K () w2
def slices_rotateRight_api_Pair_ann : Ann := (.r [(5, .call rU)])
theorem slices_rotateRight_api_Pair_calls {s : Sl} {r : Int} {K : Unit → World → Prop} {w : World} (h : slices_rotateRight_api_Pair s r K w) : callV Pr uval 112 #[s.val, (.int .i64 r)] w K :=
  calls_of Pr_plain Pr_mixed Pr_func112 slices_rotateRight_api_Pair_ann rU (args := [s.val, (.int .i64 r)]) (by kernel_rfl) h

/- unicode/utf8.DecodeRuneInString -/
def unicode_utf8_DecodeRuneInString (s : List UInt8) (K : (Int × Int) → World → Prop) (w : World) : Prop :=
  ifB (!(strEq s []))
  (opRd Pr (Instr.index 9 (sval s) (.int .i64 0)) (Value.int .u8) (fun t1 =>
  ifB (decide (t1 < 128))
  (opRd Pr (Instr.index 9 (sval s) (.int .i64 0)) (Value.int .u8) (fun t2 =>
  K ((IntKind.i32.wrap t2), 1) w) w)
  (callV Pr (tval2 (Value.int .i32) (Value.int .i64)) 122 #[(sval s)] w fun t3 w4 =>
  K (t3.1, t3.2) w4)) w)
  (callV Pr (tval2 (Value.int .i32) (Value.int .i64)) 122 #[(sval s)] w fun t5 w6 =>
  K (t5.1, t5.2) w6)
def unicode_utf8_DecodeRuneInString_ann : Ann := (.s .d (.s (.s (.r [(4, .rd (rI .u8))]) (.c (.s (.r [(1, .rd (rI .u8))]) .d) (.r [(1, .call (rT2 (rI .i32) (rI .i64)))]))) .d))
theorem unicode_utf8_DecodeRuneInString_calls {s : List UInt8} {K : (Int × Int) → World → Prop} {w : World} (h : unicode_utf8_DecodeRuneInString s K w) : callV Pr (tval2 (Value.int .i32) (Value.int .i64)) 113 #[(sval s)] w K :=
  calls_of Pr_plain Pr_mixed Pr_func113 unicode_utf8_DecodeRuneInString_ann (rT2 (rI .i32) (rI .i64)) (args := [(sval s)]) (by kernel_rfl) h

/- internal/strconv.log10Pow2 -/
def internal_strconv_log10Pow2 (x : Int) (K : Int → World → Prop) (w : World) : Prop :=
  K (shR .i64 (i64 (x * 78913)) 18) w
def internal_strconv_log10Pow2_ann : Ann := (.s .d (.s .d .d))
theorem internal_strconv_log10Pow2_calls {x : Int} {K : Int → World → Prop} {w : World} (h : internal_strconv_log10Pow2 x K w) : callV Pr (Value.int .i64) 115 #[(.int .i64 x)] w K :=
  calls_of Pr_plain Pr_mixed Pr_func115 internal_strconv_log10Pow2_ann (rI .i64) (args := [(.int .i64 x)]) (by kernel_rfl) h

/- math/bits.Len64 -/
def math_bits_Len64 (x : Int) (K : Int → World → Prop) (w : World) : Prop :=
  join2 (fun (j1 : Int → Int → World → Prop) =>
  ifB (decide (x ≥ 4294967296))
  (j1 (shR .u64 x 32) 32 w)
  (j1 x 0 w))
  (fun x2 n3 w4 =>
  join2 (fun (j5 : Int → Int → World → Prop) =>
  ifB (decide (x2 ≥ 65536))
  (j5 (shR .u64 x2 16) (i64 (n3 + 16)) w4)
  (j5 x2 n3 w4))
  (fun x6 n7 w8 =>
  ifB (decide (x6 ≥ 256))
  (opRd Pr (Instr.index 9 (sval cs256_85724) (.int .u8 (IntKind.u8.wrap (shR .u64 x6 8)))) (Value.int .u8) (fun t9 =>
  K (i64 ((i64 (n7 + 8)) + (IntKind.i64.wrap t9))) w8) w8)
  (opRd Pr (Instr.index 9 (sval cs256_85724) (.int .u8 (IntKind.u8.wrap x6))) (Value.int .u8) (fun t10 =>
  K (i64 (n7 + (IntKind.i64.wrap t10))) w8) w8)))
def math_bits_Len64_ann : Ann := (.s .d (.sj [(.s 0, (rI .u64)), (.s 2, (rI .i64))] (.s .d (.c (.s .d .d) .d)) (.sj [(.s 0, (rI .u64)), (.s 2, (rI .i64))] (.s .d (.c (.s .d .d) .d)) (.s (.s .d (.c (.s .d .d) .d)) (.s (.r [(3, .rd (rI .u8))]) .d)))))
theorem math_bits_Len64_calls {x : Int} {K : Int → World → Prop} {w : World} (h : math_bits_Len64 x K w) : callV Pr (Value.int .i64) 116 #[(.int .u64 x)] w K :=
  calls_of Pr_plain Pr_mixed Pr_func116 math_bits_Len64_ann (rI .i64) (args := [(.int .u64 x)]) (by kernel_rfl) h

/- internal/strconv.bool2[int] -/
def internal_strconv_bool2_int (b : Bool) (K : Int → World → Prop) (w : World) : Prop :=
  ifB b
  (K 1 w)
  (K 0 w)
def internal_strconv_bool2_int_ann : Ann := (.s .d (.s (.s .d (.c (.s .d .d) .d)) (.s .d .d)))
theorem internal_strconv_bool2_int_calls {b : Bool} {K : Int → World → Prop} {w : World} (h : internal_strconv_bool2_int b K w) : callV Pr (Value.int .i64) 117 #[(.bool b)] w K :=
  calls_of Pr_plain Pr_mixed Pr_func117 internal_strconv_bool2_int_ann (rI .i64) (args := [(.bool b)]) (by kernel_rfl) h

/- internal/strconv.isPowerOfTwo -/
def internal_strconv_isPowerOfTwo (x : Int) (K : Bool → World → Prop) (w : World) : Prop :=
  K ((bAnd .i64 x (i64 (x - 1))) == 0) w
def internal_strconv_isPowerOfTwo_ann : Ann := (.s .d (.s .d .d))
theorem internal_strconv_isPowerOfTwo_calls {x : Int} {K : Bool → World → Prop} {w : World} (h : internal_strconv_isPowerOfTwo x K w) : callV Pr Value.bool 118 #[(.int .i64 x)] w K :=
  calls_of Pr_plain Pr_mixed Pr_func118 internal_strconv_isPowerOfTwo_ann rB (args := [(.int .i64 x)]) (by kernel_rfl) h

/- math/bits.TrailingZeros -/
def math_bits_TrailingZeros (x : Int) (K : Int → World → Prop) (w : World) : Prop :=
  callV Pr (Value.int .i64) 124 #[(.int .u64 x)] w fun t1 w2 =>
  K t1 w2
def math_bits_TrailingZeros_ann : Ann := (.s .d (.s (.c (.s .d .d) .d) (.s (.r [(1, .call (rI .i64))]) .d)))
theorem math_bits_TrailingZeros_calls {x : Int} {K : Int → World → Prop} {w : World} (h : math_bits_TrailingZeros x K w) : callV Pr (Value.int .i64) 119 #[(.int .u64 x)] w K :=
  calls_of Pr_plain Pr_mixed Pr_func119 math_bits_TrailingZeros_ann (rI .i64) (args := [(.int .u64 x)]) (by kernel_rfl) h

/- slices.Reverse[[]changeover/api.Session,changeover/api.Session] -/
def slices_Reverse_api_Session_api_Session (s : Sl) (K : Unit → World → Prop) (w : World) : Prop :=
  loop2 (0 : Int) ((i64 ((s.len : Int) - 1)) : Int) (fun i1 j2 k3 w4 =>
  ifB (decide (i1 < j2))
  (heldM (fun S6 w5 =>
  opH Pr S6 (Instr.indexAt 23 s.val (.int .i64 j2)) pav (fun t7 =>
  opH Pr S6 (Instr.indexAt 23 s.val (.int .i64 i1)) pav (fun t8 =>
  (opRd Pr (Instr.loadAt 63 (.pointer (some t7))) ApiSession.val (fun t9 =>
  (S6 w5) ∧
  (opRd Pr (Instr.loadAt 63 (.pointer (some t8))) ApiSession.val (fun t10 =>
  (S6 w5) ∧
  (opH Pr S6 (Instr.indexAt 23 s.val (.int .i64 i1)) pav (fun t11 =>
  opUn Pr (Instr.storeAt 63 (.pointer (some t11)) (.agg ⟨t9.cs⟩)) (fun w12 =>
  (S6 w12) ∧
  (opH Pr S6 (Instr.indexAt 23 s.val (.int .i64 j2)) pav (fun t13 =>
  opUn Pr (Instr.storeAt 63 (.pointer (some t13)) (.agg ⟨t10.cs⟩)) (fun w14 =>
  (S6 w14) ∧
  (k3 (i64 (i1 + 1)) (i64 (j2 - 1)) w14)) w12))) w5))) w5)) w5) ∧
  (opRd Pr (Instr.loadAt 63 (.pointer (some t8))) ApiSession.val (fun t15 =>
  (S6 w5) ∧
  (opRd Pr (Instr.loadAt 63 (.pointer (some t7))) ApiSession.val (fun t16 =>
  (S6 w5) ∧
  (opH Pr S6 (Instr.indexAt 23 s.val (.int .i64 i1)) pav (fun t17 =>
  opUn Pr (Instr.storeAt 63 (.pointer (some t17)) (.agg ⟨t16.cs⟩)) (fun w18 =>
  (S6 w18) ∧
  (opH Pr S6 (Instr.indexAt 23 s.val (.int .i64 j2)) pav (fun t19 =>
  opUn Pr (Instr.storeAt 63 (.pointer (some t19)) (.agg ⟨t15.cs⟩)) (fun w20 =>
  (S6 w20) ∧
  (k3 (i64 (i1 + 1)) (i64 (j2 - 1)) w20)) w18))) w5))) w5)) w5)))) w4)
  (K () w4)) w
def slices_Reverse_api_Session_api_Session_ann : Ann := (.s .d (.b (.l [(.s 2, (rI .i64)), (.s 3, (rI .i64))] (.s (.s .d (.c .d .d)) (.s (.b (.h (.take 0 (.take 1 (.take 2 (.take 3 (.take 4 (.take 5 (.take 6 (.take 8 (.take 9 (.take 10 (.two 7 (.one 11 (.take 12 (.one 13 (.take 14 (.one 15 .done))))) 11 (.one 7 (.take 12 (.one 13 (.take 14 (.one 15 .done)))))))))))))))) [(6, .rd rPA), (7, .rd rApiSession), (10, .rd rPA), (11, .rd rApiSession), (12, .rd rPA), (13, .un), (14, .rd rPA), (15, .un)])) .d)))))
theorem slices_Reverse_api_Session_api_Session_calls {s : Sl} {K : Unit → World → Prop} {w : World} (h : slices_Reverse_api_Session_api_Session s K w) : callV Pr uval 120 #[s.val] w K :=
  calls_of Pr_plain Pr_mixed Pr_func120 slices_Reverse_api_Session_api_Session_ann rU (args := [s.val]) (by kernel_rfl) h

/- slices.rotateLeft[changeover/api.Pair] -/
def slices_rotateLeft_api_Pair (s : Sl) (r : Int) (K : Unit → World → Prop) (w : World) : Prop :=
  opRd Pr (Instr.sliceAt 22 s.val none (some (.int .i64 r)) none) Sl.val (fun t1 =>
  callV Pr uval 125 #[t1.val] w fun t2 w3 =>
  opRd Pr (Instr.sliceAt 22 s.val (some (.int .i64 r)) none none) Sl.val (fun t4 =>
  callV Pr uval 125 #[t4.val] w3 fun t5 w6 =>
  callV Pr uval 125 #[s.val] w6 fun t7 w8 =>
  K () w8) w3) w
def slices_rotateLeft_api_Pair_ann : Ann := (.s (.r [(2, .rd rSl), (3, .call rU)]) (.s (.r [(2, .rd rSl), (3, .call rU)]) (.r [(1, .call rU)])))
theorem slices_rotateLeft_api_Pair_calls {s : Sl} {r : Int} {K : Unit → World → Prop} {w : World} (h : slices_rotateLeft_api_Pair s r K w) : callV Pr uval 121 #[s.val, (.int .i64 r)] w K :=
  calls_of Pr_plain Pr_mixed Pr_func121 slices_rotateLeft_api_Pair_ann rU (args := [s.val, (.int .i64 r)]) (by kernel_rfl) h

/- unicode/utf8.decodeRuneInStringSlow -/
def unicode_utf8_decodeRuneInStringSlow (s : List UInt8) (K : (Int × Int) → World → Prop) (w : World) : Prop :=
  ifB (decide (((s : List UInt8).length : Int) < 1))
  (K (65533, 0) w)
  (opRd Pr (Instr.index 9 (sval s) (.int .i64 0)) (Value.int .u8) (fun s01 =>
  opRd Pr (Instr.indexAt 133 (.pointer (some g_unicode_utf8_first)) (.int .u8 s01)) pav (fun t2 =>
  opRd Pr (Instr.loadAt 5 (.pointer (some t2))) (Value.int .u8) (fun x3 =>
  ifB (decide (x3 ≥ 240))
  (opRd Pr (Instr.index 9 (sval s) (.int .i64 0)) (Value.int .u8) (fun t4 =>
  K ((bOr .i32 (bAndNot .i32 (IntKind.i32.wrap t4) (shR .i32 (shL .i32 (IntKind.i32.wrap x3) 31) 31)) (bAnd .i32 65533 (shR .i32 (shL .i32 (IntKind.i32.wrap x3) 31) 31))), 1) w) w)
  (opRd Pr (Instr.indexAt 136 (.pointer (some g_unicode_utf8_acceptRanges)) (.int .u8 (shR .u8 x3 4))) pav (fun t5 =>
  opRd Pr (Instr.loadAt 135 (.pointer (some t5))) Utf8AcceptRange.val (fun t6 =>
  newV (fun b7 w8 =>
  wrM b7 (fun w9 =>
  ifB (decide (((s : List UInt8).length : Int) < (IntKind.i64.wrap (bAnd .u8 x3 7))))
  (K (65533, 1) w9)
  (opRd Pr (Instr.index 9 (sval s) (.int .i64 1)) (Value.int .u8) (fun s110 =>
  ifB (decide (s110 < t6.lo))
  (K (65533, 1) w9)
  (ifB (decide (t6.hi < s110))
  (K (65533, 1) w9)
  (ifB (decide ((IntKind.i64.wrap (bAnd .u8 x3 7)) ≤ 2))
  (K ((bOr .i32 (shL .i32 (IntKind.i32.wrap (bAnd .u8 s01 31)) 6) (IntKind.i32.wrap (bAnd .u8 s110 63))), 2) w9)
  (opRd Pr (Instr.index 9 (sval s) (.int .i64 2)) (Value.int .u8) (fun s211 =>
  ifB (decide (s211 < 128))
  (K (65533, 1) w9)
  (ifB (decide ((191 : Int) < s211))
  (K (65533, 1) w9)
  (ifB (decide ((IntKind.i64.wrap (bAnd .u8 x3 7)) ≤ 3))
  (K ((bOr .i32 (bOr .i32 (shL .i32 (IntKind.i32.wrap (bAnd .u8 s01 15)) 12) (shL .i32 (IntKind.i32.wrap (bAnd .u8 s110 63)) 6)) (IntKind.i32.wrap (bAnd .u8 s211 63))), 3) w9)
  (opRd Pr (Instr.index 9 (sval s) (.int .i64 3)) (Value.int .u8) (fun s312 =>
  ifB (decide (s312 < 128))
  (K (65533, 1) w9)
  (ifB (decide ((191 : Int) < s312))
  (K (65533, 1) w9)
  (K ((bOr .i32 (bOr .i32 (bOr .i32 (shL .i32 (IntKind.i32.wrap (bAnd .u8 s01 7)) 18) (shL .i32 (IntKind.i32.wrap (bAnd .u8 s110 63)) 12)) (shL .i32 (IntKind.i32.wrap (bAnd .u8 s211 63)) 6)) (IntKind.i32.wrap (bAnd .u8 s312 63))), 4) w9))) w9)))) w9)))) w9)) w8) w) w) w)) w) w) w)
def unicode_utf8_decodeRuneInStringSlow_ann : Ann := (.s .d (.s .d (.s (.s .d (.c (.s .d .d) .d)) (.s (.r [(1, .rd (rI .u8))]) (.s (.r [(1, .rd rPA), (2, .rd (rI .u8))]) (.s (.s .d (.c (.s .d (.s (.r [(1, .rd (rI .u8))]) .d)) .d)) (.s .d (.s (.r [(2, .rd rPA), (3, .rd rUtf8AcceptRange), (4, .nl 9), (5, .ls 9)]) (.s (.s .d (.c (.s .d .d) .d)) (.s (.r [(1, .rd (rI .u8))]) (.s (.s .d (.c (.s .d .d) .d)) (.s (.s .d (.c (.s .d .d) .d)) (.s (.r [(1, .rd (rI .u8))]) (.s (.s .d (.c (.s .d .d) .d)) (.s (.s .d (.c (.s .d .d) .d)) (.s (.r [(1, .rd (rI .u8))]) (.s (.s .d (.c (.s .d .d) .d)) (.s .d .d))))))))))))))))))
theorem unicode_utf8_decodeRuneInStringSlow_calls {s : List UInt8} {K : (Int × Int) → World → Prop} {w : World} (h : unicode_utf8_decodeRuneInStringSlow s K w) : callV Pr (tval2 (Value.int .i32) (Value.int .i64)) 122 #[(sval s)] w K :=
  calls_of Pr_plain Pr_mixed Pr_func122 unicode_utf8_decodeRuneInStringSlow_ann (rT2 (rI .i32) (rI .i64)) (args := [(sval s)]) (by kernel_rfl) h

/- math/bits.TrailingZeros32 -/
def math_bits_TrailingZeros32 (x : Int) (K : Int → World → Prop) (w : World) : Prop :=
  ifB (x == 0)
  (K 32 w)
  (opRd Pr (Instr.indexAt 137 (.pointer (some g_math_bits_deBruijn32tab)) (.int .u32 (shR .u32 (IntKind.u32.wrap ((bAnd .u32 x (IntKind.u32.wrap (0 - x))) * 125613361)) 27))) pav (fun t1 =>
  opRd Pr (Instr.loadAt 5 (.pointer (some t1))) (Value.int .u8) (fun t2 =>
  K (IntKind.i64.wrap t2) w) w) w)
def math_bits_TrailingZeros32_ann : Ann := (.s .d (.s (.s .d (.c (.s .d .d) .d)) (.s (.r [(6, .rd rPA), (7, .rd (rI .u8))]) .d)))
theorem math_bits_TrailingZeros32_calls {x : Int} {K : Int → World → Prop} {w : World} (h : math_bits_TrailingZeros32 x K w) : callV Pr (Value.int .i64) 123 #[(.int .u32 x)] w K :=
  calls_of Pr_plain Pr_mixed Pr_func123 math_bits_TrailingZeros32_ann (rI .i64) (args := [(.int .u32 x)]) (by kernel_rfl) h

/- math/bits.TrailingZeros64 -/
def math_bits_TrailingZeros64 (x : Int) (K : Int → World → Prop) (w : World) : Prop :=
  ifB (x == 0)
  (K 64 w)
  (opRd Pr (Instr.indexAt 138 (.pointer (some g_math_bits_deBruijn64tab)) (.int .u64 (shR .u64 (IntKind.u64.wrap ((bAnd .u64 x (IntKind.u64.wrap (0 - x))) * 285870213051353865)) 58))) pav (fun t1 =>
  opRd Pr (Instr.loadAt 5 (.pointer (some t1))) (Value.int .u8) (fun t2 =>
  K (IntKind.i64.wrap t2) w) w) w)
def math_bits_TrailingZeros64_ann : Ann := (.s .d (.s (.s .d (.c (.s .d .d) .d)) (.s (.r [(6, .rd rPA), (7, .rd (rI .u8))]) .d)))
theorem math_bits_TrailingZeros64_calls {x : Int} {K : Int → World → Prop} {w : World} (h : math_bits_TrailingZeros64 x K w) : callV Pr (Value.int .i64) 124 #[(.int .u64 x)] w K :=
  calls_of Pr_plain Pr_mixed Pr_func124 math_bits_TrailingZeros64_ann (rI .i64) (args := [(.int .u64 x)]) (by kernel_rfl) h

/- slices.Reverse[[]changeover/api.Pair,changeover/api.Pair] -/
def slices_Reverse_api_Pair_api_Pair (s : Sl) (K : Unit → World → Prop) (w : World) : Prop :=
  loop2 (0 : Int) ((i64 ((s.len : Int) - 1)) : Int) (fun i1 j2 k3 w4 =>
  ifB (decide (i1 < j2))
  (heldM (fun S6 w5 =>
  opH Pr S6 (Instr.indexAt 22 s.val (.int .i64 j2)) pav (fun t7 =>
  opH Pr S6 (Instr.indexAt 22 s.val (.int .i64 i1)) pav (fun t8 =>
  (opRd Pr (Instr.loadAt 54 (.pointer (some t7))) ApiPair.val (fun t9 =>
  (S6 w5) ∧
  (opRd Pr (Instr.loadAt 54 (.pointer (some t8))) ApiPair.val (fun t10 =>
  (S6 w5) ∧
  (opH Pr S6 (Instr.indexAt 22 s.val (.int .i64 i1)) pav (fun t11 =>
  opUn Pr (Instr.storeAt 54 (.pointer (some t11)) (.agg ⟨t9.cs⟩)) (fun w12 =>
  (S6 w12) ∧
  (opH Pr S6 (Instr.indexAt 22 s.val (.int .i64 j2)) pav (fun t13 =>
  opUn Pr (Instr.storeAt 54 (.pointer (some t13)) (.agg ⟨t10.cs⟩)) (fun w14 =>
  (S6 w14) ∧
  (k3 (i64 (i1 + 1)) (i64 (j2 - 1)) w14)) w12))) w5))) w5)) w5) ∧
  (opRd Pr (Instr.loadAt 54 (.pointer (some t8))) ApiPair.val (fun t15 =>
  (S6 w5) ∧
  (opRd Pr (Instr.loadAt 54 (.pointer (some t7))) ApiPair.val (fun t16 =>
  (S6 w5) ∧
  (opH Pr S6 (Instr.indexAt 22 s.val (.int .i64 i1)) pav (fun t17 =>
  opUn Pr (Instr.storeAt 54 (.pointer (some t17)) (.agg ⟨t16.cs⟩)) (fun w18 =>
  (S6 w18) ∧
  (opH Pr S6 (Instr.indexAt 22 s.val (.int .i64 j2)) pav (fun t19 =>
  opUn Pr (Instr.storeAt 54 (.pointer (some t19)) (.agg ⟨t15.cs⟩)) (fun w20 =>
  (S6 w20) ∧
  (k3 (i64 (i1 + 1)) (i64 (j2 - 1)) w20)) w18))) w5))) w5)) w5)))) w4)
  (K () w4)) w
def slices_Reverse_api_Pair_api_Pair_ann : Ann := (.s .d (.b (.l [(.s 2, (rI .i64)), (.s 3, (rI .i64))] (.s (.s .d (.c .d .d)) (.s (.b (.h (.take 0 (.take 1 (.take 2 (.take 3 (.take 4 (.take 5 (.take 6 (.take 8 (.take 9 (.take 10 (.two 7 (.one 11 (.take 12 (.one 13 (.take 14 (.one 15 .done))))) 11 (.one 7 (.take 12 (.one 13 (.take 14 (.one 15 .done)))))))))))))))) [(6, .rd rPA), (7, .rd rApiPair), (10, .rd rPA), (11, .rd rApiPair), (12, .rd rPA), (13, .un), (14, .rd rPA), (15, .un)])) .d)))))
theorem slices_Reverse_api_Pair_api_Pair_calls {s : Sl} {K : Unit → World → Prop} {w : World} (h : slices_Reverse_api_Pair_api_Pair s K w) : callV Pr uval 125 #[s.val] w K :=
  calls_of Pr_plain Pr_mixed Pr_func125 slices_Reverse_api_Pair_api_Pair_ann rU (args := [s.val]) (by kernel_rfl) h

/- gosem.cut.vars -/
def gosem_cut_vars (K : Unit → World → Prop) (w : World) : Prop :=
  opUn Pr (Instr.storeAt 137 (.pointer (some g_math_bits_deBruijn32tab)) (.agg ⟨[(.int .u8 0), (.int .u8 1), (.int .u8 28), (.int .u8 2), (.int .u8 29), (.int .u8 14), (.int .u8 24), (.int .u8 3), (.int .u8 30), (.int .u8 22), (.int .u8 20), (.int .u8 15), (.int .u8 25), (.int .u8 17), (.int .u8 4), (.int .u8 8), (.int .u8 31), (.int .u8 27), (.int .u8 13), (.int .u8 23), (.int .u8 21), (.int .u8 19), (.int .u8 16), (.int .u8 7), (.int .u8 26), (.int .u8 12), (.int .u8 18), (.int .u8 6), (.int .u8 11), (.int .u8 5), (.int .u8 10), (.int .u8 9)]⟩)) (fun w1 =>
  opUn Pr (Instr.storeAt 138 (.pointer (some g_math_bits_deBruijn64tab)) (.agg ⟨[(.int .u8 0), (.int .u8 1), (.int .u8 56), (.int .u8 2), (.int .u8 57), (.int .u8 49), (.int .u8 28), (.int .u8 3), (.int .u8 61), (.int .u8 58), (.int .u8 42), (.int .u8 50), (.int .u8 38), (.int .u8 29), (.int .u8 17), (.int .u8 4), (.int .u8 62), (.int .u8 47), (.int .u8 59), (.int .u8 36), (.int .u8 45), (.int .u8 43), (.int .u8 51), (.int .u8 22), (.int .u8 53), (.int .u8 39), (.int .u8 33), (.int .u8 30), (.int .u8 24), (.int .u8 18), (.int .u8 12), (.int .u8 5), (.int .u8 63), (.int .u8 55), (.int .u8 48), (.int .u8 27), (.int .u8 60), (.int .u8 41), (.int .u8 37), (.int .u8 16), (.int .u8 46), (.int .u8 35), (.int .u8 44), (.int .u8 21), (.int .u8 52), (.int .u8 32), (.int .u8 23), (.int .u8 11), (.int .u8 54), (.int .u8 26), (.int .u8 40), (.int .u8 15), (.int .u8 34), (.int .u8 20), (.int .u8 31), (.int .u8 10), (.int .u8 25), (.int .u8 14), (.int .u8 19), (.int .u8 9), (.int .u8 13), (.int .u8 8), (.int .u8 7), (.int .u8 6)]⟩)) (fun w2 =>
  opUn Pr (Instr.storeAt 126 (.pointer (some g_internal_strconv_uint64pow10)) (.agg ⟨[(.int .u64 1), (.int .u64 10), (.int .u64 100), (.int .u64 1000), (.int .u64 10000), (.int .u64 100000), (.int .u64 1000000), (.int .u64 10000000), (.int .u64 100000000), (.int .u64 1000000000), (.int .u64 10000000000), (.int .u64 100000000000), (.int .u64 1000000000000), (.int .u64 10000000000000), (.int .u64 100000000000000), (.int .u64 1000000000000000), (.int .u64 10000000000000000), (.int .u64 100000000000000000), (.int .u64 1000000000000000000), (.int .u64 10000000000000000000)]⟩)) (fun w3 =>
  opUn Pr (Instr.storeAt 136 (.pointer (some g_unicode_utf8_acceptRanges)) (.agg ⟨[(.int .u8 128), (.int .u8 191), (.int .u8 160), (.int .u8 191), (.int .u8 128), (.int .u8 159), (.int .u8 144), (.int .u8 191), (.int .u8 128), (.int .u8 143), (.int .u8 0), (.int .u8 0), (.int .u8 0), (.int .u8 0), (.int .u8 0), (.int .u8 0), (.int .u8 0), (.int .u8 0), (.int .u8 0), (.int .u8 0), (.int .u8 0), (.int .u8 0), (.int .u8 0), (.int .u8 0), (.int .u8 0), (.int .u8 0), (.int .u8 0), (.int .u8 0), (.int .u8 0), (.int .u8 0), (.int .u8 0), (.int .u8 0)]⟩)) (fun w4 =>
  K () w4) w3) w2) w1) w
def gosem_cut_vars_ann : Ann := (.s (.r [(1, .un)]) (.s (.r [(1, .un)]) (.s (.r [(1, .un)]) (.r [(6, .un)]))))
theorem gosem_cut_vars_calls {K : Unit → World → Prop} {w : World} (h : gosem_cut_vars K w) : callV Pr uval 149 #[] w K :=
  calls_of Pr_plain Pr_mixed Pr_func149 gosem_cut_vars_ann rU (args := []) (by kernel_rfl) h

/- slices.BinarySearchFunc[[]changeover/api.Session,changeover/api.Session,int] -/
def slices_BinarySearchFunc_api_Session_api_Session_int_place (x : Sl) (target : Int) (K : (Int × Bool) → World → Prop) (w : World) : Prop :=
  loop2 (0 : Int) ((x.len : Int) : Int) (fun i1 j2 k3 w4 =>
  ifB (decide (i1 < j2))
  (opRd Pr (Instr.indexAt 23 x.val (.int .i64 (IntKind.i64.wrap (shR .u64 (IntKind.u64.wrap (i64 (i1 + j2))) 1)))) pav (fun t5 =>
  opRd Pr (Instr.loadAt 63 (.pointer (some t5))) ApiSession.val (fun t6 =>
  callV Pr (Value.int .i64) 97 #[(.agg ⟨t6.cs⟩), (.int .i64 target)] w4 fun t7 w8 =>
  ifB (decide (t7 < 0))
  (k3 (i64 ((IntKind.i64.wrap (shR .u64 (IntKind.u64.wrap (i64 (i1 + j2))) 1)) + 1)) j2 w8)
  (k3 i1 (IntKind.i64.wrap (shR .u64 (IntKind.u64.wrap (i64 (i1 + j2))) 1)) w8)) w4) w4)
  (ifB (decide (i1 < (x.len : Int)))
  (opRd Pr (Instr.indexAt 23 x.val (.int .i64 i1)) pav (fun t9 =>
  opRd Pr (Instr.loadAt 63 (.pointer (some t9))) ApiSession.val (fun t10 =>
  callV Pr (Value.int .i64) 97 #[(.agg ⟨t10.cs⟩), (.int .i64 target)] w4 fun t11 w12 =>
  K (i1, (t11 == 0)) w12) w4) w4)
  (K (i1, false) w4))) w
def slices_BinarySearchFunc_api_Session_api_Session_int_place_ann : Ann := (.s .d (.s .d (.s .d (.s (.b (.l [(.s 9, (rI .i64)), (.s 10, (rI .i64))] (.s (.s .d (.c .d .d)) (.b (.s .d (.s (.r [(3, .rd rPA), (4, .rd rApiSession), (6, .call (rI .i64))]) (.c .d .d))))))) (.s (.r [(8, .rd rPA), (9, .rd rApiSession), (11, .call (rI .i64))]) .d)))))
theorem slices_BinarySearchFunc_api_Session_api_Session_int_place_calls {x : Sl} {target : Int} {K : (Int × Bool) → World → Prop} {w : World} (h : slices_BinarySearchFunc_api_Session_api_Session_int_place x target K w) : callV Pr (tval2 (Value.int .i64) Value.bool) 96 #[x.val, (.int .i64 target), (.func (.func 97) #[] #[])] w K :=
  calls_of Pr_plain Pr_mixed Pr_func96 slices_BinarySearchFunc_api_Session_api_Session_int_place_ann (rT2 (rI .i64) rB) (args := [x.val, (.int .i64 target), (.func (.func 97) #[] #[])]) (by kernel_rfl) h

/- slices.BinarySearchFunc[[]changeover/api.Pair,changeover/api.Pair,string] -/
def slices_BinarySearchFunc_api_Pair_api_Pair_string_place (x : Sl) (target : List UInt8) (K : (Int × Bool) → World → Prop) (w : World) : Prop :=
  loop2 (0 : Int) ((x.len : Int) : Int) (fun i1 j2 k3 w4 =>
  ifB (decide (i1 < j2))
  (opRd Pr (Instr.indexAt 22 x.val (.int .i64 (IntKind.i64.wrap (shR .u64 (IntKind.u64.wrap (i64 (i1 + j2))) 1)))) pav (fun t5 =>
  opRd Pr (Instr.loadAt 54 (.pointer (some t5))) ApiPair.val (fun t6 =>
  callV Pr (Value.int .i64) 89 #[(.agg ⟨t6.cs⟩), (sval target)] w4 fun t7 w8 =>
  ifB (decide (t7 < 0))
  (k3 (i64 ((IntKind.i64.wrap (shR .u64 (IntKind.u64.wrap (i64 (i1 + j2))) 1)) + 1)) j2 w8)
  (k3 i1 (IntKind.i64.wrap (shR .u64 (IntKind.u64.wrap (i64 (i1 + j2))) 1)) w8)) w4) w4)
  (ifB (decide (i1 < (x.len : Int)))
  (opRd Pr (Instr.indexAt 22 x.val (.int .i64 i1)) pav (fun t9 =>
  opRd Pr (Instr.loadAt 54 (.pointer (some t9))) ApiPair.val (fun t10 =>
  callV Pr (Value.int .i64) 89 #[(.agg ⟨t10.cs⟩), (sval target)] w4 fun t11 w12 =>
  K (i1, (t11 == 0)) w12) w4) w4)
  (K (i1, false) w4))) w
def slices_BinarySearchFunc_api_Pair_api_Pair_string_place_ann : Ann := (.s .d (.s .d (.s .d (.s (.b (.l [(.s 9, (rI .i64)), (.s 10, (rI .i64))] (.s (.s .d (.c .d .d)) (.b (.s .d (.s (.r [(3, .rd rPA), (4, .rd rApiPair), (6, .call (rI .i64))]) (.c .d .d))))))) (.s (.r [(8, .rd rPA), (9, .rd rApiPair), (11, .call (rI .i64))]) .d)))))
theorem slices_BinarySearchFunc_api_Pair_api_Pair_string_place_calls {x : Sl} {target : List UInt8} {K : (Int × Bool) → World → Prop} {w : World} (h : slices_BinarySearchFunc_api_Pair_api_Pair_string_place x target K w) : callV Pr (tval2 (Value.int .i64) Value.bool) 88 #[x.val, (sval target), (.func (.func 89) #[] #[])] w K :=
  calls_of Pr_plain Pr_mixed Pr_func88 slices_BinarySearchFunc_api_Pair_api_Pair_string_place_ann (rT2 (rI .i64) rB) (args := [x.val, (sval target), (.func (.func 89) #[] #[])]) (by kernel_rfl) h

/- slices.BinarySearchFunc[[]changeover/api.Pair,changeover/api.Pair,changeover/api.Pair] -/
def slices_BinarySearchFunc_api_Pair_api_Pair_api_Pair_set (x : Sl) (target : ApiPair) (K : (Int × Bool) → World → Prop) (w : World) : Prop :=
  newV (fun b1 w2 =>
  loop2 (0 : Int) ((x.len : Int) : Int) (fun i3 j4 k5 w6 =>
  ifB (decide (i3 < j4))
  (heldM (fun S8 w7 =>
  opH Pr S8 (Instr.indexAt 22 x.val (.int .i64 (IntKind.i64.wrap (shR .u64 (IntKind.u64.wrap (i64 (i3 + j4))) 1)))) pav (fun t9 =>
  opH Pr S8 (Instr.loadAt 54 (.pointer (some t9))) ApiPair.val (fun t10 =>
  callV Pr (Value.int .i64) 105 #[(.agg ⟨t10.cs⟩), (.agg ⟨[(sval target.Key), (sval target.Val), (.int .i64 target.Rev)]⟩)] w7 fun t11 w12 =>
  kp b1 w7 w12 <|
  (S8 w12) ∧
  (ifB (decide (t11 < 0))
  (k5 (i64 ((IntKind.i64.wrap (shR .u64 (IntKind.u64.wrap (i64 (i3 + j4))) 1)) + 1)) j4 w12)
  (k5 i3 (IntKind.i64.wrap (shR .u64 (IntKind.u64.wrap (i64 (i3 + j4))) 1)) w12))))) w6)
  (heldM (fun S14 w13 =>
  ifB (decide (i3 < (x.len : Int)))
  (opH Pr S14 (Instr.indexAt 22 x.val (.int .i64 i3)) pav (fun t15 =>
  opH Pr S14 (Instr.loadAt 54 (.pointer (some t15))) ApiPair.val (fun t16 =>
  callV Pr (Value.int .i64) 105 #[(.agg ⟨t16.cs⟩), (.agg ⟨[(sval target.Key), (sval target.Val), (.int .i64 target.Rev)]⟩)] w13 fun t17 w18 =>
  kp b1 w13 w18 <|
  (S14 w18) ∧
  (K (i3, (t17 == 0)) w18))))
  (K (i3, false) w13)) w6)) w2) w
def slices_BinarySearchFunc_api_Pair_api_Pair_api_Pair_set_ann : Ann := (.s (.r [(0, .nl 4)]) (.s .d (.s .d (.s (.b (.l [(.s 9, (rI .i64)), (.s 10, (rI .i64))] (.s (.s .d (.c .d .d)) (.b (.s .d (.s (.h (.take 0 (.take 1 (.take 2 (.take 3 (.take 4 (.take 5 (.one 6 (.take 7 .done)))))))) [(3, .rd rPA), (4, .rd rApiPair), (6, .call (rI .i64))]) (.c .d .d))))))) (.s (.h (.take 0 (.take 1 (.take 2 (.take 3 (.take 4 (.take 5 (.take 6 (.take 7 (.take 8 (.take 9 (.take 10 (.one 11 (.take 12 (.take 13 (.take 14 (.take 15 .done)))))))))))))))) [(8, .rd rPA), (9, .rd rApiPair), (11, .call (rI .i64))]) .d)))))
theorem slices_BinarySearchFunc_api_Pair_api_Pair_api_Pair_set_calls {x : Sl} {target : ApiPair} {K : (Int × Bool) → World → Prop} {w : World} (h : slices_BinarySearchFunc_api_Pair_api_Pair_api_Pair_set x target K w) : callV Pr (tval2 (Value.int .i64) Value.bool) 104 #[x.val, (.agg ⟨target.cs⟩), (.func (.func 105) #[] #[])] w K :=
  calls_of Pr_plain Pr_mixed Pr_func104 slices_BinarySearchFunc_api_Pair_api_Pair_api_Pair_set_ann (rT2 (rI .i64) rB) (args := [x.val, (.agg ⟨target.cs⟩), (.func (.func 105) #[] #[])]) (by kernel_rfl) h

/- changeover/runes.all -/
def runes_all_Plain (s : List UInt8) (K : Bool → World → Prop) (w : World) : Prop :=
  opTy Pr (Instr.range 9 (sval s)) pav (fun t1 w2 =>
  loop0 (fun k3 w4 =>
  opAl Pr (Instr.next (.pointer (some t1)) true 0) (nxval (Value.int .i64) (Value.int .i32)) endval (fun t5 w6 =>
  callV Pr Value.bool 86 #[(.int .i32 t5.2)] w6 fun t7 w8 =>
  ifB (!t7)
  (K false w8)
  (k3 w8)) (fun _ w9 =>
  K true w9) w4) w2) w
def runes_all_Plain_ann : Ann := (.s .d (.s (.s (.r [(1, .ty rPA)]) (.b (.l [] (.s (.r [(0, .alt (rNx (rI .i64) (rI .i32)) rEnd)]) (.s (.c .d .d) (.b (.s .d (.s (.r [(2, .call rB)]) (.c (.s .d .d) .d))))))))) (.s .d .d)))
theorem runes_all_Plain_calls {s : List UInt8} {K : Bool → World → Prop} {w : World} (h : runes_all_Plain s K w) : callV Pr Value.bool 85 #[(sval s), (.func (.func 86) #[] #[])] w K :=
  calls_of Pr_plain Pr_mixed Pr_func85 runes_all_Plain_ann rB (args := [(sval s), (.func (.func 86) #[] #[])]) (by kernel_rfl) h

/- changeover/runes.all -/
def runes_all_Val (s : List UInt8) (K : Bool → World → Prop) (w : World) : Prop :=
  opTy Pr (Instr.range 9 (sval s)) pav (fun t1 w2 =>
  loop0 (fun k3 w4 =>
  opAl Pr (Instr.next (.pointer (some t1)) true 0) (nxval (Value.int .i64) (Value.int .i32)) endval (fun t5 w6 =>
  callV Pr Value.bool 87 #[(.int .i32 t5.2)] w6 fun t7 w8 =>
  ifB (!t7)
  (K false w8)
  (k3 w8)) (fun _ w9 =>
  K true w9) w4) w2) w
def runes_all_Val_ann : Ann := (.s .d (.s (.s (.r [(1, .ty rPA)]) (.b (.l [] (.s (.r [(0, .alt (rNx (rI .i64) (rI .i32)) rEnd)]) (.s (.c .d .d) (.b (.s .d (.s (.r [(2, .call rB)]) (.c (.s .d .d) .d))))))))) (.s .d .d)))
theorem runes_all_Val_calls {s : List UInt8} {K : Bool → World → Prop} {w : World} (h : runes_all_Val s K w) : callV Pr Value.bool 85 #[(sval s), (.func (.func 87) #[] #[])] w K :=
  calls_of Pr_plain Pr_mixed Pr_func85 runes_all_Val_ann rB (args := [(sval s), (.func (.func 87) #[] #[])]) (by kernel_rfl) h

/- slices.IndexFunc[[]changeover/api.Session,changeover/api.Session] -/
def slices_IndexFunc_api_Session_api_Session_Check (s : Sl) (K : Int → World → Prop) (w : World) : Prop :=
  loop1 (0 : Int) (fun t1 k2 w3 =>
  ifB (decide (t1 < (s.len : Int)))
  (opRd Pr (Instr.indexAt 23 s.val (.int .i64 t1)) pav (fun t4 =>
  opRd Pr (Instr.loadAt 63 (.pointer (some t4))) ApiSession.val (fun t5 =>
  callV Pr Value.bool 48 #[(.agg ⟨t5.cs⟩)] w3 fun t6 w7 =>
  ifB t6
  (K t1 w7)
  (k2 (i64 (t1 + 1)) w7)) w3) w3)
  (K (-1) w3)) w
def slices_IndexFunc_api_Session_api_Session_Check_ann : Ann := (.s .d (.s (.s .d (.b (.l [(.s 8, (rI .i64))] (.s .d (.s (.c .d .d) (.s (.b (.s .d (.s (.r [(3, .rd rPA), (4, .rd rApiSession), (5, .call rB)]) (.c (.s .d .d) .d)))) .d)))))) (.s .d .d)))
theorem slices_IndexFunc_api_Session_api_Session_Check_calls {s : Sl} {K : Int → World → Prop} {w : World} (h : slices_IndexFunc_api_Session_api_Session_Check s K w) : callV Pr (Value.int .i64) 72 #[s.val, (.func (.func 48) #[] #[])] w K :=
  calls_of Pr_plain Pr_mixed Pr_func72 slices_IndexFunc_api_Session_api_Session_Check_ann (rI .i64) (args := [s.val, (.func (.func 48) #[] #[])]) (by kernel_rfl) h

/- slices.IndexFunc[[]changeover/api.Pair,changeover/api.Pair] -/
def slices_IndexFunc_api_Pair_api_Pair_Check (s : Sl) (K : Int → World → Prop) (w : World) : Prop :=
  loop1 (0 : Int) (fun t1 k2 w3 =>
  ifB (decide (t1 < (s.len : Int)))
  (opRd Pr (Instr.indexAt 22 s.val (.int .i64 t1)) pav (fun t4 =>
  opRd Pr (Instr.loadAt 54 (.pointer (some t4))) ApiPair.val (fun t5 =>
  callV Pr Value.bool 70 #[(.agg ⟨t5.cs⟩)] w3 fun t6 w7 =>
  ifB t6
  (K t1 w7)
  (k2 (i64 (t1 + 1)) w7)) w3) w3)
  (K (-1) w3)) w
def slices_IndexFunc_api_Pair_api_Pair_Check_ann : Ann := (.s .d (.s (.s .d (.b (.l [(.s 8, (rI .i64))] (.s .d (.s (.c .d .d) (.s (.b (.s .d (.s (.r [(3, .rd rPA), (4, .rd rApiPair), (5, .call rB)]) (.c (.s .d .d) .d)))) .d)))))) (.s .d .d)))
theorem slices_IndexFunc_api_Pair_api_Pair_Check_calls {s : Sl} {K : Int → World → Prop} {w : World} (h : slices_IndexFunc_api_Pair_api_Pair_Check s K w) : callV Pr (Value.int .i64) 94 #[s.val, (.func (.func 70) #[] #[])] w K :=
  calls_of Pr_plain Pr_mixed Pr_func94 slices_IndexFunc_api_Pair_api_Pair_Check_ann (rI .i64) (args := [s.val, (.func (.func 70) #[] #[])]) (by kernel_rfl) h

end Go.Chg
