/-
  Functions of the program, told by a program of ours (gen.py), each held by the kernel to what is to be shown of its code.
-/
import Derived.Test.YtlapfdcocakloaaDoorTy
set_option maxRecDepth 100000
set_option linter.unusedVariables false
namespace Go.Chg
open Go.Vc

/- changeover/changeoverlaw31.AcceptorAnswers -/
def law31_AcceptorAnswers (h_ : ApiHard) (commit : Int) (m : ApiMsg) (K : Bool → World → Prop) (w : World) : Prop :=
  newV (fun b1 w2 =>
  newV (fun b3 w4 =>
  callV Pr Value.bool 13 #[(.agg ⟨[(.int .i64 h_.Promised.Round), (.int .i64 h_.Promised.Node), (.int .i64 h_.Base), h_.Image.val, h_.Accepted.val, h_.Chosen.val]⟩)] w4 fun t5 w6 =>
  kp b3 w4 w6 <|
  kp b1 w4 w6 <|
  ifB t5
  (callV Pr Value.bool 15 #[] w6 fun t7 w8 =>
  kp b3 w6 w8 <|
  kp b1 w6 w8 <|
  K t7 w8)
  (callV Pr Value.bool 14 #[(.agg ⟨[(.int .i64 m.Kind), (.int .i64 m.From), (.int .i64 m.To), (.int .i64 m.Ballot.Round), (.int .i64 m.Ballot.Node), (.int .i64 m.Index), (.int .i64 m.Commit), (.int .i64 m.Version), m.Entries.val, m.Image.val]⟩)] w6 fun t9 w10 =>
  kp b3 w6 w10 <|
  kp b1 w6 w10 <|
  ifB t9
  (callV Pr Value.bool 15 #[] w10 fun t11 w12 =>
  kp b3 w10 w12 <|
  kp b1 w10 w12 <|
  K t11 w12)
  (callV Pr (tval3 Sl.val ApiMsg.val (Value.int .i64)) 16 #[(.agg ⟨[(.int .i64 h_.Promised.Round), (.int .i64 h_.Promised.Node), (.int .i64 h_.Base), h_.Image.val, h_.Accepted.val, h_.Chosen.val]⟩), (.int .i64 commit), (.agg ⟨[(.int .i64 m.Kind), (.int .i64 m.From), (.int .i64 m.To), (.int .i64 m.Ballot.Round), (.int .i64 m.Ballot.Node), (.int .i64 m.Index), (.int .i64 m.Commit), (.int .i64 m.Version), m.Entries.val, m.Image.val]⟩)] w10 fun t13 w14 =>
  kp b3 w10 w14 <|
  kp b1 w10 w14 <|
  newV (fun b15 w16 =>
  wrM b15 (fun w17 =>
  join1 (fun (j18 : Int → World → Prop) =>
  ifB (m.Kind == 5)
  (j18 5 w17)
  (j18 3 w17))
  (fun kind19 w20 =>
  callV Pr (Value.int .i64) 17 #[(.agg ⟨[(.int .i64 h_.Promised.Round), (.int .i64 h_.Promised.Node), (.int .i64 h_.Base), h_.Image.val, h_.Accepted.val, h_.Chosen.val]⟩), (.int .i64 commit), (.agg ⟨[(.int .i64 m.Kind), (.int .i64 m.From), (.int .i64 m.To), (.int .i64 m.Ballot.Round), (.int .i64 m.Ballot.Node), (.int .i64 m.Index), (.int .i64 m.Commit), (.int .i64 m.Version), m.Entries.val, m.Image.val]⟩), (.int .i64 kind19)] w20 fun want21 w22 =>
  kp b15 w20 w22 <|
  kp b3 w20 w22 <|
  kp b1 w20 w22 <|
  ifB (want21 != 0)
  (ifB (t13.2.2 == want21)
  (ifB ((t13.1.len : Int) == 0)
  (callV Pr Value.bool 18 #[(.agg ⟨[(.int .i64 t13.2.1.Kind), (.int .i64 t13.2.1.From), (.int .i64 t13.2.1.To), (.int .i64 t13.2.1.Ballot.Round), (.int .i64 t13.2.1.Ballot.Node), (.int .i64 t13.2.1.Index), (.int .i64 t13.2.1.Commit), (.int .i64 t13.2.1.Version), t13.2.1.Entries.val, t13.2.1.Image.val]⟩), (.agg ⟨[(.int .i64 0), (.int .i64 0), (.int .i64 0), (.int .i64 0), (.int .i64 0), (.int .i64 0), (.int .i64 0), (.int .i64 0), Sl.nil.val, Sl.nil.val]⟩)] w22 fun t23 w24 =>
  kp b15 w22 w24 <|
  kp b3 w22 w24 <|
  kp b1 w22 w24 <|
  ifB t23
  (callV Pr Value.bool 15 #[] w24 fun t25 w26 =>
  kp b15 w24 w26 <|
  kp b3 w24 w26 <|
  kp b1 w24 w26 <|
  K t25 w26)
  (K false w24))
  (K false w22))
  (K false w22))
  (callV Pr (tval2 ApiRecord.val ApiMsg.val) 19 #[(.agg ⟨[(.int .i64 h_.Promised.Round), (.int .i64 h_.Promised.Node), (.int .i64 h_.Base), h_.Image.val, h_.Accepted.val, h_.Chosen.val]⟩), (.int .i64 commit), (.agg ⟨[(.int .i64 m.Kind), (.int .i64 m.From), (.int .i64 m.To), (.int .i64 m.Ballot.Round), (.int .i64 m.Ballot.Node), (.int .i64 m.Index), (.int .i64 m.Commit), (.int .i64 m.Version), m.Entries.val, m.Image.val]⟩)] w22 fun t27 w28 =>
  kp b15 w22 w28 <|
  kp b3 w22 w28 <|
  kp b1 w22 w28 <|
  newV (fun b29 w30 =>
  newV (fun b31 w32 =>
  wrM b29 (fun w33 =>
  wrM b31 (fun w34 =>
  ifB (t13.2.2 != 0)
  (K false w34)
  (callV Pr Value.bool 18 #[(.agg ⟨[(.int .i64 t13.2.1.Kind), (.int .i64 t13.2.1.From), (.int .i64 t13.2.1.To), (.int .i64 t13.2.1.Ballot.Round), (.int .i64 t13.2.1.Ballot.Node), (.int .i64 t13.2.1.Index), (.int .i64 t13.2.1.Commit), (.int .i64 t13.2.1.Version), t13.2.1.Entries.val, t13.2.1.Image.val]⟩), (.agg ⟨[(.int .i64 t27.2.Kind), (.int .i64 t27.2.From), (.int .i64 t27.2.To), (.int .i64 t27.2.Ballot.Round), (.int .i64 t27.2.Ballot.Node), (.int .i64 t27.2.Index), (.int .i64 t27.2.Commit), (.int .i64 t27.2.Version), t27.2.Entries.val, t27.2.Image.val]⟩)] w34 fun t35 w36 =>
  kp b31 w34 w36 <|
  kp b29 w34 w36 <|
  kp b15 w34 w36 <|
  kp b3 w34 w36 <|
  kp b1 w34 w36 <|
  ifB (!t35)
  (K false w36)
  (ifB (t27.1.Kind == 0)
  (ifB ((t13.1.len : Int) == 0)
  (callV Pr Value.bool 15 #[] w36 fun t37 w38 =>
  kp b31 w36 w38 <|
  kp b29 w36 w38 <|
  kp b15 w36 w38 <|
  kp b3 w36 w38 <|
  kp b1 w36 w38 <|
  K t37 w38)
  (K false w36))
  (heldM (fun S40 w39 =>
  ifB ((t13.1.len : Int) == 1)
  (opH Pr S40 (Instr.indexAt 33 t13.1.val (.int .i64 0)) pav (fun t41 =>
  opH Pr S40 (Instr.loadAt 42 (.pointer (some t41))) ApiRecord.val (fun t42 =>
  callV Pr Value.bool 20 #[(.agg ⟨t42.cs⟩), (.agg ⟨[(.int .i64 t27.1.Kind), (.int .i64 t27.1.Ballot.Round), (.int .i64 t27.1.Ballot.Node), (.int .i64 t27.1.Index), (.int .i64 t27.1.Cmd.Kind), (.int .i64 t27.1.Cmd.Client), (.int .i64 t27.1.Cmd.Seq), (sval t27.1.Cmd.Key), (sval t27.1.Cmd.Val), (sval t27.1.Cmd.Old), (.int .i64 t27.1.Cmd.Node), t27.1.Image.val]⟩)] w39 fun t43 w44 =>
  kp b31 w39 w44 <|
  kp b29 w39 w44 <|
  kp b15 w39 w44 <|
  kp b3 w39 w44 <|
  kp b1 w39 w44 <|
  (S40 w44) ∧
  (ifB t43
  (callV Pr Value.bool 15 #[] w44 fun t45 w46 =>
  kp b31 w44 w46 <|
  kp b29 w44 w46 <|
  kp b15 w44 w46 <|
  kp b3 w44 w46 <|
  kp b1 w44 w46 <|
  (S40 w46) ∧
  (K t45 w46))
  (K false w44)))))
  (K false w39)) w36)))) w33) w32) w30) w28))) w16) w14))) w2) w
def law31_AcceptorAnswers_ann : Ann := (.s (.r [(0, .nl 3), (1, .nl 5)]) (.s (.s (.r [(1, .call rB), (4, .call rB)]) (.c (.s (.r [(0, .call rB)]) .d) .d)) (.s (.r [(3, .call (rT3 rSl rApiMsg (rI .i64))), (8, .nl 8), (10, .ls 8)]) (.s .d (.sj [(.s 10, (rI .i64))] (.s .d (.c .d .d)) (.s (.s (.r [(4, .call (rI .i64))]) (.s .d (.c (.s (.r [(11, .call rB), (14, .call rB)]) .d) .d))) (.s (.r [(3, .call (rT2 rApiRecord rApiMsg)), (7, .nl 12), (8, .nl 13), (9, .ls 12), (10, .ls 13)]) (.s (.s (.r [(5, .call rB)]) (.c (.s .d .d) .d)) (.s (.s .d (.c (.s (.r [(4, .call rB)]) .d) .d)) (.s (.h (.take 0 (.take 1 (.take 2 (.take 3 (.take 4 (.take 5 (.take 6 (.take 7 (.one 8 (.take 9 (.take 10 (.one 11 (.take 12 (.take 13 .done)))))))))))))) [(5, .rd rPA), (6, .rd rApiRecord), (8, .call rB), (11, .call rB)]) .d))))))))))
theorem law31_AcceptorAnswers_calls {h_ : ApiHard} {commit : Int} {m : ApiMsg} {K : Bool → World → Prop} {w : World} (h : law31_AcceptorAnswers h_ commit m K w) : callV Pr Value.bool 3 #[(.agg ⟨h_.cs⟩), (.int .i64 commit), (.agg ⟨m.cs⟩)] w K :=
  calls_of Pr_plain Pr_mixed Pr_func3 law31_AcceptorAnswers_ann rB (args := [(.agg ⟨h_.cs⟩), (.int .i64 commit), (.agg ⟨m.cs⟩)]) (by kernel_rfl) h

/- changeover/changeoverlaw31.AcceptorKeeps -/
def law31_AcceptorKeeps (h_ : ApiHard) (a : ApiMsg) (b : ApiMsg) (K : Bool → World → Prop) (w : World) : Prop :=
  newV (fun b1 w2 =>
  newV (fun b3 w4 =>
  newV (fun b5 w6 =>
  callV Pr Value.bool 13 #[(.agg ⟨[(.int .i64 h_.Promised.Round), (.int .i64 h_.Promised.Node), (.int .i64 h_.Base), h_.Image.val, h_.Accepted.val, h_.Chosen.val]⟩)] w6 fun t7 w8 =>
  kp b5 w6 w8 <|
  kp b3 w6 w8 <|
  kp b1 w6 w8 <|
  ifB t7
  (callV Pr Value.bool 15 #[] w8 fun t9 w10 =>
  kp b5 w8 w10 <|
  kp b3 w8 w10 <|
  kp b1 w8 w10 <|
  K t9 w10)
  (callV Pr Value.bool 14 #[(.agg ⟨[(.int .i64 a.Kind), (.int .i64 a.From), (.int .i64 a.To), (.int .i64 a.Ballot.Round), (.int .i64 a.Ballot.Node), (.int .i64 a.Index), (.int .i64 a.Commit), (.int .i64 a.Version), a.Entries.val, a.Image.val]⟩)] w8 fun t11 w12 =>
  kp b5 w8 w12 <|
  kp b3 w8 w12 <|
  kp b1 w8 w12 <|
  ifB t11
  (callV Pr Value.bool 15 #[] w12 fun t13 w14 =>
  kp b5 w12 w14 <|
  kp b3 w12 w14 <|
  kp b1 w12 w14 <|
  K t13 w14)
  (callV Pr Value.bool 14 #[(.agg ⟨[(.int .i64 b.Kind), (.int .i64 b.From), (.int .i64 b.To), (.int .i64 b.Ballot.Round), (.int .i64 b.Ballot.Node), (.int .i64 b.Index), (.int .i64 b.Commit), (.int .i64 b.Version), b.Entries.val, b.Image.val]⟩)] w12 fun t15 w16 =>
  kp b5 w12 w16 <|
  kp b3 w12 w16 <|
  kp b1 w12 w16 <|
  ifB t15
  (callV Pr Value.bool 15 #[] w16 fun t17 w18 =>
  kp b5 w16 w18 <|
  kp b3 w16 w18 <|
  kp b1 w16 w18 <|
  K t17 w18)
  (callV Pr Value.bool 21 #[(.agg ⟨[(.int .i64 h_.Promised.Round), (.int .i64 h_.Promised.Node), (.int .i64 h_.Base), h_.Image.val, h_.Accepted.val, h_.Chosen.val]⟩)] w16 fun t19 w20 =>
  kp b5 w16 w20 <|
  kp b3 w16 w20 <|
  kp b1 w16 w20 <|
  ifB (!t19)
  (callV Pr Value.bool 15 #[] w20 fun t21 w22 =>
  kp b5 w20 w22 <|
  kp b3 w20 w22 <|
  kp b1 w20 w22 <|
  K t21 w22)
  (callV Pr (tval3 Sl.val ApiMsg.val (Value.int .i64)) 16 #[(.agg ⟨[(.int .i64 h_.Promised.Round), (.int .i64 h_.Promised.Node), (.int .i64 h_.Base), h_.Image.val, h_.Accepted.val, h_.Chosen.val]⟩), (.int .i64 h_.Base), (.agg ⟨[(.int .i64 a.Kind), (.int .i64 a.From), (.int .i64 a.To), (.int .i64 a.Ballot.Round), (.int .i64 a.Ballot.Node), (.int .i64 a.Index), (.int .i64 a.Commit), (.int .i64 a.Version), a.Entries.val, a.Image.val]⟩)] w20 fun t23 w24 =>
  kp b5 w20 w24 <|
  kp b3 w20 w24 <|
  kp b1 w20 w24 <|
  newV (fun b25 w26 =>
  wrM b25 (fun w27 =>
  ifB (t23.2.2 != 0)
  (callV Pr Value.bool 15 #[] w27 fun t28 w29 =>
  kp b25 w27 w29 <|
  kp b5 w27 w29 <|
  kp b3 w27 w29 <|
  kp b1 w27 w29 <|
  K t28 w29)
  (newV (fun b30 w31 =>
  wrM b30 (fun w32 =>
  loop2 (0 : Int) (h_ : ApiHard) (fun i33 next34 k35 w36 =>
  ifB (decide (i33 < (t23.1.len : Int)))
  (heldM (fun S38 w37 =>
  opH Pr S38 (Instr.indexAt 33 t23.1.val (.int .i64 i33)) pav (fun t39 =>
  opH Pr S38 (Instr.loadAt 42 (.pointer (some t39))) ApiRecord.val (fun t40 =>
  (S38 w37) ∧
  (callV Pr ApiHard.val 22 #[(.agg ⟨[(.int .i64 next34.Promised.Round), (.int .i64 next34.Promised.Node), (.int .i64 next34.Base), next34.Image.val, next34.Accepted.val, next34.Chosen.val]⟩), (.agg ⟨t40.cs⟩)] w37 fun t41 w42 =>
  kp b30 w37 w42 <|
  kp b25 w37 w42 <|
  kp b5 w37 w42 <|
  kp b3 w37 w42 <|
  kp b1 w37 w42 <|
  (S38 w42) ∧
  (wrM b30 (fun w43 =>
  (S38 w43) ∧
  (k35 (i64 (i33 + 1)) t41 w43)) w42))))) w36)
  (callV Pr Value.bool 23 #[(.agg ⟨[(.int .i64 next34.Promised.Round), (.int .i64 next34.Promised.Node)]⟩), (.agg ⟨[(.int .i64 h_.Promised.Round), (.int .i64 h_.Promised.Node)]⟩)] w36 fun t44 w45 =>
  kp b30 w36 w45 <|
  kp b25 w36 w45 <|
  kp b5 w36 w45 <|
  kp b3 w36 w45 <|
  kp b1 w36 w45 <|
  ifB t44
  (K false w45)
  (callV Pr Value.bool 21 #[(.agg ⟨[(.int .i64 next34.Promised.Round), (.int .i64 next34.Promised.Node), (.int .i64 next34.Base), next34.Image.val, next34.Accepted.val, next34.Chosen.val]⟩)] w45 fun t46 w47 =>
  kp b30 w45 w47 <|
  kp b25 w45 w47 <|
  kp b5 w45 w47 <|
  kp b3 w45 w47 <|
  kp b1 w45 w47 <|
  ifB (!t46)
  (K false w47)
  (callV Pr (tval3 Sl.val ApiMsg.val (Value.int .i64)) 16 #[(.agg ⟨[(.int .i64 next34.Promised.Round), (.int .i64 next34.Promised.Node), (.int .i64 next34.Base), next34.Image.val, next34.Accepted.val, next34.Chosen.val]⟩), (.int .i64 h_.Base), (.agg ⟨[(.int .i64 b.Kind), (.int .i64 b.From), (.int .i64 b.To), (.int .i64 b.Ballot.Round), (.int .i64 b.Ballot.Node), (.int .i64 b.Index), (.int .i64 b.Commit), (.int .i64 b.Version), b.Entries.val, b.Image.val]⟩)] w47 fun t48 w49 =>
  kp b30 w47 w49 <|
  kp b25 w47 w49 <|
  kp b5 w47 w49 <|
  kp b3 w47 w49 <|
  kp b1 w47 w49 <|
  newV (fun b50 w51 =>
  wrM b50 (fun w52 =>
  ifB (t48.2.2 != 0)
  (callV Pr Value.bool 15 #[] w52 fun t53 w54 =>
  kp b50 w52 w54 <|
  kp b30 w52 w54 <|
  kp b25 w52 w54 <|
  kp b5 w52 w54 <|
  kp b3 w52 w54 <|
  kp b1 w52 w54 <|
  K t53 w54)
  (ifB (t23.2.1.Kind == 7)
  (callV Pr Value.bool 15 #[] w52 fun t55 w56 =>
  kp b50 w52 w56 <|
  kp b30 w52 w56 <|
  kp b25 w52 w56 <|
  kp b5 w52 w56 <|
  kp b3 w52 w56 <|
  kp b1 w52 w56 <|
  K t55 w56)
  (heldM (fun S58 w57 =>
  callV Pr Value.bool 23 #[(.agg ⟨[(.int .i64 b.Ballot.Round), (.int .i64 b.Ballot.Node)]⟩), (.agg ⟨[(.int .i64 next34.Promised.Round), (.int .i64 next34.Promised.Node)]⟩)] w57 fun t59 w60 =>
  kp b50 w57 w60 <|
  kp b30 w57 w60 <|
  kp b25 w57 w60 <|
  kp b5 w57 w60 <|
  kp b3 w57 w60 <|
  kp b1 w57 w60 <|
  (S58 w60) ∧
  (ifB ((t48.2.1.Kind == 7) == t59)
  (callV Pr Value.bool 23 #[(.agg ⟨[(.int .i64 b.Ballot.Round), (.int .i64 b.Ballot.Node)]⟩), (.agg ⟨[(.int .i64 a.Ballot.Round), (.int .i64 a.Ballot.Node)]⟩)] w60 fun t61 w62 =>
  kp b50 w60 w62 <|
  kp b30 w60 w62 <|
  kp b25 w60 w62 <|
  kp b5 w60 w62 <|
  kp b3 w60 w62 <|
  kp b1 w60 w62 <|
  (S58 w62) ∧
  (ifB (!t61)
  (callV Pr Value.bool 15 #[] w62 fun t63 w64 =>
  kp b50 w62 w64 <|
  kp b30 w62 w64 <|
  kp b25 w62 w64 <|
  kp b5 w62 w64 <|
  kp b3 w62 w64 <|
  kp b1 w62 w64 <|
  (S58 w64) ∧
  (K t63 w64))
  (ifB (t48.2.1.Kind == 7)
  (callV Pr Value.bool 15 #[] w62 fun t65 w66 =>
  kp b50 w62 w66 <|
  kp b30 w62 w66 <|
  kp b25 w62 w66 <|
  kp b5 w62 w66 <|
  kp b3 w62 w66 <|
  kp b1 w62 w66 <|
  (S58 w66) ∧
  (K t65 w66))
  (K false w62))))
  (K false w60))) w52))) w51) w49)))) w32) w31) w27)) w26) w24))))) w4) w2) w
def law31_AcceptorKeeps_ann : Ann := (.s (.r [(0, .nl 3), (1, .nl 4), (2, .nl 5)]) (.s (.s (.r [(1, .call rB), (4, .call rB), (8, .call rB), (12, .call rB)]) (.c (.s (.r [(0, .call rB)]) .d) .d)) (.s (.r [(4, .call (rT3 rSl rApiMsg (rI .i64))), (9, .nl 8), (11, .ls 8)]) (.s (.s .d (.c (.s (.r [(0, .call rB)]) .d) .d)) (.s (.r [(1, .nl 10), (2, .ls 10)]) (.s (.s .d (.b (.l [(.s 11, (rI .i64)), (.h 10, rApiHard)] (.s (.s .d (.c .d .d)) (.s (.b (.h (.take 1 (.take 2 (.take 3 (.take 4 (.one 0 (.one 5 (.one 6 .done))))))) [(3, .rd rPA), (4, .rd rApiRecord), (5, .call rApiHard), (6, .ls 10)])) .d))))) (.s (.s (.r [(4, .call rB), (7, .call rB)]) (.c (.s .d .d) .d)) (.s (.r [(4, .call (rT3 rSl rApiMsg (rI .i64))), (9, .nl 13), (11, .ls 13)]) (.s (.s .d (.c (.s (.r [(0, .call rB)]) .d) .d)) (.s (.h (.take 0 (.take 1 (.take 2 (.take 3 (.take 4 (.take 5 (.take 6 (.one 7 (.take 8 (.take 9 (.take 10 (.take 11 (.take 12 (.take 13 (.one 14 (.take 15 (.take 16 (.take 17 (.take 18 (.take 19 (.take 20 (.take 21 (.take 22 (.one 23 (.take 24 (.take 25 .done)))))))))))))))))))))))))) [(7, .call rB), (14, .call rB), (23, .call rB)]) .d))))))))))
theorem law31_AcceptorKeeps_calls {h_ : ApiHard} {a : ApiMsg} {b : ApiMsg} {K : Bool → World → Prop} {w : World} (h : law31_AcceptorKeeps h_ a b K w) : callV Pr Value.bool 4 #[(.agg ⟨h_.cs⟩), (.agg ⟨a.cs⟩), (.agg ⟨b.cs⟩)] w K :=
  calls_of Pr_plain Pr_mixed Pr_func4 law31_AcceptorKeeps_ann rB (args := [(.agg ⟨h_.cs⟩), (.agg ⟨a.cs⟩), (.agg ⟨b.cs⟩)]) (by kernel_rfl) h

/- changeover/changeoverlaw31.AcceptorTells -/
def law31_AcceptorTells (h_ : ApiHard) (m : ApiMsg) (from_ : Int) (K : Bool → World → Prop) (w : World) : Prop :=
  newV (fun b1 w2 =>
  newV (fun b3 w4 =>
  callV Pr Value.bool 13 #[(.agg ⟨[(.int .i64 h_.Promised.Round), (.int .i64 h_.Promised.Node), (.int .i64 h_.Base), h_.Image.val, h_.Accepted.val, h_.Chosen.val]⟩)] w4 fun t5 w6 =>
  kp b3 w4 w6 <|
  kp b1 w4 w6 <|
  ifB t5
  (callV Pr Value.bool 15 #[] w6 fun t7 w8 =>
  kp b3 w6 w8 <|
  kp b1 w6 w8 <|
  K t7 w8)
  (callV Pr Value.bool 14 #[(.agg ⟨[(.int .i64 m.Kind), (.int .i64 m.From), (.int .i64 m.To), (.int .i64 m.Ballot.Round), (.int .i64 m.Ballot.Node), (.int .i64 m.Index), (.int .i64 m.Commit), (.int .i64 m.Version), m.Entries.val, m.Image.val]⟩)] w6 fun t9 w10 =>
  kp b3 w6 w10 <|
  kp b1 w6 w10 <|
  ifB t9
  (callV Pr Value.bool 15 #[] w10 fun t11 w12 =>
  kp b3 w10 w12 <|
  kp b1 w10 w12 <|
  K t11 w12)
  (callV Pr Value.bool 21 #[(.agg ⟨[(.int .i64 h_.Promised.Round), (.int .i64 h_.Promised.Node), (.int .i64 h_.Base), h_.Image.val, h_.Accepted.val, h_.Chosen.val]⟩)] w10 fun t13 w14 =>
  kp b3 w10 w14 <|
  kp b1 w10 w14 <|
  ifB (!t13)
  (callV Pr Value.bool 15 #[] w14 fun t15 w16 =>
  kp b3 w14 w16 <|
  kp b1 w14 w16 <|
  K t15 w16)
  (ifB (decide ((h_.Accepted.len : Int) > 30))
  (callV Pr Value.bool 15 #[] w14 fun t17 w18 =>
  kp b3 w14 w18 <|
  kp b1 w14 w18 <|
  K t17 w18)
  (ifB (m.Kind != 5)
  (callV Pr Value.bool 15 #[] w14 fun t19 w20 =>
  kp b3 w14 w20 <|
  kp b1 w14 w20 <|
  K t19 w20)
  (ifB (decide (from_ < 1))
  (callV Pr Value.bool 15 #[] w14 fun t21 w22 =>
  kp b3 w14 w22 <|
  kp b1 w14 w22 <|
  K t21 w22)
  (ifB (decide (from_ > 4294967296))
  (callV Pr Value.bool 15 #[] w14 fun t23 w24 =>
  kp b3 w14 w24 <|
  kp b1 w14 w24 <|
  K t23 w24)
  (callV Pr (tval3 Sl.val ApiMsg.val (Value.int .i64)) 24 #[(.agg ⟨[(.int .i64 h_.Promised.Round), (.int .i64 h_.Promised.Node), (.int .i64 h_.Base), h_.Image.val, h_.Accepted.val, h_.Chosen.val]⟩), (.int .i64 h_.Base), (.agg ⟨[(.int .i64 m.Kind), (.int .i64 m.From), (.int .i64 m.To), (.int .i64 m.Ballot.Round), (.int .i64 m.Ballot.Node), (.int .i64 m.Index), (.int .i64 m.Commit), (.int .i64 m.Version), m.Entries.val, m.Image.val]⟩)] w14 fun t25 w26 =>
  kp b3 w14 w26 <|
  kp b1 w14 w26 <|
  newV (fun b27 w28 =>
  wrM b27 (fun w29 =>
  ifB (t25.2.2 != 0)
  (callV Pr Value.bool 15 #[] w29 fun t30 w31 =>
  kp b27 w29 w31 <|
  kp b3 w29 w31 <|
  kp b1 w29 w31 <|
  K t30 w31)
  (ifB (t25.2.1.Kind != 6)
  (callV Pr Value.bool 15 #[] w29 fun t32 w33 =>
  kp b27 w29 w33 <|
  kp b3 w29 w33 <|
  kp b1 w29 w33 <|
  K t32 w33)
  (newV (fun b34 w35 =>
  wrM b34 (fun w36 =>
  loop2 (0 : Int) (h_ : ApiHard) (fun i37 next38 k39 w40 =>
  ifB (decide (i37 < (t25.1.len : Int)))
  (heldM (fun S42 w41 =>
  opH Pr S42 (Instr.indexAt 33 t25.1.val (.int .i64 i37)) pav (fun t43 =>
  opH Pr S42 (Instr.loadAt 42 (.pointer (some t43))) ApiRecord.val (fun t44 =>
  (S42 w41) ∧
  (callV Pr ApiHard.val 22 #[(.agg ⟨[(.int .i64 next38.Promised.Round), (.int .i64 next38.Promised.Node), (.int .i64 next38.Base), next38.Image.val, next38.Accepted.val, next38.Chosen.val]⟩), (.agg ⟨t44.cs⟩)] w41 fun t45 w46 =>
  kp b34 w41 w46 <|
  kp b27 w41 w46 <|
  kp b3 w41 w46 <|
  kp b1 w41 w46 <|
  (S42 w46) ∧
  (wrM b34 (fun w47 =>
  (S42 w47) ∧
  (k39 (i64 (i37 + 1)) t45 w47)) w46))))) w40)
  (newV (fun b48 w49 =>
  wrM b48 (fun w50 =>
  callV Pr (tval3 Sl.val ApiMsg.val (Value.int .i64)) 25 #[(.agg ⟨[(.int .i64 next38.Promised.Round), (.int .i64 next38.Promised.Node), (.int .i64 next38.Base), next38.Image.val, next38.Accepted.val, next38.Chosen.val]⟩), (.int .i64 h_.Base), (.agg ⟨[(.int .i64 3), (.int .i64 m.From), (.int .i64 m.To), (.int .i64 (i64 (next38.Promised.Round + 1))), (.int .i64 m.From), (.int .i64 from_), (.int .i64 0), (.int .i64 0), Sl.nil.val, Sl.nil.val]⟩)] w50 fun t51 w52 =>
  kp b48 w50 w52 <|
  kp b34 w50 w52 <|
  kp b27 w50 w52 <|
  kp b3 w50 w52 <|
  kp b1 w50 w52 <|
  newV (fun b53 w54 =>
  wrM b53 (fun w55 =>
  ifB (t51.2.2 != 0)
  (ifB (next38.Promised.Round == 4294967296)
  (callV Pr Value.bool 15 #[] w55 fun t56 w57 =>
  kp b53 w55 w57 <|
  kp b48 w55 w57 <|
  kp b34 w55 w57 <|
  kp b27 w55 w57 <|
  kp b3 w55 w57 <|
  kp b1 w55 w57 <|
  K t56 w57)
  (K false w55))
  (heldM (fun S59 w58 =>
  callV Pr Sl.val 27 #[(.agg ⟨[(.int .i64 next38.Promised.Round), (.int .i64 next38.Promised.Node), (.int .i64 next38.Base), next38.Image.val, next38.Accepted.val, next38.Chosen.val]⟩), (.int .i64 from_), (.int .i64 h_.Base)] w58 fun t60 w61 =>
  kp b53 w58 w61 <|
  kp b48 w58 w61 <|
  kp b34 w58 w61 <|
  kp b27 w58 w61 <|
  kp b3 w58 w61 <|
  kp b1 w58 w61 <|
  (S59 w61) ∧
  (callV Pr Value.bool 26 #[t60.val, t51.2.1.Entries.val] w61 fun t62 w63 =>
  kp b53 w61 w63 <|
  kp b48 w61 w63 <|
  kp b34 w61 w63 <|
  kp b27 w61 w63 <|
  kp b3 w61 w63 <|
  kp b1 w61 w63 <|
  (S59 w63) ∧
  (ifB (!t62)
  (K false w63)
  (heldM (fun S65 w64 =>
  opH Pr S65 (Instr.indexAt 25 m.Entries.val (.int .i64 0)) pav (fun t66 =>
  opH Pr S65 (Instr.loadAt 3 (.pointer (some (t66.add 0)))) (Value.int .i64) (fun t67 =>
  callV Pr (Value.int .i64) 28 #[t51.2.1.Entries.val, (.int .i64 t67)] w64 fun at68 w69 =>
  kp b53 w64 w69 <|
  kp b48 w64 w69 <|
  kp b34 w64 w69 <|
  kp b27 w64 w69 <|
  kp b3 w64 w69 <|
  kp b1 w64 w69 <|
  (S65 w69) ∧
  (drewM (fun w70 =>
  ifB (decide (at68 ≥ 0))
  (opRd Pr (Instr.indexAt 25 t51.2.1.Entries.val (.int .i64 at68)) pav (fun t71 =>
  opRd Pr (Instr.loadAt 54 (.pointer (some t71))) ApiEntry.val (fun t72 =>
  opRd Pr (Instr.indexAt 25 m.Entries.val (.int .i64 0)) pav (fun t73 =>
  opRd Pr (Instr.loadAt 54 (.pointer (some t73))) ApiEntry.val (fun t74 =>
  opRd Pr (binSem .eql 54 (.tmp 134) (.tmp 138) (.agg ⟨t72.cs⟩) (.agg ⟨t74.cs⟩)) Value.bool (fun t75 =>
  heldM (fun S77 w76 =>
  ifB (t51.2.1.Kind == 4)
  (opH Pr S77 (Instr.indexAt 25 m.Entries.val (.int .i64 0)) pav (fun t78 =>
  opH Pr S77 (Instr.loadAt 3 (.pointer (some (t78.add 0)))) (Value.int .i64) (fun t79 =>
  ifB (decide (t79 ≥ from_))
  (opH Pr S77 (Instr.indexAt 25 m.Entries.val (.int .i64 0)) pav (fun t80 =>
  opH Pr S77 (Instr.loadAt 3 (.pointer (some (t80.add 0)))) (Value.int .i64) (fun t81 =>
  ifB (t75 == (decide (t81 > h_.Base)))
  (callV Pr Value.bool 15 #[] w76 fun t82 w83 =>
  kp b53 w76 w83 <|
  kp b48 w76 w83 <|
  kp b34 w76 w83 <|
  kp b27 w76 w83 <|
  kp b3 w76 w83 <|
  kp b1 w76 w83 <|
  (S77 w83) ∧
  (K t82 w83))
  (K false w76))))
  (ifB (t75 == false)
  (callV Pr Value.bool 15 #[] w76 fun t84 w85 =>
  kp b53 w76 w85 <|
  kp b48 w76 w85 <|
  kp b34 w76 w85 <|
  kp b27 w76 w85 <|
  kp b3 w76 w85 <|
  kp b1 w76 w85 <|
  (S77 w85) ∧
  (K t84 w85))
  (K false w76)))))
  (K false w76)) w70) w70) w70) w70) w70) w70)
  (heldM (fun S87 w86 =>
  ifB (t51.2.1.Kind == 4)
  (opH Pr S87 (Instr.indexAt 25 m.Entries.val (.int .i64 0)) pav (fun t88 =>
  opH Pr S87 (Instr.loadAt 3 (.pointer (some (t88.add 0)))) (Value.int .i64) (fun t89 =>
  ifB (decide (t89 ≥ from_))
  (opH Pr S87 (Instr.indexAt 25 m.Entries.val (.int .i64 0)) pav (fun t90 =>
  opH Pr S87 (Instr.loadAt 3 (.pointer (some (t90.add 0)))) (Value.int .i64) (fun t91 =>
  ifB (false == (decide (t91 > h_.Base)))
  (callV Pr Value.bool 15 #[] w86 fun t92 w93 =>
  kp b53 w86 w93 <|
  kp b48 w86 w93 <|
  kp b34 w86 w93 <|
  kp b27 w86 w93 <|
  kp b3 w86 w93 <|
  kp b1 w86 w93 <|
  (S87 w93) ∧
  (K t92 w93))
  (K false w86))))
  (ifB (false == false)
  (callV Pr Value.bool 15 #[] w86 fun t94 w95 =>
  kp b53 w86 w95 <|
  kp b48 w86 w95 <|
  kp b34 w86 w95 <|
  kp b27 w86 w95 <|
  kp b3 w86 w95 <|
  kp b1 w86 w95 <|
  (S87 w95) ∧
  (K t94 w95))
  (K false w86)))))
  (K false w86)) w70)) w69)))) w63)))) w55)) w54) w52) w49) w40)) w36) w35) w29))) w28) w26)))))))) w2) w
def law31_AcceptorTells_ann : Ann := (.s (.r [(0, .nl 3), (1, .nl 4)]) (.s (.s (.r [(1, .call rB), (4, .call rB), (8, .call rB)]) (.c (.s (.r [(0, .call rB)]) .d) .d)) (.s (.r [(4, .call (rT3 rSl rApiMsg (rI .i64))), (9, .nl 8), (11, .ls 8)]) (.s (.s .d (.c (.s (.r [(0, .call rB)]) .d) .d)) (.s (.r [(1, .nl 10), (2, .ls 10)]) (.s (.s .d (.b (.l [(.s 11, (rI .i64)), (.h 10, rApiHard)] (.s (.s .d (.c .d .d)) (.s (.b (.h (.take 1 (.take 2 (.take 3 (.take 4 (.one 0 (.one 5 (.one 6 .done))))))) [(3, .rd rPA), (4, .rd rApiRecord), (5, .call rApiHard), (6, .ls 10)])) .d))))) (.s (.r [(13, .nl 12), (14, .ls 12)]) (.s (.r [(4, .call (rT3 rSl rApiMsg (rI .i64))), (9, .nl 14), (11, .ls 14)]) (.s (.s .d (.c (.s (.r [(5, .call rB)]) .d) .d)) (.s (.s (.h (.take 0 (.take 1 (.take 2 (.take 3 (.take 5 (.take 6 (.one 4 (.one 7 (.take 8 .done))))))))) [(4, .call rSl), (7, .call rB)]) (.c (.s .d .d) .d)) (.s (.h (.take 0 (.take 1 (.take 2 (.take 3 (.take 4 (.take 5 (.take 6 (.one 7 (.take 8 .done))))))))) [(4, .rd rPA), (6, .rd (rI .i64)), (7, .call (rI .i64))]) (.s (.r [(6, .rd rPA), (7, .rd rApiEntry), (10, .rd rPA), (11, .rd rApiEntry), (12, .rd rB)]) (.s (.h (.take 0 (.take 1 (.take 2 (.take 3 (.take 4 (.take 5 (.take 6 (.take 7 (.take 8 (.take 9 (.take 10 (.take 11 (.take 12 (.take 13 (.take 14 (.take 15 (.take 16 (.take 17 (.take 18 (.take 19 (.take 20 (.take 21 (.take 22 (.take 23 (.take 24 (.one 25 (.take 26 (.take 27 .done)))))))))))))))))))))))))))) [(7, .rd rPA), (9, .rd (rI .i64)), (15, .rd rPA), (17, .rd (rI .i64)), (25, .call rB)]) .d)))))))))))))
theorem law31_AcceptorTells_calls {h_ : ApiHard} {m : ApiMsg} {from_ : Int} {K : Bool → World → Prop} {w : World} (h : law31_AcceptorTells h_ m from_ K w) : callV Pr Value.bool 5 #[(.agg ⟨h_.cs⟩), (.agg ⟨m.cs⟩), (.int .i64 from_)] w K :=
  calls_of Pr_plain Pr_mixed Pr_func5 law31_AcceptorTells_ann rB (args := [(.agg ⟨h_.cs⟩), (.agg ⟨m.cs⟩), (.int .i64 from_)]) (by kernel_rfl) h

/- changeover/changeoverlaw14.MsgtwoEncodes -/
def law14_MsgtwoEncodes (m : ApiMsg) (K : Bool → World → Prop) (w : World) : Prop :=
  newV (fun b1 w2 =>
  callV Pr Value.bool 14 #[(.agg ⟨[(.int .i64 m.Kind), (.int .i64 m.From), (.int .i64 m.To), (.int .i64 m.Ballot.Round), (.int .i64 m.Ballot.Node), (.int .i64 m.Index), (.int .i64 m.Commit), (.int .i64 m.Version), m.Entries.val, m.Image.val]⟩)] w2 fun t3 w4 =>
  kp b1 w2 w4 <|
  ifB t3
  (callV Pr Value.bool 29 #[] w4 fun t5 w6 =>
  kp b1 w4 w6 <|
  K t5 w6)
  (callV Pr (tval2 Sl.val (Value.int .i64)) 30 #[(.agg ⟨[(.int .i64 m.Kind), (.int .i64 m.From), (.int .i64 m.To), (.int .i64 m.Ballot.Round), (.int .i64 m.Ballot.Node), (.int .i64 m.Index), (.int .i64 m.Commit), (.int .i64 m.Version), m.Entries.val, m.Image.val]⟩)] w4 fun t7 w8 =>
  kp b1 w4 w8 <|
  callV Pr (Value.int .i64) 31 #[(.agg ⟨[(.int .i64 m.Kind), (.int .i64 m.From), (.int .i64 m.To), (.int .i64 m.Ballot.Round), (.int .i64 m.Ballot.Node), (.int .i64 m.Index), (.int .i64 m.Commit), (.int .i64 m.Version), m.Entries.val, m.Image.val]⟩)] w8 fun want9 w10 =>
  kp b1 w8 w10 <|
  ifB (want9 != 0)
  (ifB ((t7.1.len : Int) == 0)
  (ifB (t7.2 == want9)
  (callV Pr Value.bool 29 #[] w10 fun t11 w12 =>
  kp b1 w10 w12 <|
  K t11 w12)
  (K false w10))
  (K false w10))
  (callV Pr (tval2 ApiMsg.val (Value.int .i64)) 32 #[t7.1.val] w10 fun t13 w14 =>
  kp b1 w10 w14 <|
  newV (fun b15 w16 =>
  wrM b15 (fun w17 =>
  ifB (t7.2 == 0)
  (callV Pr Sl.val 34 #[(.agg ⟨[(.int .i64 m.Kind), (.int .i64 m.From), (.int .i64 m.To), (.int .i64 m.Ballot.Round), (.int .i64 m.Ballot.Node), (.int .i64 m.Index), (.int .i64 m.Commit), (.int .i64 m.Version), m.Entries.val, m.Image.val]⟩)] w17 fun t18 w19 =>
  kp b15 w17 w19 <|
  kp b1 w17 w19 <|
  callV Pr Value.bool 33 #[t7.1.val, t18.val] w19 fun t20 w21 =>
  kp b15 w19 w21 <|
  kp b1 w19 w21 <|
  ifB t20
  (callV Pr Value.bool 18 #[(.agg ⟨[(.int .i64 t13.1.Kind), (.int .i64 t13.1.From), (.int .i64 t13.1.To), (.int .i64 t13.1.Ballot.Round), (.int .i64 t13.1.Ballot.Node), (.int .i64 t13.1.Index), (.int .i64 t13.1.Commit), (.int .i64 t13.1.Version), t13.1.Entries.val, t13.1.Image.val]⟩), (.agg ⟨[(.int .i64 m.Kind), (.int .i64 m.From), (.int .i64 m.To), (.int .i64 m.Ballot.Round), (.int .i64 m.Ballot.Node), (.int .i64 m.Index), (.int .i64 m.Commit), (.int .i64 m.Version), m.Entries.val, m.Image.val]⟩)] w21 fun t22 w23 =>
  kp b15 w21 w23 <|
  kp b1 w21 w23 <|
  ifB t22
  (ifB (t13.2 == 0)
  (callV Pr Value.bool 29 #[] w23 fun t24 w25 =>
  kp b15 w23 w25 <|
  kp b1 w23 w25 <|
  K t24 w25)
  (K false w23))
  (K false w23))
  (K false w21))
  (K false w17)) w16) w14))) w
def law14_MsgtwoEncodes_ann : Ann := (.s (.r [(0, .nl 1)]) (.s (.s (.r [(1, .call rB)]) (.c (.s (.r [(0, .call rB)]) .d) .d)) (.s (.r [(1, .call (rT2 rSl (rI .i64)))]) (.s (.r [(1, .call (rI .i64))]) (.s (.s .d (.c (.s (.r [(9, .call rB)]) .d) .d)) (.s (.r [(1, .call (rT2 rApiMsg (rI .i64))), (5, .nl 6), (6, .ls 6)]) (.s (.r [(5, .call rSl), (6, .call rB), (11, .call rB), (18, .call rB)]) .d)))))))
theorem law14_MsgtwoEncodes_calls {m : ApiMsg} {K : Bool → World → Prop} {w : World} (h : law14_MsgtwoEncodes m K w) : callV Pr Value.bool 6 #[(.agg ⟨m.cs⟩)] w K :=
  calls_of Pr_plain Pr_mixed Pr_func6 law14_MsgtwoEncodes_ann rB (args := [(.agg ⟨m.cs⟩)]) (by kernel_rfl) h

/- changeover/changeoverlaw14.MsgtwoDecodes -/
def law14_MsgtwoDecodes (b : Sl) (K : Bool → World → Prop) (w : World) : Prop :=
  ifB (decide ((b.len : Int) > 2000))
  (callV Pr Value.bool 29 #[] w fun t1 w2 =>
  K t1 w2)
  (callV Pr (tval2 ApiMsg.val (Value.int .i64)) 32 #[b.val] w fun t3 w4 =>
  newV (fun b5 w6 =>
  wrM b5 (fun w7 =>
  ifB (t3.2 != 0)
  (callV Pr Value.bool 18 #[(.agg ⟨[(.int .i64 t3.1.Kind), (.int .i64 t3.1.From), (.int .i64 t3.1.To), (.int .i64 t3.1.Ballot.Round), (.int .i64 t3.1.Ballot.Node), (.int .i64 t3.1.Index), (.int .i64 t3.1.Commit), (.int .i64 t3.1.Version), t3.1.Entries.val, t3.1.Image.val]⟩), (.agg ⟨[(.int .i64 0), (.int .i64 0), (.int .i64 0), (.int .i64 0), (.int .i64 0), (.int .i64 0), (.int .i64 0), (.int .i64 0), Sl.nil.val, Sl.nil.val]⟩)] w7 fun t8 w9 =>
  kp b5 w7 w9 <|
  ifB t8
  (callV Pr Value.bool 29 #[] w9 fun t10 w11 =>
  kp b5 w9 w11 <|
  K t10 w11)
  (K false w9))
  (callV Pr (Value.int .i64) 31 #[(.agg ⟨[(.int .i64 t3.1.Kind), (.int .i64 t3.1.From), (.int .i64 t3.1.To), (.int .i64 t3.1.Ballot.Round), (.int .i64 t3.1.Ballot.Node), (.int .i64 t3.1.Index), (.int .i64 t3.1.Commit), (.int .i64 t3.1.Version), t3.1.Entries.val, t3.1.Image.val]⟩)] w7 fun t12 w13 =>
  kp b5 w7 w13 <|
  ifB (t12 == 0)
  (callV Pr Sl.val 34 #[(.agg ⟨[(.int .i64 t3.1.Kind), (.int .i64 t3.1.From), (.int .i64 t3.1.To), (.int .i64 t3.1.Ballot.Round), (.int .i64 t3.1.Ballot.Node), (.int .i64 t3.1.Index), (.int .i64 t3.1.Commit), (.int .i64 t3.1.Version), t3.1.Entries.val, t3.1.Image.val]⟩)] w13 fun t14 w15 =>
  kp b5 w13 w15 <|
  callV Pr Value.bool 33 #[t14.val, b.val] w15 fun t16 w17 =>
  kp b5 w15 w17 <|
  ifB t16
  (callV Pr Value.bool 29 #[] w17 fun t18 w19 =>
  kp b5 w17 w19 <|
  K t18 w19)
  (K false w17))
  (K false w13))) w6) w4)
def law14_MsgtwoDecodes_ann : Ann := (.s .d (.s (.s .d (.c (.s (.r [(0, .call rB)]) .d) .d)) (.s (.r [(1, .call (rT2 rApiMsg (rI .i64))), (5, .nl 3), (6, .ls 3)]) (.s (.s .d (.c (.s (.r [(2, .call rB), (4, .call rB)]) .d) .d)) (.s (.r [(1, .call (rI .i64)), (5, .call rSl), (7, .call rB), (10, .call rB)]) .d)))))
theorem law14_MsgtwoDecodes_calls {b : Sl} {K : Bool → World → Prop} {w : World} (h : law14_MsgtwoDecodes b K w) : callV Pr Value.bool 7 #[b.val] w K :=
  calls_of Pr_plain Pr_mixed Pr_func7 law14_MsgtwoDecodes_ann rB (args := [b.val]) (by kernel_rfl) h

/- changeover/changeoverlaw09.AnswerDecodes -/
def law09_AnswerDecodes (v : Int) (b : Sl) (K : Bool → World → Prop) (w : World) : Prop :=
  ifB (decide ((b.len : Int) > 500))
  (callV Pr Value.bool 35 #[] w fun t1 w2 =>
  K t1 w2)
  (callV Pr (tval2 ApiAnswer.val (Value.int .i64)) 36 #[(.int .i64 v), b.val] w fun t3 w4 =>
  newV (fun b5 w6 =>
  wrM b5 (fun w7 =>
  ifB (decide (v < 1))
  (opRd Pr (binSem .eql 65 (.tmp 23) (.tmp 24) (.agg ⟨[(.int .i64 t3.1.Client), (.int .i64 t3.1.Seq), (.int .i64 t3.1.Err), (.bool t3.1.Found), (sval t3.1.Val), (.int .i64 t3.1.Rev)]⟩) (.agg ⟨[(.int .i64 0), (.int .i64 0), (.int .i64 0), (.bool false), (sval []), (.int .i64 0)]⟩)) Value.bool (fun t8 =>
  ifB t8
  (ifB (t3.2 == 8)
  (callV Pr Value.bool 35 #[] w7 fun t9 w10 =>
  kp b5 w7 w10 <|
  K t9 w10)
  (K false w7))
  (K false w7)) w7)
  (ifB (decide (v > 2))
  (opRd Pr (binSem .eql 65 (.tmp 23) (.tmp 24) (.agg ⟨[(.int .i64 t3.1.Client), (.int .i64 t3.1.Seq), (.int .i64 t3.1.Err), (.bool t3.1.Found), (sval t3.1.Val), (.int .i64 t3.1.Rev)]⟩) (.agg ⟨[(.int .i64 0), (.int .i64 0), (.int .i64 0), (.bool false), (sval []), (.int .i64 0)]⟩)) Value.bool (fun t11 =>
  ifB t11
  (ifB (t3.2 == 8)
  (callV Pr Value.bool 35 #[] w7 fun t12 w13 =>
  kp b5 w7 w13 <|
  K t12 w13)
  (K false w7))
  (K false w7)) w7)
  (ifB (t3.2 != 0)
  (opRd Pr (binSem .eql 65 (.tmp 35) (.tmp 36) (.agg ⟨[(.int .i64 t3.1.Client), (.int .i64 t3.1.Seq), (.int .i64 t3.1.Err), (.bool t3.1.Found), (sval t3.1.Val), (.int .i64 t3.1.Rev)]⟩) (.agg ⟨[(.int .i64 0), (.int .i64 0), (.int .i64 0), (.bool false), (sval []), (.int .i64 0)]⟩)) Value.bool (fun t14 =>
  ifB t14
  (callV Pr Value.bool 35 #[] w7 fun t15 w16 =>
  kp b5 w7 w16 <|
  K t15 w16)
  (K false w7)) w7)
  (callV Pr (Value.int .i64) 37 #[(.agg ⟨[(.int .i64 t3.1.Client), (.int .i64 t3.1.Seq), (.int .i64 t3.1.Err), (.bool t3.1.Found), (sval t3.1.Val), (.int .i64 t3.1.Rev)]⟩)] w7 fun t17 w18 =>
  kp b5 w7 w18 <|
  ifB (t17 == 0)
  (callV Pr Sl.val 38 #[(.int .i64 v), (.agg ⟨[(.int .i64 t3.1.Client), (.int .i64 t3.1.Seq), (.int .i64 t3.1.Err), (.bool t3.1.Found), (sval t3.1.Val), (.int .i64 t3.1.Rev)]⟩)] w18 fun t19 w20 =>
  kp b5 w18 w20 <|
  callV Pr Value.bool 33 #[t19.val, b.val] w20 fun t21 w22 =>
  kp b5 w20 w22 <|
  ifB t21
  (callV Pr Value.bool 35 #[] w22 fun t23 w24 =>
  kp b5 w22 w24 <|
  K t23 w24)
  (K false w22))
  (K false w18))))) w6) w4)
def law09_AnswerDecodes_ann : Ann := (.s .d (.s (.s .d (.c (.s (.r [(0, .call rB)]) .d) .d)) (.s (.r [(2, .call (rT2 rApiAnswer (rI .i64))), (6, .nl 5), (7, .ls 5)]) (.s (.s .d (.c (.s (.r [(2, .rd rB), (8, .call rB)]) .d) .d)) (.s (.s .d (.c (.s (.r [(2, .rd rB), (4, .call rB)]) .d) .d)) (.s (.r [(1, .call (rI .i64)), (6, .call rSl), (8, .call rB), (11, .call rB)]) .d))))))
theorem law09_AnswerDecodes_calls {v : Int} {b : Sl} {K : Bool → World → Prop} {w : World} (h : law09_AnswerDecodes v b K w) : callV Pr Value.bool 8 #[(.int .i64 v), b.val] w K :=
  calls_of Pr_plain Pr_mixed Pr_func8 law09_AnswerDecodes_ann rB (args := [(.int .i64 v), b.val]) (by kernel_rfl) h

/- changeover/changeoverlaw08.CmdChecks -/
def law08_CmdChecks (c : ApiCmd) (K : Bool → World → Prop) (w : World) : Prop :=
  newV (fun b1 w2 =>
  callV Pr Value.bool 39 #[(.agg ⟨[(.int .i64 c.Kind), (.int .i64 c.Client), (.int .i64 c.Seq), (sval c.Key), (sval c.Val), (sval c.Old), (.int .i64 c.Node)]⟩)] w2 fun t3 w4 =>
  kp b1 w2 w4 <|
  ifB t3
  (callV Pr Value.bool 40 #[] w4 fun t5 w6 =>
  kp b1 w4 w6 <|
  K t5 w6)
  (heldM (fun S8 w7 =>
  callV Pr (Value.int .i64) 41 #[(.agg ⟨[(.int .i64 c.Kind), (.int .i64 c.Client), (.int .i64 c.Seq), (sval c.Key), (sval c.Val), (sval c.Old), (.int .i64 c.Node)]⟩)] w7 fun t9 w10 =>
  kp b1 w7 w10 <|
  (S8 w10) ∧
  (callV Pr (Value.int .i64) 42 #[(.agg ⟨[(.int .i64 c.Kind), (.int .i64 c.Client), (.int .i64 c.Seq), (sval c.Key), (sval c.Val), (sval c.Old), (.int .i64 c.Node)]⟩)] w10 fun t11 w12 =>
  kp b1 w10 w12 <|
  (S8 w12) ∧
  (ifB (t9 == t11)
  (callV Pr Value.bool 43 #[(.agg ⟨[(.int .i64 c.Kind), (.int .i64 c.Client), (.int .i64 c.Seq), (sval c.Key), (sval c.Val), (sval c.Old), (.int .i64 c.Node)]⟩)] w12 fun t13 w14 =>
  kp b1 w12 w14 <|
  (S8 w14) ∧
  (callV Pr Value.bool 44 #[(.int .i64 c.Kind)] w14 fun t15 w16 =>
  kp b1 w14 w16 <|
  (S8 w16) ∧
  (ifB (t13 == t15)
  (callV Pr Value.bool 40 #[] w16 fun t17 w18 =>
  kp b1 w16 w18 <|
  (S8 w18) ∧
  (K t17 w18))
  (K false w16))))
  (K false w12)))) w4)) w
def law08_CmdChecks_ann : Ann := (.s (.r [(0, .nl 1)]) (.s (.s (.r [(1, .call rB)]) (.c (.s (.r [(0, .call rB)]) .d) .d)) (.s (.h (.take 0 (.take 2 (.one 1 (.one 3 (.take 4 (.take 5 (.take 6 (.take 8 (.take 9 (.one 7 (.one 10 (.take 11 (.take 12 (.take 13 (.one 14 (.take 15 (.take 16 .done))))))))))))))))) [(1, .call (rI .i64)), (3, .call (rI .i64)), (7, .call rB), (10, .call rB), (14, .call rB)]) .d)))
theorem law08_CmdChecks_calls {c : ApiCmd} {K : Bool → World → Prop} {w : World} (h : law08_CmdChecks c K w) : callV Pr Value.bool 9 #[(.agg ⟨c.cs⟩)] w K :=
  calls_of Pr_plain Pr_mixed Pr_func9 law08_CmdChecks_ann rB (args := [(.agg ⟨c.cs⟩)]) (by kernel_rfl) h

/- changeover/changeoverlaw09.AnswerEncodes -/
def law09_AnswerEncodes (v : Int) (a : ApiAnswer) (K : Bool → World → Prop) (w : World) : Prop :=
  newV (fun b1 w2 =>
  ifB (decide (((a.Val : List UInt8).length : Int) > 300))
  (callV Pr Value.bool 35 #[] w2 fun t3 w4 =>
  kp b1 w2 w4 <|
  K t3 w4)
  (callV Pr (Value.int .i64) 37 #[(.agg ⟨[(.int .i64 a.Client), (.int .i64 a.Seq), (.int .i64 a.Err), (.bool a.Found), (sval a.Val), (.int .i64 a.Rev)]⟩)] w2 fun want5 w6 =>
  kp b1 w2 w6 <|
  callV Pr (Value.int .i64) 45 #[(.agg ⟨[(.int .i64 a.Client), (.int .i64 a.Seq), (.int .i64 a.Err), (.bool a.Found), (sval a.Val), (.int .i64 a.Rev)]⟩)] w6 fun t7 w8 =>
  kp b1 w6 w8 <|
  ifB (t7 != want5)
  (K false w8)
  (join1 (fun (j9 : Int → World → Prop) =>
  ifB (decide (v < 1))
  (j9 8 w8)
  (ifB (decide (v > 2))
  (j9 8 w8)
  (ifB (want5 == 0)
  (ifB (v == 1)
  (ifB (a.Rev != 0)
  (j9 8 w8)
  (j9 want5 w8))
  (j9 want5 w8))
  (j9 want5 w8))))
  (fun want10 w11 =>
  callV Pr (tval2 Sl.val (Value.int .i64)) 46 #[(.int .i64 v), (.agg ⟨[(.int .i64 a.Client), (.int .i64 a.Seq), (.int .i64 a.Err), (.bool a.Found), (sval a.Val), (.int .i64 a.Rev)]⟩)] w11 fun t12 w13 =>
  kp b1 w11 w13 <|
  ifB (want10 != 0)
  (ifB ((t12.1.len : Int) == 0)
  (ifB (t12.2 == want10)
  (callV Pr Value.bool 35 #[] w13 fun t14 w15 =>
  kp b1 w13 w15 <|
  K t14 w15)
  (K false w13))
  (K false w13))
  (opTy Pr (Instr.box 77 (.agg ⟨[Sl.nil.val]⟩)) pav (fun w16 w17 =>
  kp b1 w13 w17 <|
  callV Pr uval 47 #[(.pointer (some w16)), (.int .i64 v), (.agg ⟨[(.int .i64 a.Client), (.int .i64 a.Seq), (.int .i64 a.Err), (.bool a.Found), (sval a.Val), (.int .i64 a.Rev)]⟩)] w17 fun t18 w19 =>
  kp b1 w17 w19 <|
  heldM (fun S21 w20 =>
  callV Pr Value.pointer 49 #[t12.1.val] w20 fun t22 w23 =>
  kp b1 w20 w23 <|
  (S21 w23) ∧
  (callV Pr ApiAnswer.val 48 #[(.pointer t22), (.int .i64 v)] w23 fun t24 w25 =>
  kp b1 w23 w25 <|
  (S21 w25) ∧
  (opH Pr S21 (binSem .neq 65 (.tmp 69) (.tmp 70) (.agg ⟨t24.cs⟩) (.agg ⟨[(.int .i64 a.Client), (.int .i64 a.Seq), (.int .i64 a.Err), (.bool a.Found), (sval a.Val), (.int .i64 a.Rev)]⟩)) Value.bool (fun t26 =>
  ifB t26
  (K false w25)
  (callV Pr Sl.val 50 #[(.pointer (some w16))] w25 fun t27 w28 =>
  kp b1 w25 w28 <|
  (S21 w28) ∧
  (callV Pr Value.bool 33 #[t27.val, t12.1.val] w28 fun t29 w30 =>
  kp b1 w28 w30 <|
  (S21 w30) ∧
  (ifB (!t29)
  (K false w30)
  (callV Pr (tval2 ApiAnswer.val (Value.int .i64)) 36 #[(.int .i64 v), t12.1.val] w30 fun t31 w32 =>
  kp b1 w30 w32 <|
  newV (fun b33 w34 =>
  wrM b33 (fun w35 =>
  ifB (t12.2 == 0)
  (callV Pr Sl.val 38 #[(.int .i64 v), (.agg ⟨[(.int .i64 a.Client), (.int .i64 a.Seq), (.int .i64 a.Err), (.bool a.Found), (sval a.Val), (.int .i64 a.Rev)]⟩)] w35 fun t36 w37 =>
  kp b33 w35 w37 <|
  kp b1 w35 w37 <|
  callV Pr Value.bool 33 #[t12.1.val, t36.val] w37 fun t38 w39 =>
  kp b33 w37 w39 <|
  kp b1 w37 w39 <|
  ifB t38
  (opRd Pr (binSem .eql 65 (.tmp 95) (.tmp 96) (.agg ⟨[(.int .i64 t31.1.Client), (.int .i64 t31.1.Seq), (.int .i64 t31.1.Err), (.bool t31.1.Found), (sval t31.1.Val), (.int .i64 t31.1.Rev)]⟩) (.agg ⟨[(.int .i64 a.Client), (.int .i64 a.Seq), (.int .i64 a.Err), (.bool a.Found), (sval a.Val), (.int .i64 a.Rev)]⟩)) Value.bool (fun t40 =>
  ifB t40
  (ifB (t31.2 == 0)
  (callV Pr Value.bool 35 #[] w39 fun t41 w42 =>
  kp b33 w39 w42 <|
  kp b1 w39 w42 <|
  K t41 w42)
  (K false w39))
  (K false w39)) w39)
  (K false w39))
  (K false w35)) w34) w32)))))))) w19) w13))))) w
def law09_AnswerEncodes_ann : Ann := (.s (.r [(0, .nl 3)]) (.s (.s .d (.c (.s (.r [(0, .call rB)]) .d) .d)) (.s (.r [(1, .call (rI .i64))]) (.s (.s (.r [(1, .call (rI .i64))]) (.c (.s .d .d) .d)) (.sj [(.s 5, (rI .i64))] (.s .d (.c .d .d)) (.s (.r [(2, .call (rT2 rSl (rI .i64)))]) (.s (.s .d (.c (.s (.r [(9, .call rB)]) .d) .d)) (.s (.r [(1, .ty rPA)]) (.s (.r [(3, .call rU)]) (.s (.s (.h (.take 0 (.take 2 (.take 4 (.one 1 (.one 3 (.take 5 (.take 6 (.take 7 (.take 9 (.one 8 (.one 10 (.take 11 (.take 12 .done))))))))))))) [(1, .call rP), (3, .call rApiAnswer), (5, .rd rB), (8, .call rSl), (10, .call rB)]) (.c (.s .d .d) .d)) (.s (.r [(2, .call (rT2 rApiAnswer (rI .i64))), (6, .nl 9), (7, .ls 9)]) (.s (.r [(6, .call rSl), (7, .call rB), (12, .rd rB), (19, .call rB)]) .d))))))))))))
theorem law09_AnswerEncodes_calls {v : Int} {a : ApiAnswer} {K : Bool → World → Prop} {w : World} (h : law09_AnswerEncodes v a K w) : callV Pr Value.bool 10 #[(.int .i64 v), (.agg ⟨a.cs⟩)] w K :=
  calls_of Pr_plain Pr_mixed Pr_func10 law09_AnswerEncodes_ann rB (args := [(.int .i64 v), (.agg ⟨a.cs⟩)]) (by kernel_rfl) h

/- changeover/changeoverlaw08.CmdDecodes -/
def law08_CmdDecodes (v : Int) (b : Sl) (K : Bool → World → Prop) (w : World) : Prop :=
  ifB (decide ((b.len : Int) > 500))
  (callV Pr Value.bool 40 #[] w fun t1 w2 =>
  K t1 w2)
  (callV Pr (tval2 ApiCmd.val (Value.int .i64)) 51 #[(.int .i64 v), b.val] w fun t3 w4 =>
  newV (fun b5 w6 =>
  wrM b5 (fun w7 =>
  ifB (decide (v < 1))
  (opRd Pr (binSem .eql 40 (.tmp 23) (.tmp 24) (.agg ⟨[(.int .i64 t3.1.Kind), (.int .i64 t3.1.Client), (.int .i64 t3.1.Seq), (sval t3.1.Key), (sval t3.1.Val), (sval t3.1.Old), (.int .i64 t3.1.Node)]⟩) (.agg ⟨[(.int .i64 0), (.int .i64 0), (.int .i64 0), (sval []), (sval []), (sval []), (.int .i64 0)]⟩)) Value.bool (fun t8 =>
  ifB t8
  (ifB (t3.2 == 8)
  (callV Pr Value.bool 40 #[] w7 fun t9 w10 =>
  kp b5 w7 w10 <|
  K t9 w10)
  (K false w7))
  (K false w7)) w7)
  (ifB (decide (v > 2))
  (opRd Pr (binSem .eql 40 (.tmp 23) (.tmp 24) (.agg ⟨[(.int .i64 t3.1.Kind), (.int .i64 t3.1.Client), (.int .i64 t3.1.Seq), (sval t3.1.Key), (sval t3.1.Val), (sval t3.1.Old), (.int .i64 t3.1.Node)]⟩) (.agg ⟨[(.int .i64 0), (.int .i64 0), (.int .i64 0), (sval []), (sval []), (sval []), (.int .i64 0)]⟩)) Value.bool (fun t11 =>
  ifB t11
  (ifB (t3.2 == 8)
  (callV Pr Value.bool 40 #[] w7 fun t12 w13 =>
  kp b5 w7 w13 <|
  K t12 w13)
  (K false w7))
  (K false w7)) w7)
  (ifB (t3.2 != 0)
  (opRd Pr (binSem .eql 40 (.tmp 35) (.tmp 36) (.agg ⟨[(.int .i64 t3.1.Kind), (.int .i64 t3.1.Client), (.int .i64 t3.1.Seq), (sval t3.1.Key), (sval t3.1.Val), (sval t3.1.Old), (.int .i64 t3.1.Node)]⟩) (.agg ⟨[(.int .i64 0), (.int .i64 0), (.int .i64 0), (sval []), (sval []), (sval []), (.int .i64 0)]⟩)) Value.bool (fun t14 =>
  ifB t14
  (callV Pr Value.bool 40 #[] w7 fun t15 w16 =>
  kp b5 w7 w16 <|
  K t15 w16)
  (K false w7)) w7)
  (callV Pr (Value.int .i64) 42 #[(.agg ⟨[(.int .i64 t3.1.Kind), (.int .i64 t3.1.Client), (.int .i64 t3.1.Seq), (sval t3.1.Key), (sval t3.1.Val), (sval t3.1.Old), (.int .i64 t3.1.Node)]⟩)] w7 fun t17 w18 =>
  kp b5 w7 w18 <|
  ifB (t17 == 0)
  (callV Pr Value.bool 52 #[(.int .i64 v), (.int .i64 t3.1.Kind)] w18 fun t19 w20 =>
  kp b5 w18 w20 <|
  ifB t19
  (callV Pr Sl.val 53 #[(.int .i64 v), (.agg ⟨[(.int .i64 t3.1.Kind), (.int .i64 t3.1.Client), (.int .i64 t3.1.Seq), (sval t3.1.Key), (sval t3.1.Val), (sval t3.1.Old), (.int .i64 t3.1.Node)]⟩)] w20 fun t21 w22 =>
  kp b5 w20 w22 <|
  callV Pr Value.bool 33 #[t21.val, b.val] w22 fun t23 w24 =>
  kp b5 w22 w24 <|
  ifB t23
  (callV Pr Value.bool 40 #[] w24 fun t25 w26 =>
  kp b5 w24 w26 <|
  K t25 w26)
  (K false w24))
  (K false w20))
  (K false w18))))) w6) w4)
def law08_CmdDecodes_ann : Ann := (.s .d (.s (.s .d (.c (.s (.r [(0, .call rB)]) .d) .d)) (.s (.r [(2, .call (rT2 rApiCmd (rI .i64))), (6, .nl 5), (7, .ls 5)]) (.s (.s .d (.c (.s (.r [(2, .rd rB), (8, .call rB)]) .d) .d)) (.s (.s .d (.c (.s (.r [(2, .rd rB), (4, .call rB)]) .d) .d)) (.s (.r [(1, .call (rI .i64)), (7, .call rB), (12, .call rSl), (14, .call rB), (17, .call rB)]) .d))))))
theorem law08_CmdDecodes_calls {v : Int} {b : Sl} {K : Bool → World → Prop} {w : World} (h : law08_CmdDecodes v b K w) : callV Pr Value.bool 11 #[(.int .i64 v), b.val] w K :=
  calls_of Pr_plain Pr_mixed Pr_func11 law08_CmdDecodes_ann rB (args := [(.int .i64 v), b.val]) (by kernel_rfl) h

/- changeover/changeoverlaw09.AnswerTexts -/
def law09_AnswerTexts (a : ApiAnswer) (s : List UInt8) (K : Bool → World → Prop) (w : World) : Prop :=
  newV (fun b1 w2 =>
  ifB (decide (((a.Val : List UInt8).length : Int) > 300))
  (callV Pr Value.bool 35 #[] w2 fun t3 w4 =>
  kp b1 w2 w4 <|
  K t3 w4)
  (ifB (decide (((s : List UInt8).length : Int) > 300))
  (callV Pr Value.bool 35 #[] w2 fun t5 w6 =>
  kp b1 w2 w6 <|
  K t5 w6)
  (join1 (fun (j7 : (List UInt8) → World → Prop) =>
  callV Pr (Value.int .i64) 37 #[(.agg ⟨[(.int .i64 a.Client), (.int .i64 a.Seq), (.int .i64 a.Err), (.bool a.Found), (sval a.Val), (.int .i64 a.Rev)]⟩)] w2 fun t8 w9 =>
  kp b1 w2 w9 <|
  ifB (t8 == 0)
  (callV Pr sval 54 #[(.agg ⟨[(.int .i64 a.Client), (.int .i64 a.Seq), (.int .i64 a.Err), (.bool a.Found), (sval a.Val), (.int .i64 a.Rev)]⟩)] w9 fun want10 w11 =>
  kp b1 w9 w11 <|
  j7 want10 w11)
  (j7 [] w9))
  (fun want12 w13 =>
  callV Pr (tval2 ApiAnswer.val (Value.int .i64)) 55 #[(sval want12)] w13 fun t14 w15 =>
  kp b1 w13 w15 <|
  newV (fun b16 w17 =>
  wrM b16 (fun w18 =>
  callV Pr (tval2 ApiAnswer.val (Value.int .i64)) 55 #[(sval s)] w18 fun t19 w20 =>
  kp b16 w18 w20 <|
  kp b1 w18 w20 <|
  newV (fun b21 w22 =>
  wrM b21 (fun w23 =>
  join0 (fun (j24 : World → Prop) =>
  callV Pr sval 56 #[(.agg ⟨[(.int .i64 a.Client), (.int .i64 a.Seq), (.int .i64 a.Err), (.bool a.Found), (sval a.Val), (.int .i64 a.Rev)]⟩)] w23 fun t25 w26 =>
  kp b21 w23 w26 <|
  kp b16 w23 w26 <|
  kp b1 w23 w26 <|
  ifB (!(strEq t25 want12))
  (K false w26)
  (ifB (strEq want12 [])
  (ifB (t14.2 != 3)
  (K false w26)
  (ifB (!(strEq want12 []))
  (opRd Pr (binSem .neq 65 (.tmp 51) (.tmp 52) (.agg ⟨[(.int .i64 t14.1.Client), (.int .i64 t14.1.Seq), (.int .i64 t14.1.Err), (.bool t14.1.Found), (sval t14.1.Val), (.int .i64 t14.1.Rev)]⟩) (.agg ⟨[(.int .i64 a.Client), (.int .i64 a.Seq), (.int .i64 a.Err), (.bool a.Found), (sval a.Val), (.int .i64 a.Rev)]⟩)) Value.bool (fun t27 =>
  ifB t27
  (K false w26)
  (ifB (t14.2 != 0)
  (K false w26)
  (j24 w26))) w26)
  (j24 w26)))
  (ifB (!(strEq want12 []))
  (opRd Pr (binSem .neq 65 (.tmp 51) (.tmp 52) (.agg ⟨[(.int .i64 t14.1.Client), (.int .i64 t14.1.Seq), (.int .i64 t14.1.Err), (.bool t14.1.Found), (sval t14.1.Val), (.int .i64 t14.1.Rev)]⟩) (.agg ⟨[(.int .i64 a.Client), (.int .i64 a.Seq), (.int .i64 a.Err), (.bool a.Found), (sval a.Val), (.int .i64 a.Rev)]⟩)) Value.bool (fun t28 =>
  ifB t28
  (K false w26)
  (ifB (t14.2 != 0)
  (K false w26)
  (j24 w26))) w26)
  (j24 w26))))
  (fun w29 =>
  ifB (t19.2 == 0)
  (callV Pr (Value.int .i64) 37 #[(.agg ⟨[(.int .i64 t19.1.Client), (.int .i64 t19.1.Seq), (.int .i64 t19.1.Err), (.bool t19.1.Found), (sval t19.1.Val), (.int .i64 t19.1.Rev)]⟩)] w29 fun t30 w31 =>
  kp b21 w29 w31 <|
  kp b16 w29 w31 <|
  kp b1 w29 w31 <|
  ifB (t30 == 0)
  (callV Pr sval 54 #[(.agg ⟨[(.int .i64 t19.1.Client), (.int .i64 t19.1.Seq), (.int .i64 t19.1.Err), (.bool t19.1.Found), (sval t19.1.Val), (.int .i64 t19.1.Rev)]⟩)] w31 fun t32 w33 =>
  kp b21 w31 w33 <|
  kp b16 w31 w33 <|
  kp b1 w31 w33 <|
  ifB (strEq t32 s)
  (callV Pr Value.bool 35 #[] w33 fun t34 w35 =>
  kp b21 w33 w35 <|
  kp b16 w33 w35 <|
  kp b1 w33 w35 <|
  K t34 w35)
  (ifB (t19.2 == 3)
  (opRd Pr (binSem .eql 65 (.tmp 77) (.tmp 78) (.agg ⟨[(.int .i64 t19.1.Client), (.int .i64 t19.1.Seq), (.int .i64 t19.1.Err), (.bool t19.1.Found), (sval t19.1.Val), (.int .i64 t19.1.Rev)]⟩) (.agg ⟨[(.int .i64 0), (.int .i64 0), (.int .i64 0), (.bool false), (sval []), (.int .i64 0)]⟩)) Value.bool (fun t36 =>
  ifB t36
  (callV Pr Value.bool 35 #[] w33 fun t37 w38 =>
  kp b21 w33 w38 <|
  kp b16 w33 w38 <|
  kp b1 w33 w38 <|
  K t37 w38)
  (K false w33)) w33)
  (K false w33)))
  (ifB (t19.2 == 3)
  (opRd Pr (binSem .eql 65 (.tmp 77) (.tmp 78) (.agg ⟨[(.int .i64 t19.1.Client), (.int .i64 t19.1.Seq), (.int .i64 t19.1.Err), (.bool t19.1.Found), (sval t19.1.Val), (.int .i64 t19.1.Rev)]⟩) (.agg ⟨[(.int .i64 0), (.int .i64 0), (.int .i64 0), (.bool false), (sval []), (.int .i64 0)]⟩)) Value.bool (fun t39 =>
  ifB t39
  (callV Pr Value.bool 35 #[] w31 fun t40 w41 =>
  kp b21 w31 w41 <|
  kp b16 w31 w41 <|
  kp b1 w31 w41 <|
  K t40 w41)
  (K false w31)) w31)
  (K false w31)))
  (ifB (t19.2 == 3)
  (opRd Pr (binSem .eql 65 (.tmp 77) (.tmp 78) (.agg ⟨[(.int .i64 t19.1.Client), (.int .i64 t19.1.Seq), (.int .i64 t19.1.Err), (.bool t19.1.Found), (sval t19.1.Val), (.int .i64 t19.1.Rev)]⟩) (.agg ⟨[(.int .i64 0), (.int .i64 0), (.int .i64 0), (.bool false), (sval []), (.int .i64 0)]⟩)) Value.bool (fun t42 =>
  ifB t42
  (callV Pr Value.bool 35 #[] w29 fun t43 w44 =>
  kp b21 w29 w44 <|
  kp b16 w29 w44 <|
  kp b1 w29 w44 <|
  K t43 w44)
  (K false w29)) w29)
  (K false w29)))) w22) w20) w17) w15)))) w
def law09_AnswerTexts_ann : Ann := (.s (.r [(0, .nl 2)]) (.s (.s .d (.c (.s (.r [(0, .call rB)]) .d) .d)) (.s .d (.sj [(.s 5, rS)] (.s (.r [(1, .call (rI .i64))]) (.c (.r [(1, .call rS)]) .d)) (.s (.r [(1, .call (rT2 rApiAnswer (rI .i64))), (5, .nl 6), (6, .ls 6)]) (.s (.r [(1, .call (rT2 rApiAnswer (rI .i64))), (5, .nl 8), (6, .ls 8)]) (.sj [] (.s (.r [(1, .call rS), (18, .rd rB)]) (.c (.s .d .d) .d)) (.s (.r [(4, .call (rI .i64)), (9, .call rS), (19, .rd rB), (23, .call rB)]) .d))))))))
theorem law09_AnswerTexts_calls {a : ApiAnswer} {s : List UInt8} {K : Bool → World → Prop} {w : World} (h : law09_AnswerTexts a s K w) : callV Pr Value.bool 12 #[(.agg ⟨a.cs⟩), (sval s)] w K :=
  calls_of Pr_plain Pr_mixed Pr_func12 law09_AnswerTexts_ann rB (args := [(.agg ⟨a.cs⟩), (sval s)]) (by kernel_rfl) h

/- changeover/changeoverref19.Heavy -/
def ref19_Heavy (h_ : ApiHard) (K : Bool → World → Prop) (w : World) : Prop :=
  newV (fun b1 w2 =>
  ifB (decide ((h_.Image.len : Int) > 300))
  (K true w2)
  (callV Pr Value.bool 57 #[h_.Accepted.val] w2 fun t3 w4 =>
  kp b1 w2 w4 <|
  ifB t3
  (K true w4)
  (callV Pr Value.bool 57 #[h_.Chosen.val] w4 fun t5 w6 =>
  kp b1 w4 w6 <|
  K t5 w6))) w
def ref19_Heavy_ann : Ann := (.s (.r [(0, .nl 1)]) (.s (.r [(7, .call rB), (12, .call rB)]) .d))
theorem ref19_Heavy_calls {h_ : ApiHard} {K : Bool → World → Prop} {w : World} (h : ref19_Heavy h_ K w) : callV Pr Value.bool 13 #[(.agg ⟨h_.cs⟩)] w K :=
  calls_of Pr_plain Pr_mixed Pr_func13 ref19_Heavy_ann rB (args := [(.agg ⟨h_.cs⟩)]) (by kernel_rfl) h

/- changeover/changeoverref13.Large -/
def ref13_Large (m : ApiMsg) (K : Bool → World → Prop) (w : World) : Prop :=
  newV (fun b1 w2 =>
  callV Pr Value.bool 57 #[m.Entries.val] w2 fun t3 w4 =>
  kp b1 w2 w4 <|
  ifB t3
  (K true w4)
  (ifB (decide ((m.Image.len : Int) > 300))
  (ifB (decide ((m.Image.len : Int) < 32760))
  (K true w4)
  (K (decide ((m.Image.len : Int) > 32780)) w4))
  (K (decide ((m.Image.len : Int) > 32780)) w4))) w
def ref13_Large_ann : Ann := (.s (.r [(0, .nl 1)]) (.s (.r [(2, .call rB)]) .d))
theorem ref13_Large_calls {m : ApiMsg} {K : Bool → World → Prop} {w : World} (h : ref13_Large m K w) : callV Pr Value.bool 14 #[(.agg ⟨m.cs⟩)] w K :=
  calls_of Pr_plain Pr_mixed Pr_func14 ref13_Large_ann rB (args := [(.agg ⟨m.cs⟩)]) (by kernel_rfl) h

/- changeover/changeoverlaw31.awake -/
def law31_awake (K : Bool → World → Prop) (w : World) : Prop :=
  newV (fun b1 w2 =>
  wrM b1 (fun w3 =>
  callV Pr (tval3 Sl.val ApiMsg.val (Value.int .i64)) 25 #[(.agg ⟨[(.int .i64 3), (.int .i64 1), (.int .i64 0), Sl.nil.val, Sl.nil.val, Sl.nil.val]⟩), (.int .i64 0), (.agg ⟨[(.int .i64 3), (.int .i64 2), (.int .i64 1), (.int .i64 2), (.int .i64 2), (.int .i64 1), (.int .i64 0), (.int .i64 0), Sl.nil.val, Sl.nil.val]⟩)] w3 fun t4 w5 =>
  kp b1 w3 w5 <|
  newV (fun b6 w7 =>
  wrM b6 (fun w8 =>
  ifB (t4.2.2 == 0)
  (ifB ((t4.1.len : Int) == 0)
  (ifB (t4.2.1.Kind == 7)
  (opRd Pr (binSem .eql 23 (.tmp 29) (.tmp 31) (.agg ⟨[(.int .i64 t4.2.1.Ballot.Round), (.int .i64 t4.2.1.Ballot.Node)]⟩) (.agg ⟨[(.int .i64 3), (.int .i64 1)]⟩)) Value.bool (fun t9 =>
  K t9 w8) w8)
  (K false w8))
  (K false w8))
  (K false w8)) w7) w5) w2) w
def law31_awake_ann : Ann := (.s .d (.s (.r [(2, .nl 1), (3, .ls 1)]) (.s (.r [(3, .call (rT3 rSl rApiMsg (rI .i64))), (8, .nl 3), (10, .ls 3)]) (.s (.r [(17, .rd rB)]) .d))))
theorem law31_awake_calls {K : Bool → World → Prop} {w : World} (h : law31_awake K w) : callV Pr Value.bool 15 #[] w K :=
  calls_of Pr_plain Pr_mixed Pr_func15 law31_awake_ann rB (args := []) (by kernel_rfl) h

/- changeover/changeoverlaw31.ask -/
def law31_ask (h_ : ApiHard) (commit : Int) (m : ApiMsg) (K : (Sl × ApiMsg × Int) → World → Prop) (w : World) : Prop :=
  newV (fun b1 w2 =>
  newV (fun b3 w4 =>
  newV (fun b5 w6 =>
  ifB (m.Kind == 5)
  (callV Pr (tval3 Sl.val ApiMsg.val (Value.int .i64)) 24 #[(.agg ⟨[(.int .i64 h_.Promised.Round), (.int .i64 h_.Promised.Node), (.int .i64 h_.Base), h_.Image.val, h_.Accepted.val, h_.Chosen.val]⟩), (.int .i64 commit), (.agg ⟨[(.int .i64 m.Kind), (.int .i64 m.From), (.int .i64 m.To), (.int .i64 m.Ballot.Round), (.int .i64 m.Ballot.Node), (.int .i64 m.Index), (.int .i64 m.Commit), (.int .i64 m.Version), m.Entries.val, m.Image.val]⟩)] w6 fun t7 w8 =>
  kp b5 w6 w8 <|
  kp b3 w6 w8 <|
  kp b1 w6 w8 <|
  wrM b5 (fun w9 =>
  K (t7.1, (ApiMsg.mk t7.2.1.Kind t7.2.1.From t7.2.1.To (ApiBallot.mk t7.2.1.Ballot.Round t7.2.1.Ballot.Node) t7.2.1.Index t7.2.1.Commit t7.2.1.Version t7.2.1.Entries t7.2.1.Image), t7.2.2) w9) w8)
  (callV Pr (tval3 Sl.val ApiMsg.val (Value.int .i64)) 25 #[(.agg ⟨[(.int .i64 h_.Promised.Round), (.int .i64 h_.Promised.Node), (.int .i64 h_.Base), h_.Image.val, h_.Accepted.val, h_.Chosen.val]⟩), (.int .i64 commit), (.agg ⟨[(.int .i64 m.Kind), (.int .i64 m.From), (.int .i64 m.To), (.int .i64 m.Ballot.Round), (.int .i64 m.Ballot.Node), (.int .i64 m.Index), (.int .i64 m.Commit), (.int .i64 m.Version), m.Entries.val, m.Image.val]⟩)] w6 fun t10 w11 =>
  kp b5 w6 w11 <|
  kp b3 w6 w11 <|
  kp b1 w6 w11 <|
  wrM b5 (fun w12 =>
  K (t10.1, (ApiMsg.mk t10.2.1.Kind t10.2.1.From t10.2.1.To (ApiBallot.mk t10.2.1.Ballot.Round t10.2.1.Ballot.Node) t10.2.1.Index t10.2.1.Commit t10.2.1.Version t10.2.1.Entries t10.2.1.Image), t10.2.2) w12) w11)) w4) w2) w
def law31_ask_ann : Ann := (.s (.r [(0, .nl 3), (1, .nl 5), (3, .nl 7)]) (.s (.s .d (.c (.s (.r [(3, .call (rT3 rSl rApiMsg (rI .i64))), (8, .ls 7)]) .d) .d)) (.s (.r [(3, .call (rT3 rSl rApiMsg (rI .i64))), (8, .ls 7)]) .d)))
theorem law31_ask_calls {h_ : ApiHard} {commit : Int} {m : ApiMsg} {K : (Sl × ApiMsg × Int) → World → Prop} {w : World} (h : law31_ask h_ commit m K w) : callV Pr (tval3 Sl.val ApiMsg.val (Value.int .i64)) 16 #[(.agg ⟨h_.cs⟩), (.int .i64 commit), (.agg ⟨m.cs⟩)] w K :=
  calls_of Pr_plain Pr_mixed Pr_func16 law31_ask_ann (rT3 rSl rApiMsg (rI .i64)) (args := [(.agg ⟨h_.cs⟩), (.int .i64 commit), (.agg ⟨m.cs⟩)]) (by kernel_rfl) h

/- changeover/changeoverref31.Check -/
def ref31_Check (h_ : ApiHard) (commit : Int) (m : ApiMsg) (kind : Int) (K : Int → World → Prop) (w : World) : Prop :=
  newV (fun b1 w2 =>
  newV (fun b3 w4 =>
  callV Pr (Value.int .i64) 31 #[(.agg ⟨[(.int .i64 m.Kind), (.int .i64 m.From), (.int .i64 m.To), (.int .i64 m.Ballot.Round), (.int .i64 m.Ballot.Node), (.int .i64 m.Index), (.int .i64 m.Commit), (.int .i64 m.Version), m.Entries.val, m.Image.val]⟩)] w4 fun e5 w6 =>
  kp b3 w4 w6 <|
  kp b1 w4 w6 <|
  ifB (e5 != 0)
  (K e5 w6)
  (ifB (m.Kind != kind)
  (K 5 w6)
  (callV Pr Value.bool 21 #[(.agg ⟨[(.int .i64 h_.Promised.Round), (.int .i64 h_.Promised.Node), (.int .i64 h_.Base), h_.Image.val, h_.Accepted.val, h_.Chosen.val]⟩)] w6 fun t7 w8 =>
  kp b3 w6 w8 <|
  kp b1 w6 w8 <|
  ifB (!t7)
  (K 3 w8)
  (ifB (decide (commit < h_.Base))
  (K 3 w8)
  (ifB (decide (commit > 4294967296))
  (K 3 w8)
  (K 0 w8)))))) w2) w
def ref31_Check_ann : Ann := (.s (.r [(0, .nl 4), (1, .nl 6)]) (.s (.s (.r [(1, .call (rI .i64))]) (.s .d (.c (.s .d .d) .d))) (.s (.s .d (.c (.s .d .d) .d)) (.s (.s (.r [(1, .call rB)]) (.c (.s .d .d) .d)) (.s .d .d)))))
theorem ref31_Check_calls {h_ : ApiHard} {commit : Int} {m : ApiMsg} {kind : Int} {K : Int → World → Prop} {w : World} (h : ref31_Check h_ commit m kind K w) : callV Pr (Value.int .i64) 17 #[(.agg ⟨h_.cs⟩), (.int .i64 commit), (.agg ⟨m.cs⟩), (.int .i64 kind)] w K :=
  calls_of Pr_plain Pr_mixed Pr_func17 ref31_Check_ann (rI .i64) (args := [(.agg ⟨h_.cs⟩), (.int .i64 commit), (.agg ⟨m.cs⟩), (.int .i64 kind)]) (by kernel_rfl) h

/- changeover/changeoverref13.Same -/
def ref13_Same (a : ApiMsg) (b : ApiMsg) (K : Bool → World → Prop) (w : World) : Prop :=
  newV (fun b1 w2 =>
  newV (fun b3 w4 =>
  ifB (a.Kind == b.Kind)
  (ifB (a.From == b.From)
  (ifB (a.To == b.To)
  (opRd Pr (binSem .eql 23 (.tmp 26) (.tmp 28) (.agg ⟨[(.int .i64 a.Ballot.Round), (.int .i64 a.Ballot.Node)]⟩) (.agg ⟨[(.int .i64 b.Ballot.Round), (.int .i64 b.Ballot.Node)]⟩)) Value.bool (fun t5 =>
  ifB t5
  (ifB (a.Index == b.Index)
  (ifB (a.Commit == b.Commit)
  (ifB (a.Version == b.Version)
  (callV Pr Value.bool 26 #[a.Entries.val, b.Entries.val] w4 fun t6 w7 =>
  kp b3 w4 w7 <|
  kp b1 w4 w7 <|
  ifB t6
  (callV Pr Value.bool 33 #[a.Image.val, b.Image.val] w7 fun t8 w9 =>
  kp b3 w7 w9 <|
  kp b1 w7 w9 <|
  K t8 w9)
  (K false w7))
  (K false w4))
  (K false w4))
  (K false w4))
  (K false w4)) w4)
  (K false w4))
  (K false w4))
  (K false w4)) w2) w
def ref13_Same_ann : Ann := (.s (.r [(0, .nl 2), (1, .nl 3)]) (.s (.r [(24, .rd rB), (52, .call rB), (59, .call rB)]) .d))
theorem ref13_Same_calls {a : ApiMsg} {b : ApiMsg} {K : Bool → World → Prop} {w : World} (h : ref13_Same a b K w) : callV Pr Value.bool 18 #[(.agg ⟨a.cs⟩), (.agg ⟨b.cs⟩)] w K :=
  calls_of Pr_plain Pr_mixed Pr_func18 ref13_Same_ann rB (args := [(.agg ⟨a.cs⟩), (.agg ⟨b.cs⟩)]) (by kernel_rfl) h

/- changeover/changeoverref31.Answer -/
def ref31_Answer (h_ : ApiHard) (commit : Int) (m : ApiMsg) (K : (ApiRecord × ApiMsg) → World → Prop) (w : World) : Prop :=
  newV (fun b1 w2 =>
  newV (fun b3 w4 =>
  newV (fun b5 w6 =>
  newV (fun b7 w8 =>
  newV (fun b9 w10 =>
  wrM b9 (fun w11 =>
  callV Pr Value.bool 23 #[(.agg ⟨[(.int .i64 m.Ballot.Round), (.int .i64 m.Ballot.Node)]⟩), (.agg ⟨[(.int .i64 h_.Promised.Round), (.int .i64 h_.Promised.Node)]⟩)] w11 fun t12 w13 =>
  kp b9 w11 w13 <|
  kp b7 w11 w13 <|
  kp b5 w11 w13 <|
  kp b3 w11 w13 <|
  kp b1 w11 w13 <|
  ifB t12
  (wrM b9 (fun w14 =>
  wrM b9 (fun w15 =>
  heldM (fun S17 w16 =>
  wrM b5 (fun w18 =>
  (S17 w18) ∧
  (wrM b7 (fun w19 =>
  (S17 w19) ∧
  (K ((ApiRecord.mk 0 (ApiBallot.mk 0 0) 0 (ApiCmd.mk 0 0 0 [] [] [] 0) Sl.nil), (ApiMsg.mk 7 m.To m.From h_.Promised 0 0 0 Sl.nil Sl.nil)) w19)) w18)) w16) w15) w14) w13)
  (ifB (m.Kind == 3)
  (wrM b9 (fun w20 =>
  wrM b9 (fun w21 =>
  wrM b9 (fun w22 =>
  loop2 (0 : Int) ((ApiMsg.mk 4 m.To m.From m.Ballot m.Index commit 0 Sl.nil Sl.nil) : ApiMsg) (fun i23 x24 k25 w26 =>
  ifB (decide (i23 < (h_.Accepted.len : Int)))
  (drewM (fun w27 =>
  opRd Pr (Instr.indexAt 25 h_.Accepted.val (.int .i64 i23)) pav (fun t28 =>
  opRd Pr (Instr.loadAt 3 (.pointer (some (t28.add 0)))) (Value.int .i64) (fun t29 =>
  ifB (decide (t29 ≥ m.Index))
  (opRd Pr (Instr.indexAt 25 h_.Accepted.val (.int .i64 i23)) pav (fun t30 =>
  opRd Pr (Instr.loadAt 3 (.pointer (some (t30.add 0)))) (Value.int .i64) (fun t31 =>
  ifB (decide (t31 > commit))
  (heldM (fun S33 w32 =>
  opH Pr S33 (Instr.indexAt 25 h_.Accepted.val (.int .i64 i23)) pav (fun t34 =>
  opH Pr S33 (Instr.loadAt 54 (.pointer (some t34))) ApiEntry.val (fun t35 =>
  ((S33 w32) ∧
  (opTy Pr (Instr.buildSlice 25 1 #[(0, (.agg ⟨t35.cs⟩))]) Sl.val (fun t36 w37 =>
  kp b9 w32 w37 <|
  kp b7 w32 w37 <|
  kp b5 w32 w37 <|
  kp b3 w32 w37 <|
  kp b1 w32 w37 <|
  (S33 w37) ∧
  (opTy Pr (Builtin.append_ #[25, 25] 25 #[x24.Entries.val, t36.val]) Sl.val (fun t38 w39 =>
  kp b9 w37 w39 <|
  kp b7 w37 w39 <|
  kp b5 w37 w39 <|
  kp b3 w37 w39 <|
  kp b1 w37 w39 <|
  (S33 w39) ∧
  (wrM b9 (fun w40 =>
  (S33 w40) ∧
  (k25 (i64 (i23 + 1)) (ApiMsg.mk x24.Kind x24.From x24.To x24.Ballot x24.Index x24.Commit x24.Version t38 x24.Image) w40)) w39)) w37)) w32)) ∧
  (opTy Pr (Instr.buildSlice 25 1 #[(0, (.agg ⟨t35.cs⟩))]) Sl.val (fun t41 w42 =>
  kp b9 w32 w42 <|
  kp b7 w32 w42 <|
  kp b5 w32 w42 <|
  kp b3 w32 w42 <|
  kp b1 w32 w42 <|
  (S33 w42) ∧
  ((S33 w42) ∧
  (opTy Pr (Builtin.append_ #[25, 25] 25 #[x24.Entries.val, t41.val]) Sl.val (fun t43 w44 =>
  kp b9 w42 w44 <|
  kp b7 w42 w44 <|
  kp b5 w42 w44 <|
  kp b3 w42 w44 <|
  kp b1 w42 w44 <|
  (S33 w44) ∧
  (wrM b9 (fun w45 =>
  (S33 w45) ∧
  (k25 (i64 (i23 + 1)) (ApiMsg.mk x24.Kind x24.From x24.To x24.Ballot x24.Index x24.Commit x24.Version t43 x24.Image) w45)) w44)) w42))) w32)))) w27)
  (k25 (i64 (i23 + 1)) x24 w27)) w27) w27)
  (k25 (i64 (i23 + 1)) x24 w27)) w27) w27) w26)
  (opRd Pr (binSem .eql 23 (.tmp 76) (.tmp 78) (.agg ⟨[(.int .i64 h_.Promised.Round), (.int .i64 h_.Promised.Node)]⟩) (.agg ⟨[(.int .i64 m.Ballot.Round), (.int .i64 m.Ballot.Node)]⟩)) Value.bool (fun t46 =>
  ifB t46
  (heldM (fun S48 w47 =>
  wrM b5 (fun w49 =>
  (S48 w49) ∧
  (wrM b7 (fun w50 =>
  (S48 w50) ∧
  (K ((ApiRecord.mk 0 (ApiBallot.mk 0 0) 0 (ApiCmd.mk 0 0 0 [] [] [] 0) Sl.nil), x24) w50)) w49)) w47) w26)
  (heldM (fun S52 w51 =>
  wrM b5 (fun w53 =>
  (S52 w53) ∧
  (wrM b7 (fun w54 =>
  (S52 w54) ∧
  (K ((ApiRecord.mk 1 m.Ballot 0 (ApiCmd.mk 0 0 0 [] [] [] 0) Sl.nil), x24) w54)) w53)) w51) w26)) w26)) w22) w21) w20) w13)
  (opRd Pr (Instr.indexAt 25 m.Entries.val (.int .i64 0)) pav (fun t55 =>
  opRd Pr (Instr.loadAt 54 (.pointer (some t55))) ApiEntry.val (fun t56 =>
  newV (fun b57 w58 =>
  wrM b57 (fun w59 =>
  wrM b9 (fun w60 =>
  wrM b9 (fun w61 =>
  callV Pr (Value.int .i64) 28 #[h_.Accepted.val, (.int .i64 t56.Index)] w61 fun at62 w63 =>
  kp b57 w61 w63 <|
  kp b9 w61 w63 <|
  kp b7 w61 w63 <|
  kp b5 w61 w63 <|
  kp b3 w61 w63 <|
  kp b1 w61 w63 <|
  join2 (fun (j64 : ApiRecord → ApiMsg → World → Prop) =>
  drewM (fun w65 =>
  ifB (decide (at62 ≥ 0))
  (opRd Pr (Instr.indexAt 25 h_.Accepted.val (.int .i64 at62)) pav (fun t66 =>
  opRd Pr (Instr.loadAt 54 (.pointer (some t66))) ApiEntry.val (fun t67 =>
  opRd Pr (binSem .eql 54 (.tmp 106) (.tmp 107) (.agg ⟨t67.cs⟩) (.agg ⟨[(.int .i64 t56.Index), (.int .i64 t56.Ballot.Round), (.int .i64 t56.Ballot.Node), (.int .i64 t56.Cmd.Kind), (.int .i64 t56.Cmd.Client), (.int .i64 t56.Cmd.Seq), (sval t56.Cmd.Key), (sval t56.Cmd.Val), (sval t56.Cmd.Old), (.int .i64 t56.Cmd.Node)]⟩)) Value.bool (fun t68 =>
  ifB t68
  (heldM (fun S70 w69 =>
  wrM b5 (fun w71 =>
  (S70 w71) ∧
  (wrM b7 (fun w72 =>
  (S70 w72) ∧
  (K ((ApiRecord.mk 0 (ApiBallot.mk 0 0) 0 (ApiCmd.mk 0 0 0 [] [] [] 0) Sl.nil), (ApiMsg.mk 6 m.To m.From m.Ballot t56.Index 0 0 Sl.nil Sl.nil)) w72)) w71)) w69) w65)
  (j64 (ApiRecord.mk 0 (ApiBallot.mk 0 0) 0 (ApiCmd.mk 0 0 0 [] [] [] 0) Sl.nil) (ApiMsg.mk 0 0 0 (ApiBallot.mk 0 0) 0 0 0 Sl.nil Sl.nil) w65)) w65) w65) w65)
  (j64 (ApiRecord.mk 0 (ApiBallot.mk 0 0) 0 (ApiCmd.mk 0 0 0 [] [] [] 0) Sl.nil) (ApiMsg.mk 0 0 0 (ApiBallot.mk 0 0) 0 0 0 Sl.nil Sl.nil) w65)) w63)
  (fun t73 t74 w75 =>
  heldM (fun S77 w76 =>
  wrM b5 (fun w78 =>
  (S77 w78) ∧
  (wrM b7 (fun w79 =>
  (S77 w79) ∧
  (K ((ApiRecord.mk 2 t56.Ballot t56.Index t56.Cmd Sl.nil), (ApiMsg.mk 6 m.To m.From m.Ballot t56.Index 0 0 Sl.nil Sl.nil)) w79)) w78)) w76) w75)) w60) w59) w58) w13) w13) w13))) w10) w8) w6) w4) w2) w
def ref31_Answer_ann : Ann := (.s (.r [(0, .nl 3), (1, .nl 5), (2, .nl 6), (3, .nl 7)]) (.s (.r [(7, .nl 8), (8, .ls 8)]) (.s (.s (.r [(4, .call rB)]) (.c (.s (.r [(1, .ls 8)]) (.s (.r [(3, .ls 8)]) (.s (.h (.take 0 (.take 1 (.one 2 (.one 3 .done)))) [(2, .ls 6), (3, .ls 7)]) .d))) .d)) (.s (.s .d (.c (.s (.r [(1, .ls 8)]) (.s (.r [(3, .ls 8)]) (.s (.r [(2, .ls 8)]) (.s (.s .d (.b (.l [(.s 9, (rI .i64)), (.h 8, rApiMsg)] (.s (.s .d (.c .d .d)) (.s (.b (.s (.r [(3, .rd rPA), (5, .rd (rI .i64)), (13, .rd rPA), (15, .rd (rI .i64))]) (.c (.h (.take 0 (.take 2 (.take 3 (.take 4 (.take 5 (.take 6 (.two 1 (.one 7 (.one 8 (.take 9 (.one 10 .done)))) 7 (.one 1 (.one 8 (.take 9 (.one 10 .done))))))))))) [(5, .rd rPA), (6, .rd rApiEntry), (7, .ty rSl), (8, .ty rSl), (10, .ls 8)]) .d))) .d))))) (.s (.s (.r [(4, .rd rB)]) (.c (.s (.h (.take 0 (.take 1 (.one 2 (.one 3 .done)))) [(2, .ls 6), (3, .ls 7)]) .d) .d)) (.s (.h (.take 0 (.take 1 (.take 2 (.take 3 (.one 4 (.one 5 .done)))))) [(4, .ls 6), (5, .ls 7)]) .d)))))) .d)) (.s (.r [(2, .rd rPA), (3, .rd rApiEntry), (4, .nl 10), (5, .ls 10)]) (.s (.r [(1, .ls 8)]) (.s (.r [(3, .ls 8)]) (.s (.r [(4, .call (rI .i64))]) (.sj [(.h 6, rApiRecord), (.h 7, rApiMsg)] (.s (.r [(6, .rd rPA), (7, .rd rApiEntry), (9, .rd rB)]) (.c (.s (.h (.take 0 (.take 1 (.one 2 (.one 3 .done)))) [(2, .ls 6), (3, .ls 7)]) .d) .d)) (.s (.h (.take 0 (.take 1 (.take 2 (.take 3 (.take 4 (.take 5 (.take 6 (.take 7 (.one 8 (.one 9 .done)))))))))) [(8, .ls 6), (9, .ls 7)]) .d))))))))))
theorem ref31_Answer_calls {h_ : ApiHard} {commit : Int} {m : ApiMsg} {K : (ApiRecord × ApiMsg) → World → Prop} {w : World} (h : ref31_Answer h_ commit m K w) : callV Pr (tval2 ApiRecord.val ApiMsg.val) 19 #[(.agg ⟨h_.cs⟩), (.int .i64 commit), (.agg ⟨m.cs⟩)] w K :=
  calls_of Pr_plain Pr_mixed Pr_func19 ref31_Answer_ann (rT2 rApiRecord rApiMsg) (args := [(.agg ⟨h_.cs⟩), (.int .i64 commit), (.agg ⟨m.cs⟩)]) (by kernel_rfl) h

/- changeover/changeoverref16.Same -/
def ref16_Same (a : ApiRecord) (b : ApiRecord) (K : Bool → World → Prop) (w : World) : Prop :=
  newV (fun b1 w2 =>
  newV (fun b3 w4 =>
  ifB (a.Kind == b.Kind)
  (opRd Pr (binSem .eql 23 (.tmp 12) (.tmp 14) (.agg ⟨[(.int .i64 a.Ballot.Round), (.int .i64 a.Ballot.Node)]⟩) (.agg ⟨[(.int .i64 b.Ballot.Round), (.int .i64 b.Ballot.Node)]⟩)) Value.bool (fun t5 =>
  ifB t5
  (ifB (a.Index == b.Index)
  (opRd Pr (binSem .eql 40 (.tmp 26) (.tmp 28) (.agg ⟨[(.int .i64 a.Cmd.Kind), (.int .i64 a.Cmd.Client), (.int .i64 a.Cmd.Seq), (sval a.Cmd.Key), (sval a.Cmd.Val), (sval a.Cmd.Old), (.int .i64 a.Cmd.Node)]⟩) (.agg ⟨[(.int .i64 b.Cmd.Kind), (.int .i64 b.Cmd.Client), (.int .i64 b.Cmd.Seq), (sval b.Cmd.Key), (sval b.Cmd.Val), (sval b.Cmd.Old), (.int .i64 b.Cmd.Node)]⟩)) Value.bool (fun t6 =>
  ifB t6
  (callV Pr Value.bool 33 #[a.Image.val, b.Image.val] w4 fun t7 w8 =>
  kp b3 w4 w8 <|
  kp b1 w4 w8 <|
  K t7 w8)
  (K false w4)) w4)
  (K false w4))
  (K false w4)) w4)
  (K false w4)) w2) w
def ref16_Same_ann : Ann := (.s (.r [(0, .nl 2), (1, .nl 3)]) (.s (.r [(10, .rd rB), (24, .rd rB), (31, .call rB)]) .d))
theorem ref16_Same_calls {a : ApiRecord} {b : ApiRecord} {K : Bool → World → Prop} {w : World} (h : ref16_Same a b K w) : callV Pr Value.bool 20 #[(.agg ⟨a.cs⟩), (.agg ⟨b.cs⟩)] w K :=
  calls_of Pr_plain Pr_mixed Pr_func20 ref16_Same_ann rB (args := [(.agg ⟨a.cs⟩), (.agg ⟨b.cs⟩)]) (by kernel_rfl) h

/- changeover/changeoverref19.Check -/
def ref19_Check (h_ : ApiHard) (K : Bool → World → Prop) (w : World) : Prop :=
  newV (fun b1 w2 =>
  callV Pr Value.bool 58 #[(.agg ⟨[(.int .i64 h_.Promised.Round), (.int .i64 h_.Promised.Node)]⟩)] w2 fun t3 w4 =>
  kp b1 w2 w4 <|
  ifB (!t3)
  (K false w4)
  (ifB (decide (h_.Base < 0))
  (K false w4)
  (ifB (decide (h_.Base > 4294967296))
  (K false w4)
  (ifB (decide ((h_.Image.len : Int) > 32768))
  (K false w4)
  (ifB (!((decide (h_.Base > 0)) == (decide ((h_.Image.len : Int) > 0))))
  (K false w4)
  (callV Pr (Value.int .i64) 59 #[h_.Accepted.val] w4 fun t5 w6 =>
  kp b1 w4 w6 <|
  ifB (t5 != 0)
  (K false w6)
  (callV Pr (Value.int .i64) 59 #[h_.Chosen.val] w6 fun t7 w8 =>
  kp b1 w6 w8 <|
  ifB (t7 != 0)
  (K false w8)
  (loop1 (0 : Int) (fun i9 k10 w11 =>
  ifB (decide (i9 < (h_.Accepted.len : Int)))
  (opRd Pr (Instr.indexAt 25 h_.Accepted.val (.int .i64 i9)) pav (fun t12 =>
  opRd Pr (Instr.loadAt 23 (.pointer (some (t12.add 1)))) ApiBallot.val (fun t13 =>
  newV (fun b14 w15 =>
  wrM b14 (fun w16 =>
  heldM (fun S18 w17 =>
  opH Pr S18 (Instr.indexAt 25 h_.Accepted.val (.int .i64 i9)) pav (fun t19 =>
  opH Pr S18 (Instr.loadAt 3 (.pointer (some (t19.add 0)))) (Value.int .i64) (fun t20 =>
  ifB (decide (t20 ≤ h_.Base))
  (K false w17)
  (ifB (t13.Round == 0)
  (K false w17)
  (callV Pr Value.bool 23 #[(.agg ⟨[(.int .i64 h_.Promised.Round), (.int .i64 h_.Promised.Node)]⟩), (.agg ⟨[(.int .i64 t13.Round), (.int .i64 t13.Node)]⟩)] w17 fun t21 w22 =>
  kp b14 w17 w22 <|
  kp b1 w17 w22 <|
  (S18 w22) ∧
  (ifB t21
  (K false w22)
  (k10 (i64 (i9 + 1)) w22))))))) w16) w15) w11) w11) w11)
  (loop1 (0 : Int) (fun i23 k24 w25 =>
  ifB (decide (i23 < (h_.Chosen.len : Int)))
  (drewM (fun w26 =>
  opRd Pr (Instr.indexAt 25 h_.Chosen.val (.int .i64 i23)) pav (fun t27 =>
  opRd Pr (Instr.loadAt 3 (.pointer (some (t27.add 0)))) (Value.int .i64) (fun t28 =>
  ifB (decide (t28 ≤ h_.Base))
  (K false w26)
  (opRd Pr (Instr.indexAt 25 h_.Chosen.val (.int .i64 i23)) pav (fun t29 =>
  opRd Pr (Instr.loadAt 3 (.pointer (some ((t29.add 1).add 0)))) (Value.int .i64) (fun t30 =>
  ifB (t30 != 0)
  (K false w26)
  (k24 (i64 (i23 + 1)) w26)) w26) w26)) w26) w26) w25)
  (K true w25)) w11)) w8)))))))) w
def ref19_Check_ann : Ann := (.s (.r [(0, .nl 1)]) (.s (.s (.r [(2, .call rB), (33, .call (rI .i64)), (39, .call (rI .i64))]) (.c (.s .d .d) .d)) (.s (.s .d (.b (.l [(.s 3, (rI .i64))] (.s (.s .d (.c .d .d)) (.s (.b (.s (.r [(3, .rd rPA), (5, .rd rApiBallot), (6, .nl 4), (7, .ls 4)]) (.s (.h (.take 0 (.take 1 (.take 2 (.take 3 (.take 4 (.take 5 (.take 6 (.take 7 (.take 8 (.take 9 (.take 10 (.take 11 (.take 12 (.take 13 (.take 14 (.take 15 (.take 16 (.take 17 (.one 18 (.take 19 .done)))))))))))))))))))) [(3, .rd rPA), (5, .rd (rI .i64)), (18, .call rB)]) (.c (.s .d .d) .d)))) .d))))) (.s (.s .d (.b (.l [(.s 5, (rI .i64))] (.s (.s .d (.c .d .d)) (.s (.b (.s (.r [(3, .rd rPA), (5, .rd (rI .i64)), (13, .rd rPA), (16, .rd (rI .i64))]) (.c (.s .d .d) .d))) .d))))) (.s .d .d)))))
theorem ref19_Check_calls {h_ : ApiHard} {K : Bool → World → Prop} {w : World} (h : ref19_Check h_ K w) : callV Pr Value.bool 21 #[(.agg ⟨h_.cs⟩)] w K :=
  calls_of Pr_plain Pr_mixed Pr_func21 ref19_Check_ann rB (args := [(.agg ⟨h_.cs⟩)]) (by kernel_rfl) h

/- changeover/changeoverref31.Behind -/
def ref31_Behind (h_ : ApiHard) (x : ApiRecord) (K : ApiHard → World → Prop) (w : World) : Prop :=
  newV (fun b1 w2 =>
  newV (fun b3 w4 =>
  newV (fun b5 w6 =>
  opTy Pr (Instr.buildSlice 33 0 #[]) Sl.val (fun l7 w8 =>
  kp b5 w6 w8 <|
  kp b3 w6 w8 <|
  kp b1 w6 w8 <|
  join1 (fun (j9 : Sl → World → Prop) =>
  ifB (decide (h_.Base > 0))
  (opTy Pr (Instr.buildSlice 33 1 #[(0, (.agg ⟨[(.int .i64 4), (.int .i64 0), (.int .i64 0), (.int .i64 h_.Base), (.int .i64 0), (.int .i64 0), (.int .i64 0), (sval []), (sval []), (sval []), (.int .i64 0), h_.Image.val]⟩))]) Sl.val (fun t10 w11 =>
  kp b5 w8 w11 <|
  kp b3 w8 w11 <|
  kp b1 w8 w11 <|
  opTy Pr (Builtin.append_ #[33, 33] 33 #[l7.val, t10.val]) Sl.val (fun l12 w13 =>
  kp b5 w11 w13 <|
  kp b3 w11 w13 <|
  kp b1 w11 w13 <|
  j9 l12 w13) w11) w8)
  (j9 l7 w8))
  (fun l14 w15 =>
  join1 (fun (j16 : Sl → World → Prop) =>
  ifB (decide (h_.Promised.Round > 0))
  (opTy Pr (Instr.buildSlice 33 1 #[(0, (.agg ⟨[(.int .i64 1), (.int .i64 h_.Promised.Round), (.int .i64 h_.Promised.Node), (.int .i64 0), (.int .i64 0), (.int .i64 0), (.int .i64 0), (sval []), (sval []), (sval []), (.int .i64 0), Sl.nil.val]⟩))]) Sl.val (fun t17 w18 =>
  kp b5 w15 w18 <|
  kp b3 w15 w18 <|
  kp b1 w15 w18 <|
  opTy Pr (Builtin.append_ #[33, 33] 33 #[l14.val, t17.val]) Sl.val (fun l19 w20 =>
  kp b5 w18 w20 <|
  kp b3 w18 w20 <|
  kp b1 w18 w20 <|
  j16 l19 w20) w18) w15)
  (j16 l14 w15))
  (fun l21 w22 =>
  loop2 (l21 : Sl) (0 : Int) (fun l23 i24 k25 w26 =>
  ifB (decide (i24 < (h_.Accepted.len : Int)))
  (heldM (fun S28 w27 =>
  opH Pr S28 (Instr.indexAt 25 h_.Accepted.val (.int .i64 i24)) pav (fun t29 =>
  opH Pr S28 (Instr.loadAt 23 (.pointer (some (t29.add 1)))) ApiBallot.val (fun t30 =>
  opH Pr S28 (Instr.indexAt 25 h_.Accepted.val (.int .i64 i24)) pav (fun t31 =>
  opH Pr S28 (Instr.loadAt 3 (.pointer (some (t31.add 0)))) (Value.int .i64) (fun t32 =>
  opH Pr S28 (Instr.indexAt 25 h_.Accepted.val (.int .i64 i24)) pav (fun t33 =>
  opH Pr S28 (Instr.loadAt 40 (.pointer (some (t33.add 3)))) ApiCmd.val (fun t34 =>
  opTy Pr (Instr.buildSlice 33 1 #[(0, (.agg ⟨[(.int .i64 2), (.int .i64 t30.Round), (.int .i64 t30.Node), (.int .i64 t32), (.int .i64 t34.Kind), (.int .i64 t34.Client), (.int .i64 t34.Seq), (sval t34.Key), (sval t34.Val), (sval t34.Old), (.int .i64 t34.Node), Sl.nil.val]⟩))]) Sl.val (fun t35 w36 =>
  kp b5 w27 w36 <|
  kp b3 w27 w36 <|
  kp b1 w27 w36 <|
  (S28 w36) ∧
  (opTy Pr (Builtin.append_ #[33, 33] 33 #[l23.val, t35.val]) Sl.val (fun l37 w38 =>
  kp b5 w36 w38 <|
  kp b3 w36 w38 <|
  kp b1 w36 w38 <|
  (S28 w38) ∧
  (k25 l37 (i64 (i24 + 1)) w38)) w36)) w27))))))) w26)
  (loop2 (l23 : Sl) (0 : Int) (fun l39 i40 k41 w42 =>
  ifB (decide (i40 < (h_.Chosen.len : Int)))
  (heldM (fun S44 w43 =>
  opH Pr S44 (Instr.indexAt 25 h_.Chosen.val (.int .i64 i40)) pav (fun t45 =>
  opH Pr S44 (Instr.loadAt 3 (.pointer (some (t45.add 0)))) (Value.int .i64) (fun t46 =>
  opH Pr S44 (Instr.indexAt 25 h_.Chosen.val (.int .i64 i40)) pav (fun t47 =>
  opH Pr S44 (Instr.loadAt 40 (.pointer (some (t47.add 3)))) ApiCmd.val (fun t48 =>
  opTy Pr (Instr.buildSlice 33 1 #[(0, (.agg ⟨[(.int .i64 3), (.int .i64 0), (.int .i64 0), (.int .i64 t46), (.int .i64 t48.Kind), (.int .i64 t48.Client), (.int .i64 t48.Seq), (sval t48.Key), (sval t48.Val), (sval t48.Old), (.int .i64 t48.Node), Sl.nil.val]⟩))]) Sl.val (fun t49 w50 =>
  kp b5 w43 w50 <|
  kp b3 w43 w50 <|
  kp b1 w43 w50 <|
  (S44 w50) ∧
  (opTy Pr (Builtin.append_ #[33, 33] 33 #[l39.val, t49.val]) Sl.val (fun l51 w52 =>
  kp b5 w50 w52 <|
  kp b3 w50 w52 <|
  kp b1 w50 w52 <|
  (S44 w52) ∧
  (k41 l51 (i64 (i40 + 1)) w52)) w50)) w43))))) w42)
  (opTy Pr (Instr.buildSlice 33 1 #[(0, (.agg ⟨[(.int .i64 x.Kind), (.int .i64 x.Ballot.Round), (.int .i64 x.Ballot.Node), (.int .i64 x.Index), (.int .i64 x.Cmd.Kind), (.int .i64 x.Cmd.Client), (.int .i64 x.Cmd.Seq), (sval x.Cmd.Key), (sval x.Cmd.Val), (sval x.Cmd.Old), (.int .i64 x.Cmd.Node), x.Image.val]⟩))]) Sl.val (fun t53 w54 =>
  kp b5 w42 w54 <|
  kp b3 w42 w54 <|
  kp b1 w42 w54 <|
  opTy Pr (Builtin.append_ #[33, 33] 33 #[l39.val, t53.val]) Sl.val (fun l55 w56 =>
  kp b5 w54 w56 <|
  kp b3 w54 w56 <|
  kp b1 w54 w56 <|
  callV Pr ApiHard.val 60 #[l55.val] w56 fun t57 w58 =>
  kp b5 w56 w58 <|
  kp b3 w56 w58 <|
  kp b1 w56 w58 <|
  wrM b5 (fun w59 =>
  K t57 w59) w58) w54) w42)) w26)) w22))) w6) w4) w2) w
def ref31_Behind_ann : Ann := (.s (.r [(0, .nl 2), (1, .nl 3), (2, .nl 4)]) (.s (.r [(0, .ty rSl)]) (.sj [(.s 5, rSl)] (.s .d (.c (.r [(6, .ty rSl), (7, .ty rSl)]) .d)) (.sj [(.s 5, rSl)] (.s .d (.c (.r [(4, .ty rSl), (5, .ty rSl)]) .d)) (.s (.s .d (.b (.l [(.s 5, rSl), (.s 6, (rI .i64))] (.s (.s .d (.c .d .d)) (.s (.b (.h (.take 0 (.take 1 (.take 2 (.take 3 (.take 4 (.take 5 (.take 6 (.take 7 (.take 8 (.take 9 (.take 10 (.take 11 (.take 12 (.take 13 (.take 14 (.take 15 (.take 16 (.take 17 (.take 18 (.take 19 (.one 20 (.one 21 (.take 22 .done))))))))))))))))))))))) [(4, .rd rPA), (6, .rd rApiBallot), (10, .rd rPA), (12, .rd (rI .i64)), (16, .rd rPA), (18, .rd rApiCmd), (20, .ty rSl), (21, .ty rSl)])) .d))))) (.s (.s .d (.b (.l [(.s 5, rSl), (.s 7, (rI .i64))] (.s (.s .d (.c .d .d)) (.s (.b (.h (.take 0 (.take 1 (.take 2 (.take 3 (.take 4 (.take 5 (.take 6 (.take 7 (.take 8 (.take 9 (.take 10 (.take 11 (.take 12 (.take 13 (.one 14 (.one 15 (.take 16 .done))))))))))))))))) [(4, .rd rPA), (6, .rd (rI .i64)), (10, .rd rPA), (12, .rd rApiCmd), (14, .ty rSl), (15, .ty rSl)])) .d))))) (.s (.r [(2, .ty rSl), (3, .ty rSl)]) (.s (.r [(1, .call rApiHard), (2, .ls 4)]) .d))))))))
theorem ref31_Behind_calls {h_ : ApiHard} {x : ApiRecord} {K : ApiHard → World → Prop} {w : World} (h : ref31_Behind h_ x K w) : callV Pr ApiHard.val 22 #[(.agg ⟨h_.cs⟩), (.agg ⟨x.cs⟩)] w K :=
  calls_of Pr_plain Pr_mixed Pr_func22 ref31_Behind_ann rApiHard (args := [(.agg ⟨h_.cs⟩), (.agg ⟨x.cs⟩)]) (by kernel_rfl) h

/- changeover/changeoverref10.Less -/
def ref10_Less (a : ApiBallot) (b : ApiBallot) (K : Bool → World → Prop) (w : World) : Prop :=
  newV (fun b1 w2 =>
  newV (fun b3 w4 =>
  ifB (a.Round == b.Round)
  (K (decide (a.Node < b.Node)) w4)
  (K (decide (a.Round < b.Round)) w4)) w2) w
def ref10_Less_ann : Ann := (.s (.r [(0, .nl 2), (1, .nl 3)]) (.s (.s .d (.c (.s .d .d) .d)) (.s .d .d)))
theorem ref10_Less_calls {a : ApiBallot} {b : ApiBallot} {K : Bool → World → Prop} {w : World} (h : ref10_Less a b K w) : callV Pr Value.bool 23 #[(.agg ⟨a.cs⟩), (.agg ⟨b.cs⟩)] w K :=
  calls_of Pr_plain Pr_mixed Pr_func23 ref10_Less_ann rB (args := [(.agg ⟨a.cs⟩), (.agg ⟨b.cs⟩)]) (by kernel_rfl) h

/- changeover/acceptor.Accept -/
def acceptor_Accept (h_ : ApiHard) (commit : Int) (m : ApiMsg) (K : (Sl × ApiMsg × Int) → World → Prop) (w : World) : Prop :=
  newV (fun b1 w2 =>
  newV (fun b3 w4 =>
  newV (fun b5 w6 =>
  callV Pr (Value.int .i64) 61 #[(.agg ⟨[(.int .i64 h_.Promised.Round), (.int .i64 h_.Promised.Node), (.int .i64 h_.Base), h_.Image.val, h_.Accepted.val, h_.Chosen.val]⟩), (.int .i64 commit), (.agg ⟨[(.int .i64 m.Kind), (.int .i64 m.From), (.int .i64 m.To), (.int .i64 m.Ballot.Round), (.int .i64 m.Ballot.Node), (.int .i64 m.Index), (.int .i64 m.Commit), (.int .i64 m.Version), m.Entries.val, m.Image.val]⟩), (.int .i64 5)] w6 fun e7 w8 =>
  kp b5 w6 w8 <|
  kp b3 w6 w8 <|
  kp b1 w6 w8 <|
  ifB (e7 != 0)
  (wrM b5 (fun w9 =>
  K (Sl.nil, (ApiMsg.mk 0 0 0 (ApiBallot.mk 0 0) 0 0 0 Sl.nil Sl.nil), e7) w9) w8)
  (callV Pr Value.bool 62 #[(.agg ⟨[(.int .i64 m.Ballot.Round), (.int .i64 m.Ballot.Node)]⟩), (.agg ⟨[(.int .i64 h_.Promised.Round), (.int .i64 h_.Promised.Node)]⟩)] w8 fun t10 w11 =>
  kp b5 w8 w11 <|
  kp b3 w8 w11 <|
  kp b1 w8 w11 <|
  ifB t10
  (callV Pr ApiMsg.val 63 #[(.agg ⟨[(.int .i64 m.Kind), (.int .i64 m.From), (.int .i64 m.To), (.int .i64 m.Ballot.Round), (.int .i64 m.Ballot.Node), (.int .i64 m.Index), (.int .i64 m.Commit), (.int .i64 m.Version), m.Entries.val, m.Image.val]⟩), (.int .i64 7), (.agg ⟨[(.int .i64 h_.Promised.Round), (.int .i64 h_.Promised.Node)]⟩)] w11 fun t12 w13 =>
  kp b5 w11 w13 <|
  kp b3 w11 w13 <|
  kp b1 w11 w13 <|
  wrM b5 (fun w14 =>
  K (Sl.nil, t12, 0) w14) w13)
  (opRd Pr (Instr.indexAt 25 m.Entries.val (.int .i64 0)) pav (fun t15 =>
  opRd Pr (Instr.loadAt 54 (.pointer (some t15))) ApiEntry.val (fun t16 =>
  newV (fun b17 w18 =>
  wrM b17 (fun w19 =>
  join1 (fun (j20 : Sl → World → Prop) =>
  callV Pr (tval2 ApiEntry.val Value.bool) 64 #[h_.Accepted.val, (.int .i64 t16.Index)] w19 fun t21 w22 =>
  kp b17 w19 w22 <|
  kp b5 w19 w22 <|
  kp b3 w19 w22 <|
  kp b1 w19 w22 <|
  newV (fun b23 w24 =>
  wrM b23 (fun w25 =>
  ifB (!t21.2)
  (opTy Pr (Instr.buildSlice 33 1 #[(0, (.agg ⟨[(.int .i64 2), (.int .i64 t16.Ballot.Round), (.int .i64 t16.Ballot.Node), (.int .i64 t16.Index), (.int .i64 t16.Cmd.Kind), (.int .i64 t16.Cmd.Client), (.int .i64 t16.Cmd.Seq), (sval t16.Cmd.Key), (sval t16.Cmd.Val), (sval t16.Cmd.Old), (.int .i64 t16.Cmd.Node), Sl.nil.val]⟩))]) Sl.val (fun t26 w27 =>
  kp b23 w25 w27 <|
  kp b17 w25 w27 <|
  kp b5 w25 w27 <|
  kp b3 w25 w27 <|
  kp b1 w25 w27 <|
  opTy Pr (Builtin.append_ #[33, 33] 33 #[Sl.nil.val, t26.val]) Sl.val (fun out28 w29 =>
  kp b23 w27 w29 <|
  kp b17 w27 w29 <|
  kp b5 w27 w29 <|
  kp b3 w27 w29 <|
  kp b1 w27 w29 <|
  j20 out28 w29) w27) w25)
  (opRd Pr (binSem .neq 54 (.tmp 47) (.tmp 48) (.agg ⟨[(.int .i64 t21.1.Index), (.int .i64 t21.1.Ballot.Round), (.int .i64 t21.1.Ballot.Node), (.int .i64 t21.1.Cmd.Kind), (.int .i64 t21.1.Cmd.Client), (.int .i64 t21.1.Cmd.Seq), (sval t21.1.Cmd.Key), (sval t21.1.Cmd.Val), (sval t21.1.Cmd.Old), (.int .i64 t21.1.Cmd.Node)]⟩) (.agg ⟨[(.int .i64 t16.Index), (.int .i64 t16.Ballot.Round), (.int .i64 t16.Ballot.Node), (.int .i64 t16.Cmd.Kind), (.int .i64 t16.Cmd.Client), (.int .i64 t16.Cmd.Seq), (sval t16.Cmd.Key), (sval t16.Cmd.Val), (sval t16.Cmd.Old), (.int .i64 t16.Cmd.Node)]⟩)) Value.bool (fun t30 =>
  ifB t30
  (opTy Pr (Instr.buildSlice 33 1 #[(0, (.agg ⟨[(.int .i64 2), (.int .i64 t16.Ballot.Round), (.int .i64 t16.Ballot.Node), (.int .i64 t16.Index), (.int .i64 t16.Cmd.Kind), (.int .i64 t16.Cmd.Client), (.int .i64 t16.Cmd.Seq), (sval t16.Cmd.Key), (sval t16.Cmd.Val), (sval t16.Cmd.Old), (.int .i64 t16.Cmd.Node), Sl.nil.val]⟩))]) Sl.val (fun t31 w32 =>
  kp b23 w25 w32 <|
  kp b17 w25 w32 <|
  kp b5 w25 w32 <|
  kp b3 w25 w32 <|
  kp b1 w25 w32 <|
  opTy Pr (Builtin.append_ #[33, 33] 33 #[Sl.nil.val, t31.val]) Sl.val (fun out33 w34 =>
  kp b23 w32 w34 <|
  kp b17 w32 w34 <|
  kp b5 w32 w34 <|
  kp b3 w32 w34 <|
  kp b1 w32 w34 <|
  j20 out33 w34) w32) w25)
  (j20 Sl.nil w25)) w25)) w24) w22)
  (fun out35 w36 =>
  callV Pr ApiMsg.val 63 #[(.agg ⟨[(.int .i64 m.Kind), (.int .i64 m.From), (.int .i64 m.To), (.int .i64 m.Ballot.Round), (.int .i64 m.Ballot.Node), (.int .i64 m.Index), (.int .i64 m.Commit), (.int .i64 m.Version), m.Entries.val, m.Image.val]⟩), (.int .i64 6), (.agg ⟨[(.int .i64 m.Ballot.Round), (.int .i64 m.Ballot.Node)]⟩)] w36 fun t37 w38 =>
  kp b17 w36 w38 <|
  kp b5 w36 w38 <|
  kp b3 w36 w38 <|
  kp b1 w36 w38 <|
  newV (fun b39 w40 =>
  wrM b39 (fun w41 =>
  wrM b39 (fun w42 =>
  heldM (fun S44 w43 =>
  wrM b5 (fun w45 =>
  (S44 w45) ∧
  (K (out35, (ApiMsg.mk t37.Kind t37.From t37.To t37.Ballot t16.Index t37.Commit t37.Version t37.Entries t37.Image), 0) w45)) w43) w42) w41) w40) w38)) w18) w11) w11) w11))) w4) w2) w
def acceptor_Accept_ann : Ann := (.s (.r [(0, .nl 3), (1, .nl 5), (3, .nl 7)]) (.s (.s (.r [(3, .call (rI .i64))]) (.s .d (.c (.s (.r [(3, .ls 7)]) .d) .d))) (.s (.s (.r [(4, .call rB)]) (.c (.s (.r [(3, .call rApiMsg), (5, .ls 7)]) .d) .d)) (.s (.r [(2, .rd rPA), (3, .rd rApiEntry), (4, .nl 10), (5, .ls 10)]) (.s .d (.sj [(.s 11, rSl)] (.s (.r [(4, .call (rT2 rApiEntry rB)), (8, .nl 12), (9, .ls 12)]) (.s (.r [(5, .rd rB)]) (.c (.r [(8, .ty rSl), (9, .ty rSl)]) .d))) (.s (.r [(3, .call rApiMsg), (4, .nl 14), (5, .ls 14)]) (.s (.r [(3, .ls 14)]) (.s (.h (.take 0 (.take 1 (.take 2 (.one 3 (.take 4 .done))))) [(3, .ls 7)]) .d)))))))))
theorem acceptor_Accept_calls {h_ : ApiHard} {commit : Int} {m : ApiMsg} {K : (Sl × ApiMsg × Int) → World → Prop} {w : World} (h : acceptor_Accept h_ commit m K w) : callV Pr (tval3 Sl.val ApiMsg.val (Value.int .i64)) 24 #[(.agg ⟨h_.cs⟩), (.int .i64 commit), (.agg ⟨m.cs⟩)] w K :=
  calls_of Pr_plain Pr_mixed Pr_func24 acceptor_Accept_ann (rT3 rSl rApiMsg (rI .i64)) (args := [(.agg ⟨h_.cs⟩), (.int .i64 commit), (.agg ⟨m.cs⟩)]) (by kernel_rfl) h

/- changeover/acceptor.Prepare -/
def acceptor_Prepare (h_ : ApiHard) (commit : Int) (m : ApiMsg) (K : (Sl × ApiMsg × Int) → World → Prop) (w : World) : Prop :=
  newV (fun b1 w2 =>
  newV (fun b3 w4 =>
  newV (fun b5 w6 =>
  callV Pr (Value.int .i64) 61 #[(.agg ⟨[(.int .i64 h_.Promised.Round), (.int .i64 h_.Promised.Node), (.int .i64 h_.Base), h_.Image.val, h_.Accepted.val, h_.Chosen.val]⟩), (.int .i64 commit), (.agg ⟨[(.int .i64 m.Kind), (.int .i64 m.From), (.int .i64 m.To), (.int .i64 m.Ballot.Round), (.int .i64 m.Ballot.Node), (.int .i64 m.Index), (.int .i64 m.Commit), (.int .i64 m.Version), m.Entries.val, m.Image.val]⟩), (.int .i64 3)] w6 fun e7 w8 =>
  kp b5 w6 w8 <|
  kp b3 w6 w8 <|
  kp b1 w6 w8 <|
  ifB (e7 != 0)
  (wrM b5 (fun w9 =>
  K (Sl.nil, (ApiMsg.mk 0 0 0 (ApiBallot.mk 0 0) 0 0 0 Sl.nil Sl.nil), e7) w9) w8)
  (callV Pr Value.bool 62 #[(.agg ⟨[(.int .i64 m.Ballot.Round), (.int .i64 m.Ballot.Node)]⟩), (.agg ⟨[(.int .i64 h_.Promised.Round), (.int .i64 h_.Promised.Node)]⟩)] w8 fun t10 w11 =>
  kp b5 w8 w11 <|
  kp b3 w8 w11 <|
  kp b1 w8 w11 <|
  ifB t10
  (callV Pr ApiMsg.val 63 #[(.agg ⟨[(.int .i64 m.Kind), (.int .i64 m.From), (.int .i64 m.To), (.int .i64 m.Ballot.Round), (.int .i64 m.Ballot.Node), (.int .i64 m.Index), (.int .i64 m.Commit), (.int .i64 m.Version), m.Entries.val, m.Image.val]⟩), (.int .i64 7), (.agg ⟨[(.int .i64 h_.Promised.Round), (.int .i64 h_.Promised.Node)]⟩)] w11 fun t12 w13 =>
  kp b5 w11 w13 <|
  kp b3 w11 w13 <|
  kp b1 w11 w13 <|
  wrM b5 (fun w14 =>
  K (Sl.nil, t12, 0) w14) w13)
  (join1 (fun (j15 : Sl → World → Prop) =>
  callV Pr Value.bool 62 #[(.agg ⟨[(.int .i64 h_.Promised.Round), (.int .i64 h_.Promised.Node)]⟩), (.agg ⟨[(.int .i64 m.Ballot.Round), (.int .i64 m.Ballot.Node)]⟩)] w11 fun t16 w17 =>
  kp b5 w11 w17 <|
  kp b3 w11 w17 <|
  kp b1 w11 w17 <|
  ifB t16
  (opTy Pr (Instr.buildSlice 33 1 #[(0, (.agg ⟨[(.int .i64 1), (.int .i64 m.Ballot.Round), (.int .i64 m.Ballot.Node), (.int .i64 0), (.int .i64 0), (.int .i64 0), (.int .i64 0), (sval []), (sval []), (sval []), (.int .i64 0), Sl.nil.val]⟩))]) Sl.val (fun t18 w19 =>
  kp b5 w17 w19 <|
  kp b3 w17 w19 <|
  kp b1 w17 w19 <|
  opTy Pr (Builtin.append_ #[33, 33] 33 #[Sl.nil.val, t18.val]) Sl.val (fun out20 w21 =>
  kp b5 w19 w21 <|
  kp b3 w19 w21 <|
  kp b1 w19 w21 <|
  j15 out20 w21) w19) w17)
  (j15 Sl.nil w17))
  (fun out22 w23 =>
  callV Pr ApiMsg.val 63 #[(.agg ⟨[(.int .i64 m.Kind), (.int .i64 m.From), (.int .i64 m.To), (.int .i64 m.Ballot.Round), (.int .i64 m.Ballot.Node), (.int .i64 m.Index), (.int .i64 m.Commit), (.int .i64 m.Version), m.Entries.val, m.Image.val]⟩), (.int .i64 4), (.agg ⟨[(.int .i64 m.Ballot.Round), (.int .i64 m.Ballot.Node)]⟩)] w23 fun t24 w25 =>
  kp b5 w23 w25 <|
  kp b3 w23 w25 <|
  kp b1 w23 w25 <|
  newV (fun b26 w27 =>
  wrM b26 (fun w28 =>
  wrM b26 (fun w29 =>
  wrM b26 (fun w30 =>
  callV Pr Sl.val 27 #[(.agg ⟨[(.int .i64 h_.Promised.Round), (.int .i64 h_.Promised.Node), (.int .i64 h_.Base), h_.Image.val, h_.Accepted.val, h_.Chosen.val]⟩), (.int .i64 m.Index), (.int .i64 commit)] w30 fun t31 w32 =>
  kp b26 w30 w32 <|
  kp b5 w30 w32 <|
  kp b3 w30 w32 <|
  kp b1 w30 w32 <|
  wrM b26 (fun w33 =>
  heldM (fun S35 w34 =>
  wrM b5 (fun w36 =>
  (S35 w36) ∧
  (K (out22, (ApiMsg.mk t24.Kind t24.From t24.To t24.Ballot m.Index commit t24.Version t31 t24.Image), 0) w36)) w34) w33) w32) w29) w28) w27) w25)))) w4) w2) w
def acceptor_Prepare_ann : Ann := (.s (.r [(0, .nl 3), (1, .nl 5), (3, .nl 7)]) (.s (.s (.r [(3, .call (rI .i64))]) (.s .d (.c (.s (.r [(3, .ls 7)]) .d) .d))) (.s (.s (.r [(4, .call rB)]) (.c (.s (.r [(3, .call rApiMsg), (5, .ls 7)]) .d) .d)) (.s .d (.sj [(.s 10, rSl)] (.s (.r [(4, .call rB)]) (.c (.r [(4, .ty rSl), (5, .ty rSl)]) .d)) (.s (.r [(3, .call rApiMsg), (4, .nl 11), (5, .ls 11)]) (.s (.r [(4, .ls 11), (6, .ls 11)]) (.s (.r [(4, .call rSl), (6, .ls 11)]) (.s (.h (.take 0 (.take 1 (.take 2 (.one 3 (.take 4 .done))))) [(3, .ls 7)]) .d)))))))))
theorem acceptor_Prepare_calls {h_ : ApiHard} {commit : Int} {m : ApiMsg} {K : (Sl × ApiMsg × Int) → World → Prop} {w : World} (h : acceptor_Prepare h_ commit m K w) : callV Pr (tval3 Sl.val ApiMsg.val (Value.int .i64)) 25 #[(.agg ⟨h_.cs⟩), (.int .i64 commit), (.agg ⟨m.cs⟩)] w K :=
  calls_of Pr_plain Pr_mixed Pr_func25 acceptor_Prepare_ann (rT3 rSl rApiMsg (rI .i64)) (args := [(.agg ⟨h_.cs⟩), (.int .i64 commit), (.agg ⟨m.cs⟩)]) (by kernel_rfl) h

/- changeover/changeoverref12.Same -/
def ref12_Same (a : Sl) (b : Sl) (K : Bool → World → Prop) (w : World) : Prop :=
  ifB ((a.len : Int) != (b.len : Int))
  (K false w)
  (loop1 (0 : Int) (fun i1 k2 w3 =>
  ifB (decide (i1 < (a.len : Int)))
  (drewM (fun w4 =>
  opRd Pr (Instr.indexAt 25 a.val (.int .i64 i1)) pav (fun t5 =>
  opRd Pr (Instr.loadAt 54 (.pointer (some t5))) ApiEntry.val (fun t6 =>
  opRd Pr (Instr.indexAt 25 b.val (.int .i64 i1)) pav (fun t7 =>
  opRd Pr (Instr.loadAt 54 (.pointer (some t7))) ApiEntry.val (fun t8 =>
  opRd Pr (binSem .neq 54 (.tmp 20) (.tmp 24) (.agg ⟨t6.cs⟩) (.agg ⟨t8.cs⟩)) Value.bool (fun t9 =>
  ifB t9
  (K false w4)
  (k2 (i64 (i1 + 1)) w4)) w4) w4) w4) w4) w4) w3)
  (K true w3)) w)
def ref12_Same_ann : Ann := (.s .d (.s (.s .d (.c (.s .d .d) .d)) (.s (.s .d (.b (.l [(.s 5, (rI .i64))] (.s (.s .d (.c .d .d)) (.s (.b (.s (.r [(2, .rd rPA), (3, .rd rApiEntry), (6, .rd rPA), (7, .rd rApiEntry), (8, .rd rB)]) (.c (.s .d .d) .d))) .d))))) (.s .d .d))))
theorem ref12_Same_calls {a : Sl} {b : Sl} {K : Bool → World → Prop} {w : World} (h : ref12_Same a b K w) : callV Pr Value.bool 26 #[a.val, b.val] w K :=
  calls_of Pr_plain Pr_mixed Pr_func26 ref12_Same_ann rB (args := [a.val, b.val]) (by kernel_rfl) h

/- changeover/acceptor.Ahead -/
def acceptor_Ahead (h_ : ApiHard) (from_ : Int) (commit : Int) (K : Sl → World → Prop) (w : World) : Prop :=
  newV (fun b1 w2 =>
  opTy Pr (Instr.box 3 (.int .i64 commit)) pav (fun commit3 w4 =>
  kp b1 w2 w4 <|
  callV Pr Sl.val 66 #[h_.Accepted.val, (.int .i64 from_)] w4 fun t5 w6 =>
  kp b1 w4 w6 <|
  callV Pr Sl.val 65 #[t5.val, (.func (.func 67) #[] #[(.pointer (some commit3))])] w6 fun t7 w8 =>
  kp b1 w6 w8 <|
  K t7 w8) w2) w
def acceptor_Ahead_ann : Ann := (.s (.r [(0, .nl 3), (1, .ty rPA)]) (.s (.r [(3, .call rSl), (5, .call rSl)]) .d))
theorem acceptor_Ahead_calls {h_ : ApiHard} {from_ : Int} {commit : Int} {K : Sl → World → Prop} {w : World} (h : acceptor_Ahead h_ from_ commit K w) : callV Pr Sl.val 27 #[(.agg ⟨h_.cs⟩), (.int .i64 from_), (.int .i64 commit)] w K :=
  calls_of Pr_plain Pr_mixed Pr_func27 acceptor_Ahead_ann rSl (args := [(.agg ⟨h_.cs⟩), (.int .i64 from_), (.int .i64 commit)]) (by kernel_rfl) h

/- changeover/changeoverref12.Find -/
def ref12_Find (l : Sl) (index : Int) (K : Int → World → Prop) (w : World) : Prop :=
  loop1 (0 : Int) (fun i1 k2 w3 =>
  ifB (decide (i1 < (l.len : Int)))
  (opRd Pr (Instr.indexAt 25 l.val (.int .i64 i1)) pav (fun t4 =>
  opRd Pr (Instr.loadAt 3 (.pointer (some (t4.add 0)))) (Value.int .i64) (fun t5 =>
  ifB (t5 == index)
  (K i1 w3)
  (k2 (i64 (i1 + 1)) w3)) w3) w3)
  (K (-1) w3)) w
def ref12_Find_ann : Ann := (.s .d (.s (.s .d (.b (.l [(.s 5, (rI .i64))] (.s (.s .d (.c .d .d)) (.s (.b (.s (.r [(2, .rd rPA), (4, .rd (rI .i64))]) (.c (.s .d .d) .d))) .d))))) (.s .d .d)))
theorem ref12_Find_calls {l : Sl} {index : Int} {K : Int → World → Prop} {w : World} (h : ref12_Find l index K w) : callV Pr (Value.int .i64) 28 #[l.val, (.int .i64 index)] w K :=
  calls_of Pr_plain Pr_mixed Pr_func28 ref12_Find_ann (rI .i64) (args := [l.val, (.int .i64 index)]) (by kernel_rfl) h

/- changeover/changeoverlaw14.awake -/
def law14_awake (K : Bool → World → Prop) (w : World) : Prop :=
  callV Pr (tval2 Sl.val (Value.int .i64)) 30 #[(.agg ⟨[(.int .i64 9), (.int .i64 1), (.int .i64 2), (.int .i64 0), (.int .i64 0), (.int .i64 3), (.int .i64 0), (.int .i64 0), Sl.nil.val, Sl.nil.val]⟩)] w fun t1 w2 =>
  ifB (t1.2 == 0)
  (ifB ((t1.1.len : Int) == 4)
  (opRd Pr (Instr.indexAt 24 t1.1.val (.int .i64 3)) pav (fun t3 =>
  opRd Pr (Instr.loadAt 5 (.pointer (some t3))) (Value.int .u8) (fun t4 =>
  K (t4 == 3) w2) w2) w2)
  (K false w2))
  (K false w2)
def law14_awake_ann : Ann := (.s .d (.s (.r [(1, .call (rT2 rSl (rI .i64)))]) (.s (.r [(9, .rd rPA), (10, .rd (rI .u8))]) .d)))
theorem law14_awake_calls {K : Bool → World → Prop} {w : World} (h : law14_awake K w) : callV Pr Value.bool 29 #[] w K :=
  calls_of Pr_plain Pr_mixed Pr_func29 law14_awake_ann rB (args := []) (by kernel_rfl) h

/- changeover/msgtwo.Encode -/
def msgtwo_Encode (m : ApiMsg) (K : (Sl × Int) → World → Prop) (w : World) : Prop :=
  opTy Pr (Instr.box 29 (.agg ⟨m.cs⟩)) pav (fun m1 w2 =>
  opRd Pr (Instr.loadAt 29 (.pointer (some m1))) ApiMsg.val (fun t3 =>
  callV Pr (Value.int .i64) 68 #[(.agg ⟨t3.cs⟩)] w2 fun e4 w5 =>
  ifB (e4 != 0)
  (K (Sl.nil, e4) w5)
  (opTy Pr (Instr.box 77 (.agg ⟨[Sl.nil.val]⟩)) pav (fun w6 w7 =>
  opRd Pr (Instr.loadAt 3 (.pointer (some (m1.add 0)))) (Value.int .i64) (fun t8 =>
  callV Pr uval 69 #[(.pointer (some w6)), (.int .i64 t8)] w7 fun t9 w10 =>
  opRd Pr (Instr.loadAt 3 (.pointer (some (m1.add 1)))) (Value.int .i64) (fun t11 =>
  callV Pr uval 69 #[(.pointer (some w6)), (.int .i64 t11)] w10 fun t12 w13 =>
  opRd Pr (Instr.loadAt 3 (.pointer (some (m1.add 2)))) (Value.int .i64) (fun t14 =>
  callV Pr uval 69 #[(.pointer (some w6)), (.int .i64 t14)] w13 fun t15 w16 =>
  callV Pr (tval2 Sl.val Value.bool) 70 #[(.pointer (some m1))] w16 fun t17 w18 =>
  loop1 (0 : Int) (fun t19 k20 w21 =>
  ifB (decide (t19 < (t17.1.len : Int)))
  (opRd Pr (Instr.indexAt 102 t17.1.val (.int .i64 t19)) pav (fun t22 =>
  opRd Pr (Instr.loadAt 20 (.pointer (some t22))) vval (fun x23 =>
  callV Pr uval 71 #[(.pointer (some w6)), x23] w21 fun t24 w25 =>
  k20 (i64 (t19 + 1)) w25) w21) w21)
  (callV Pr Sl.val 50 #[(.pointer (some w6))] w21 fun t26 w27 =>
  K (t26, 0) w27)) w18) w13) w10) w7) w5)) w2) w
def msgtwo_Encode_ann : Ann := (.s (.r [(0, .ty rPA)]) (.s (.s (.r [(0, .rd rApiMsg), (1, .call (rI .i64))]) (.s .d (.c (.s .d .d) .d))) (.s (.r [(1, .ty rPA)]) (.s (.r [(2, .rd (rI .i64)), (3, .call rU)]) (.s (.r [(2, .rd (rI .i64)), (3, .call rU)]) (.s (.r [(2, .rd (rI .i64)), (3, .call rU)]) (.s (.r [(0, .call (rT2 rSl rB))]) (.s (.s .d (.b (.l [(.s 35, (rI .i64))] (.s .d (.s (.c .d .d) (.s (.b (.s (.r [(0, .rd rPA), (1, .rd rV)]) (.r [(2, .call rU)]))) .d)))))) (.s (.r [(1, .call rSl)]) .d)))))))))
theorem msgtwo_Encode_calls {m : ApiMsg} {K : (Sl × Int) → World → Prop} {w : World} (h : msgtwo_Encode m K w) : callV Pr (tval2 Sl.val (Value.int .i64)) 30 #[(.agg ⟨m.cs⟩)] w K :=
  calls_of Pr_plain Pr_mixed Pr_func30 msgtwo_Encode_ann (rT2 rSl (rI .i64)) (args := [(.agg ⟨m.cs⟩)]) (by kernel_rfl) h

/- changeover/changeoverref13.Check -/
def ref13_Check (m : ApiMsg) (K : Int → World → Prop) (w : World) : Prop :=
  newV (fun b1 w2 =>
  callV Pr sval 72 #[(.int .i64 m.Kind)] w2 fun t3 w4 =>
  kp b1 w2 w4 <|
  ifB (strEq t3 [])
  (K 5 w4)
  (ifB (decide (m.From < 1))
  (K 6 w4)
  (ifB (decide (m.From > 9))
  (K 6 w4)
  (ifB (decide (m.To < 1))
  (K 6 w4)
  (ifB (decide (m.To > 9))
  (K 6 w4)
  (ifB (m.From == m.To)
  (K 6 w4)
  (join0 (fun (j5 : World → Prop) =>
  callV Pr Value.bool 73 #[(.int .i64 m.Kind), (.int .u8 98)] w4 fun t6 w7 =>
  kp b1 w4 w7 <|
  ifB t6
  (callV Pr Value.bool 74 #[(.agg ⟨[(.int .i64 m.Ballot.Round), (.int .i64 m.Ballot.Node)]⟩)] w7 fun t8 w9 =>
  kp b1 w7 w9 <|
  ifB (!t8)
  (K 6 w9)
  (callV Pr Value.bool 73 #[(.int .i64 m.Kind), (.int .u8 105)] w9 fun t10 w11 =>
  kp b1 w9 w11 <|
  ifB t10
  (ifB (decide (m.Index < 1))
  (K 6 w11)
  (ifB (decide (m.Index > 4294967296))
  (K 6 w11)
  (callV Pr Value.bool 73 #[(.int .i64 m.Kind), (.int .u8 99)] w11 fun t12 w13 =>
  kp b1 w11 w13 <|
  ifB t12
  (ifB (decide (m.Commit < 0))
  (K 6 w13)
  (ifB (decide (m.Commit > 4294967296))
  (K 6 w13)
  (callV Pr Value.bool 73 #[(.int .i64 m.Kind), (.int .u8 118)] w13 fun t14 w15 =>
  kp b1 w13 w15 <|
  ifB t14
  (ifB (m.Version != 1)
  (ifB (m.Version != 2)
  (K 6 w15)
  (j5 w15))
  (j5 w15))
  (j5 w15))))
  (callV Pr Value.bool 73 #[(.int .i64 m.Kind), (.int .u8 118)] w13 fun t16 w17 =>
  kp b1 w13 w17 <|
  ifB t16
  (ifB (m.Version != 1)
  (ifB (m.Version != 2)
  (K 6 w17)
  (j5 w17))
  (j5 w17))
  (j5 w17)))))
  (callV Pr Value.bool 73 #[(.int .i64 m.Kind), (.int .u8 99)] w11 fun t18 w19 =>
  kp b1 w11 w19 <|
  ifB t18
  (ifB (decide (m.Commit < 0))
  (K 6 w19)
  (ifB (decide (m.Commit > 4294967296))
  (K 6 w19)
  (callV Pr Value.bool 73 #[(.int .i64 m.Kind), (.int .u8 118)] w19 fun t20 w21 =>
  kp b1 w19 w21 <|
  ifB t20
  (ifB (m.Version != 1)
  (ifB (m.Version != 2)
  (K 6 w21)
  (j5 w21))
  (j5 w21))
  (j5 w21))))
  (callV Pr Value.bool 73 #[(.int .i64 m.Kind), (.int .u8 118)] w19 fun t22 w23 =>
  kp b1 w19 w23 <|
  ifB t22
  (ifB (m.Version != 1)
  (ifB (m.Version != 2)
  (K 6 w23)
  (j5 w23))
  (j5 w23))
  (j5 w23)))))
  (callV Pr Value.bool 73 #[(.int .i64 m.Kind), (.int .u8 105)] w7 fun t24 w25 =>
  kp b1 w7 w25 <|
  ifB t24
  (ifB (decide (m.Index < 1))
  (K 6 w25)
  (ifB (decide (m.Index > 4294967296))
  (K 6 w25)
  (callV Pr Value.bool 73 #[(.int .i64 m.Kind), (.int .u8 99)] w25 fun t26 w27 =>
  kp b1 w25 w27 <|
  ifB t26
  (ifB (decide (m.Commit < 0))
  (K 6 w27)
  (ifB (decide (m.Commit > 4294967296))
  (K 6 w27)
  (callV Pr Value.bool 73 #[(.int .i64 m.Kind), (.int .u8 118)] w27 fun t28 w29 =>
  kp b1 w27 w29 <|
  ifB t28
  (ifB (m.Version != 1)
  (ifB (m.Version != 2)
  (K 6 w29)
  (j5 w29))
  (j5 w29))
  (j5 w29))))
  (callV Pr Value.bool 73 #[(.int .i64 m.Kind), (.int .u8 118)] w27 fun t30 w31 =>
  kp b1 w27 w31 <|
  ifB t30
  (ifB (m.Version != 1)
  (ifB (m.Version != 2)
  (K 6 w31)
  (j5 w31))
  (j5 w31))
  (j5 w31)))))
  (callV Pr Value.bool 73 #[(.int .i64 m.Kind), (.int .u8 99)] w25 fun t32 w33 =>
  kp b1 w25 w33 <|
  ifB t32
  (ifB (decide (m.Commit < 0))
  (K 6 w33)
  (ifB (decide (m.Commit > 4294967296))
  (K 6 w33)
  (callV Pr Value.bool 73 #[(.int .i64 m.Kind), (.int .u8 118)] w33 fun t34 w35 =>
  kp b1 w33 w35 <|
  ifB t34
  (ifB (m.Version != 1)
  (ifB (m.Version != 2)
  (K 6 w35)
  (j5 w35))
  (j5 w35))
  (j5 w35))))
  (callV Pr Value.bool 73 #[(.int .i64 m.Kind), (.int .u8 118)] w33 fun t36 w37 =>
  kp b1 w33 w37 <|
  ifB t36
  (ifB (m.Version != 1)
  (ifB (m.Version != 2)
  (K 6 w37)
  (j5 w37))
  (j5 w37))
  (j5 w37)))))
  (fun w38 =>
  join0 (fun (j39 : World → Prop) =>
  callV Pr Value.bool 73 #[(.int .i64 m.Kind), (.int .u8 101)] w38 fun t40 w41 =>
  kp b1 w38 w41 <|
  ifB t40
  (ifB (decide ((m.Entries.len : Int) > 256))
  (K 2 w41)
  (callV Pr Value.bool 73 #[(.int .i64 m.Kind), (.int .u8 109)] w41 fun t42 w43 =>
  kp b1 w41 w43 <|
  ifB t42
  (ifB (decide ((m.Image.len : Int) > 32768))
  (K 2 w43)
  (j39 w43))
  (j39 w43)))
  (callV Pr Value.bool 73 #[(.int .i64 m.Kind), (.int .u8 109)] w41 fun t44 w45 =>
  kp b1 w41 w45 <|
  ifB t44
  (ifB (decide ((m.Image.len : Int) > 32768))
  (K 2 w45)
  (j39 w45))
  (j39 w45)))
  (fun w46 =>
  join0 (fun (j47 : World → Prop) =>
  callV Pr Value.bool 73 #[(.int .i64 m.Kind), (.int .u8 101)] w46 fun t48 w49 =>
  kp b1 w46 w49 <|
  ifB t48
  (callV Pr (Value.int .i64) 59 #[m.Entries.val] w49 fun e50 w51 =>
  kp b1 w49 w51 <|
  ifB (e50 != 0)
  (K e50 w51)
  (j47 w51))
  (j47 w49))
  (fun w52 =>
  join0 (fun (j53 : World → Prop) =>
  heldM (fun S55 w54 =>
  callV Pr Value.bool 73 #[(.int .i64 m.Kind), (.int .u8 98)] w54 fun t56 w57 =>
  kp b1 w54 w57 <|
  (S55 w57) ∧
  (ifB (!t56)
  (ifB (m.Ballot.Round != 0)
  (K 3 w57)
  (ifB (m.Ballot.Node != 0)
  (K 3 w57)
  (callV Pr Value.bool 73 #[(.int .i64 m.Kind), (.int .u8 105)] w57 fun t58 w59 =>
  kp b1 w57 w59 <|
  (S55 w59) ∧
  (ifB (!t58)
  (ifB (m.Index != 0)
  (K 3 w59)
  (callV Pr Value.bool 73 #[(.int .i64 m.Kind), (.int .u8 99)] w59 fun t60 w61 =>
  kp b1 w59 w61 <|
  (S55 w61) ∧
  (ifB (!t60)
  (ifB (m.Commit != 0)
  (K 3 w61)
  (callV Pr Value.bool 73 #[(.int .i64 m.Kind), (.int .u8 118)] w61 fun t62 w63 =>
  kp b1 w61 w63 <|
  (S55 w63) ∧
  (ifB (!t62)
  (ifB (m.Version != 0)
  (K 3 w63)
  (callV Pr Value.bool 73 #[(.int .i64 m.Kind), (.int .u8 101)] w63 fun t64 w65 =>
  kp b1 w63 w65 <|
  (S55 w65) ∧
  (ifB (!t64)
  (ifB (decide ((m.Entries.len : Int) > 0))
  (K 3 w65)
  (callV Pr Value.bool 73 #[(.int .i64 m.Kind), (.int .u8 109)] w65 fun t66 w67 =>
  kp b1 w65 w67 <|
  (S55 w67) ∧
  (ifB (!(t66 == (decide ((m.Image.len : Int) > 0))))
  (K 3 w67)
  (j53 w67))))
  (callV Pr Value.bool 73 #[(.int .i64 m.Kind), (.int .u8 109)] w65 fun t68 w69 =>
  kp b1 w65 w69 <|
  (S55 w69) ∧
  (ifB (!(t68 == (decide ((m.Image.len : Int) > 0))))
  (K 3 w69)
  (j53 w69))))))
  (callV Pr Value.bool 73 #[(.int .i64 m.Kind), (.int .u8 101)] w63 fun t70 w71 =>
  kp b1 w63 w71 <|
  (S55 w71) ∧
  (ifB (!t70)
  (ifB (decide ((m.Entries.len : Int) > 0))
  (K 3 w71)
  (callV Pr Value.bool 73 #[(.int .i64 m.Kind), (.int .u8 109)] w71 fun t72 w73 =>
  kp b1 w71 w73 <|
  (S55 w73) ∧
  (ifB (!(t72 == (decide ((m.Image.len : Int) > 0))))
  (K 3 w73)
  (j53 w73))))
  (callV Pr Value.bool 73 #[(.int .i64 m.Kind), (.int .u8 109)] w71 fun t74 w75 =>
  kp b1 w71 w75 <|
  (S55 w75) ∧
  (ifB (!(t74 == (decide ((m.Image.len : Int) > 0))))
  (K 3 w75)
  (j53 w75))))))))
  (callV Pr Value.bool 73 #[(.int .i64 m.Kind), (.int .u8 118)] w61 fun t76 w77 =>
  kp b1 w61 w77 <|
  (S55 w77) ∧
  (ifB (!t76)
  (ifB (m.Version != 0)
  (K 3 w77)
  (callV Pr Value.bool 73 #[(.int .i64 m.Kind), (.int .u8 101)] w77 fun t78 w79 =>
  kp b1 w77 w79 <|
  (S55 w79) ∧
  (ifB (!t78)
  (ifB (decide ((m.Entries.len : Int) > 0))
  (K 3 w79)
  (callV Pr Value.bool 73 #[(.int .i64 m.Kind), (.int .u8 109)] w79 fun t80 w81 =>
  kp b1 w79 w81 <|
  (S55 w81) ∧
  (ifB (!(t80 == (decide ((m.Image.len : Int) > 0))))
  (K 3 w81)
  (j53 w81))))
  (callV Pr Value.bool 73 #[(.int .i64 m.Kind), (.int .u8 109)] w79 fun t82 w83 =>
  kp b1 w79 w83 <|
  (S55 w83) ∧
  (ifB (!(t82 == (decide ((m.Image.len : Int) > 0))))
  (K 3 w83)
  (j53 w83))))))
  (callV Pr Value.bool 73 #[(.int .i64 m.Kind), (.int .u8 101)] w77 fun t84 w85 =>
  kp b1 w77 w85 <|
  (S55 w85) ∧
  (ifB (!t84)
  (ifB (decide ((m.Entries.len : Int) > 0))
  (K 3 w85)
  (callV Pr Value.bool 73 #[(.int .i64 m.Kind), (.int .u8 109)] w85 fun t86 w87 =>
  kp b1 w85 w87 <|
  (S55 w87) ∧
  (ifB (!(t86 == (decide ((m.Image.len : Int) > 0))))
  (K 3 w87)
  (j53 w87))))
  (callV Pr Value.bool 73 #[(.int .i64 m.Kind), (.int .u8 109)] w85 fun t88 w89 =>
  kp b1 w85 w89 <|
  (S55 w89) ∧
  (ifB (!(t88 == (decide ((m.Image.len : Int) > 0))))
  (K 3 w89)
  (j53 w89))))))))))
  (callV Pr Value.bool 73 #[(.int .i64 m.Kind), (.int .u8 99)] w59 fun t90 w91 =>
  kp b1 w59 w91 <|
  (S55 w91) ∧
  (ifB (!t90)
  (ifB (m.Commit != 0)
  (K 3 w91)
  (callV Pr Value.bool 73 #[(.int .i64 m.Kind), (.int .u8 118)] w91 fun t92 w93 =>
  kp b1 w91 w93 <|
  (S55 w93) ∧
  (ifB (!t92)
  (ifB (m.Version != 0)
  (K 3 w93)
  (callV Pr Value.bool 73 #[(.int .i64 m.Kind), (.int .u8 101)] w93 fun t94 w95 =>
  kp b1 w93 w95 <|
  (S55 w95) ∧
  (ifB (!t94)
  (ifB (decide ((m.Entries.len : Int) > 0))
  (K 3 w95)
  (callV Pr Value.bool 73 #[(.int .i64 m.Kind), (.int .u8 109)] w95 fun t96 w97 =>
  kp b1 w95 w97 <|
  (S55 w97) ∧
  (ifB (!(t96 == (decide ((m.Image.len : Int) > 0))))
  (K 3 w97)
  (j53 w97))))
  (callV Pr Value.bool 73 #[(.int .i64 m.Kind), (.int .u8 109)] w95 fun t98 w99 =>
  kp b1 w95 w99 <|
  (S55 w99) ∧
  (ifB (!(t98 == (decide ((m.Image.len : Int) > 0))))
  (K 3 w99)
  (j53 w99))))))
  (callV Pr Value.bool 73 #[(.int .i64 m.Kind), (.int .u8 101)] w93 fun t100 w101 =>
  kp b1 w93 w101 <|
  (S55 w101) ∧
  (ifB (!t100)
  (ifB (decide ((m.Entries.len : Int) > 0))
  (K 3 w101)
  (callV Pr Value.bool 73 #[(.int .i64 m.Kind), (.int .u8 109)] w101 fun t102 w103 =>
  kp b1 w101 w103 <|
  (S55 w103) ∧
  (ifB (!(t102 == (decide ((m.Image.len : Int) > 0))))
  (K 3 w103)
  (j53 w103))))
  (callV Pr Value.bool 73 #[(.int .i64 m.Kind), (.int .u8 109)] w101 fun t104 w105 =>
  kp b1 w101 w105 <|
  (S55 w105) ∧
  (ifB (!(t104 == (decide ((m.Image.len : Int) > 0))))
  (K 3 w105)
  (j53 w105))))))))
  (callV Pr Value.bool 73 #[(.int .i64 m.Kind), (.int .u8 118)] w91 fun t106 w107 =>
  kp b1 w91 w107 <|
  (S55 w107) ∧
  (ifB (!t106)
  (ifB (m.Version != 0)
  (K 3 w107)
  (callV Pr Value.bool 73 #[(.int .i64 m.Kind), (.int .u8 101)] w107 fun t108 w109 =>
  kp b1 w107 w109 <|
  (S55 w109) ∧
  (ifB (!t108)
  (ifB (decide ((m.Entries.len : Int) > 0))
  (K 3 w109)
  (callV Pr Value.bool 73 #[(.int .i64 m.Kind), (.int .u8 109)] w109 fun t110 w111 =>
  kp b1 w109 w111 <|
  (S55 w111) ∧
  (ifB (!(t110 == (decide ((m.Image.len : Int) > 0))))
  (K 3 w111)
  (j53 w111))))
  (callV Pr Value.bool 73 #[(.int .i64 m.Kind), (.int .u8 109)] w109 fun t112 w113 =>
  kp b1 w109 w113 <|
  (S55 w113) ∧
  (ifB (!(t112 == (decide ((m.Image.len : Int) > 0))))
  (K 3 w113)
  (j53 w113))))))
  (callV Pr Value.bool 73 #[(.int .i64 m.Kind), (.int .u8 101)] w107 fun t114 w115 =>
  kp b1 w107 w115 <|
  (S55 w115) ∧
  (ifB (!t114)
  (ifB (decide ((m.Entries.len : Int) > 0))
  (K 3 w115)
  (callV Pr Value.bool 73 #[(.int .i64 m.Kind), (.int .u8 109)] w115 fun t116 w117 =>
  kp b1 w115 w117 <|
  (S55 w117) ∧
  (ifB (!(t116 == (decide ((m.Image.len : Int) > 0))))
  (K 3 w117)
  (j53 w117))))
  (callV Pr Value.bool 73 #[(.int .i64 m.Kind), (.int .u8 109)] w115 fun t118 w119 =>
  kp b1 w115 w119 <|
  (S55 w119) ∧
  (ifB (!(t118 == (decide ((m.Image.len : Int) > 0))))
  (K 3 w119)
  (j53 w119)))))))))))))
  (callV Pr Value.bool 73 #[(.int .i64 m.Kind), (.int .u8 105)] w57 fun t120 w121 =>
  kp b1 w57 w121 <|
  (S55 w121) ∧
  (ifB (!t120)
  (ifB (m.Index != 0)
  (K 3 w121)
  (callV Pr Value.bool 73 #[(.int .i64 m.Kind), (.int .u8 99)] w121 fun t122 w123 =>
  kp b1 w121 w123 <|
  (S55 w123) ∧
  (ifB (!t122)
  (ifB (m.Commit != 0)
  (K 3 w123)
  (callV Pr Value.bool 73 #[(.int .i64 m.Kind), (.int .u8 118)] w123 fun t124 w125 =>
  kp b1 w123 w125 <|
  (S55 w125) ∧
  (ifB (!t124)
  (ifB (m.Version != 0)
  (K 3 w125)
  (callV Pr Value.bool 73 #[(.int .i64 m.Kind), (.int .u8 101)] w125 fun t126 w127 =>
  kp b1 w125 w127 <|
  (S55 w127) ∧
  (ifB (!t126)
  (ifB (decide ((m.Entries.len : Int) > 0))
  (K 3 w127)
  (callV Pr Value.bool 73 #[(.int .i64 m.Kind), (.int .u8 109)] w127 fun t128 w129 =>
  kp b1 w127 w129 <|
  (S55 w129) ∧
  (ifB (!(t128 == (decide ((m.Image.len : Int) > 0))))
  (K 3 w129)
  (j53 w129))))
  (callV Pr Value.bool 73 #[(.int .i64 m.Kind), (.int .u8 109)] w127 fun t130 w131 =>
  kp b1 w127 w131 <|
  (S55 w131) ∧
  (ifB (!(t130 == (decide ((m.Image.len : Int) > 0))))
  (K 3 w131)
  (j53 w131))))))
  (callV Pr Value.bool 73 #[(.int .i64 m.Kind), (.int .u8 101)] w125 fun t132 w133 =>
  kp b1 w125 w133 <|
  (S55 w133) ∧
  (ifB (!t132)
  (ifB (decide ((m.Entries.len : Int) > 0))
  (K 3 w133)
  (callV Pr Value.bool 73 #[(.int .i64 m.Kind), (.int .u8 109)] w133 fun t134 w135 =>
  kp b1 w133 w135 <|
  (S55 w135) ∧
  (ifB (!(t134 == (decide ((m.Image.len : Int) > 0))))
  (K 3 w135)
  (j53 w135))))
  (callV Pr Value.bool 73 #[(.int .i64 m.Kind), (.int .u8 109)] w133 fun t136 w137 =>
  kp b1 w133 w137 <|
  (S55 w137) ∧
  (ifB (!(t136 == (decide ((m.Image.len : Int) > 0))))
  (K 3 w137)
  (j53 w137))))))))
  (callV Pr Value.bool 73 #[(.int .i64 m.Kind), (.int .u8 118)] w123 fun t138 w139 =>
  kp b1 w123 w139 <|
  (S55 w139) ∧
  (ifB (!t138)
  (ifB (m.Version != 0)
  (K 3 w139)
  (callV Pr Value.bool 73 #[(.int .i64 m.Kind), (.int .u8 101)] w139 fun t140 w141 =>
  kp b1 w139 w141 <|
  (S55 w141) ∧
  (ifB (!t140)
  (ifB (decide ((m.Entries.len : Int) > 0))
  (K 3 w141)
  (callV Pr Value.bool 73 #[(.int .i64 m.Kind), (.int .u8 109)] w141 fun t142 w143 =>
  kp b1 w141 w143 <|
  (S55 w143) ∧
  (ifB (!(t142 == (decide ((m.Image.len : Int) > 0))))
  (K 3 w143)
  (j53 w143))))
  (callV Pr Value.bool 73 #[(.int .i64 m.Kind), (.int .u8 109)] w141 fun t144 w145 =>
  kp b1 w141 w145 <|
  (S55 w145) ∧
  (ifB (!(t144 == (decide ((m.Image.len : Int) > 0))))
  (K 3 w145)
  (j53 w145))))))
  (callV Pr Value.bool 73 #[(.int .i64 m.Kind), (.int .u8 101)] w139 fun t146 w147 =>
  kp b1 w139 w147 <|
  (S55 w147) ∧
  (ifB (!t146)
  (ifB (decide ((m.Entries.len : Int) > 0))
  (K 3 w147)
  (callV Pr Value.bool 73 #[(.int .i64 m.Kind), (.int .u8 109)] w147 fun t148 w149 =>
  kp b1 w147 w149 <|
  (S55 w149) ∧
  (ifB (!(t148 == (decide ((m.Image.len : Int) > 0))))
  (K 3 w149)
  (j53 w149))))
  (callV Pr Value.bool 73 #[(.int .i64 m.Kind), (.int .u8 109)] w147 fun t150 w151 =>
  kp b1 w147 w151 <|
  (S55 w151) ∧
  (ifB (!(t150 == (decide ((m.Image.len : Int) > 0))))
  (K 3 w151)
  (j53 w151))))))))))
  (callV Pr Value.bool 73 #[(.int .i64 m.Kind), (.int .u8 99)] w121 fun t152 w153 =>
  kp b1 w121 w153 <|
  (S55 w153) ∧
  (ifB (!t152)
  (ifB (m.Commit != 0)
  (K 3 w153)
  (callV Pr Value.bool 73 #[(.int .i64 m.Kind), (.int .u8 118)] w153 fun t154 w155 =>
  kp b1 w153 w155 <|
  (S55 w155) ∧
  (ifB (!t154)
  (ifB (m.Version != 0)
  (K 3 w155)
  (callV Pr Value.bool 73 #[(.int .i64 m.Kind), (.int .u8 101)] w155 fun t156 w157 =>
  kp b1 w155 w157 <|
  (S55 w157) ∧
  (ifB (!t156)
  (ifB (decide ((m.Entries.len : Int) > 0))
  (K 3 w157)
  (callV Pr Value.bool 73 #[(.int .i64 m.Kind), (.int .u8 109)] w157 fun t158 w159 =>
  kp b1 w157 w159 <|
  (S55 w159) ∧
  (ifB (!(t158 == (decide ((m.Image.len : Int) > 0))))
  (K 3 w159)
  (j53 w159))))
  (callV Pr Value.bool 73 #[(.int .i64 m.Kind), (.int .u8 109)] w157 fun t160 w161 =>
  kp b1 w157 w161 <|
  (S55 w161) ∧
  (ifB (!(t160 == (decide ((m.Image.len : Int) > 0))))
  (K 3 w161)
  (j53 w161))))))
  (callV Pr Value.bool 73 #[(.int .i64 m.Kind), (.int .u8 101)] w155 fun t162 w163 =>
  kp b1 w155 w163 <|
  (S55 w163) ∧
  (ifB (!t162)
  (ifB (decide ((m.Entries.len : Int) > 0))
  (K 3 w163)
  (callV Pr Value.bool 73 #[(.int .i64 m.Kind), (.int .u8 109)] w163 fun t164 w165 =>
  kp b1 w163 w165 <|
  (S55 w165) ∧
  (ifB (!(t164 == (decide ((m.Image.len : Int) > 0))))
  (K 3 w165)
  (j53 w165))))
  (callV Pr Value.bool 73 #[(.int .i64 m.Kind), (.int .u8 109)] w163 fun t166 w167 =>
  kp b1 w163 w167 <|
  (S55 w167) ∧
  (ifB (!(t166 == (decide ((m.Image.len : Int) > 0))))
  (K 3 w167)
  (j53 w167))))))))
  (callV Pr Value.bool 73 #[(.int .i64 m.Kind), (.int .u8 118)] w153 fun t168 w169 =>
  kp b1 w153 w169 <|
  (S55 w169) ∧
  (ifB (!t168)
  (ifB (m.Version != 0)
  (K 3 w169)
  (callV Pr Value.bool 73 #[(.int .i64 m.Kind), (.int .u8 101)] w169 fun t170 w171 =>
  kp b1 w169 w171 <|
  (S55 w171) ∧
  (ifB (!t170)
  (ifB (decide ((m.Entries.len : Int) > 0))
  (K 3 w171)
  (callV Pr Value.bool 73 #[(.int .i64 m.Kind), (.int .u8 109)] w171 fun t172 w173 =>
  kp b1 w171 w173 <|
  (S55 w173) ∧
  (ifB (!(t172 == (decide ((m.Image.len : Int) > 0))))
  (K 3 w173)
  (j53 w173))))
  (callV Pr Value.bool 73 #[(.int .i64 m.Kind), (.int .u8 109)] w171 fun t174 w175 =>
  kp b1 w171 w175 <|
  (S55 w175) ∧
  (ifB (!(t174 == (decide ((m.Image.len : Int) > 0))))
  (K 3 w175)
  (j53 w175))))))
  (callV Pr Value.bool 73 #[(.int .i64 m.Kind), (.int .u8 101)] w169 fun t176 w177 =>
  kp b1 w169 w177 <|
  (S55 w177) ∧
  (ifB (!t176)
  (ifB (decide ((m.Entries.len : Int) > 0))
  (K 3 w177)
  (callV Pr Value.bool 73 #[(.int .i64 m.Kind), (.int .u8 109)] w177 fun t178 w179 =>
  kp b1 w177 w179 <|
  (S55 w179) ∧
  (ifB (!(t178 == (decide ((m.Image.len : Int) > 0))))
  (K 3 w179)
  (j53 w179))))
  (callV Pr Value.bool 73 #[(.int .i64 m.Kind), (.int .u8 109)] w177 fun t180 w181 =>
  kp b1 w177 w181 <|
  (S55 w181) ∧
  (ifB (!(t180 == (decide ((m.Image.len : Int) > 0))))
  (K 3 w181)
  (j53 w181))))))))))))) w52)
  (fun w182 =>
  drewM (fun w183 =>
  ifB (m.Kind == 5)
  (ifB ((m.Entries.len : Int) != 1)
  (K 3 w183)
  (opRd Pr (Instr.indexAt 25 m.Entries.val (.int .i64 0)) pav (fun t184 =>
  opRd Pr (Instr.loadAt 23 (.pointer (some (t184.add 1)))) ApiBallot.val (fun t185 =>
  opRd Pr (binSem .neq 23 (.tmp 188) (.tmp 190) (.agg ⟨t185.cs⟩) (.agg ⟨[(.int .i64 m.Ballot.Round), (.int .i64 m.Ballot.Node)]⟩)) Value.bool (fun t186 =>
  ifB t186
  (K 3 w183)
  (K 0 w183)) w183) w183) w183))
  (K 0 w183)) w182))))))))))) w
def ref13_Check_ann : Ann := (.s (.r [(0, .nl 1)]) (.s .d (.s (.s (.r [(1, .call rS)]) (.c (.s .d .d) .d)) (.s (.s .d (.c (.s .d .d) .d)) (.sj [] (.s (.r [(1, .call rB), (5, .call rB), (10, .call rB), (24, .call rB), (38, .call rB)]) (.c (.s .d .d) .d)) (.sj [] (.s (.r [(1, .call rB), (10, .call rB)]) (.c (.s .d .d) .d)) (.sj [] (.s (.r [(1, .call rB)]) (.c (.s (.r [(2, .call (rI .i64))]) (.s .d (.c (.s .d .d) .d))) .d)) (.sj [] (.s (.h (.take 0 (.one 1 (.take 2 (.take 3 (.take 4 (.take 5 (.take 6 (.take 7 (.take 8 (.take 9 (.take 10 (.take 11 (.take 12 (.take 13 (.take 14 (.take 15 (.take 16 (.one 17 (.take 18 (.take 19 (.take 20 (.take 21 (.take 22 (.take 23 (.take 24 (.take 25 (.take 26 (.one 27 (.take 28 (.take 29 (.take 30 (.take 31 (.take 32 (.take 33 (.take 34 (.take 35 (.take 36 (.one 37 (.take 38 (.take 39 (.take 40 (.take 41 (.take 42 (.take 43 (.take 44 (.take 45 (.take 46 (.one 47 (.take 48 (.take 49 (.take 50 (.take 51 (.take 52 (.take 53 (.take 54 (.take 55 (.take 56 (.take 57 (.take 59 (.take 60 (.take 61 (.take 62 (.one 58 (.take 63 (.take 64 .done))))))))))))))))))))))))))))))))))))))))))))))))))))))))))))))))) [(1, .call rB), (17, .call rB), (27, .call rB), (37, .call rB), (47, .call rB), (58, .call rB)]) (.c (.s .d .d) .d)) (.s (.s (.r [(10, .rd rPA), (12, .rd rApiBallot), (15, .rd rB)]) (.c (.s .d .d) .d)) (.s .d .d))))))))))
theorem ref13_Check_calls {m : ApiMsg} {K : Int → World → Prop} {w : World} (h : ref13_Check m K w) : callV Pr (Value.int .i64) 31 #[(.agg ⟨m.cs⟩)] w K :=
  calls_of Pr_plain Pr_mixed Pr_func31 ref13_Check_ann (rI .i64) (args := [(.agg ⟨m.cs⟩)]) (by kernel_rfl) h

/- changeover/msgtwo.Decode -/
def msgtwo_Decode (b : Sl) (K : (ApiMsg × Int) → World → Prop) (w : World) : Prop :=
  newV (fun b1 w2 =>
  callV Pr Value.pointer 49 #[b.val] w2 fun r3 w4 =>
  kp b1 w2 w4 <|
  callV Pr (tval2 ApiMsg.val Value.bool) 75 #[(.pointer r3)] w4 fun t5 w6 =>
  kp b1 w4 w6 <|
  newV (fun b7 w8 =>
  wrM b7 (fun w9 =>
  callV Pr (Value.int .i64) 76 #[(.pointer r3)] w9 fun e10 w11 =>
  kp b7 w9 w11 <|
  kp b1 w9 w11 <|
  join1 (fun (j12 : Int → World → Prop) =>
  ifB (e10 == 0)
  (ifB (!t5.2)
  (j12 3 w11)
  (j12 e10 w11))
  (j12 e10 w11))
  (fun e13 w14 =>
  join1 (fun (j15 : Int → World → Prop) =>
  ifB (e13 == 0)
  (callV Pr (Value.int .i64) 77 #[(.pointer r3)] w14 fun e16 w17 =>
  kp b7 w14 w17 <|
  kp b1 w14 w17 <|
  j15 e16 w17)
  (j15 e13 w14))
  (fun e18 w19 =>
  join1 (fun (j20 : Int → World → Prop) =>
  ifB (e18 == 0)
  (callV Pr (Value.int .i64) 68 #[(.agg ⟨[(.int .i64 t5.1.Kind), (.int .i64 t5.1.From), (.int .i64 t5.1.To), (.int .i64 t5.1.Ballot.Round), (.int .i64 t5.1.Ballot.Node), (.int .i64 t5.1.Index), (.int .i64 t5.1.Commit), (.int .i64 t5.1.Version), t5.1.Entries.val, t5.1.Image.val]⟩)] w19 fun e21 w22 =>
  kp b7 w19 w22 <|
  kp b1 w19 w22 <|
  j20 e21 w22)
  (j20 e18 w19))
  (fun e23 w24 =>
  ifB (e23 != 0)
  (wrM b1 (fun w25 =>
  K ((ApiMsg.mk 0 0 0 (ApiBallot.mk 0 0) 0 0 0 Sl.nil Sl.nil), e23) w25) w24)
  (wrM b1 (fun w26 =>
  K ((ApiMsg.mk t5.1.Kind t5.1.From t5.1.To (ApiBallot.mk t5.1.Ballot.Round t5.1.Ballot.Node) t5.1.Index t5.1.Commit t5.1.Version t5.1.Entries t5.1.Image), 0) w26) w24))))) w8) w6) w
def msgtwo_Decode_ann : Ann := (.s (.r [(0, .nl 2)]) (.s (.r [(1, .call rP)]) (.s (.r [(1, .call (rT2 rApiMsg rB)), (5, .nl 5), (6, .ls 5)]) (.s (.r [(1, .call (rI .i64))]) (.sj [(.s 7, (rI .i64))] (.s .d (.c .d .d)) (.sj [(.s 7, (rI .i64))] (.s .d (.c (.r [(1, .call (rI .i64))]) .d)) (.sj [(.s 7, (rI .i64))] (.s .d (.c (.r [(1, .call (rI .i64))]) .d)) (.s (.s .d (.c (.s (.r [(2, .ls 2)]) .d) .d)) (.s (.r [(1, .ls 2)]) .d)))))))))
theorem msgtwo_Decode_calls {b : Sl} {K : (ApiMsg × Int) → World → Prop} {w : World} (h : msgtwo_Decode b K w) : callV Pr (tval2 ApiMsg.val (Value.int .i64)) 32 #[b.val] w K :=
  calls_of Pr_plain Pr_mixed Pr_func32 msgtwo_Decode_ann (rT2 rApiMsg (rI .i64)) (args := [b.val]) (by kernel_rfl) h

/- changeover/changeoverref01.Same -/
def ref01_Same (a : Sl) (b : Sl) (K : Bool → World → Prop) (w : World) : Prop :=
  ifB ((a.len : Int) != (b.len : Int))
  (K false w)
  (loop1 (0 : Int) (fun i1 k2 w3 =>
  ifB (decide (i1 < (a.len : Int)))
  (drewM (fun w4 =>
  opRd Pr (Instr.indexAt 24 a.val (.int .i64 i1)) pav (fun t5 =>
  opRd Pr (Instr.loadAt 5 (.pointer (some t5))) (Value.int .u8) (fun t6 =>
  opRd Pr (Instr.indexAt 24 b.val (.int .i64 i1)) pav (fun t7 =>
  opRd Pr (Instr.loadAt 5 (.pointer (some t7))) (Value.int .u8) (fun t8 =>
  ifB (t6 != t8)
  (K false w4)
  (k2 (i64 (i1 + 1)) w4)) w4) w4) w4) w4) w3)
  (K true w3)) w)
def ref01_Same_ann : Ann := (.s .d (.s (.s .d (.c (.s .d .d) .d)) (.s (.s .d (.b (.l [(.s 5, (rI .i64))] (.s (.s .d (.c .d .d)) (.s (.b (.s (.r [(2, .rd rPA), (3, .rd (rI .u8)), (6, .rd rPA), (7, .rd (rI .u8))]) (.c (.s .d .d) .d))) .d))))) (.s .d .d))))
theorem ref01_Same_calls {a : Sl} {b : Sl} {K : Bool → World → Prop} {w : World} (h : ref01_Same a b K w) : callV Pr Value.bool 33 #[a.val, b.val] w K :=
  calls_of Pr_plain Pr_mixed Pr_func33 ref01_Same_ann rB (args := [a.val, b.val]) (by kernel_rfl) h

/- changeover/changeoverref14.Bytes -/
def ref14_Bytes (m : ApiMsg) (K : Sl → World → Prop) (w : World) : Prop :=
  newV (fun b1 w2 =>
  opTy Pr (Instr.buildSlice 113 3 #[(0, (.int .i64 m.Kind)), (1, (.int .i64 m.From)), (2, (.int .i64 m.To))]) Sl.val (fun t3 w4 =>
  kp b1 w2 w4 <|
  callV Pr Sl.val 78 #[Sl.nil.val, t3.val] w4 fun out5 w6 =>
  kp b1 w4 w6 <|
  join1 (fun (j7 : Sl → World → Prop) =>
  callV Pr Value.bool 73 #[(.int .i64 m.Kind), (.int .u8 98)] w6 fun t8 w9 =>
  kp b1 w6 w9 <|
  ifB t8
  (opTy Pr (Instr.buildSlice 113 2 #[(0, (.int .i64 m.Ballot.Round)), (1, (.int .i64 m.Ballot.Node))]) Sl.val (fun t10 w11 =>
  kp b1 w9 w11 <|
  callV Pr Sl.val 78 #[out5.val, t10.val] w11 fun out12 w13 =>
  kp b1 w11 w13 <|
  j7 out12 w13) w9)
  (j7 out5 w9))
  (fun out14 w15 =>
  join1 (fun (j16 : Sl → World → Prop) =>
  callV Pr Value.bool 73 #[(.int .i64 m.Kind), (.int .u8 105)] w15 fun t17 w18 =>
  kp b1 w15 w18 <|
  ifB t17
  (opTy Pr (Instr.buildSlice 113 1 #[(0, (.int .i64 m.Index))]) Sl.val (fun t19 w20 =>
  kp b1 w18 w20 <|
  callV Pr Sl.val 78 #[out14.val, t19.val] w20 fun out21 w22 =>
  kp b1 w20 w22 <|
  j16 out21 w22) w18)
  (j16 out14 w18))
  (fun out23 w24 =>
  join1 (fun (j25 : Sl → World → Prop) =>
  callV Pr Value.bool 73 #[(.int .i64 m.Kind), (.int .u8 99)] w24 fun t26 w27 =>
  kp b1 w24 w27 <|
  ifB t26
  (opTy Pr (Instr.buildSlice 113 1 #[(0, (.int .i64 m.Commit))]) Sl.val (fun t28 w29 =>
  kp b1 w27 w29 <|
  callV Pr Sl.val 78 #[out23.val, t28.val] w29 fun out30 w31 =>
  kp b1 w29 w31 <|
  j25 out30 w31) w27)
  (j25 out23 w27))
  (fun out32 w33 =>
  join1 (fun (j34 : Sl → World → Prop) =>
  callV Pr Value.bool 73 #[(.int .i64 m.Kind), (.int .u8 118)] w33 fun t35 w36 =>
  kp b1 w33 w36 <|
  ifB t35
  (opTy Pr (Instr.buildSlice 113 1 #[(0, (.int .i64 m.Version))]) Sl.val (fun t37 w38 =>
  kp b1 w36 w38 <|
  callV Pr Sl.val 78 #[out32.val, t37.val] w38 fun out39 w40 =>
  kp b1 w38 w40 <|
  j34 out39 w40) w36)
  (j34 out32 w36))
  (fun out41 w42 =>
  join1 (fun (j43 : Sl → World → Prop) =>
  ifB (m.Kind == 5)
  (opRd Pr (Instr.indexAt 25 m.Entries.val (.int .i64 0)) pav (fun t44 =>
  opRd Pr (Instr.loadAt 3 (.pointer (some (t44.add 0)))) (Value.int .i64) (fun t45 =>
  opTy Pr (Instr.buildSlice 113 1 #[(0, (.int .i64 t45))]) Sl.val (fun t46 w47 =>
  kp b1 w42 w47 <|
  callV Pr Sl.val 78 #[out41.val, t46.val] w47 fun out48 w49 =>
  kp b1 w47 w49 <|
  opRd Pr (Instr.indexAt 25 m.Entries.val (.int .i64 0)) pav (fun t50 =>
  opRd Pr (Instr.loadAt 40 (.pointer (some (t50.add 3)))) ApiCmd.val (fun t51 =>
  callV Pr Sl.val 53 #[(.int .i64 2), (.agg ⟨t51.cs⟩)] w49 fun t52 w53 =>
  kp b1 w49 w53 <|
  opTy Pr (Builtin.append_ #[24, 24] 24 #[out48.val, t52.val]) Sl.val (fun out54 w55 =>
  kp b1 w53 w55 <|
  j43 out54 w55) w53) w49) w49) w42) w42) w42)
  (callV Pr Value.bool 73 #[(.int .i64 m.Kind), (.int .u8 101)] w42 fun t56 w57 =>
  kp b1 w42 w57 <|
  ifB t56
  (callV Pr Sl.val 79 #[(.int .i64 2), m.Entries.val] w57 fun t58 w59 =>
  kp b1 w57 w59 <|
  opTy Pr (Builtin.append_ #[24, 24] 24 #[out41.val, t58.val]) Sl.val (fun out60 w61 =>
  kp b1 w59 w61 <|
  j43 out60 w61) w59)
  (j43 out41 w57)))
  (fun out62 w63 =>
  callV Pr Value.bool 73 #[(.int .i64 m.Kind), (.int .u8 109)] w63 fun t64 w65 =>
  kp b1 w63 w65 <|
  ifB t64
  (opTy Pr (Instr.buildSlice 113 1 #[(0, (.int .i64 (m.Image.len : Int)))]) Sl.val (fun t66 w67 =>
  kp b1 w65 w67 <|
  callV Pr Sl.val 78 #[out62.val, t66.val] w67 fun out68 w69 =>
  kp b1 w67 w69 <|
  opTy Pr (Builtin.append_ #[24, 24] 24 #[out68.val, m.Image.val]) Sl.val (fun out70 w71 =>
  kp b1 w69 w71 <|
  K out70 w71) w69) w65)
  (K out62 w65))))))) w2) w
def ref14_Bytes_ann : Ann := (.s (.r [(0, .nl 1)]) (.s .d (.s (.r [(5, .ty rSl), (6, .call rSl)]) (.sj [(.s 4, rSl)] (.s (.r [(1, .call rB)]) (.c (.r [(7, .ty rSl), (8, .call rSl)]) .d)) (.sj [(.s 4, rSl)] (.s (.r [(1, .call rB)]) (.c (.r [(3, .ty rSl), (4, .call rSl)]) .d)) (.sj [(.s 4, rSl)] (.s (.r [(1, .call rB)]) (.c (.r [(3, .ty rSl), (4, .call rSl)]) .d)) (.sj [(.s 4, rSl)] (.s (.r [(1, .call rB)]) (.c (.r [(3, .ty rSl), (4, .call rSl)]) .d)) (.sj [(.s 4, rSl)] (.s .d (.c (.s (.r [(3, .rd rPA), (5, .rd (rI .i64)), (6, .ty rSl), (7, .call rSl)]) (.r [(3, .rd rPA), (5, .rd rApiCmd), (6, .call rSl), (7, .ty rSl)])) (.s (.r [(1, .call rB)]) (.c (.r [(3, .call rSl), (4, .ty rSl)]) .d)))) (.s (.s (.r [(1, .call rB)]) (.c (.s (.r [(4, .ty rSl), (5, .call rSl)]) (.r [(3, .ty rSl)])) .d)) (.s .d .d))))))))))
theorem ref14_Bytes_calls {m : ApiMsg} {K : Sl → World → Prop} {w : World} (h : ref14_Bytes m K w) : callV Pr Sl.val 34 #[(.agg ⟨m.cs⟩)] w K :=
  calls_of Pr_plain Pr_mixed Pr_func34 ref14_Bytes_ann rSl (args := [(.agg ⟨m.cs⟩)]) (by kernel_rfl) h

/- changeover/changeoverlaw09.awake -/
def law09_awake (K : Bool → World → Prop) (w : World) : Prop :=
  callV Pr sval 56 #[(.agg ⟨[(.int .i64 1), (.int .i64 2), (.int .i64 0), (.bool true), (sval [118]), (.int .i64 3)]⟩)] w fun t1 w2 =>
  K (strEq t1 cs15_63069) w2
def law09_awake_ann : Ann := (.s .d (.s (.r [(1, .call rS)]) .d))
theorem law09_awake_calls {K : Bool → World → Prop} {w : World} (h : law09_awake K w) : callV Pr Value.bool 35 #[] w K :=
  calls_of Pr_plain Pr_mixed Pr_func35 law09_awake_ann rB (args := []) (by kernel_rfl) h

/- changeover/answer.Decode -/
def answer_Decode (v : Int) (b : Sl) (K : (ApiAnswer × Int) → World → Prop) (w : World) : Prop :=
  newV (fun b1 w2 =>
  callV Pr Value.bool 80 #[(.int .i64 v)] w2 fun t3 w4 =>
  kp b1 w2 w4 <|
  ifB (!t3)
  (wrM b1 (fun w5 =>
  K ((ApiAnswer.mk 0 0 0 false [] 0), 8) w5) w4)
  (callV Pr Value.pointer 49 #[b.val] w4 fun r6 w7 =>
  kp b1 w4 w7 <|
  callV Pr ApiAnswer.val 48 #[(.pointer r6), (.int .i64 v)] w7 fun t8 w9 =>
  kp b1 w7 w9 <|
  newV (fun b10 w11 =>
  wrM b10 (fun w12 =>
  callV Pr (Value.int .i64) 77 #[(.pointer r6)] w12 fun e13 w14 =>
  kp b10 w12 w14 <|
  kp b1 w12 w14 <|
  join1 (fun (j15 : Int → World → Prop) =>
  ifB (e13 == 0)
  (callV Pr (Value.int .i64) 45 #[(.agg ⟨[(.int .i64 t8.Client), (.int .i64 t8.Seq), (.int .i64 t8.Err), (.bool t8.Found), (sval t8.Val), (.int .i64 t8.Rev)]⟩)] w14 fun e16 w17 =>
  kp b10 w14 w17 <|
  kp b1 w14 w17 <|
  j15 e16 w17)
  (j15 e13 w14))
  (fun e18 w19 =>
  ifB (e18 != 0)
  (wrM b1 (fun w20 =>
  K ((ApiAnswer.mk 0 0 0 false [] 0), e18) w20) w19)
  (wrM b1 (fun w21 =>
  K (t8, 0) w21) w19))) w11) w9)) w
def answer_Decode_ann : Ann := (.s (.r [(0, .nl 4)]) (.s (.s (.r [(1, .call rB)]) (.c (.s (.r [(1, .ls 4)]) .d) .d)) (.s (.r [(1, .call rP)]) (.s (.r [(2, .call rApiAnswer), (3, .nl 7), (4, .ls 7)]) (.s (.r [(1, .call (rI .i64))]) (.sj [(.s 8, (rI .i64))] (.s .d (.c (.r [(1, .call (rI .i64))]) .d)) (.s (.s .d (.c (.s (.r [(2, .ls 4)]) .d) .d)) (.s (.r [(1, .ls 4)]) .d))))))))
theorem answer_Decode_calls {v : Int} {b : Sl} {K : (ApiAnswer × Int) → World → Prop} {w : World} (h : answer_Decode v b K w) : callV Pr (tval2 ApiAnswer.val (Value.int .i64)) 36 #[(.int .i64 v), b.val] w K :=
  calls_of Pr_plain Pr_mixed Pr_func36 answer_Decode_ann (rT2 rApiAnswer (rI .i64)) (args := [(.int .i64 v), b.val]) (by kernel_rfl) h

/- changeover/changeoverref09.Check -/
def ref09_Check (a : ApiAnswer) (K : Int → World → Prop) (w : World) : Prop :=
  newV (fun b1 w2 =>
  ifB (decide (a.Client < 1))
  (K 6 w2)
  (ifB (decide (a.Client > 8))
  (K 6 w2)
  (ifB (decide (a.Seq < 1))
  (K 6 w2)
  (ifB (decide (a.Seq > 4294967296))
  (K 6 w2)
  (ifB (decide (a.Err < 0))
  (K 6 w2)
  (ifB (decide (a.Err > 17))
  (K 6 w2)
  (ifB (decide (a.Rev < 0))
  (K 6 w2)
  (ifB (decide (a.Rev > 4294967296))
  (K 6 w2)
  (callV Pr Value.bool 81 #[(sval a.Val)] w2 fun t3 w4 =>
  kp b1 w2 w4 <|
  ifB (!t3)
  (K 7 w4)
  (K 0 w4)))))))))) w
def ref09_Check_ann : Ann := (.s (.r [(0, .nl 1)]) (.s (.s .d (.c (.s .d .d) .d)) (.s (.s (.r [(2, .call rB)]) (.c (.s .d .d) .d)) (.s .d .d))))
theorem ref09_Check_calls {a : ApiAnswer} {K : Int → World → Prop} {w : World} (h : ref09_Check a K w) : callV Pr (Value.int .i64) 37 #[(.agg ⟨a.cs⟩)] w K :=
  calls_of Pr_plain Pr_mixed Pr_func37 ref09_Check_ann (rI .i64) (args := [(.agg ⟨a.cs⟩)]) (by kernel_rfl) h

/- changeover/changeoverref09.Bytes -/
def ref09_Bytes (v : Int) (a : ApiAnswer) (K : Sl → World → Prop) (w : World) : Prop :=
  newV (fun b1 w2 =>
  callV Pr Sl.val 82 #[(.int .i64 a.Client)] w2 fun out3 w4 =>
  kp b1 w2 w4 <|
  callV Pr Sl.val 82 #[(.int .i64 a.Seq)] w4 fun t5 w6 =>
  kp b1 w4 w6 <|
  opTy Pr (Builtin.append_ #[24, 24] 24 #[out3.val, t5.val]) Sl.val (fun out7 w8 =>
  kp b1 w6 w8 <|
  callV Pr Sl.val 82 #[(.int .i64 a.Err)] w8 fun t9 w10 =>
  kp b1 w8 w10 <|
  opTy Pr (Builtin.append_ #[24, 24] 24 #[out7.val, t9.val]) Sl.val (fun out11 w12 =>
  kp b1 w10 w12 <|
  callV Pr Sl.val 83 #[(.bool a.Found)] w12 fun t13 w14 =>
  kp b1 w12 w14 <|
  opTy Pr (Builtin.append_ #[24, 24] 24 #[out11.val, t13.val]) Sl.val (fun out15 w16 =>
  kp b1 w14 w16 <|
  callV Pr Sl.val 84 #[(sval a.Val)] w16 fun t17 w18 =>
  kp b1 w16 w18 <|
  opTy Pr (Builtin.append_ #[24, 24] 24 #[out15.val, t17.val]) Sl.val (fun out19 w20 =>
  kp b1 w18 w20 <|
  ifB (v == 2)
  (callV Pr Sl.val 82 #[(.int .i64 a.Rev)] w20 fun t21 w22 =>
  kp b1 w20 w22 <|
  opTy Pr (Builtin.append_ #[24, 24] 24 #[out19.val, t21.val]) Sl.val (fun out23 w24 =>
  kp b1 w22 w24 <|
  K out23 w24) w22)
  (K out19 w20)) w18) w14) w10) w6) w
def ref09_Bytes_ann : Ann := (.s (.r [(0, .nl 3)]) (.s (.r [(2, .call rSl)]) (.s (.r [(3, .call rSl), (4, .ty rSl)]) (.s (.r [(3, .call rSl), (4, .ty rSl)]) (.s (.r [(3, .call rSl), (4, .ty rSl)]) (.s (.r [(3, .call rSl), (4, .ty rSl)]) (.s (.s .d (.c (.r [(3, .call rSl), (4, .ty rSl)]) .d)) (.s .d .d))))))))
theorem ref09_Bytes_calls {v : Int} {a : ApiAnswer} {K : Sl → World → Prop} {w : World} (h : ref09_Bytes v a K w) : callV Pr Sl.val 38 #[(.int .i64 v), (.agg ⟨a.cs⟩)] w K :=
  calls_of Pr_plain Pr_mixed Pr_func38 ref09_Bytes_ann rSl (args := [(.int .i64 v), (.agg ⟨a.cs⟩)]) (by kernel_rfl) h

/- changeover/changeoverlaw08.large -/
def law08_large (c : ApiCmd) (K : Bool → World → Prop) (w : World) : Prop :=
  newV (fun b1 w2 =>
  ifB (decide (((c.Key : List UInt8).length : Int) > 300))
  (K true w2)
  (ifB (decide (((c.Old : List UInt8).length : Int) > 300))
  (K true w2)
  (K (decide (((c.Val : List UInt8).length : Int) > 300)) w2))) w
def law08_large_ann : Ann := (.s (.r [(0, .nl 1)]) (.s .d .d))
theorem law08_large_calls {c : ApiCmd} {K : Bool → World → Prop} {w : World} (h : law08_large c K w) : callV Pr Value.bool 39 #[(.agg ⟨c.cs⟩)] w K :=
  calls_of Pr_plain Pr_mixed Pr_func39 law08_large_ann rB (args := [(.agg ⟨c.cs⟩)]) (by kernel_rfl) h

/- changeover/changeoverlaw08.awake -/
def law08_awake (K : Bool → World → Prop) (w : World) : Prop :=
  newV (fun b1 w2 =>
  wrM b1 (fun w3 =>
  callV Pr (tval2 Sl.val (Value.int .i64)) 85 #[(.int .i64 2), (.agg ⟨[(.int .i64 2), (.int .i64 1), (.int .i64 2), (sval [107]), (sval [118]), (sval []), (.int .i64 0)]⟩)] w3 fun t4 w5 =>
  kp b1 w3 w5 <|
  ifB (t4.2 == 0)
  (ifB ((t4.1.len : Int) == 7)
  (callV Pr sval 86 #[(.agg ⟨[(.int .i64 2), (.int .i64 1), (.int .i64 2), (sval [107]), (sval [118]), (sval []), (.int .i64 0)]⟩)] w5 fun t6 w7 =>
  kp b1 w5 w7 <|
  K (strEq t6 cs15_93355) w7)
  (K false w5))
  (K false w5)) w2) w
def law08_awake_ann : Ann := (.s .d (.s (.r [(1, .nl 1), (2, .ls 1)]) (.s (.r [(1, .call (rT2 rSl (rI .i64)))]) (.s (.r [(9, .call rS)]) .d))))
theorem law08_awake_calls {K : Bool → World → Prop} {w : World} (h : law08_awake K w) : callV Pr Value.bool 40 #[] w K :=
  calls_of Pr_plain Pr_mixed Pr_func40 law08_awake_ann rB (args := []) (by kernel_rfl) h

/- changeover/cmd.Check -/
def cmd_Check (c : ApiCmd) (K : Int → World → Prop) (w : World) : Prop :=
  opTy Pr (Instr.box 40 (.agg ⟨c.cs⟩)) pav (fun c1 w2 =>
  opRd Pr (Instr.loadAt 3 (.pointer (some (c1.add 0)))) (Value.int .i64) (fun t3 =>
  callV Pr (tval2 (Value.int .i64) Value.bool) 87 #[(.int .i64 t3)] w2 fun t4 w5 =>
  ifB (!t4.2)
  (K 5 w5)
  (callV Pr Sl.val 88 #[] w5 fun t6 w7 =>
  loop4 (true : Bool) (true : Bool) (true : Bool) (0 : Int) (fun range18 text9 form10 t11 k12 w13 =>
  ifB (decide (t11 < (t6.len : Int)))
  (opRd Pr (Instr.indexAt 123 t6.val (.int .i64 t11)) pav (fun t14 =>
  opRd Pr (Instr.loadAt 127 (.pointer (some t14))) CmdPart.val (fun t15 =>
  opTy Pr (Instr.alloc 127 true (.tuple #[])) pav (fun p16 w17 =>
  opUn Pr (Instr.storeAt 127 (.pointer (some p16)) (.agg ⟨t15.cs⟩)) (fun w18 =>
  opRd Pr (Instr.loadAt 127 (.pointer (some p16))) CmdPart.val (fun t19 =>
  callV Pr (tval2 Value.bool Value.bool) 89 #[(.agg ⟨t19.cs⟩), (.pointer (some c1)), (.int .i64 t4.1)] w18 fun t20 w21 =>
  opRd Pr (Instr.loadAt 127 (.pointer (some p16))) CmdPart.val (fun t22 =>
  callV Pr (tval2 Value.bool Value.bool) 90 #[(.agg ⟨t22.cs⟩), (.pointer (some c1)), (.int .i64 t4.1)] w21 fun t23 w24 =>
  ifB range18
  (ifB text9
  (ifB form10
  (ifB t20.2
  (k12 t20.1 t23.1 t23.2 (i64 (t11 + 1)) w24)
  (k12 t20.1 t23.1 false (i64 (t11 + 1)) w24))
  (k12 t20.1 t23.1 false (i64 (t11 + 1)) w24))
  (ifB form10
  (ifB t20.2
  (k12 t20.1 false t23.2 (i64 (t11 + 1)) w24)
  (k12 t20.1 false false (i64 (t11 + 1)) w24))
  (k12 t20.1 false false (i64 (t11 + 1)) w24)))
  (ifB text9
  (ifB form10
  (ifB t20.2
  (k12 false t23.1 t23.2 (i64 (t11 + 1)) w24)
  (k12 false t23.1 false (i64 (t11 + 1)) w24))
  (k12 false t23.1 false (i64 (t11 + 1)) w24))
  (ifB form10
  (ifB t20.2
  (k12 false false t23.2 (i64 (t11 + 1)) w24)
  (k12 false false false (i64 (t11 + 1)) w24))
  (k12 false false false (i64 (t11 + 1)) w24)))) w21) w18) w17) w13) w13) w13)
  (ifB (!range18)
  (K 6 w13)
  (ifB (!text9)
  (K 7 w13)
  (ifB (!form10)
  (K 3 w13)
  (K 0 w13))))) w7)) w2) w
def cmd_Check_ann : Ann := (.s (.r [(0, .ty rPA)]) (.s (.r [(1, .rd (rI .i64)), (2, .call (rT2 (rI .i64) rB))]) (.s (.s .d (.c (.s .d .d) .d)) (.s .d (.s (.s (.r [(0, .call rSl)]) (.b (.l [(.s 5, rB), (.s 6, rB), (.s 7, rB), (.s 24, (rI .i64))] (.s .d (.s (.c .d .d) (.s (.b (.s (.r [(0, .rd rPA), (1, .rd rCmdPart), (2, .ty rPA), (3, .un)]) (.s (.r [(0, .rd rCmdPart), (2, .call (rT2 rB rB))]) (.s (.r [(0, .rd rCmdPart), (2, .call (rT2 rB rB))]) .d)))) .d)))))) (.s (.b (.s .d (.c (.s .d .d) (.s .d (.c (.s .d .d) (.s .d (.c (.s .d .d) .d))))))) (.s .d .d)))))))
theorem cmd_Check_calls {c : ApiCmd} {K : Int → World → Prop} {w : World} (h : cmd_Check c K w) : callV Pr (Value.int .i64) 41 #[(.agg ⟨c.cs⟩)] w K :=
  calls_of Pr_plain Pr_mixed Pr_func41 cmd_Check_ann (rI .i64) (args := [(.agg ⟨c.cs⟩)]) (by kernel_rfl) h

/- changeover/changeoverref08.Check -/
def ref08_Check (c : ApiCmd) (K : Int → World → Prop) (w : World) : Prop :=
  newV (fun b1 w2 =>
  ifB (decide (c.Kind < 1))
  (K 5 w2)
  (ifB (decide (c.Kind > 8))
  (K 5 w2)
  (callV Pr Value.bool 44 #[(.int .i64 c.Kind)] w2 fun own3 w4 =>
  kp b1 w2 w4 <|
  join0 (fun (j5 : World → Prop) =>
  ifB own3
  (ifB (decide (c.Client < 1))
  (K 6 w4)
  (ifB (decide (c.Client > 8))
  (K 6 w4)
  (ifB (decide (c.Seq < 1))
  (K 6 w4)
  (ifB (decide (c.Seq > 4294967296))
  (K 6 w4)
  (callV Pr Value.bool 91 #[(.int .i64 c.Kind)] w4 fun t6 w7 =>
  kp b1 w4 w7 <|
  ifB t6
  (ifB (decide (c.Node < 1))
  (K 6 w7)
  (ifB (decide (c.Node > 9))
  (K 6 w7)
  (j5 w7)))
  (j5 w7))))))
  (callV Pr Value.bool 91 #[(.int .i64 c.Kind)] w4 fun t8 w9 =>
  kp b1 w4 w9 <|
  ifB t8
  (ifB (decide (c.Node < 1))
  (K 6 w9)
  (ifB (decide (c.Node > 9))
  (K 6 w9)
  (j5 w9)))
  (j5 w9)))
  (fun w10 =>
  ifB (c.Kind == 2)
  (join0 (fun (j11 : World → Prop) =>
  ifB own3
  (callV Pr Value.bool 92 #[(sval c.Key)] w10 fun t12 w13 =>
  kp b1 w10 w13 <|
  ifB (!t12)
  (K 7 w13)
  (callV Pr Value.bool 81 #[(sval c.Val)] w13 fun t14 w15 =>
  kp b1 w13 w15 <|
  ifB (!t14)
  (K 7 w15)
  (ifB (c.Kind == 5)
  (callV Pr Value.bool 81 #[(sval c.Old)] w15 fun t16 w17 =>
  kp b1 w15 w17 <|
  ifB (!t16)
  (K 7 w17)
  (j11 w17))
  (j11 w15))))
  (callV Pr Value.bool 81 #[(sval c.Val)] w10 fun t18 w19 =>
  kp b1 w10 w19 <|
  ifB (!t18)
  (K 7 w19)
  (ifB (c.Kind == 5)
  (callV Pr Value.bool 81 #[(sval c.Old)] w19 fun t20 w21 =>
  kp b1 w19 w21 <|
  ifB (!t20)
  (K 7 w21)
  (j11 w21))
  (j11 w19))))
  (fun w22 =>
  ifB (!own3)
  (ifB (c.Client != 0)
  (K 3 w22)
  (ifB (c.Seq != 0)
  (K 3 w22)
  (ifB (!(strEq c.Key []))
  (K 3 w22)
  (ifB (!true)
  (ifB (!(strEq c.Val []))
  (K 3 w22)
  (ifB (c.Kind != 5)
  (ifB (!(strEq c.Old []))
  (K 3 w22)
  (callV Pr Value.bool 91 #[(.int .i64 c.Kind)] w22 fun t23 w24 =>
  kp b1 w22 w24 <|
  ifB (!t23)
  (ifB (c.Node != 0)
  (K 3 w24)
  (K 0 w24))
  (K 0 w24)))
  (callV Pr Value.bool 91 #[(.int .i64 c.Kind)] w22 fun t25 w26 =>
  kp b1 w22 w26 <|
  ifB (!t25)
  (ifB (c.Node != 0)
  (K 3 w26)
  (K 0 w26))
  (K 0 w26))))
  (ifB (c.Kind != 5)
  (ifB (!(strEq c.Old []))
  (K 3 w22)
  (callV Pr Value.bool 91 #[(.int .i64 c.Kind)] w22 fun t27 w28 =>
  kp b1 w22 w28 <|
  ifB (!t27)
  (ifB (c.Node != 0)
  (K 3 w28)
  (K 0 w28))
  (K 0 w28)))
  (callV Pr Value.bool 91 #[(.int .i64 c.Kind)] w22 fun t29 w30 =>
  kp b1 w22 w30 <|
  ifB (!t29)
  (ifB (c.Node != 0)
  (K 3 w30)
  (K 0 w30))
  (K 0 w30)))))))
  (ifB (!true)
  (ifB (!(strEq c.Val []))
  (K 3 w22)
  (ifB (c.Kind != 5)
  (ifB (!(strEq c.Old []))
  (K 3 w22)
  (callV Pr Value.bool 91 #[(.int .i64 c.Kind)] w22 fun t31 w32 =>
  kp b1 w22 w32 <|
  ifB (!t31)
  (ifB (c.Node != 0)
  (K 3 w32)
  (K 0 w32))
  (K 0 w32)))
  (callV Pr Value.bool 91 #[(.int .i64 c.Kind)] w22 fun t33 w34 =>
  kp b1 w22 w34 <|
  ifB (!t33)
  (ifB (c.Node != 0)
  (K 3 w34)
  (K 0 w34))
  (K 0 w34))))
  (ifB (c.Kind != 5)
  (ifB (!(strEq c.Old []))
  (K 3 w22)
  (callV Pr Value.bool 91 #[(.int .i64 c.Kind)] w22 fun t35 w36 =>
  kp b1 w22 w36 <|
  ifB (!t35)
  (ifB (c.Node != 0)
  (K 3 w36)
  (K 0 w36))
  (K 0 w36)))
  (callV Pr Value.bool 91 #[(.int .i64 c.Kind)] w22 fun t37 w38 =>
  kp b1 w22 w38 <|
  ifB (!t37)
  (ifB (c.Node != 0)
  (K 3 w38)
  (K 0 w38))
  (K 0 w38))))))
  (join0 (fun (j39 : World → Prop) =>
  ifB own3
  (callV Pr Value.bool 92 #[(sval c.Key)] w10 fun t40 w41 =>
  kp b1 w10 w41 <|
  ifB (!t40)
  (K 7 w41)
  (ifB (c.Kind == 5)
  (callV Pr Value.bool 81 #[(sval c.Val)] w41 fun t42 w43 =>
  kp b1 w41 w43 <|
  ifB (!t42)
  (K 7 w43)
  (ifB (c.Kind == 5)
  (callV Pr Value.bool 81 #[(sval c.Old)] w43 fun t44 w45 =>
  kp b1 w43 w45 <|
  ifB (!t44)
  (K 7 w45)
  (j39 w45))
  (j39 w43)))
  (ifB (c.Kind == 5)
  (callV Pr Value.bool 81 #[(sval c.Old)] w41 fun t46 w47 =>
  kp b1 w41 w47 <|
  ifB (!t46)
  (K 7 w47)
  (j39 w47))
  (j39 w41))))
  (ifB (c.Kind == 5)
  (callV Pr Value.bool 81 #[(sval c.Val)] w10 fun t48 w49 =>
  kp b1 w10 w49 <|
  ifB (!t48)
  (K 7 w49)
  (ifB (c.Kind == 5)
  (callV Pr Value.bool 81 #[(sval c.Old)] w49 fun t50 w51 =>
  kp b1 w49 w51 <|
  ifB (!t50)
  (K 7 w51)
  (j39 w51))
  (j39 w49)))
  (ifB (c.Kind == 5)
  (callV Pr Value.bool 81 #[(sval c.Old)] w10 fun t52 w53 =>
  kp b1 w10 w53 <|
  ifB (!t52)
  (K 7 w53)
  (j39 w53))
  (j39 w10))))
  (fun w54 =>
  ifB (!own3)
  (ifB (c.Client != 0)
  (K 3 w54)
  (ifB (c.Seq != 0)
  (K 3 w54)
  (ifB (!(strEq c.Key []))
  (K 3 w54)
  (ifB (!(c.Kind == 5))
  (ifB (!(strEq c.Val []))
  (K 3 w54)
  (ifB (c.Kind != 5)
  (ifB (!(strEq c.Old []))
  (K 3 w54)
  (callV Pr Value.bool 91 #[(.int .i64 c.Kind)] w54 fun t55 w56 =>
  kp b1 w54 w56 <|
  ifB (!t55)
  (ifB (c.Node != 0)
  (K 3 w56)
  (K 0 w56))
  (K 0 w56)))
  (callV Pr Value.bool 91 #[(.int .i64 c.Kind)] w54 fun t57 w58 =>
  kp b1 w54 w58 <|
  ifB (!t57)
  (ifB (c.Node != 0)
  (K 3 w58)
  (K 0 w58))
  (K 0 w58))))
  (ifB (c.Kind != 5)
  (ifB (!(strEq c.Old []))
  (K 3 w54)
  (callV Pr Value.bool 91 #[(.int .i64 c.Kind)] w54 fun t59 w60 =>
  kp b1 w54 w60 <|
  ifB (!t59)
  (ifB (c.Node != 0)
  (K 3 w60)
  (K 0 w60))
  (K 0 w60)))
  (callV Pr Value.bool 91 #[(.int .i64 c.Kind)] w54 fun t61 w62 =>
  kp b1 w54 w62 <|
  ifB (!t61)
  (ifB (c.Node != 0)
  (K 3 w62)
  (K 0 w62))
  (K 0 w62)))))))
  (ifB (!(c.Kind == 5))
  (ifB (!(strEq c.Val []))
  (K 3 w54)
  (ifB (c.Kind != 5)
  (ifB (!(strEq c.Old []))
  (K 3 w54)
  (callV Pr Value.bool 91 #[(.int .i64 c.Kind)] w54 fun t63 w64 =>
  kp b1 w54 w64 <|
  ifB (!t63)
  (ifB (c.Node != 0)
  (K 3 w64)
  (K 0 w64))
  (K 0 w64)))
  (callV Pr Value.bool 91 #[(.int .i64 c.Kind)] w54 fun t65 w66 =>
  kp b1 w54 w66 <|
  ifB (!t65)
  (ifB (c.Node != 0)
  (K 3 w66)
  (K 0 w66))
  (K 0 w66))))
  (ifB (c.Kind != 5)
  (ifB (!(strEq c.Old []))
  (K 3 w54)
  (callV Pr Value.bool 91 #[(.int .i64 c.Kind)] w54 fun t67 w68 =>
  kp b1 w54 w68 <|
  ifB (!t67)
  (ifB (c.Node != 0)
  (K 3 w68)
  (K 0 w68))
  (K 0 w68)))
  (callV Pr Value.bool 91 #[(.int .i64 c.Kind)] w54 fun t69 w70 =>
  kp b1 w54 w70 <|
  ifB (!t69)
  (ifB (c.Node != 0)
  (K 3 w70)
  (K 0 w70))
  (K 0 w70)))))))))) w
def ref08_Check_ann : Ann := (.s (.r [(0, .nl 1)]) (.s (.s .d (.c (.s .d .d) .d)) (.s (.r [(2, .call rB)]) (.sj [] (.s (.r [(24, .call rB)]) (.c (.s .d .d) .d)) (.s .d (.sj [] (.s (.r [(4, .call rB), (12, .call rB), (23, .call rB)]) (.c (.s .d .d) .d)) (.s (.s (.r [(39, .call rB)]) (.c (.s .d .d) .d)) (.s .d .d))))))))
theorem ref08_Check_calls {c : ApiCmd} {K : Int → World → Prop} {w : World} (h : ref08_Check c K w) : callV Pr (Value.int .i64) 42 #[(.agg ⟨c.cs⟩)] w K :=
  calls_of Pr_plain Pr_mixed Pr_func42 ref08_Check_ann (rI .i64) (args := [(.agg ⟨c.cs⟩)]) (by kernel_rfl) h

/- changeover/cmd.Owned -/
def cmd_Owned (c : ApiCmd) (K : Bool → World → Prop) (w : World) : Prop :=
  newV (fun b1 w2 =>
  callV Pr (tval2 (Value.int .i64) Value.bool) 87 #[(.int .i64 c.Kind)] w2 fun t3 w4 =>
  kp b1 w2 w4 <|
  K ((bAnd .i64 t3.1 1) != 0) w4) w
def cmd_Owned_ann : Ann := (.s (.r [(0, .nl 1)]) (.s (.r [(2, .call (rT2 (rI .i64) rB))]) (.s .d .d)))
theorem cmd_Owned_calls {c : ApiCmd} {K : Bool → World → Prop} {w : World} (h : cmd_Owned c K w) : callV Pr Value.bool 43 #[(.agg ⟨c.cs⟩)] w K :=
  calls_of Pr_plain Pr_mixed Pr_func43 cmd_Owned_ann rB (args := [(.agg ⟨c.cs⟩)]) (by kernel_rfl) h

/- changeover/changeoverref08.Owned -/
def ref08_Owned (kind : Int) (K : Bool → World → Prop) (w : World) : Prop :=
  ifB (decide (kind ≥ 2))
  (K (decide (kind ≤ 5)) w)
  (K false w)
def ref08_Owned_ann : Ann := (.s .d (.s .d .d))
theorem ref08_Owned_calls {kind : Int} {K : Bool → World → Prop} {w : World} (h : ref08_Owned kind K w) : callV Pr Value.bool 44 #[(.int .i64 kind)] w K :=
  calls_of Pr_plain Pr_mixed Pr_func44 ref08_Owned_ann rB (args := [(.int .i64 kind)]) (by kernel_rfl) h

/- changeover/answer.Check -/
def answer_Check (a : ApiAnswer) (K : Int → World → Prop) (w : World) : Prop :=
  newV (fun b1 w2 =>
  callV Pr Value.bool 93 #[(.int .i64 a.Client), (.int .i64 1), (.int .i64 8)] w2 fun t3 w4 =>
  kp b1 w2 w4 <|
  ifB t3
  (callV Pr Value.bool 93 #[(.int .i64 a.Seq), (.int .i64 1), (.int .i64 4294967296)] w4 fun t5 w6 =>
  kp b1 w4 w6 <|
  ifB t5
  (callV Pr Value.bool 93 #[(.int .i64 a.Err), (.int .i64 0), (.int .i64 17)] w6 fun t7 w8 =>
  kp b1 w6 w8 <|
  ifB t7
  (callV Pr Value.bool 93 #[(.int .i64 a.Rev), (.int .i64 0), (.int .i64 4294967296)] w8 fun t9 w10 =>
  kp b1 w8 w10 <|
  ifB (!t9)
  (K 6 w10)
  (callV Pr Value.bool 94 #[(sval a.Val)] w10 fun t11 w12 =>
  kp b1 w10 w12 <|
  ifB (!t11)
  (K 7 w12)
  (K 0 w12)))
  (ifB (!false)
  (K 6 w8)
  (callV Pr Value.bool 94 #[(sval a.Val)] w8 fun t13 w14 =>
  kp b1 w8 w14 <|
  ifB (!t13)
  (K 7 w14)
  (K 0 w14))))
  (ifB (!false)
  (K 6 w6)
  (callV Pr Value.bool 94 #[(sval a.Val)] w6 fun t15 w16 =>
  kp b1 w6 w16 <|
  ifB (!t15)
  (K 7 w16)
  (K 0 w16))))
  (ifB (!false)
  (K 6 w4)
  (callV Pr Value.bool 94 #[(sval a.Val)] w4 fun t17 w18 =>
  kp b1 w4 w18 <|
  ifB (!t17)
  (K 7 w18)
  (K 0 w18)))) w
def answer_Check_ann : Ann := (.s (.r [(0, .nl 1)]) (.s .d (.s (.r [(3, .call rB), (8, .call rB), (14, .call rB), (20, .call rB)]) (.s (.b (.s .d (.c (.s .d .d) (.s (.r [(2, .call rB)]) (.c (.s .d .d) .d))))) (.s .d .d)))))
theorem answer_Check_calls {a : ApiAnswer} {K : Int → World → Prop} {w : World} (h : answer_Check a K w) : callV Pr (Value.int .i64) 45 #[(.agg ⟨a.cs⟩)] w K :=
  calls_of Pr_plain Pr_mixed Pr_func45 answer_Check_ann (rI .i64) (args := [(.agg ⟨a.cs⟩)]) (by kernel_rfl) h

/- changeover/answer.Encode -/
def answer_Encode (v : Int) (a : ApiAnswer) (K : (Sl × Int) → World → Prop) (w : World) : Prop :=
  newV (fun b1 w2 =>
  callV Pr Value.bool 80 #[(.int .i64 v)] w2 fun t3 w4 =>
  kp b1 w2 w4 <|
  ifB (!t3)
  (K (Sl.nil, 8) w4)
  (callV Pr (Value.int .i64) 45 #[(.agg ⟨[(.int .i64 a.Client), (.int .i64 a.Seq), (.int .i64 a.Err), (.bool a.Found), (sval a.Val), (.int .i64 a.Rev)]⟩)] w4 fun e5 w6 =>
  kp b1 w4 w6 <|
  ifB (e5 != 0)
  (K (Sl.nil, e5) w6)
  (join0 (fun (j7 : World → Prop) =>
  ifB (v == 1)
  (ifB (a.Rev != 0)
  (K (Sl.nil, 8) w6)
  (j7 w6))
  (j7 w6))
  (fun w8 =>
  opTy Pr (Instr.box 77 (.agg ⟨[Sl.nil.val]⟩)) pav (fun w9 w10 =>
  kp b1 w8 w10 <|
  callV Pr uval 47 #[(.pointer (some w9)), (.int .i64 v), (.agg ⟨[(.int .i64 a.Client), (.int .i64 a.Seq), (.int .i64 a.Err), (.bool a.Found), (sval a.Val), (.int .i64 a.Rev)]⟩)] w10 fun t11 w12 =>
  kp b1 w10 w12 <|
  callV Pr Sl.val 50 #[(.pointer (some w9))] w12 fun t13 w14 =>
  kp b1 w12 w14 <|
  K (t13, 0) w14) w8)))) w
def answer_Encode_ann : Ann := (.s (.r [(0, .nl 3)]) (.s (.s (.r [(1, .call rB)]) (.c (.s .d .d) .d)) (.s (.s (.r [(1, .call (rI .i64))]) (.s .d (.c (.s .d .d) .d))) (.sj [] (.s .d (.c (.s .d .d) .d)) (.s (.r [(1, .ty rPA)]) (.s (.r [(3, .call rU)]) (.s (.r [(1, .call rSl)]) .d)))))))
theorem answer_Encode_calls {v : Int} {a : ApiAnswer} {K : (Sl × Int) → World → Prop} {w : World} (h : answer_Encode v a K w) : callV Pr (tval2 Sl.val (Value.int .i64)) 46 #[(.int .i64 v), (.agg ⟨a.cs⟩)] w K :=
  calls_of Pr_plain Pr_mixed Pr_func46 answer_Encode_ann (rT2 rSl (rI .i64)) (args := [(.int .i64 v), (.agg ⟨a.cs⟩)]) (by kernel_rfl) h

/- changeover/answer.Put -/
def answer_Put (w_ : Option Addr) (v : Int) (a : ApiAnswer) (K : Unit → World → Prop) (w : World) : Prop :=
  newV (fun b1 w2 =>
  loop1 (0 : Int) (fun t3 k4 w5 =>
  ifB (decide (t3 < 3))
  (opRd Pr (Instr.index 132 (.agg ⟨[(.int .i64 a.Client), (.int .i64 a.Seq), (.int .i64 a.Err)]⟩) (.int .i64 t3)) (Value.int .i64) (fun n6 =>
  callV Pr uval 69 #[(.pointer w_), (.int .i64 n6)] w5 fun t7 w8 =>
  kp b1 w5 w8 <|
  k4 (i64 (t3 + 1)) w8) w5)
  (callV Pr uval 95 #[(.pointer w_), (.bool a.Found)] w5 fun t9 w10 =>
  kp b1 w5 w10 <|
  callV Pr uval 96 #[(.pointer w_), (sval a.Val)] w10 fun t11 w12 =>
  kp b1 w10 w12 <|
  ifB (v != 1)
  (callV Pr uval 69 #[(.pointer w_), (.int .i64 a.Rev)] w12 fun t13 w14 =>
  kp b1 w12 w14 <|
  K () w14)
  (K () w12))) w2) w
def answer_Put_ann : Ann := (.s (.r [(0, .nl 5)]) (.s (.s .d (.b (.l [(.s 15, (rI .i64))] (.s .d (.s (.c .d .d) (.s (.b (.s (.r [(0, .rd (rI .i64))]) (.r [(2, .call rU)]))) .d)))))) (.s (.r [(3, .call rU)]) (.s (.r [(3, .call rU)]) (.s .d (.c (.r [(3, .call rU)]) .d))))))
theorem answer_Put_calls {w_ : Option Addr} {v : Int} {a : ApiAnswer} {K : Unit → World → Prop} {w : World} (h : answer_Put w_ v a K w) : callV Pr uval 47 #[(.pointer w_), (.int .i64 v), (.agg ⟨a.cs⟩)] w K :=
  calls_of Pr_plain Pr_mixed Pr_func47 answer_Put_ann rU (args := [(.pointer w_), (.int .i64 v), (.agg ⟨a.cs⟩)]) (by kernel_rfl) h

/- changeover/answer.Get -/
def answer_Get (r : Option Addr) (v : Int) (K : ApiAnswer → World → Prop) (w : World) : Prop :=
  newV (fun b1 w2 =>
  newV (fun b3 w4 =>
  callV Pr (Value.int .i64) 97 #[(.pointer r), (.int .i64 9223372036854775807)] w4 fun t5 w6 =>
  kp b3 w4 w6 <|
  kp b1 w4 w6 <|
  wrM b3 (fun w7 =>
  callV Pr (Value.int .i64) 97 #[(.pointer r), (.int .i64 9223372036854775807)] w7 fun t8 w9 =>
  kp b3 w7 w9 <|
  kp b1 w7 w9 <|
  wrM b3 (fun w10 =>
  callV Pr (Value.int .i64) 97 #[(.pointer r), (.int .i64 9223372036854775807)] w10 fun t11 w12 =>
  kp b3 w10 w12 <|
  kp b1 w10 w12 <|
  wrM b3 (fun w13 =>
  callV Pr Value.bool 98 #[(.pointer r)] w13 fun t14 w15 =>
  kp b3 w13 w15 <|
  kp b1 w13 w15 <|
  wrM b3 (fun w16 =>
  callV Pr sval 99 #[(.pointer r), (.int .i64 1048576)] w16 fun t17 w18 =>
  kp b3 w16 w18 <|
  kp b1 w16 w18 <|
  wrM b3 (fun w19 =>
  ifB (v != 1)
  (callV Pr (Value.int .i64) 97 #[(.pointer r), (.int .i64 9223372036854775807)] w19 fun t20 w21 =>
  kp b3 w19 w21 <|
  kp b1 w19 w21 <|
  wrM b3 (fun w22 =>
  wrM b1 (fun w23 =>
  K (ApiAnswer.mk t5 t8 t11 t14 t17 t20) w23) w22) w21)
  (wrM b1 (fun w24 =>
  K (ApiAnswer.mk t5 t8 t11 t14 t17 0) w24) w19)) w18) w15) w12) w9) w6) w2) w
def answer_Get_ann : Ann := (.s (.r [(0, .nl 4)]) (.s (.r [(0, .nl 5)]) (.s (.r [(1, .call (rI .i64)), (3, .ls 5)]) (.s (.r [(1, .call (rI .i64)), (3, .ls 5)]) (.s (.r [(1, .call (rI .i64)), (3, .ls 5)]) (.s (.r [(1, .call rB), (3, .ls 5)]) (.s (.r [(1, .call rS), (3, .ls 5)]) (.s (.s .d (.c (.r [(1, .call (rI .i64)), (3, .ls 5)]) .d)) (.s (.r [(1, .ls 4)]) .d)))))))))
theorem answer_Get_calls {r : Option Addr} {v : Int} {K : ApiAnswer → World → Prop} {w : World} (h : answer_Get r v K w) : callV Pr ApiAnswer.val 48 #[(.pointer r), (.int .i64 v)] w K :=
  calls_of Pr_plain Pr_mixed Pr_func48 answer_Get_ann rApiAnswer (args := [(.pointer r), (.int .i64 v)]) (by kernel_rfl) h

/- changeover/pack.NewReader -/
def pack_NewReader (b : Sl) (K : (Option Addr) → World → Prop) (w : World) : Prop :=
  callV Pr Sl.val 100 #[b.val] w fun t1 w2 =>
  opTy Pr (Instr.box 138 (.agg ⟨[t1.val, (.int .i64 0), (.int .i64 0)]⟩)) pav (fun t3 w4 =>
  K (some t3) w4) w2
def pack_NewReader_ann : Ann := (.s .d (.s (.r [(1, .call rSl), (3, .ty rPA)]) .d))
theorem pack_NewReader_calls {b : Sl} {K : (Option Addr) → World → Prop} {w : World} (h : pack_NewReader b K w) : callV Pr Value.pointer 49 #[b.val] w K :=
  calls_of Pr_plain Pr_mixed Pr_func49 pack_NewReader_ann rP (args := [b.val]) (by kernel_rfl) h

/- (*changeover/pack.Writer).Bytes -/
def pack_Writer_Bytes (w_ : Option Addr) (K : Sl → World → Prop) (w : World) : Prop :=
  opRd Pr (binSem .eql 75 (.tmp 3) (.const (.pointer none)) (.pointer w_) (.pointer none)) Value.bool (fun t1 =>
  ifB t1
  (K Sl.nil w)
  (opRd Pr (nilSem (.pointer w_)) pav (fun t2 =>
  opRd Pr (Instr.loadAt 24 (.pointer (some (t2.add 0)))) Sl.val (fun t3 =>
  callV Pr Sl.val 100 #[t3.val] w fun t4 w5 =>
  K t4 w5) w) w)) w
def pack_Writer_Bytes_ann : Ann := (.s .d (.s (.s (.r [(1, .rd rB)]) (.c (.s .d .d) .d)) (.s (.r [(1, .rd rPA), (3, .rd rSl), (4, .call rSl)]) .d)))
theorem pack_Writer_Bytes_calls {w_ : Option Addr} {K : Sl → World → Prop} {w : World} (h : pack_Writer_Bytes w_ K w) : callV Pr Sl.val 50 #[(.pointer w_)] w K :=
  calls_of Pr_plain Pr_mixed Pr_func50 pack_Writer_Bytes_ann rSl (args := [(.pointer w_)]) (by kernel_rfl) h

/- changeover/cmd.Decode -/
def cmd_Decode (v : Int) (b : Sl) (K : (ApiCmd × Int) → World → Prop) (w : World) : Prop :=
  newV (fun b1 w2 =>
  callV Pr Value.bool 80 #[(.int .i64 v)] w2 fun t3 w4 =>
  kp b1 w2 w4 <|
  ifB (!t3)
  (wrM b1 (fun w5 =>
  K ((ApiCmd.mk 0 0 0 [] [] [] 0), 8) w5) w4)
  (callV Pr Value.pointer 49 #[b.val] w4 fun r6 w7 =>
  kp b1 w4 w7 <|
  callV Pr ApiCmd.val 101 #[(.pointer r6), (.int .i64 v)] w7 fun t8 w9 =>
  kp b1 w7 w9 <|
  newV (fun b10 w11 =>
  wrM b10 (fun w12 =>
  callV Pr (Value.int .i64) 77 #[(.pointer r6)] w12 fun e13 w14 =>
  kp b10 w12 w14 <|
  kp b1 w12 w14 <|
  ifB (e13 != 0)
  (wrM b1 (fun w15 =>
  K ((ApiCmd.mk 0 0 0 [] [] [] 0), e13) w15) w14)
  (callV Pr (Value.int .i64) 102 #[(.int .i64 v), (.agg ⟨[(.int .i64 t8.Kind), (.int .i64 t8.Client), (.int .i64 t8.Seq), (sval t8.Key), (sval t8.Val), (sval t8.Old), (.int .i64 t8.Node)]⟩)] w14 fun e16 w17 =>
  kp b10 w14 w17 <|
  kp b1 w14 w17 <|
  ifB (e16 != 0)
  (wrM b1 (fun w18 =>
  K ((ApiCmd.mk 0 0 0 [] [] [] 0), e16) w18) w17)
  (wrM b1 (fun w19 =>
  K (t8, 0) w19) w17))) w11) w9)) w
def cmd_Decode_ann : Ann := (.s (.r [(0, .nl 4)]) (.s (.s (.r [(1, .call rB)]) (.c (.s (.r [(1, .ls 4)]) .d) .d)) (.s (.r [(1, .call rP)]) (.s (.r [(2, .call rApiCmd), (3, .nl 7), (4, .ls 7)]) (.s (.s (.r [(1, .call (rI .i64))]) (.s .d (.c (.s (.r [(2, .ls 4)]) .d) .d))) (.s (.s (.r [(2, .call (rI .i64))]) (.s .d (.c (.s (.r [(2, .ls 4)]) .d) .d))) (.s (.r [(1, .ls 4)]) .d)))))))
theorem cmd_Decode_calls {v : Int} {b : Sl} {K : (ApiCmd × Int) → World → Prop} {w : World} (h : cmd_Decode v b K w) : callV Pr (tval2 ApiCmd.val (Value.int .i64)) 51 #[(.int .i64 v), b.val] w K :=
  calls_of Pr_plain Pr_mixed Pr_func51 cmd_Decode_ann (rT2 rApiCmd (rI .i64)) (args := [(.int .i64 v), b.val]) (by kernel_rfl) h

/- changeover/changeoverref07.Has -/
def ref07_Has (v : Int) (kind : Int) (K : Bool → World → Prop) (w : World) : Prop :=
  ifB (decide (kind < 1))
  (K false w)
  (ifB (decide (kind > 8))
  (K false w)
  (ifB (v == 2)
  (K true w)
  (ifB (v == 1)
  (K (kind != 5) w)
  (K false w))))
def ref07_Has_ann : Ann := (.s .d (.s (.s .d (.c (.s .d .d) .d)) (.s .d .d)))
theorem ref07_Has_calls {v : Int} {kind : Int} {K : Bool → World → Prop} {w : World} (h : ref07_Has v kind K w) : callV Pr Value.bool 52 #[(.int .i64 v), (.int .i64 kind)] w K :=
  calls_of Pr_plain Pr_mixed Pr_func52 ref07_Has_ann rB (args := [(.int .i64 v), (.int .i64 kind)]) (by kernel_rfl) h

/- changeover/changeoverref08.Bytes -/
def ref08_Bytes (v : Int) (c : ApiCmd) (K : Sl → World → Prop) (w : World) : Prop :=
  newV (fun b1 w2 =>
  callV Pr Sl.val 82 #[(.int .i64 c.Kind)] w2 fun out3 w4 =>
  kp b1 w2 w4 <|
  join1 (fun (j5 : Sl → World → Prop) =>
  ifB (v == 1)
  (callV Pr Sl.val 82 #[(.int .i64 c.Client)] w4 fun t6 w7 =>
  kp b1 w4 w7 <|
  opTy Pr (Builtin.append_ #[24, 24] 24 #[out3.val, t6.val]) Sl.val (fun out8 w9 =>
  kp b1 w7 w9 <|
  callV Pr Sl.val 82 #[(.int .i64 c.Seq)] w9 fun t10 w11 =>
  kp b1 w9 w11 <|
  opTy Pr (Builtin.append_ #[24, 24] 24 #[out8.val, t10.val]) Sl.val (fun out12 w13 =>
  kp b1 w11 w13 <|
  callV Pr Sl.val 84 #[(sval c.Key)] w13 fun t14 w15 =>
  kp b1 w13 w15 <|
  opTy Pr (Builtin.append_ #[24, 24] 24 #[out12.val, t14.val]) Sl.val (fun out16 w17 =>
  kp b1 w15 w17 <|
  j5 out16 w17) w15) w11) w7)
  (callV Pr Value.bool 44 #[(.int .i64 c.Kind)] w4 fun t18 w19 =>
  kp b1 w4 w19 <|
  ifB t18
  (callV Pr Sl.val 82 #[(.int .i64 c.Client)] w19 fun t20 w21 =>
  kp b1 w19 w21 <|
  opTy Pr (Builtin.append_ #[24, 24] 24 #[out3.val, t20.val]) Sl.val (fun out22 w23 =>
  kp b1 w21 w23 <|
  callV Pr Sl.val 82 #[(.int .i64 c.Seq)] w23 fun t24 w25 =>
  kp b1 w23 w25 <|
  opTy Pr (Builtin.append_ #[24, 24] 24 #[out22.val, t24.val]) Sl.val (fun out26 w27 =>
  kp b1 w25 w27 <|
  callV Pr Sl.val 84 #[(sval c.Key)] w27 fun t28 w29 =>
  kp b1 w27 w29 <|
  opTy Pr (Builtin.append_ #[24, 24] 24 #[out26.val, t28.val]) Sl.val (fun out30 w31 =>
  kp b1 w29 w31 <|
  j5 out30 w31) w29) w25) w21)
  (j5 out3 w19)))
  (fun out32 w33 =>
  join1 (fun (j34 : Sl → World → Prop) =>
  ifB (!(v == 1))
  (ifB (c.Kind == 5)
  (callV Pr Sl.val 84 #[(sval c.Old)] w33 fun t35 w36 =>
  kp b1 w33 w36 <|
  opTy Pr (Builtin.append_ #[24, 24] 24 #[out32.val, t35.val]) Sl.val (fun out37 w38 =>
  kp b1 w36 w38 <|
  j34 out37 w38) w36)
  (j34 out32 w33))
  (j34 out32 w33))
  (fun out39 w40 =>
  join1 (fun (j41 : Sl → World → Prop) =>
  ifB (v == 1)
  (callV Pr Sl.val 84 #[(sval c.Val)] w40 fun t42 w43 =>
  kp b1 w40 w43 <|
  opTy Pr (Builtin.append_ #[24, 24] 24 #[out39.val, t42.val]) Sl.val (fun out44 w45 =>
  kp b1 w43 w45 <|
  j41 out44 w45) w43)
  (ifB (c.Kind == 2)
  (callV Pr Sl.val 84 #[(sval c.Val)] w40 fun t46 w47 =>
  kp b1 w40 w47 <|
  opTy Pr (Builtin.append_ #[24, 24] 24 #[out39.val, t46.val]) Sl.val (fun out48 w49 =>
  kp b1 w47 w49 <|
  j41 out48 w49) w47)
  (ifB (c.Kind == 5)
  (callV Pr Sl.val 84 #[(sval c.Val)] w40 fun t50 w51 =>
  kp b1 w40 w51 <|
  opTy Pr (Builtin.append_ #[24, 24] 24 #[out39.val, t50.val]) Sl.val (fun out52 w53 =>
  kp b1 w51 w53 <|
  j41 out52 w53) w51)
  (j41 out39 w40))))
  (fun out54 w55 =>
  ifB (v == 1)
  (callV Pr Sl.val 82 #[(.int .i64 c.Node)] w55 fun t56 w57 =>
  kp b1 w55 w57 <|
  opTy Pr (Builtin.append_ #[24, 24] 24 #[out54.val, t56.val]) Sl.val (fun out58 w59 =>
  kp b1 w57 w59 <|
  K out58 w59) w57)
  (callV Pr Value.bool 91 #[(.int .i64 c.Kind)] w55 fun t60 w61 =>
  kp b1 w55 w61 <|
  ifB t60
  (callV Pr Sl.val 82 #[(.int .i64 c.Node)] w61 fun t62 w63 =>
  kp b1 w61 w63 <|
  opTy Pr (Builtin.append_ #[24, 24] 24 #[out54.val, t62.val]) Sl.val (fun out64 w65 =>
  kp b1 w63 w65 <|
  K out64 w65) w63)
  (K out54 w61)))))) w
def ref08_Bytes_ann : Ann := (.s (.r [(0, .nl 3)]) (.s (.r [(2, .call rSl)]) (.s .d (.sj [(.s 5, rSl)] (.s (.r [(4, .call rB)]) (.c (.s (.r [(3, .call rSl), (4, .ty rSl)]) (.s (.r [(3, .call rSl), (4, .ty rSl)]) (.r [(3, .call rSl), (4, .ty rSl)]))) .d)) (.sj [(.s 5, rSl)] (.s .d (.c (.r [(3, .call rSl), (4, .ty rSl)]) .d)) (.sj [(.s 5, rSl)] (.s .d (.c (.r [(3, .call rSl), (4, .ty rSl)]) .d)) (.s (.s (.r [(4, .call rB)]) (.c (.r [(3, .call rSl), (4, .ty rSl)]) .d)) (.s .d .d))))))))
theorem ref08_Bytes_calls {v : Int} {c : ApiCmd} {K : Sl → World → Prop} {w : World} (h : ref08_Bytes v c K w) : callV Pr Sl.val 53 #[(.int .i64 v), (.agg ⟨c.cs⟩)] w K :=
  calls_of Pr_plain Pr_mixed Pr_func53 ref08_Bytes_ann rSl (args := [(.int .i64 v), (.agg ⟨c.cs⟩)]) (by kernel_rfl) h

/- changeover/changeoverref09.Text -/
def ref09_Text (a : ApiAnswer) (K : (List UInt8) → World → Prop) (w : World) : Prop :=
  newV (fun b1 w2 =>
  join1 (fun (j3 : (List UInt8) → World → Prop) =>
  ifB a.Found
  (j3 [121, 101, 115] w2)
  (j3 [110, 111] w2))
  (fun yes4 w5 =>
  heldM (fun S7 w6 =>
  callV Pr sval 103 #[(.int .i64 a.Client)] w6 fun t8 w9 =>
  kp b1 w6 w9 <|
  (S7 w9) ∧
  (opH Pr S7 (binSem .add 9 (.tmp 8) (.const (sval [32])) (sval t8) (sval [32])) sval (fun t10 =>
  callV Pr sval 103 #[(.int .i64 a.Seq)] w9 fun t11 w12 =>
  kp b1 w9 w12 <|
  (S7 w12) ∧
  (opH Pr S7 (binSem .add 9 (.tmp 9) (.tmp 12) (sval t10) (sval t11)) sval (fun t13 =>
  opH Pr S7 (binSem .add 9 (.tmp 13) (.const (sval [32])) (sval t13) (sval [32])) sval (fun t14 =>
  callV Pr sval 103 #[(.int .i64 a.Err)] w12 fun t15 w16 =>
  kp b1 w12 w16 <|
  (S7 w16) ∧
  (opH Pr S7 (binSem .add 9 (.tmp 14) (.tmp 17) (sval t14) (sval t15)) sval (fun t17 =>
  opH Pr S7 (binSem .add 9 (.tmp 18) (.const (sval [32])) (sval t17) (sval [32])) sval (fun t18 =>
  callV Pr sval 103 #[(.int .i64 a.Rev)] w16 fun t19 w20 =>
  kp b1 w16 w20 <|
  (S7 w20) ∧
  (opH Pr S7 (binSem .add 9 (.tmp 19) (.tmp 22) (sval t18) (sval t19)) sval (fun t21 =>
  opH Pr S7 (binSem .add 9 (.tmp 23) (.const (sval [32])) (sval t21) (sval [32])) sval (fun t22 =>
  opH Pr S7 (binSem .add 9 (.tmp 24) (.tmp 25) (sval t22) (sval yes4)) sval (fun t23 =>
  opH Pr S7 (binSem .add 9 (.tmp 26) (.const (sval [32])) (sval t23) (sval [32])) sval (fun t24 =>
  callV Pr sval 104 #[(sval a.Val)] w20 fun t25 w26 =>
  kp b1 w20 w26 <|
  (S7 w26) ∧
  (opH Pr S7 (binSem .add 9 (.tmp 27) (.tmp 30) (sval t24) (sval t25)) sval (fun t27 =>
  K t27 w26)))))))))))))))) w5)) w
def ref09_Text_ann : Ann := (.s (.r [(0, .nl 1)]) (.s .d (.sj [(.s 3, rS)] (.s .d (.c .d .d)) (.s (.h (.take 0 (.take 1 (.take 4 (.take 5 (.take 9 (.take 10 (.take 14 (.take 15 (.take 19 (.take 22 (.take 23 (.one 2 (.take 3 (.one 6 (.take 7 (.take 8 (.one 11 (.take 12 (.take 13 (.one 16 (.take 17 (.take 18 (.take 20 (.take 21 (.one 24 (.take 25 (.take 26 .done))))))))))))))))))))))))))) [(2, .call rS), (3, .rd rS), (6, .call rS), (7, .rd rS), (8, .rd rS), (11, .call rS), (12, .rd rS), (13, .rd rS), (16, .call rS), (17, .rd rS), (18, .rd rS), (20, .rd rS), (21, .rd rS), (24, .call rS), (25, .rd rS)]) .d))))
theorem ref09_Text_calls {a : ApiAnswer} {K : (List UInt8) → World → Prop} {w : World} (h : ref09_Text a K w) : callV Pr sval 54 #[(.agg ⟨a.cs⟩)] w K :=
  calls_of Pr_plain Pr_mixed Pr_func54 ref09_Text_ann rS (args := [(.agg ⟨a.cs⟩)]) (by kernel_rfl) h

/- changeover/answer.Parse -/
def answer_Parse (s : List UInt8) (K : (ApiAnswer × Int) → World → Prop) (w : World) : Prop :=
  newV (fun b1 w2 =>
  callV Pr (tval2 Sl.val (Value.int .i64)) 105 #[(sval s)] w2 fun t3 w4 =>
  kp b1 w2 w4 <|
  opTy Pr (Instr.alloc 142 true (.tuple #[])) pav (fun l5 w6 =>
  kp b1 w4 w6 <|
  opUn Pr (Instr.storeAt 142 (.pointer (some l5)) t3.1.val) (fun w7 =>
  kp b1 w6 w7 <|
  ifB (t3.2 != 0)
  (wrM b1 (fun w8 =>
  K ((ApiAnswer.mk 0 0 0 false [] 0), 3) w8) w7)
  (opRd Pr (Instr.loadAt 142 (.pointer (some l5))) Sl.val (fun t9 =>
  ifB ((t9.len : Int) != 6)
  (wrM b1 (fun w10 =>
  K ((ApiAnswer.mk 0 0 0 false [] 0), 3) w10) w7)
  (opRd Pr (Instr.loadAt 142 (.pointer (some l5))) Sl.val (fun t11 =>
  opRd Pr (Instr.indexAt 142 t11.val (.int .i64 5)) pav (fun t12 =>
  opRd Pr (Instr.loadAt 9 (.pointer (some t12))) sval (fun t13 =>
  callV Pr (tval2 sval (Value.int .i64)) 108 #[(sval t13)] w7 fun t14 w15 =>
  kp b1 w7 w15 <|
  heldM (fun S17 w16 =>
  opH Pr S17 (Instr.loadAt 142 (.pointer (some l5))) Sl.val (fun t18 =>
  opH Pr S17 (Instr.indexAt 142 t18.val (.int .i64 4)) pav (fun t19 =>
  opH Pr S17 (Instr.loadAt 9 (.pointer (some t19))) sval (fun t20 =>
  (callV Pr (Value.int .i64) 106 #[(.int .i64 0), (.pointer (some l5))] w16 fun t21 w22 =>
  kp b1 w16 w22 <|
  (S17 w22) ∧
  ((callV Pr (Value.int .i64) 106 #[(.int .i64 1), (.pointer (some l5))] w22 fun t23 w24 =>
  kp b1 w22 w24 <|
  (S17 w24) ∧
  ((callV Pr (Value.int .i64) 106 #[(.int .i64 2), (.pointer (some l5))] w24 fun t25 w26 =>
  kp b1 w24 w26 <|
  (S17 w26) ∧
  ((callV Pr (Value.int .i64) 106 #[(.int .i64 3), (.pointer (some l5))] w26 fun t27 w28 =>
  kp b1 w26 w28 <|
  (S17 w28) ∧
  (newV (fun b29 w30 =>
  (S17 w30) ∧
  (wrM b29 (fun w31 =>
  (S17 w31) ∧
  (callV Pr sval 56 #[(.agg ⟨[(.int .i64 t21), (.int .i64 t23), (.int .i64 t25), (.bool (strEq t20 [121, 101, 115])), (sval t14.1), (.int .i64 t27)]⟩)] w31 fun t32 w33 =>
  kp b29 w31 w33 <|
  kp b1 w31 w33 <|
  ifB (!(strEq t32 s))
  (wrM b1 (fun w34 =>
  K ((ApiAnswer.mk 0 0 0 false [] 0), 3) w34) w33)
  (wrM b1 (fun w35 =>
  K ((ApiAnswer.mk t21 t23 t25 (strEq t20 [121, 101, 115]) t14.1 t27), 0) w35) w33))) w30)) w28)) ∧
  (newV (fun b36 w37 =>
  (S17 w37) ∧
  (callV Pr (Value.int .i64) 106 #[(.int .i64 3), (.pointer (some l5))] w37 fun t38 w39 =>
  kp b36 w37 w39 <|
  kp b1 w37 w39 <|
  (S17 w39) ∧
  (wrM b36 (fun w40 =>
  (S17 w40) ∧
  (callV Pr sval 56 #[(.agg ⟨[(.int .i64 t21), (.int .i64 t23), (.int .i64 t25), (.bool (strEq t20 [121, 101, 115])), (sval t14.1), (.int .i64 t38)]⟩)] w40 fun t41 w42 =>
  kp b36 w40 w42 <|
  kp b1 w40 w42 <|
  ifB (!(strEq t41 s))
  (wrM b1 (fun w43 =>
  K ((ApiAnswer.mk 0 0 0 false [] 0), 3) w43) w42)
  (wrM b1 (fun w44 =>
  K ((ApiAnswer.mk t21 t23 t25 (strEq t20 [121, 101, 115]) t14.1 t38), 0) w44) w42))) w39))) w26))) ∧
  (newV (fun b45 w46 =>
  (S17 w46) ∧
  (callV Pr (Value.int .i64) 106 #[(.int .i64 2), (.pointer (some l5))] w46 fun t47 w48 =>
  kp b45 w46 w48 <|
  kp b1 w46 w48 <|
  (S17 w48) ∧
  (callV Pr (Value.int .i64) 106 #[(.int .i64 3), (.pointer (some l5))] w48 fun t49 w50 =>
  kp b45 w48 w50 <|
  kp b1 w48 w50 <|
  (S17 w50) ∧
  (wrM b45 (fun w51 =>
  (S17 w51) ∧
  (callV Pr sval 56 #[(.agg ⟨[(.int .i64 t21), (.int .i64 t23), (.int .i64 t47), (.bool (strEq t20 [121, 101, 115])), (sval t14.1), (.int .i64 t49)]⟩)] w51 fun t52 w53 =>
  kp b45 w51 w53 <|
  kp b1 w51 w53 <|
  ifB (!(strEq t52 s))
  (wrM b1 (fun w54 =>
  K ((ApiAnswer.mk 0 0 0 false [] 0), 3) w54) w53)
  (wrM b1 (fun w55 =>
  K ((ApiAnswer.mk t21 t23 t47 (strEq t20 [121, 101, 115]) t14.1 t49), 0) w55) w53))) w50)))) w24))) ∧
  (newV (fun b56 w57 =>
  (S17 w57) ∧
  (callV Pr (Value.int .i64) 106 #[(.int .i64 1), (.pointer (some l5))] w57 fun t58 w59 =>
  kp b56 w57 w59 <|
  kp b1 w57 w59 <|
  (S17 w59) ∧
  (callV Pr (Value.int .i64) 106 #[(.int .i64 2), (.pointer (some l5))] w59 fun t60 w61 =>
  kp b56 w59 w61 <|
  kp b1 w59 w61 <|
  (S17 w61) ∧
  (callV Pr (Value.int .i64) 106 #[(.int .i64 3), (.pointer (some l5))] w61 fun t62 w63 =>
  kp b56 w61 w63 <|
  kp b1 w61 w63 <|
  (S17 w63) ∧
  (wrM b56 (fun w64 =>
  (S17 w64) ∧
  (callV Pr sval 56 #[(.agg ⟨[(.int .i64 t21), (.int .i64 t58), (.int .i64 t60), (.bool (strEq t20 [121, 101, 115])), (sval t14.1), (.int .i64 t62)]⟩)] w64 fun t65 w66 =>
  kp b56 w64 w66 <|
  kp b1 w64 w66 <|
  ifB (!(strEq t65 s))
  (wrM b1 (fun w67 =>
  K ((ApiAnswer.mk 0 0 0 false [] 0), 3) w67) w66)
  (wrM b1 (fun w68 =>
  K ((ApiAnswer.mk t21 t58 t60 (strEq t20 [121, 101, 115]) t14.1 t62), 0) w68) w66))) w63))))) w22))) ∧
  (newV (fun b69 w70 =>
  (S17 w70) ∧
  (callV Pr (Value.int .i64) 106 #[(.int .i64 0), (.pointer (some l5))] w70 fun t71 w72 =>
  kp b69 w70 w72 <|
  kp b1 w70 w72 <|
  (S17 w72) ∧
  (callV Pr (Value.int .i64) 106 #[(.int .i64 1), (.pointer (some l5))] w72 fun t73 w74 =>
  kp b69 w72 w74 <|
  kp b1 w72 w74 <|
  (S17 w74) ∧
  (callV Pr (Value.int .i64) 106 #[(.int .i64 2), (.pointer (some l5))] w74 fun t75 w76 =>
  kp b69 w74 w76 <|
  kp b1 w74 w76 <|
  (S17 w76) ∧
  (callV Pr (Value.int .i64) 106 #[(.int .i64 3), (.pointer (some l5))] w76 fun t77 w78 =>
  kp b69 w76 w78 <|
  kp b1 w76 w78 <|
  (S17 w78) ∧
  (wrM b69 (fun w79 =>
  (S17 w79) ∧
  (callV Pr sval 56 #[(.agg ⟨[(.int .i64 t71), (.int .i64 t73), (.int .i64 t75), (.bool (strEq t20 [121, 101, 115])), (sval t14.1), (.int .i64 t77)]⟩)] w79 fun t80 w81 =>
  kp b69 w79 w81 <|
  kp b1 w79 w81 <|
  ifB (!(strEq t80 s))
  (wrM b1 (fun w82 =>
  K ((ApiAnswer.mk 0 0 0 false [] 0), 3) w82) w81)
  (wrM b1 (fun w83 =>
  K ((ApiAnswer.mk t71 t73 t75 (strEq t20 [121, 101, 115]) t14.1 t77), 0) w83) w81))) w78)))))) w16))))) w15) w7) w7) w7)) w7)) w6) w4) w
def answer_Parse_ann : Ann := (.s (.r [(0, .nl 2)]) (.s (.r [(1, .call (rT2 rSl (rI .i64))), (5, .ty rPA), (6, .un)]) (.s (.s (.r [(3, .rd rSl)]) (.c (.s (.r [(1, .ls 2)]) .d) .d)) (.s .d (.s (.r [(0, .rd rSl), (1, .rd rPA), (2, .rd rS), (3, .call (rT2 rS (rI .i64)))]) (.s (.h (.take 0 (.take 2 (.take 4 (.take 6 (.take 8 (.take 9 (.take 10 (.take 11 (.take 12 (.two 1 (.two 3 (.two 5 (.two 7 (.take 13 (.one 14 (.one 15 .done))) 14 (.one 7 (.take 13 (.one 15 .done)))) 14 (.one 5 (.one 7 (.take 13 (.one 15 .done))))) 14 (.one 3 (.one 5 (.one 7 (.take 13 (.one 15 .done)))))) 14 (.one 1 (.one 3 (.one 5 (.one 7 (.take 13 (.one 15 .done)))))))))))))))) [(1, .call (rI .i64)), (3, .call (rI .i64)), (5, .call (rI .i64)), (7, .call (rI .i64)), (8, .rd rSl), (9, .rd rPA), (10, .rd rS), (14, .nl 9), (15, .ls 9)]) (.s (.s (.r [(1, .call rS)]) (.c (.s (.r [(1, .ls 2)]) .d) .d)) (.s (.r [(1, .ls 2)]) .d))))))))
theorem answer_Parse_calls {s : List UInt8} {K : (ApiAnswer × Int) → World → Prop} {w : World} (h : answer_Parse s K w) : callV Pr (tval2 ApiAnswer.val (Value.int .i64)) 55 #[(sval s)] w K :=
  calls_of Pr_plain Pr_mixed Pr_func55 answer_Parse_ann (rT2 rApiAnswer (rI .i64)) (args := [(sval s)]) (by kernel_rfl) h

/- changeover/answer.Text -/
def answer_Text (a : ApiAnswer) (K : (List UInt8) → World → Prop) (w : World) : Prop :=
  newV (fun b1 w2 =>
  callV Pr (Value.int .i64) 45 #[(.agg ⟨[(.int .i64 a.Client), (.int .i64 a.Seq), (.int .i64 a.Err), (.bool a.Found), (sval a.Val), (.int .i64 a.Rev)]⟩)] w2 fun t3 w4 =>
  kp b1 w2 w4 <|
  ifB (t3 != 0)
  (K [] w4)
  (heldM (fun S6 w5 =>
  callV Pr sval 109 #[(.int .i64 a.Client)] w5 fun t7 w8 =>
  kp b1 w5 w8 <|
  (S6 w8) ∧
  (callV Pr sval 109 #[(.int .i64 a.Seq)] w8 fun t9 w10 =>
  kp b1 w8 w10 <|
  (S6 w10) ∧
  (callV Pr sval 109 #[(.int .i64 a.Err)] w10 fun t11 w12 =>
  kp b1 w10 w12 <|
  (S6 w12) ∧
  (callV Pr sval 109 #[(.int .i64 a.Rev)] w12 fun t13 w14 =>
  kp b1 w12 w14 <|
  (S6 w14) ∧
  (callV Pr sval 111 #[(.bool a.Found)] w14 fun t15 w16 =>
  kp b1 w14 w16 <|
  (S6 w16) ∧
  (callV Pr sval 112 #[(sval a.Val)] w16 fun t17 w18 =>
  kp b1 w16 w18 <|
  (S6 w18) ∧
  (opTy Pr (Instr.buildSlice 142 6 #[(0, (sval t7)), (1, (sval t9)), (2, (sval t11)), (3, (sval t13)), (4, (sval t15)), (5, (sval t17))]) Sl.val (fun t19 w20 =>
  kp b1 w18 w20 <|
  (S6 w20) ∧
  (callV Pr sval 110 #[t19.val] w20 fun t21 w22 =>
  kp b1 w20 w22 <|
  (S6 w22) ∧
  (K t21 w22))) w18))))))) w4)) w
def answer_Text_ann : Ann := (.s (.r [(0, .nl 1)]) (.s (.s (.r [(1, .call (rI .i64))]) (.c (.s .d .d) .d)) (.s .d (.s (.h (.take 0 (.take 1 (.take 2 (.take 4 (.take 5 (.take 6 (.take 8 (.take 9 (.take 10 (.take 12 (.take 13 (.take 14 (.take 16 (.take 17 (.take 19 (.take 20 (.one 3 (.one 7 (.one 11 (.one 15 (.one 18 (.one 21 (.one 22 (.one 23 (.take 24 .done))))))))))))))))))))))))) [(3, .call rS), (7, .call rS), (11, .call rS), (15, .call rS), (18, .call rS), (21, .call rS), (22, .ty rSl), (23, .call rS)]) .d))))
theorem answer_Text_calls {a : ApiAnswer} {K : (List UInt8) → World → Prop} {w : World} (h : answer_Text a K w) : callV Pr sval 56 #[(.agg ⟨a.cs⟩)] w K :=
  calls_of Pr_plain Pr_mixed Pr_func56 answer_Text_ann rS (args := [(.agg ⟨a.cs⟩)]) (by kernel_rfl) h

/- changeover/changeoverref12.Large -/
def ref12_Large (l : Sl) (K : Bool → World → Prop) (w : World) : Prop :=
  loop1 (0 : Int) (fun i1 k2 w3 =>
  ifB (decide (i1 < (l.len : Int)))
  (ifB (decide (i1 < 40))
  (opRd Pr (Instr.indexAt 25 l.val (.int .i64 i1)) pav (fun t4 =>
  opRd Pr (Instr.loadAt 9 (.pointer (some ((t4.add 3).add 3)))) sval (fun t5 =>
  ifB (decide (((t5 : List UInt8).length : Int) > 200))
  (K true w3)
  (opRd Pr (Instr.indexAt 25 l.val (.int .i64 i1)) pav (fun t6 =>
  opRd Pr (Instr.loadAt 9 (.pointer (some ((t6.add 3).add 4)))) sval (fun t7 =>
  ifB (decide (((t7 : List UInt8).length : Int) > 200))
  (K true w3)
  (opRd Pr (Instr.indexAt 25 l.val (.int .i64 i1)) pav (fun t8 =>
  opRd Pr (Instr.loadAt 9 (.pointer (some ((t8.add 3).add 5)))) sval (fun t9 =>
  ifB (decide (((t9 : List UInt8).length : Int) > 200))
  (K true w3)
  (k2 (i64 (i1 + 1)) w3)) w3) w3)) w3) w3)) w3) w3)
  (K (decide ((l.len : Int) > 40)) w3))
  (K (decide ((l.len : Int) > 40)) w3)) w
def ref12_Large_ann : Ann := (.s .d (.s (.s .d (.b (.l [(.s 3, (rI .i64))] (.s (.s .d (.c .d .d)) (.s (.b (.s (.r [(2, .rd rPA), (5, .rd rS), (11, .rd rPA), (14, .rd rS), (21, .rd rPA), (24, .rd rS)]) (.c (.s .d .d) .d))) .d))))) (.s .d .d)))
theorem ref12_Large_calls {l : Sl} {K : Bool → World → Prop} {w : World} (h : ref12_Large l K w) : callV Pr Value.bool 57 #[l.val] w K :=
  calls_of Pr_plain Pr_mixed Pr_func57 ref12_Large_ann rB (args := [l.val]) (by kernel_rfl) h

/- changeover/changeoverref10.May -/
def ref10_May (b : ApiBallot) (K : Bool → World → Prop) (w : World) : Prop :=
  newV (fun b1 w2 =>
  join0 (fun (j3 : World → Prop) =>
  ifB (b.Round == 0)
  (ifB (b.Node == 0)
  (K true w2)
  (j3 w2))
  (j3 w2))
  (fun w4 =>
  ifB (decide (b.Round ≥ 1))
  (ifB (decide (b.Round ≤ 4294967296))
  (ifB (decide (b.Node ≥ 1))
  (K (decide (b.Node ≤ 9)) w4)
  (K false w4))
  (K false w4))
  (K false w4))) w
def ref10_May_ann : Ann := (.s (.r [(0, .nl 1)]) (.sj [] (.s .d (.c (.s .d .d) .d)) (.s .d .d)))
theorem ref10_May_calls {b : ApiBallot} {K : Bool → World → Prop} {w : World} (h : ref10_May b K w) : callV Pr Value.bool 58 #[(.agg ⟨b.cs⟩)] w K :=
  calls_of Pr_plain Pr_mixed Pr_func58 ref10_May_ann rB (args := [(.agg ⟨b.cs⟩)]) (by kernel_rfl) h

/- changeover/changeoverref12.Check -/
def ref12_Check (l : Sl) (K : Int → World → Prop) (w : World) : Prop :=
  loop1 (0 : Int) (fun i1 k2 w3 =>
  ifB (decide (i1 < (l.len : Int)))
  (opRd Pr (Instr.indexAt 25 l.val (.int .i64 i1)) pav (fun t4 =>
  opRd Pr (Instr.loadAt 3 (.pointer (some (t4.add 0)))) (Value.int .i64) (fun t5 =>
  ifB (decide (t5 < 1))
  (K 6 w3)
  (opRd Pr (Instr.indexAt 25 l.val (.int .i64 i1)) pav (fun t6 =>
  opRd Pr (Instr.loadAt 3 (.pointer (some (t6.add 0)))) (Value.int .i64) (fun t7 =>
  ifB (decide (t7 > 4294967296))
  (K 6 w3)
  (opRd Pr (Instr.indexAt 25 l.val (.int .i64 i1)) pav (fun t8 =>
  opRd Pr (Instr.loadAt 23 (.pointer (some (t8.add 1)))) ApiBallot.val (fun t9 =>
  callV Pr Value.bool 58 #[(.agg ⟨t9.cs⟩)] w3 fun t10 w11 =>
  ifB (!t10)
  (K 6 w11)
  (opRd Pr (Instr.indexAt 25 l.val (.int .i64 i1)) pav (fun t12 =>
  opRd Pr (Instr.loadAt 40 (.pointer (some (t12.add 3)))) ApiCmd.val (fun t13 =>
  callV Pr (Value.int .i64) 42 #[(.agg ⟨t13.cs⟩)] w11 fun e14 w15 =>
  ifB (e14 != 0)
  (K e14 w15)
  (drewM (fun w16 =>
  ifB (decide (i1 > 0))
  (opRd Pr (Instr.indexAt 25 l.val (.int .i64 i1)) pav (fun t17 =>
  opRd Pr (Instr.loadAt 3 (.pointer (some (t17.add 0)))) (Value.int .i64) (fun t18 =>
  opRd Pr (Instr.indexAt 25 l.val (.int .i64 (i64 (i1 - 1)))) pav (fun t19 =>
  opRd Pr (Instr.loadAt 3 (.pointer (some (t19.add 0)))) (Value.int .i64) (fun t20 =>
  ifB (decide (t18 ≤ t20))
  (K 12 w16)
  (k2 (i64 (i1 + 1)) w16)) w16) w16) w16) w16)
  (k2 (i64 (i1 + 1)) w16)) w15)) w11) w11)) w3) w3)) w3) w3)) w3) w3)
  (K 0 w3)) w
def ref12_Check_ann : Ann := (.s .d (.s (.s .d (.b (.l [(.s 3, (rI .i64))] (.s (.s .d (.c .d .d)) (.s (.b (.s (.s (.r [(2, .rd rPA), (4, .rd (rI .i64)), (9, .rd rPA), (11, .rd (rI .i64)), (17, .rd rPA), (19, .rd rApiBallot), (20, .call rB)]) (.c (.s .d .d) .d)) (.s (.s (.r [(2, .rd rPA), (4, .rd rApiCmd), (5, .call (rI .i64))]) (.s .d (.c (.s .d .d) .d))) (.s (.r [(5, .rd rPA), (7, .rd (rI .i64)), (11, .rd rPA), (13, .rd (rI .i64))]) (.c (.s .d .d) .d))))) .d))))) (.s .d .d)))
theorem ref12_Check_calls {l : Sl} {K : Int → World → Prop} {w : World} (h : ref12_Check l K w) : callV Pr (Value.int .i64) 59 #[l.val] w K :=
  calls_of Pr_plain Pr_mixed Pr_func59 ref12_Check_ann (rI .i64) (args := [l.val]) (by kernel_rfl) h

/- changeover/changeoverref19.Of -/
def ref19_Of (l : Sl) (K : ApiHard → World → Prop) (w : World) : Prop :=
  newV (fun b1 w2 =>
  newV (fun b3 w4 =>
  loop2 (0 : Int) ((ApiHard.mk (ApiBallot.mk 0 0) 0 Sl.nil Sl.nil Sl.nil) : ApiHard) (fun i5 h6 k7 w8 =>
  ifB (decide (i5 < (l.len : Int)))
  (opRd Pr (Instr.indexAt 33 l.val (.int .i64 i5)) pav (fun t9 =>
  opRd Pr (Instr.loadAt 42 (.pointer (some t9))) ApiRecord.val (fun t10 =>
  newV (fun b11 w12 =>
  wrM b11 (fun w13 =>
  callV Pr (Value.int .i64) 113 #[(.agg ⟨[(.int .i64 t10.Kind), (.int .i64 t10.Ballot.Round), (.int .i64 t10.Ballot.Node), (.int .i64 t10.Index), (.int .i64 t10.Cmd.Kind), (.int .i64 t10.Cmd.Client), (.int .i64 t10.Cmd.Seq), (sval t10.Cmd.Key), (sval t10.Cmd.Val), (sval t10.Cmd.Old), (.int .i64 t10.Cmd.Node), t10.Image.val]⟩)] w13 fun t14 w15 =>
  kp b11 w13 w15 <|
  kp b3 w13 w15 <|
  kp b1 w13 w15 <|
  ifB (t14 != 0)
  (k7 (i64 (i5 + 1)) h6 w15)
  (join1 (fun (j16 : ApiHard → World → Prop) =>
  callV Pr Value.bool 114 #[(.int .i64 t10.Kind)] w15 fun t17 w18 =>
  kp b11 w15 w18 <|
  kp b3 w15 w18 <|
  kp b1 w15 w18 <|
  ifB t17
  (callV Pr Value.bool 23 #[(.agg ⟨[(.int .i64 h6.Promised.Round), (.int .i64 h6.Promised.Node)]⟩), (.agg ⟨[(.int .i64 t10.Ballot.Round), (.int .i64 t10.Ballot.Node)]⟩)] w18 fun t19 w20 =>
  kp b11 w18 w20 <|
  kp b3 w18 w20 <|
  kp b1 w18 w20 <|
  ifB t19
  (wrM b3 (fun w21 =>
  j16 (ApiHard.mk t10.Ballot h6.Base h6.Image h6.Accepted h6.Chosen) w21) w20)
  (j16 h6 w20))
  (j16 h6 w18))
  (fun h22 w23 =>
  ifB (t10.Kind == 4)
  (ifB (decide (t10.Index > h22.Base))
  (wrM b3 (fun w24 =>
  wrM b3 (fun w25 =>
  k7 (i64 (i5 + 1)) (ApiHard.mk h22.Promised t10.Index t10.Image h22.Accepted h22.Chosen) w25) w24) w23)
  (k7 (i64 (i5 + 1)) h22 w23))
  (k7 (i64 (i5 + 1)) h22 w23)))) w12) w8) w8) w8)
  (loop2 (0 : Int) (h6 : ApiHard) (fun i26 h27 k28 w29 =>
  ifB (decide (i26 < (l.len : Int)))
  (opRd Pr (Instr.indexAt 33 l.val (.int .i64 i26)) pav (fun t30 =>
  opRd Pr (Instr.loadAt 42 (.pointer (some t30))) ApiRecord.val (fun t31 =>
  newV (fun b32 w33 =>
  wrM b32 (fun w34 =>
  callV Pr (Value.int .i64) 113 #[(.agg ⟨[(.int .i64 t31.Kind), (.int .i64 t31.Ballot.Round), (.int .i64 t31.Ballot.Node), (.int .i64 t31.Index), (.int .i64 t31.Cmd.Kind), (.int .i64 t31.Cmd.Client), (.int .i64 t31.Cmd.Seq), (sval t31.Cmd.Key), (sval t31.Cmd.Val), (sval t31.Cmd.Old), (.int .i64 t31.Cmd.Node), t31.Image.val]⟩)] w34 fun t35 w36 =>
  kp b32 w34 w36 <|
  kp b3 w34 w36 <|
  kp b1 w34 w36 <|
  ifB (t35 != 0)
  (k28 (i64 (i26 + 1)) h27 w36)
  (ifB (decide (t31.Index ≤ h27.Base))
  (k28 (i64 (i26 + 1)) h27 w36)
  (callV Pr Value.bool 115 #[(.int .i64 t31.Kind)] w36 fun t37 w38 =>
  kp b32 w36 w38 <|
  kp b3 w36 w38 <|
  kp b1 w36 w38 <|
  ifB (!t37)
  (k28 (i64 (i26 + 1)) h27 w38)
  (newV (fun b39 w40 =>
  wrM b39 (fun w41 =>
  ifB (t31.Kind == 2)
  (callV Pr Sl.val 116 #[h27.Accepted.val, (.agg ⟨[(.int .i64 t31.Index), (.int .i64 t31.Ballot.Round), (.int .i64 t31.Ballot.Node), (.int .i64 t31.Cmd.Kind), (.int .i64 t31.Cmd.Client), (.int .i64 t31.Cmd.Seq), (sval t31.Cmd.Key), (sval t31.Cmd.Val), (sval t31.Cmd.Old), (.int .i64 t31.Cmd.Node)]⟩)] w41 fun t42 w43 =>
  kp b39 w41 w43 <|
  kp b32 w41 w43 <|
  kp b3 w41 w43 <|
  kp b1 w41 w43 <|
  wrM b3 (fun w44 =>
  k28 (i64 (i26 + 1)) (ApiHard.mk h27.Promised h27.Base h27.Image t42 h27.Chosen) w44) w43)
  (callV Pr (Value.int .i64) 28 #[h27.Chosen.val, (.int .i64 t31.Index)] w41 fun t45 w46 =>
  kp b39 w41 w46 <|
  kp b32 w41 w46 <|
  kp b3 w41 w46 <|
  kp b1 w41 w46 <|
  ifB (decide (t45 < 0))
  (callV Pr Sl.val 116 #[h27.Chosen.val, (.agg ⟨[(.int .i64 t31.Index), (.int .i64 t31.Ballot.Round), (.int .i64 t31.Ballot.Node), (.int .i64 t31.Cmd.Kind), (.int .i64 t31.Cmd.Client), (.int .i64 t31.Cmd.Seq), (sval t31.Cmd.Key), (sval t31.Cmd.Val), (sval t31.Cmd.Old), (.int .i64 t31.Cmd.Node)]⟩)] w46 fun t47 w48 =>
  kp b39 w46 w48 <|
  kp b32 w46 w48 <|
  kp b3 w46 w48 <|
  kp b1 w46 w48 <|
  wrM b3 (fun w49 =>
  k28 (i64 (i26 + 1)) (ApiHard.mk h27.Promised h27.Base h27.Image h27.Accepted t47) w49) w48)
  (k28 (i64 (i26 + 1)) h27 w46))) w40) w38)))) w33) w29) w29) w29)
  (wrM b1 (fun w50 =>
  K h27 w50) w29)) w8)) w4) w2) w
def ref19_Of_ann : Ann := (.s (.r [(0, .nl 2)]) (.s (.r [(0, .nl 3)]) (.s (.s .d (.b (.l [(.s 4, (rI .i64)), (.h 3, rApiHard)] (.s (.s .d (.c .d .d)) (.s (.b (.s (.r [(2, .rd rPA), (3, .rd rApiRecord), (4, .nl 5), (5, .ls 5)]) (.s (.s (.r [(1, .call (rI .i64))]) (.c .d .d)) (.sj [(.h 3, rApiHard)] (.s (.r [(2, .call rB), (8, .call rB)]) (.c (.r [(3, .ls 3)]) .d)) (.s .d (.c (.s (.r [(3, .ls 3)]) (.r [(3, .ls 3)])) .d)))))) .d))))) (.s (.s .d (.b (.l [(.s 6, (rI .i64)), (.h 3, rApiHard)] (.s (.s .d (.c .d .d)) (.s (.b (.s (.r [(2, .rd rPA), (3, .rd rApiRecord), (4, .nl 7), (5, .ls 7)]) (.s (.s (.r [(1, .call (rI .i64)), (13, .call rB)]) (.c .d .d)) (.s (.r [(7, .nl 8), (8, .ls 8)]) (.s .d (.c (.r [(3, .call rSl), (5, .ls 3)]) (.s (.r [(4, .call (rI .i64))]) (.c (.r [(3, .call rSl), (5, .ls 3)]) .d)))))))) .d))))) (.s (.r [(1, .ls 2)]) .d)))))
theorem ref19_Of_calls {l : Sl} {K : ApiHard → World → Prop} {w : World} (h : ref19_Of l K w) : callV Pr ApiHard.val 60 #[l.val] w K :=
  calls_of Pr_plain Pr_mixed Pr_func60 ref19_Of_ann rApiHard (args := [l.val]) (by kernel_rfl) h

/- changeover/acceptor.check -/
def acceptor_check (h_ : ApiHard) (commit : Int) (m : ApiMsg) (kind : Int) (K : Int → World → Prop) (w : World) : Prop :=
  newV (fun b1 w2 =>
  newV (fun b3 w4 =>
  callV Pr (Value.int .i64) 68 #[(.agg ⟨[(.int .i64 m.Kind), (.int .i64 m.From), (.int .i64 m.To), (.int .i64 m.Ballot.Round), (.int .i64 m.Ballot.Node), (.int .i64 m.Index), (.int .i64 m.Commit), (.int .i64 m.Version), m.Entries.val, m.Image.val]⟩)] w4 fun e5 w6 =>
  kp b3 w4 w6 <|
  kp b1 w4 w6 <|
  ifB (e5 != 0)
  (K e5 w6)
  (ifB (m.Kind != kind)
  (K 5 w6)
  (callV Pr (Value.int .i64) 117 #[(.agg ⟨[(.int .i64 h_.Promised.Round), (.int .i64 h_.Promised.Node), (.int .i64 h_.Base), h_.Image.val, h_.Accepted.val, h_.Chosen.val]⟩)] w6 fun t7 w8 =>
  kp b3 w6 w8 <|
  kp b1 w6 w8 <|
  ifB (t7 != 0)
  (K 3 w8)
  (ifB (decide (commit < h_.Base))
  (K 3 w8)
  (ifB (decide (commit > 4294967296))
  (K 3 w8)
  (K 0 w8)))))) w2) w
def acceptor_check_ann : Ann := (.s (.r [(0, .nl 4), (1, .nl 6)]) (.s (.s (.r [(1, .call (rI .i64))]) (.s .d (.c (.s .d .d) .d))) (.s (.s .d (.c (.s .d .d) .d)) (.s (.s (.r [(1, .call (rI .i64))]) (.c (.s .d .d) .d)) (.s .d .d)))))
theorem acceptor_check_calls {h_ : ApiHard} {commit : Int} {m : ApiMsg} {kind : Int} {K : Int → World → Prop} {w : World} (h : acceptor_check h_ commit m kind K w) : callV Pr (Value.int .i64) 61 #[(.agg ⟨h_.cs⟩), (.int .i64 commit), (.agg ⟨m.cs⟩), (.int .i64 kind)] w K :=
  calls_of Pr_plain Pr_mixed Pr_func61 acceptor_check_ann (rI .i64) (args := [(.agg ⟨h_.cs⟩), (.int .i64 commit), (.agg ⟨m.cs⟩), (.int .i64 kind)]) (by kernel_rfl) h

/- changeover/ballot.Less -/
def ballot_Less (a : ApiBallot) (b : ApiBallot) (K : Bool → World → Prop) (w : World) : Prop :=
  newV (fun b1 w2 =>
  newV (fun b3 w4 =>
  heldM (fun S6 w5 =>
  callV Pr (Value.int .i64) 119 #[(.int .i64 a.Round), (.int .i64 b.Round)] w5 fun t7 w8 =>
  kp b3 w5 w8 <|
  kp b1 w5 w8 <|
  (S6 w8) ∧
  (callV Pr (Value.int .i64) 119 #[(.int .i64 a.Node), (.int .i64 b.Node)] w8 fun t9 w10 =>
  kp b3 w8 w10 <|
  kp b1 w8 w10 <|
  (S6 w10) ∧
  (opTy Pr (Instr.buildSlice 113 2 #[(0, (.int .i64 t7)), (1, (.int .i64 t9))]) Sl.val (fun t11 w12 =>
  kp b3 w10 w12 <|
  kp b1 w10 w12 <|
  (S6 w12) ∧
  (callV Pr (Value.int .i64) 118 #[t11.val] w12 fun t13 w14 =>
  kp b3 w12 w14 <|
  kp b1 w12 w14 <|
  (S6 w14) ∧
  (K (decide (t13 < 0)) w14))) w10))) w4) w2) w
def ballot_Less_ann : Ann := (.s (.r [(0, .nl 2), (1, .nl 3)]) (.s (.h (.take 0 (.take 1 (.take 2 (.take 3 (.take 5 (.take 6 (.take 7 (.take 8 (.one 4 (.one 9 (.one 10 (.one 11 (.take 12 (.take 13 .done)))))))))))))) [(4, .call (rI .i64)), (9, .call (rI .i64)), (10, .ty rSl), (11, .call (rI .i64))]) .d))
theorem ballot_Less_calls {a : ApiBallot} {b : ApiBallot} {K : Bool → World → Prop} {w : World} (h : ballot_Less a b K w) : callV Pr Value.bool 62 #[(.agg ⟨a.cs⟩), (.agg ⟨b.cs⟩)] w K :=
  calls_of Pr_plain Pr_mixed Pr_func62 ballot_Less_ann rB (args := [(.agg ⟨a.cs⟩), (.agg ⟨b.cs⟩)]) (by kernel_rfl) h

/- changeover/acceptor.back -/
def acceptor_back (m : ApiMsg) (kind : Int) (b : ApiBallot) (K : ApiMsg → World → Prop) (w : World) : Prop :=
  newV (fun b1 w2 =>
  newV (fun b3 w4 =>
  newV (fun b5 w6 =>
  wrM b5 (fun w7 =>
  K (ApiMsg.mk kind m.To m.From b 0 0 0 Sl.nil Sl.nil) w7) w6) w4) w2) w
def acceptor_back_ann : Ann := (.s (.r [(0, .nl 3), (1, .nl 5), (2, .nl 6)]) (.s (.r [(7, .ls 6)]) .d))
theorem acceptor_back_calls {m : ApiMsg} {kind : Int} {b : ApiBallot} {K : ApiMsg → World → Prop} {w : World} (h : acceptor_back m kind b K w) : callV Pr ApiMsg.val 63 #[(.agg ⟨m.cs⟩), (.int .i64 kind), (.agg ⟨b.cs⟩)] w K :=
  calls_of Pr_plain Pr_mixed Pr_func63 acceptor_back_ann rApiMsg (args := [(.agg ⟨m.cs⟩), (.int .i64 kind), (.agg ⟨b.cs⟩)]) (by kernel_rfl) h

/- changeover/entry.Find -/
def entry_Find (l : Sl) (index : Int) (K : (ApiEntry × Bool) → World → Prop) (w : World) : Prop :=
  newV (fun b1 w2 =>
  callV Pr (tval2 (Value.int .i64) Value.bool) 120 #[l.val, (.int .i64 index)] w2 fun t3 w4 =>
  kp b1 w2 w4 <|
  ifB (!t3.2)
  (wrM b1 (fun w5 =>
  K ((ApiEntry.mk 0 (ApiBallot.mk 0 0) (ApiCmd.mk 0 0 0 [] [] [] 0)), false) w5) w4)
  (opRd Pr (Instr.indexAt 25 l.val (.int .i64 t3.1)) pav (fun t6 =>
  opRd Pr (Instr.loadAt 54 (.pointer (some t6))) ApiEntry.val (fun t7 =>
  wrM b1 (fun w8 =>
  K (t7, true) w8) w4) w4) w4)) w
def entry_Find_ann : Ann := (.s (.r [(0, .nl 4)]) (.s (.r [(2, .call (rT2 (rI .i64) rB))]) (.s (.s .d (.c (.s (.r [(1, .ls 4)]) .d) .d)) (.s (.r [(2, .rd rPA), (3, .rd rApiEntry), (4, .ls 4)]) .d))))
theorem entry_Find_calls {l : Sl} {index : Int} {K : (ApiEntry × Bool) → World → Prop} {w : World} (h : entry_Find l index K w) : callV Pr (tval2 ApiEntry.val Value.bool) 64 #[l.val, (.int .i64 index)] w K :=
  calls_of Pr_plain Pr_mixed Pr_func64 entry_Find_ann (rT2 rApiEntry rB) (args := [l.val, (.int .i64 index)]) (by kernel_rfl) h

/- changeover/entry.From -/
def entry_From (l : Sl) (index : Int) (K : Sl → World → Prop) (w : World) : Prop :=
  callV Pr (tval2 (Value.int .i64) Value.bool) 120 #[l.val, (.int .i64 index)] w fun t1 w2 =>
  opRd Pr (Instr.sliceAt 25 l.val (some (.int .i64 t1.1)) none none) Sl.val (fun t3 =>
  callV Pr Sl.val 122 #[t3.val] w2 fun t4 w5 =>
  K t4 w5) w2
def entry_From_ann : Ann := (.s .d (.s (.r [(2, .call (rT2 (rI .i64) rB))]) (.s (.r [(2, .rd rSl), (3, .call rSl)]) .d)))
theorem entry_From_calls {l : Sl} {index : Int} {K : Sl → World → Prop} {w : World} (h : entry_From l index K w) : callV Pr Sl.val 66 #[l.val, (.int .i64 index)] w K :=
  calls_of Pr_plain Pr_mixed Pr_func66 entry_From_ann rSl (args := [l.val, (.int .i64 index)]) (by kernel_rfl) h

/- changeover/acceptor.Ahead$1 -/
def acceptor_Ahead_1 (e : ApiEntry) (c_x0 : Addr) (K : Bool → World → Prop) (w : World) : Prop :=
  newV (fun b1 w2 =>
  opRd Pr (Instr.loadAt 3 (.pointer (some c_x0))) (Value.int .i64) (fun t3 =>
  K (decide (e.Index ≤ t3)) w2) w2) w
def acceptor_Ahead_1_ann : Ann := (.s (.r [(0, .nl 2)]) (.s (.r [(2, .rd (rI .i64))]) .d))
theorem acceptor_Ahead_1_calls {e : ApiEntry} {c_x0 : Addr} {K : Bool → World → Prop} {w : World} (h : acceptor_Ahead_1 e c_x0 K w) : callV Pr Value.bool 67 #[(.agg ⟨e.cs⟩), (.pointer (some c_x0))] w K :=
  calls_of Pr_plain Pr_mixed Pr_func67 acceptor_Ahead_1_ann rB (args := [(.agg ⟨e.cs⟩), (.pointer (some c_x0))]) (by kernel_rfl) h

/- changeover/msgone.Check -/
def msgone_Check (m : ApiMsg) (K : Int → World → Prop) (w : World) : Prop :=
  newV (fun b1 w2 =>
  callV Pr (Value.int .i64) 123 #[(.int .i64 m.Kind)] w2 fun f3 w4 =>
  kp b1 w2 w4 <|
  join0 (fun (j5 : World → Prop) =>
  ifB (f3 == 0)
  (K 5 w4)
  (callV Pr Value.bool 124 #[(.agg ⟨[(.int .i64 m.Kind), (.int .i64 m.From), (.int .i64 m.To), (.int .i64 m.Ballot.Round), (.int .i64 m.Ballot.Node), (.int .i64 m.Index), (.int .i64 m.Commit), (.int .i64 m.Version), m.Entries.val, m.Image.val]⟩), (.int .i64 f3)] w4 fun t6 w7 =>
  kp b1 w4 w7 <|
  ifB (!t6)
  (K 6 w7)
  (ifB ((bAnd .i64 f3 16) != 0)
  (ifB (decide ((m.Entries.len : Int) > 256))
  (ifB (decide ((m.Entries.len : Int) > 256))
  (K 2 w7)
  (j5 w7))
  (ifB ((bAnd .i64 f3 32) != 0)
  (ifB (decide ((m.Image.len : Int) > 32768))
  (K 2 w7)
  (j5 w7))
  (j5 w7)))
  (ifB ((bAnd .i64 f3 32) != 0)
  (ifB (decide ((m.Image.len : Int) > 32768))
  (K 2 w7)
  (j5 w7))
  (j5 w7)))))
  (fun w8 =>
  join0 (fun (j9 : World → Prop) =>
  ifB ((bAnd .i64 f3 16) != 0)
  (callV Pr (Value.int .i64) 125 #[m.Entries.val] w8 fun e10 w11 =>
  kp b1 w8 w11 <|
  ifB (e10 != 0)
  (K e10 w11)
  (j9 w11))
  (j9 w8))
  (fun w12 =>
  callV Pr Value.bool 126 #[(.agg ⟨[(.int .i64 m.Kind), (.int .i64 m.From), (.int .i64 m.To), (.int .i64 m.Ballot.Round), (.int .i64 m.Ballot.Node), (.int .i64 m.Index), (.int .i64 m.Commit), (.int .i64 m.Version), m.Entries.val, m.Image.val]⟩), (.int .i64 f3)] w12 fun t13 w14 =>
  kp b1 w12 w14 <|
  ifB t13
  (K 3 w14)
  (ifB (m.Kind == 5)
  (callV Pr Value.bool 127 #[(.agg ⟨[(.int .i64 m.Kind), (.int .i64 m.From), (.int .i64 m.To), (.int .i64 m.Ballot.Round), (.int .i64 m.Ballot.Node), (.int .i64 m.Index), (.int .i64 m.Commit), (.int .i64 m.Version), m.Entries.val, m.Image.val]⟩)] w14 fun t15 w16 =>
  kp b1 w14 w16 <|
  ifB (!t15)
  (K 3 w16)
  (ifB (m.Kind == 11)
  (ifB ((m.Image.len : Int) == 0)
  (K 3 w16)
  (K 0 w16))
  (K 0 w16)))
  (ifB (m.Kind == 11)
  (ifB ((m.Image.len : Int) == 0)
  (K 3 w14)
  (K 0 w14))
  (K 0 w14)))))) w
def msgone_Check_ann : Ann := (.s (.r [(0, .nl 1)]) (.s (.r [(2, .call (rI .i64))]) (.sj [] (.b (.s .d (.c (.s .d .d) (.s (.r [(2, .call rB)]) (.c (.s .d .d) (.s (.s .d (.c .d .d)) (.c (.s .d .d) .d))))))) (.sj [] (.s .d (.c (.s (.r [(2, .call (rI .i64))]) (.s .d (.c (.s .d .d) .d))) .d)) (.s (.s (.r [(2, .call rB), (9, .call rB)]) (.c (.s .d .d) .d)) (.s .d .d))))))
theorem msgone_Check_calls {m : ApiMsg} {K : Int → World → Prop} {w : World} (h : msgone_Check m K w) : callV Pr (Value.int .i64) 68 #[(.agg ⟨m.cs⟩)] w K :=
  calls_of Pr_plain Pr_mixed Pr_func68 msgone_Check_ann (rI .i64) (args := [(.agg ⟨m.cs⟩)]) (by kernel_rfl) h

/- (*changeover/pack.Writer).Number -/
def pack_Writer_Number (w_ : Option Addr) (n : Int) (K : Unit → World → Prop) (w : World) : Prop :=
  opRd Pr (binSem .neq 75 (.tmp 4) (.const (.pointer none)) (.pointer w_) (.pointer none)) Value.bool (fun t1 =>
  ifB t1
  (opRd Pr (nilSem (.pointer w_)) pav (fun t2 =>
  opRd Pr (Instr.loadAt 24 (.pointer (some (t2.add 0)))) Sl.val (fun t3 =>
  callV Pr Sl.val 128 #[t3.val, (.int .i64 n)] w fun t4 w5 =>
  opRd Pr (nilSem (.pointer w_)) pav (fun t6 =>
  opUn Pr (Instr.storeAt 24 (.pointer (some (t6.add 0))) t4.val) (fun w7 =>
  K () w7) w5) w5) w) w)
  (K () w)) w
def pack_Writer_Number_ann : Ann := (.s (.r [(1, .rd rB)]) (.c (.r [(2, .rd rPA), (4, .rd rSl), (6, .call rSl), (7, .rd rPA), (9, .un)]) .d))
theorem pack_Writer_Number_calls {w_ : Option Addr} {n : Int} {K : Unit → World → Prop} {w : World} (h : pack_Writer_Number w_ n K w) : callV Pr uval 69 #[(.pointer w_), (.int .i64 n)] w K :=
  calls_of Pr_plain Pr_mixed Pr_func69 pack_Writer_Number_ann rU (args := [(.pointer w_), (.int .i64 n)]) (by kernel_rfl) h

/- changeover/msgtwo.pieces -/
def msgtwo_pieces (m : Option Addr) (K : (Sl × Bool) → World → Prop) (w : World) : Prop :=
  heldM (fun S2 w1 =>
  opH Pr S2 (nilSem (.pointer m)) pav (fun t3 =>
  opH Pr S2 (nilSem (.pointer m)) pav (fun t4 =>
  (newV (fun b5 w6 =>
  (S2 w6) ∧
  (newV (fun b7 w8 =>
  (S2 w8) ∧
  (wrM b5 (fun w9 =>
  (S2 w9) ∧
  (wrM b7 (fun w10 =>
  (S2 w10) ∧
  (heldM (fun S12 w11 =>
  opH Pr S12 (nilSem (.pointer m)) pav (fun t13 =>
  opH Pr S12 (nilSem (.pointer m)) pav (fun t14 =>
  (newV (fun b15 w16 =>
  (S12 w16) ∧
  (newV (fun b17 w18 =>
  (S12 w18) ∧
  (wrM b15 (fun w19 =>
  (S12 w19) ∧
  (wrM b17 (fun w20 =>
  (S12 w20) ∧
  (opRd Pr (nilSem (.pointer m)) pav (fun t21 =>
  opRd Pr (Instr.loadAt 3 (.pointer (some (t21.add 0)))) (Value.int .i64) (fun t22 =>
  join1 (fun (j23 : Bool → World → Prop) =>
  ifB (t22 == 1)
  (j23 (t22 == 1) w20)
  (j23 (t22 == 2) w20))
  (fun t24 w25 =>
  ifB t24
  (opRd Pr (nilSem (.pointer m)) pav (fun t26 =>
  opTy Pr (Instr.buildSlice 102 1 #[(0, (.iface 165 (.agg ⟨[(.pointer (some (t26.add 7)))]⟩)))]) Sl.val (fun t27 w28 =>
  kp b17 w25 w28 <|
  kp b15 w25 w28 <|
  kp b7 w25 w28 <|
  kp b5 w25 w28 <|
  K (t27, true) w28) w25) w25)
  (join1 (fun (j29 : Bool → World → Prop) =>
  ifB (t22 == 3)
  (j29 (t22 == 3) w25)
  (j29 (t22 == 6) w25))
  (fun t30 w31 =>
  ifB t30
  (opTy Pr (Instr.buildSlice 102 3 #[(0, (.iface 165 (.agg ⟨[(.pointer (some ((t3.add 3).add 0)))]⟩))), (1, (.iface 165 (.agg ⟨[(.pointer (some ((t4.add 3).add 1)))]⟩))), (2, (.iface 165 (.agg ⟨[(.pointer (some (t13.add 5)))]⟩)))]) Sl.val (fun t32 w33 =>
  kp b17 w31 w33 <|
  kp b15 w31 w33 <|
  kp b7 w31 w33 <|
  kp b5 w31 w33 <|
  K (t32, true) w33) w31)
  (ifB (t22 == 4)
  (opTy Pr (Instr.buildSlice 102 5 #[(0, (.iface 165 (.agg ⟨[(.pointer (some ((t3.add 3).add 0)))]⟩))), (1, (.iface 165 (.agg ⟨[(.pointer (some ((t4.add 3).add 1)))]⟩))), (2, (.iface 165 (.agg ⟨[(.pointer (some (t13.add 5)))]⟩))), (3, (.iface 165 (.agg ⟨[(.pointer (some (t14.add 6)))]⟩))), (4, (.iface 167 (.agg ⟨[(.pointer m)]⟩)))]) Sl.val (fun t34 w35 =>
  kp b17 w31 w35 <|
  kp b15 w31 w35 <|
  kp b7 w31 w35 <|
  kp b5 w31 w35 <|
  K (t34, true) w35) w31)
  (ifB (t22 == 5)
  (opTy Pr (Instr.buildSlice 102 3 #[(0, (.iface 165 (.agg ⟨[(.pointer (some ((t3.add 3).add 0)))]⟩))), (1, (.iface 165 (.agg ⟨[(.pointer (some ((t4.add 3).add 1)))]⟩))), (2, (.iface 168 (.agg ⟨[(.pointer m)]⟩)))]) Sl.val (fun t36 w37 =>
  kp b17 w31 w37 <|
  kp b15 w31 w37 <|
  kp b7 w31 w37 <|
  kp b5 w31 w37 <|
  K (t36, true) w37) w31)
  (ifB (t22 == 7)
  (opTy Pr (Instr.buildSlice 102 2 #[(0, (.iface 165 (.agg ⟨[(.pointer (some ((t3.add 3).add 0)))]⟩))), (1, (.iface 165 (.agg ⟨[(.pointer (some ((t4.add 3).add 1)))]⟩)))]) Sl.val (fun t38 w39 =>
  kp b17 w31 w39 <|
  kp b15 w31 w39 <|
  kp b7 w31 w39 <|
  kp b5 w31 w39 <|
  K (t38, true) w39) w31)
  (ifB (t22 == 8)
  (opTy Pr (Instr.buildSlice 102 3 #[(0, (.iface 165 (.agg ⟨[(.pointer (some ((t3.add 3).add 0)))]⟩))), (1, (.iface 165 (.agg ⟨[(.pointer (some ((t4.add 3).add 1)))]⟩))), (2, (.iface 165 (.agg ⟨[(.pointer (some (t14.add 6)))]⟩)))]) Sl.val (fun t40 w41 =>
  kp b17 w31 w41 <|
  kp b15 w31 w41 <|
  kp b7 w31 w41 <|
  kp b5 w31 w41 <|
  K (t40, true) w41) w31)
  (ifB (t22 == 9)
  (opTy Pr (Instr.buildSlice 102 1 #[(0, (.iface 165 (.agg ⟨[(.pointer (some (t13.add 5)))]⟩)))]) Sl.val (fun t42 w43 =>
  kp b17 w31 w43 <|
  kp b15 w31 w43 <|
  kp b7 w31 w43 <|
  kp b5 w31 w43 <|
  K (t42, true) w43) w31)
  (ifB (t22 == 10)
  (opTy Pr (Instr.buildSlice 102 2 #[(0, (.iface 165 (.agg ⟨[(.pointer (some (t14.add 6)))]⟩))), (1, (.iface 167 (.agg ⟨[(.pointer m)]⟩)))]) Sl.val (fun t44 w45 =>
  kp b17 w31 w45 <|
  kp b15 w31 w45 <|
  kp b7 w31 w45 <|
  kp b5 w31 w45 <|
  K (t44, true) w45) w31)
  (ifB (t22 == 11)
  (opTy Pr (Instr.buildSlice 102 1 #[(0, (.iface 169 (.agg ⟨[(.pointer m)]⟩)))]) Sl.val (fun t46 w47 =>
  kp b17 w31 w47 <|
  kp b15 w31 w47 <|
  kp b7 w31 w47 <|
  kp b5 w31 w47 <|
  K (t46, true) w47) w31)
  (K (Sl.nil, false) w31)))))))))))) w20) w20)) w19)) w18)) w16)) w11) ∧
  (newV (fun b48 w49 =>
  (S12 w49) ∧
  (newV (fun b50 w51 =>
  (S12 w51) ∧
  (wrM b50 (fun w52 =>
  (S12 w52) ∧
  (wrM b48 (fun w53 =>
  (S12 w53) ∧
  (opRd Pr (nilSem (.pointer m)) pav (fun t54 =>
  opRd Pr (Instr.loadAt 3 (.pointer (some (t54.add 0)))) (Value.int .i64) (fun t55 =>
  join1 (fun (j56 : Bool → World → Prop) =>
  ifB (t55 == 1)
  (j56 (t55 == 1) w53)
  (j56 (t55 == 2) w53))
  (fun t57 w58 =>
  ifB t57
  (opRd Pr (nilSem (.pointer m)) pav (fun t59 =>
  opTy Pr (Instr.buildSlice 102 1 #[(0, (.iface 165 (.agg ⟨[(.pointer (some (t59.add 7)))]⟩)))]) Sl.val (fun t60 w61 =>
  kp b50 w58 w61 <|
  kp b48 w58 w61 <|
  kp b7 w58 w61 <|
  kp b5 w58 w61 <|
  K (t60, true) w61) w58) w58)
  (join1 (fun (j62 : Bool → World → Prop) =>
  ifB (t55 == 3)
  (j62 (t55 == 3) w58)
  (j62 (t55 == 6) w58))
  (fun t63 w64 =>
  ifB t63
  (opTy Pr (Instr.buildSlice 102 3 #[(0, (.iface 165 (.agg ⟨[(.pointer (some ((t3.add 3).add 0)))]⟩))), (1, (.iface 165 (.agg ⟨[(.pointer (some ((t4.add 3).add 1)))]⟩))), (2, (.iface 165 (.agg ⟨[(.pointer (some (t13.add 5)))]⟩)))]) Sl.val (fun t65 w66 =>
  kp b50 w64 w66 <|
  kp b48 w64 w66 <|
  kp b7 w64 w66 <|
  kp b5 w64 w66 <|
  K (t65, true) w66) w64)
  (ifB (t55 == 4)
  (opTy Pr (Instr.buildSlice 102 5 #[(0, (.iface 165 (.agg ⟨[(.pointer (some ((t3.add 3).add 0)))]⟩))), (1, (.iface 165 (.agg ⟨[(.pointer (some ((t4.add 3).add 1)))]⟩))), (2, (.iface 165 (.agg ⟨[(.pointer (some (t13.add 5)))]⟩))), (3, (.iface 165 (.agg ⟨[(.pointer (some (t14.add 6)))]⟩))), (4, (.iface 167 (.agg ⟨[(.pointer m)]⟩)))]) Sl.val (fun t67 w68 =>
  kp b50 w64 w68 <|
  kp b48 w64 w68 <|
  kp b7 w64 w68 <|
  kp b5 w64 w68 <|
  K (t67, true) w68) w64)
  (ifB (t55 == 5)
  (opTy Pr (Instr.buildSlice 102 3 #[(0, (.iface 165 (.agg ⟨[(.pointer (some ((t3.add 3).add 0)))]⟩))), (1, (.iface 165 (.agg ⟨[(.pointer (some ((t4.add 3).add 1)))]⟩))), (2, (.iface 168 (.agg ⟨[(.pointer m)]⟩)))]) Sl.val (fun t69 w70 =>
  kp b50 w64 w70 <|
  kp b48 w64 w70 <|
  kp b7 w64 w70 <|
  kp b5 w64 w70 <|
  K (t69, true) w70) w64)
  (ifB (t55 == 7)
  (opTy Pr (Instr.buildSlice 102 2 #[(0, (.iface 165 (.agg ⟨[(.pointer (some ((t3.add 3).add 0)))]⟩))), (1, (.iface 165 (.agg ⟨[(.pointer (some ((t4.add 3).add 1)))]⟩)))]) Sl.val (fun t71 w72 =>
  kp b50 w64 w72 <|
  kp b48 w64 w72 <|
  kp b7 w64 w72 <|
  kp b5 w64 w72 <|
  K (t71, true) w72) w64)
  (ifB (t55 == 8)
  (opTy Pr (Instr.buildSlice 102 3 #[(0, (.iface 165 (.agg ⟨[(.pointer (some ((t3.add 3).add 0)))]⟩))), (1, (.iface 165 (.agg ⟨[(.pointer (some ((t4.add 3).add 1)))]⟩))), (2, (.iface 165 (.agg ⟨[(.pointer (some (t14.add 6)))]⟩)))]) Sl.val (fun t73 w74 =>
  kp b50 w64 w74 <|
  kp b48 w64 w74 <|
  kp b7 w64 w74 <|
  kp b5 w64 w74 <|
  K (t73, true) w74) w64)
  (ifB (t55 == 9)
  (opTy Pr (Instr.buildSlice 102 1 #[(0, (.iface 165 (.agg ⟨[(.pointer (some (t13.add 5)))]⟩)))]) Sl.val (fun t75 w76 =>
  kp b50 w64 w76 <|
  kp b48 w64 w76 <|
  kp b7 w64 w76 <|
  kp b5 w64 w76 <|
  K (t75, true) w76) w64)
  (ifB (t55 == 10)
  (opTy Pr (Instr.buildSlice 102 2 #[(0, (.iface 165 (.agg ⟨[(.pointer (some (t14.add 6)))]⟩))), (1, (.iface 167 (.agg ⟨[(.pointer m)]⟩)))]) Sl.val (fun t77 w78 =>
  kp b50 w64 w78 <|
  kp b48 w64 w78 <|
  kp b7 w64 w78 <|
  kp b5 w64 w78 <|
  K (t77, true) w78) w64)
  (ifB (t55 == 11)
  (opTy Pr (Instr.buildSlice 102 1 #[(0, (.iface 169 (.agg ⟨[(.pointer m)]⟩)))]) Sl.val (fun t79 w80 =>
  kp b50 w64 w80 <|
  kp b48 w64 w80 <|
  kp b7 w64 w80 <|
  kp b5 w64 w80 <|
  K (t79, true) w80) w64)
  (K (Sl.nil, false) w64)))))))))))) w53) w53)) w52)) w51)) w49)) w11)))) w10)) w9)) w8)) w6)) w1) ∧
  (newV (fun b81 w82 =>
  (S2 w82) ∧
  (newV (fun b83 w84 =>
  (S2 w84) ∧
  (wrM b83 (fun w85 =>
  (S2 w85) ∧
  (wrM b81 (fun w86 =>
  (S2 w86) ∧
  (heldM (fun S88 w87 =>
  opH Pr S88 (nilSem (.pointer m)) pav (fun t89 =>
  opH Pr S88 (nilSem (.pointer m)) pav (fun t90 =>
  (newV (fun b91 w92 =>
  (S88 w92) ∧
  (newV (fun b93 w94 =>
  (S88 w94) ∧
  (wrM b91 (fun w95 =>
  (S88 w95) ∧
  (wrM b93 (fun w96 =>
  (S88 w96) ∧
  (opRd Pr (nilSem (.pointer m)) pav (fun t97 =>
  opRd Pr (Instr.loadAt 3 (.pointer (some (t97.add 0)))) (Value.int .i64) (fun t98 =>
  join1 (fun (j99 : Bool → World → Prop) =>
  ifB (t98 == 1)
  (j99 (t98 == 1) w96)
  (j99 (t98 == 2) w96))
  (fun t100 w101 =>
  ifB t100
  (opRd Pr (nilSem (.pointer m)) pav (fun t102 =>
  opTy Pr (Instr.buildSlice 102 1 #[(0, (.iface 165 (.agg ⟨[(.pointer (some (t102.add 7)))]⟩)))]) Sl.val (fun t103 w104 =>
  kp b93 w101 w104 <|
  kp b91 w101 w104 <|
  kp b83 w101 w104 <|
  kp b81 w101 w104 <|
  K (t103, true) w104) w101) w101)
  (join1 (fun (j105 : Bool → World → Prop) =>
  ifB (t98 == 3)
  (j105 (t98 == 3) w101)
  (j105 (t98 == 6) w101))
  (fun t106 w107 =>
  ifB t106
  (opTy Pr (Instr.buildSlice 102 3 #[(0, (.iface 165 (.agg ⟨[(.pointer (some ((t3.add 3).add 0)))]⟩))), (1, (.iface 165 (.agg ⟨[(.pointer (some ((t4.add 3).add 1)))]⟩))), (2, (.iface 165 (.agg ⟨[(.pointer (some (t89.add 5)))]⟩)))]) Sl.val (fun t108 w109 =>
  kp b93 w107 w109 <|
  kp b91 w107 w109 <|
  kp b83 w107 w109 <|
  kp b81 w107 w109 <|
  K (t108, true) w109) w107)
  (ifB (t98 == 4)
  (opTy Pr (Instr.buildSlice 102 5 #[(0, (.iface 165 (.agg ⟨[(.pointer (some ((t3.add 3).add 0)))]⟩))), (1, (.iface 165 (.agg ⟨[(.pointer (some ((t4.add 3).add 1)))]⟩))), (2, (.iface 165 (.agg ⟨[(.pointer (some (t89.add 5)))]⟩))), (3, (.iface 165 (.agg ⟨[(.pointer (some (t90.add 6)))]⟩))), (4, (.iface 167 (.agg ⟨[(.pointer m)]⟩)))]) Sl.val (fun t110 w111 =>
  kp b93 w107 w111 <|
  kp b91 w107 w111 <|
  kp b83 w107 w111 <|
  kp b81 w107 w111 <|
  K (t110, true) w111) w107)
  (ifB (t98 == 5)
  (opTy Pr (Instr.buildSlice 102 3 #[(0, (.iface 165 (.agg ⟨[(.pointer (some ((t3.add 3).add 0)))]⟩))), (1, (.iface 165 (.agg ⟨[(.pointer (some ((t4.add 3).add 1)))]⟩))), (2, (.iface 168 (.agg ⟨[(.pointer m)]⟩)))]) Sl.val (fun t112 w113 =>
  kp b93 w107 w113 <|
  kp b91 w107 w113 <|
  kp b83 w107 w113 <|
  kp b81 w107 w113 <|
  K (t112, true) w113) w107)
  (ifB (t98 == 7)
  (opTy Pr (Instr.buildSlice 102 2 #[(0, (.iface 165 (.agg ⟨[(.pointer (some ((t3.add 3).add 0)))]⟩))), (1, (.iface 165 (.agg ⟨[(.pointer (some ((t4.add 3).add 1)))]⟩)))]) Sl.val (fun t114 w115 =>
  kp b93 w107 w115 <|
  kp b91 w107 w115 <|
  kp b83 w107 w115 <|
  kp b81 w107 w115 <|
  K (t114, true) w115) w107)
  (ifB (t98 == 8)
  (opTy Pr (Instr.buildSlice 102 3 #[(0, (.iface 165 (.agg ⟨[(.pointer (some ((t3.add 3).add 0)))]⟩))), (1, (.iface 165 (.agg ⟨[(.pointer (some ((t4.add 3).add 1)))]⟩))), (2, (.iface 165 (.agg ⟨[(.pointer (some (t90.add 6)))]⟩)))]) Sl.val (fun t116 w117 =>
  kp b93 w107 w117 <|
  kp b91 w107 w117 <|
  kp b83 w107 w117 <|
  kp b81 w107 w117 <|
  K (t116, true) w117) w107)
  (ifB (t98 == 9)
  (opTy Pr (Instr.buildSlice 102 1 #[(0, (.iface 165 (.agg ⟨[(.pointer (some (t89.add 5)))]⟩)))]) Sl.val (fun t118 w119 =>
  kp b93 w107 w119 <|
  kp b91 w107 w119 <|
  kp b83 w107 w119 <|
  kp b81 w107 w119 <|
  K (t118, true) w119) w107)
  (ifB (t98 == 10)
  (opTy Pr (Instr.buildSlice 102 2 #[(0, (.iface 165 (.agg ⟨[(.pointer (some (t90.add 6)))]⟩))), (1, (.iface 167 (.agg ⟨[(.pointer m)]⟩)))]) Sl.val (fun t120 w121 =>
  kp b93 w107 w121 <|
  kp b91 w107 w121 <|
  kp b83 w107 w121 <|
  kp b81 w107 w121 <|
  K (t120, true) w121) w107)
  (ifB (t98 == 11)
  (opTy Pr (Instr.buildSlice 102 1 #[(0, (.iface 169 (.agg ⟨[(.pointer m)]⟩)))]) Sl.val (fun t122 w123 =>
  kp b93 w107 w123 <|
  kp b91 w107 w123 <|
  kp b83 w107 w123 <|
  kp b81 w107 w123 <|
  K (t122, true) w123) w107)
  (K (Sl.nil, false) w107)))))))))))) w96) w96)) w95)) w94)) w92)) w87) ∧
  (newV (fun b124 w125 =>
  (S88 w125) ∧
  (newV (fun b126 w127 =>
  (S88 w127) ∧
  (wrM b126 (fun w128 =>
  (S88 w128) ∧
  (wrM b124 (fun w129 =>
  (S88 w129) ∧
  (opRd Pr (nilSem (.pointer m)) pav (fun t130 =>
  opRd Pr (Instr.loadAt 3 (.pointer (some (t130.add 0)))) (Value.int .i64) (fun t131 =>
  join1 (fun (j132 : Bool → World → Prop) =>
  ifB (t131 == 1)
  (j132 (t131 == 1) w129)
  (j132 (t131 == 2) w129))
  (fun t133 w134 =>
  ifB t133
  (opRd Pr (nilSem (.pointer m)) pav (fun t135 =>
  opTy Pr (Instr.buildSlice 102 1 #[(0, (.iface 165 (.agg ⟨[(.pointer (some (t135.add 7)))]⟩)))]) Sl.val (fun t136 w137 =>
  kp b126 w134 w137 <|
  kp b124 w134 w137 <|
  kp b83 w134 w137 <|
  kp b81 w134 w137 <|
  K (t136, true) w137) w134) w134)
  (join1 (fun (j138 : Bool → World → Prop) =>
  ifB (t131 == 3)
  (j138 (t131 == 3) w134)
  (j138 (t131 == 6) w134))
  (fun t139 w140 =>
  ifB t139
  (opTy Pr (Instr.buildSlice 102 3 #[(0, (.iface 165 (.agg ⟨[(.pointer (some ((t3.add 3).add 0)))]⟩))), (1, (.iface 165 (.agg ⟨[(.pointer (some ((t4.add 3).add 1)))]⟩))), (2, (.iface 165 (.agg ⟨[(.pointer (some (t89.add 5)))]⟩)))]) Sl.val (fun t141 w142 =>
  kp b126 w140 w142 <|
  kp b124 w140 w142 <|
  kp b83 w140 w142 <|
  kp b81 w140 w142 <|
  K (t141, true) w142) w140)
  (ifB (t131 == 4)
  (opTy Pr (Instr.buildSlice 102 5 #[(0, (.iface 165 (.agg ⟨[(.pointer (some ((t3.add 3).add 0)))]⟩))), (1, (.iface 165 (.agg ⟨[(.pointer (some ((t4.add 3).add 1)))]⟩))), (2, (.iface 165 (.agg ⟨[(.pointer (some (t89.add 5)))]⟩))), (3, (.iface 165 (.agg ⟨[(.pointer (some (t90.add 6)))]⟩))), (4, (.iface 167 (.agg ⟨[(.pointer m)]⟩)))]) Sl.val (fun t143 w144 =>
  kp b126 w140 w144 <|
  kp b124 w140 w144 <|
  kp b83 w140 w144 <|
  kp b81 w140 w144 <|
  K (t143, true) w144) w140)
  (ifB (t131 == 5)
  (opTy Pr (Instr.buildSlice 102 3 #[(0, (.iface 165 (.agg ⟨[(.pointer (some ((t3.add 3).add 0)))]⟩))), (1, (.iface 165 (.agg ⟨[(.pointer (some ((t4.add 3).add 1)))]⟩))), (2, (.iface 168 (.agg ⟨[(.pointer m)]⟩)))]) Sl.val (fun t145 w146 =>
  kp b126 w140 w146 <|
  kp b124 w140 w146 <|
  kp b83 w140 w146 <|
  kp b81 w140 w146 <|
  K (t145, true) w146) w140)
  (ifB (t131 == 7)
  (opTy Pr (Instr.buildSlice 102 2 #[(0, (.iface 165 (.agg ⟨[(.pointer (some ((t3.add 3).add 0)))]⟩))), (1, (.iface 165 (.agg ⟨[(.pointer (some ((t4.add 3).add 1)))]⟩)))]) Sl.val (fun t147 w148 =>
  kp b126 w140 w148 <|
  kp b124 w140 w148 <|
  kp b83 w140 w148 <|
  kp b81 w140 w148 <|
  K (t147, true) w148) w140)
  (ifB (t131 == 8)
  (opTy Pr (Instr.buildSlice 102 3 #[(0, (.iface 165 (.agg ⟨[(.pointer (some ((t3.add 3).add 0)))]⟩))), (1, (.iface 165 (.agg ⟨[(.pointer (some ((t4.add 3).add 1)))]⟩))), (2, (.iface 165 (.agg ⟨[(.pointer (some (t90.add 6)))]⟩)))]) Sl.val (fun t149 w150 =>
  kp b126 w140 w150 <|
  kp b124 w140 w150 <|
  kp b83 w140 w150 <|
  kp b81 w140 w150 <|
  K (t149, true) w150) w140)
  (ifB (t131 == 9)
  (opTy Pr (Instr.buildSlice 102 1 #[(0, (.iface 165 (.agg ⟨[(.pointer (some (t89.add 5)))]⟩)))]) Sl.val (fun t151 w152 =>
  kp b126 w140 w152 <|
  kp b124 w140 w152 <|
  kp b83 w140 w152 <|
  kp b81 w140 w152 <|
  K (t151, true) w152) w140)
  (ifB (t131 == 10)
  (opTy Pr (Instr.buildSlice 102 2 #[(0, (.iface 165 (.agg ⟨[(.pointer (some (t90.add 6)))]⟩))), (1, (.iface 167 (.agg ⟨[(.pointer m)]⟩)))]) Sl.val (fun t153 w154 =>
  kp b126 w140 w154 <|
  kp b124 w140 w154 <|
  kp b83 w140 w154 <|
  kp b81 w140 w154 <|
  K (t153, true) w154) w140)
  (ifB (t131 == 11)
  (opTy Pr (Instr.buildSlice 102 1 #[(0, (.iface 169 (.agg ⟨[(.pointer m)]⟩)))]) Sl.val (fun t155 w156 =>
  kp b126 w140 w156 <|
  kp b124 w140 w156 <|
  kp b83 w140 w156 <|
  kp b81 w140 w156 <|
  K (t155, true) w156) w140)
  (K (Sl.nil, false) w140)))))))))))) w129) w129)) w128)) w127)) w125)) w87)))) w86)) w85)) w84)) w82)) w1)))) w
def msgtwo_pieces_ann : Ann := (.s .d (.s (.h (.take 0 (.take 1 (.take 2 (.take 3 (.take 4 (.take 5 (.take 6 (.take 7 (.take 8 (.take 9 (.two 10 (.one 11 (.one 12 (.one 13 .done))) 11 (.one 10 (.one 12 (.one 13 .done)))))))))))))) [(1, .rd rPA), (6, .rd rPA), (10, .nl 4), (11, .nl 5), (12, .ls 4), (13, .ls 5)]) (.s (.h (.take 0 (.take 1 (.take 2 (.take 3 (.take 4 (.take 5 (.take 6 (.take 7 (.two 8 (.one 9 (.one 10 (.one 11 .done))) 9 (.one 8 (.one 10 (.one 11 .done)))))))))))) [(1, .rd rPA), (5, .rd rPA), (8, .nl 6), (9, .nl 7), (10, .ls 6), (11, .ls 7)]) (.s (.s (.r [(1, .rd rPA), (3, .rd (rI .i64))]) (.b (.sj [(.s 30, rB)] (.s .d (.c .d .d)) (.c (.s (.r [(1, .rd rPA), (5, .ty rSl)]) .d) (.sj [(.s 39, rB)] (.s .d (.c .d .d)) (.c (.s (.r [(6, .ty rSl)]) .d) (.s .d (.c (.s (.r [(11, .ty rSl)]) .d) (.s .d (.c (.s (.r [(7, .ty rSl)]) .d) (.s .d (.c (.s (.r [(4, .ty rSl)]) .d) (.s .d (.c (.s (.r [(6, .ty rSl)]) .d) (.s .d (.c (.s (.r [(2, .ty rSl)]) .d) (.s .d (.c (.s (.r [(5, .ty rSl)]) .d) (.s .d (.c (.s (.r [(3, .ty rSl)]) .d) .d)))))))))))))))))))) (.s .d .d)))))
theorem msgtwo_pieces_calls {m : Option Addr} {K : (Sl × Bool) → World → Prop} {w : World} (h : msgtwo_pieces m K w) : callV Pr (tval2 Sl.val Value.bool) 70 #[(.pointer m)] w K :=
  calls_of Pr_plain Pr_mixed Pr_func70 msgtwo_pieces_ann (rT2 rSl rB) (args := [(.pointer m)]) (by kernel_rfl) h

/- changeover/msgtwo.put -/
def msgtwo_put (w_ : Option Addr) (x : Value) (K : Unit → World → Prop) (w : World) : Prop :=
  opRd Pr (Instr.typeAssert x 20 165 true) (tval2 MsgtwoNumber.val Value.bool) (fun t1 =>
  ifB t1.2
  (newV (fun b2 w3 =>
  wrM b2 (fun w4 =>
  opRd Pr (nilSem (.pointer t1.1.at_)) pav (fun t5 =>
  opRd Pr (Instr.loadAt 3 (.pointer (some t5))) (Value.int .i64) (fun t6 =>
  callV Pr uval 69 #[(.pointer w_), (.int .i64 t6)] w4 fun t7 w8 =>
  kp b2 w4 w8 <|
  K () w8) w4) w4) w3) w)
  (opRd Pr (Instr.typeAssert x 20 167 true) (tval2 MsgtwoEntries.val Value.bool) (fun t9 =>
  ifB t9.2
  (newV (fun b10 w11 =>
  wrM b10 (fun w12 =>
  opRd Pr (nilSem (.pointer t9.1.m)) pav (fun t13 =>
  opRd Pr (Instr.loadAt 25 (.pointer (some (t13.add 8)))) Sl.val (fun t14 =>
  callV Pr uval 129 #[(.pointer w_), (.int .i64 2), t14.val] w12 fun t15 w16 =>
  kp b10 w12 w16 <|
  K () w16) w12) w12) w11) w)
  (opRd Pr (Instr.typeAssert x 20 168 true) (tval2 MsgtwoSingle.val Value.bool) (fun t17 =>
  ifB t17.2
  (newV (fun b18 w19 =>
  wrM b18 (fun w20 =>
  opRd Pr (nilSem (.pointer t17.1.m)) pav (fun t21 =>
  opRd Pr (Instr.loadAt 25 (.pointer (some (t21.add 8)))) Sl.val (fun t22 =>
  opRd Pr (Instr.indexAt 25 t22.val (.int .i64 0)) pav (fun t23 =>
  opRd Pr (Instr.loadAt 3 (.pointer (some (t23.add 0)))) (Value.int .i64) (fun t24 =>
  callV Pr uval 69 #[(.pointer w_), (.int .i64 t24)] w20 fun t25 w26 =>
  kp b18 w20 w26 <|
  opRd Pr (nilSem (.pointer t17.1.m)) pav (fun t27 =>
  opRd Pr (Instr.loadAt 25 (.pointer (some (t27.add 8)))) Sl.val (fun t28 =>
  opRd Pr (Instr.indexAt 25 t28.val (.int .i64 0)) pav (fun t29 =>
  opRd Pr (Instr.loadAt 40 (.pointer (some (t29.add 3)))) ApiCmd.val (fun t30 =>
  callV Pr uval 130 #[(.pointer w_), (.int .i64 2), (.agg ⟨t30.cs⟩)] w26 fun t31 w32 =>
  kp b18 w26 w32 <|
  K () w32) w26) w26) w26) w26) w20) w20) w20) w20) w19) w)
  (opRd Pr (Instr.typeAssert x 20 169 true) (tval2 MsgtwoImage.val Value.bool) (fun t33 =>
  ifB t33.2
  (newV (fun b34 w35 =>
  wrM b34 (fun w36 =>
  opRd Pr (nilSem (.pointer t33.1.m)) pav (fun t37 =>
  opRd Pr (Instr.loadAt 24 (.pointer (some (t37.add 9)))) Sl.val (fun t38 =>
  callV Pr uval 131 #[(.pointer w_), t38.val] w36 fun t39 w40 =>
  kp b34 w36 w40 <|
  K () w40) w36) w36) w35) w)
  (K () w)) w)) w)) w)) w
def msgtwo_put_ann : Ann := (.s .d (.b (.s (.r [(0, .rd (rT2 rMsgtwoNumber rB))]) (.c (.s (.r [(0, .nl 4), (1, .ls 4)]) (.r [(3, .rd rPA), (4, .rd (rI .i64)), (5, .call rU)])) (.s (.r [(0, .rd (rT2 rMsgtwoEntries rB))]) (.c (.s (.r [(0, .nl 5), (1, .ls 5)]) (.r [(3, .rd rPA), (5, .rd rSl), (6, .call rU)])) (.s (.r [(0, .rd (rT2 rMsgtwoSingle rB))]) (.c (.s (.r [(0, .nl 6), (1, .ls 6)]) (.s (.r [(3, .rd rPA), (5, .rd rSl), (6, .rd rPA), (8, .rd (rI .i64)), (9, .call rU)]) (.r [(3, .rd rPA), (5, .rd rSl), (6, .rd rPA), (8, .rd rApiCmd), (9, .call rU)]))) (.s (.r [(0, .rd (rT2 rMsgtwoImage rB))]) (.c (.s (.r [(0, .nl 7), (1, .ls 7)]) (.r [(3, .rd rPA), (5, .rd rSl), (6, .call rU)])) .d))))))))))
theorem msgtwo_put_calls {w_ : Option Addr} {x : Value} {K : Unit → World → Prop} {w : World} (h : msgtwo_put w_ x K w) : callV Pr uval 71 #[(.pointer w_), x] w K :=
  calls_of Pr_plain Pr_mixed Pr_func71 msgtwo_put_ann rU (args := [(.pointer w_), x]) (by kernel_rfl) h

/- changeover/changeoverref13.Letters -/
def ref13_Letters (kind : Int) (K : (List UInt8) → World → Prop) (w : World) : Prop :=
  opTy Pr (Instr.buildSlice 142 12 #[(0, (sval [])), (1, (sval [118])), (2, (sval [118])), (3, (sval [98, 105])), (4, (sval [98, 105, 99, 101])), (5, (sval [98, 101])), (6, (sval [98, 105])), (7, (sval [98])), (8, (sval [98, 99])), (9, (sval [105])), (10, (sval [99, 101])), (11, (sval [109]))]) Sl.val (fun l1 w2 =>
  ifB (decide (kind < 1))
  (K [] w2)
  (ifB (decide (kind > 11))
  (K [] w2)
  (opRd Pr (Instr.indexAt 142 l1.val (.int .i64 kind)) pav (fun t3 =>
  opRd Pr (Instr.loadAt 9 (.pointer (some t3))) sval (fun t4 =>
  K t4 w2) w2) w2))) w
def ref13_Letters_ann : Ann := (.s .d (.s (.r [(0, .ty rSl)]) (.s (.s .d (.c (.s .d .d) .d)) (.s (.r [(2, .rd rPA), (3, .rd rS)]) .d))))
theorem ref13_Letters_calls {kind : Int} {K : (List UInt8) → World → Prop} {w : World} (h : ref13_Letters kind K w) : callV Pr sval 72 #[(.int .i64 kind)] w K :=
  calls_of Pr_plain Pr_mixed Pr_func72 ref13_Letters_ann rS (args := [(.int .i64 kind)]) (by kernel_rfl) h

/- changeover/changeoverref13.Has -/
def ref13_Has (kind : Int) (c : Int) (K : Bool → World → Prop) (w : World) : Prop :=
  callV Pr sval 72 #[(.int .i64 kind)] w fun l1 w2 =>
  loop1 (0 : Int) (fun i3 k4 w5 =>
  ifB (decide (i3 < ((l1 : List UInt8).length : Int)))
  (opRd Pr (Instr.index 9 (sval l1) (.int .i64 i3)) (Value.int .u8) (fun t6 =>
  ifB (t6 == c)
  (K true w5)
  (k4 (i64 (i3 + 1)) w5)) w5)
  (K false w5)) w2
def ref13_Has_ann : Ann := (.s .d (.s (.r [(1, .call rS)]) (.s (.s .d (.b (.l [(.s 6, (rI .i64))] (.s (.s .d (.c .d .d)) (.s (.b (.s (.r [(2, .rd (rI .u8))]) (.c (.s .d .d) .d))) .d))))) (.s .d .d))))
theorem ref13_Has_calls {kind : Int} {c : Int} {K : Bool → World → Prop} {w : World} (h : ref13_Has kind c K w) : callV Pr Value.bool 73 #[(.int .i64 kind), (.int .u8 c)] w K :=
  calls_of Pr_plain Pr_mixed Pr_func73 ref13_Has_ann rB (args := [(.int .i64 kind), (.int .u8 c)]) (by kernel_rfl) h

/- changeover/changeoverref13.ballot -/
def ref13_ballot (b : ApiBallot) (K : Bool → World → Prop) (w : World) : Prop :=
  newV (fun b1 w2 =>
  callV Pr Value.bool 58 #[(.agg ⟨[(.int .i64 b.Round), (.int .i64 b.Node)]⟩)] w2 fun t3 w4 =>
  kp b1 w2 w4 <|
  ifB t3
  (K (decide (b.Round > 0)) w4)
  (K false w4)) w
def ref13_ballot_ann : Ann := (.s (.r [(0, .nl 1)]) (.s (.r [(1, .call rB)]) .d))
theorem ref13_ballot_calls {b : ApiBallot} {K : Bool → World → Prop} {w : World} (h : ref13_ballot b K w) : callV Pr Value.bool 74 #[(.agg ⟨b.cs⟩)] w K :=
  calls_of Pr_plain Pr_mixed Pr_func74 ref13_ballot_ann rB (args := [(.agg ⟨b.cs⟩)]) (by kernel_rfl) h

/- changeover/msgtwo.read -/
def msgtwo_read (r : Option Addr) (K : (ApiMsg × Bool) → World → Prop) (w : World) : Prop :=
  newV (fun b1 w2 =>
  callV Pr (Value.int .i64) 97 #[(.pointer r), (.int .i64 9223372036854775807)] w2 fun t3 w4 =>
  kp b1 w2 w4 <|
  opTy Pr (Instr.box 29 (.agg ⟨[(.int .i64 t3), (.int .i64 0), (.int .i64 0), (.int .i64 0), (.int .i64 0), (.int .i64 0), (.int .i64 0), (.int .i64 0), Sl.nil.val, Sl.nil.val]⟩)) pav (fun m5 w6 =>
  kp b1 w4 w6 <|
  callV Pr (Value.int .i64) 97 #[(.pointer r), (.int .i64 9223372036854775807)] w6 fun t7 w8 =>
  kp b1 w6 w8 <|
  opRd Pr (nilSem (.pointer (some m5))) pav (fun t9 =>
  opUn Pr (Instr.storeAt 3 (.pointer (some (t9.add 1))) (.int .i64 t7)) (fun w10 =>
  kp b1 w8 w10 <|
  callV Pr (Value.int .i64) 97 #[(.pointer r), (.int .i64 9223372036854775807)] w10 fun t11 w12 =>
  kp b1 w10 w12 <|
  opRd Pr (nilSem (.pointer (some m5))) pav (fun t13 =>
  opUn Pr (Instr.storeAt 3 (.pointer (some (t13.add 2))) (.int .i64 t11)) (fun w14 =>
  kp b1 w12 w14 <|
  callV Pr (tval2 Sl.val Value.bool) 70 #[(.pointer (some m5))] w14 fun t15 w16 =>
  kp b1 w14 w16 <|
  loop1 (0 : Int) (fun t17 k18 w19 =>
  ifB (decide (t17 < (t15.1.len : Int)))
  (opRd Pr (Instr.indexAt 102 t15.1.val (.int .i64 t17)) pav (fun t20 =>
  opRd Pr (Instr.loadAt 20 (.pointer (some t20))) vval (fun x21 =>
  callV Pr uval 132 #[(.pointer r), x21] w19 fun t22 w23 =>
  kp b1 w19 w23 <|
  k18 (i64 (t17 + 1)) w23) w19) w19)
  (opRd Pr (nilSem (.pointer (some m5))) pav (fun t24 =>
  opRd Pr (Instr.loadAt 29 (.pointer (some t24))) ApiMsg.val (fun t25 =>
  wrM b1 (fun w26 =>
  K (t25, t15.2) w26) w19) w19) w19)) w16) w12) w12) w8) w8) w4) w
def msgtwo_read_ann : Ann := (.s (.r [(0, .nl 2)]) (.s (.r [(1, .call (rI .i64)), (3, .ty rPA)]) (.s (.r [(2, .call (rI .i64)), (3, .rd rPA), (5, .un)]) (.s (.r [(2, .call (rI .i64)), (3, .rd rPA), (5, .un)]) (.s (.r [(1, .call (rT2 rSl rB))]) (.s (.s .d (.b (.l [(.s 30, (rI .i64))] (.s .d (.s (.c .d .d) (.s (.b (.s (.r [(0, .rd rPA), (1, .rd rV)]) (.r [(2, .call rU)]))) .d)))))) (.s (.r [(1, .rd rPA), (2, .rd rApiMsg), (4, .ls 2)]) .d)))))))
theorem msgtwo_read_calls {r : Option Addr} {K : (ApiMsg × Bool) → World → Prop} {w : World} (h : msgtwo_read r K w) : callV Pr (tval2 ApiMsg.val Value.bool) 75 #[(.pointer r)] w K :=
  calls_of Pr_plain Pr_mixed Pr_func75 msgtwo_read_ann (rT2 rApiMsg rB) (args := [(.pointer r)]) (by kernel_rfl) h

/- (*changeover/pack.Reader).Err -/
def pack_Reader_Err (r : Option Addr) (K : Int → World → Prop) (w : World) : Prop :=
  opRd Pr (binSem .eql 80 (.tmp 3) (.const (.pointer none)) (.pointer r) (.pointer none)) Value.bool (fun t1 =>
  ifB t1
  (K 1 w)
  (opRd Pr (nilSem (.pointer r)) pav (fun t2 =>
  opRd Pr (Instr.loadAt 34 (.pointer (some (t2.add 2)))) (Value.int .i64) (fun t3 =>
  K t3 w) w) w)) w
def pack_Reader_Err_ann : Ann := (.s .d (.s (.s (.r [(1, .rd rB)]) (.c (.s .d .d) .d)) (.s (.r [(1, .rd rPA), (3, .rd (rI .i64))]) .d)))
theorem pack_Reader_Err_calls {r : Option Addr} {K : Int → World → Prop} {w : World} (h : pack_Reader_Err r K w) : callV Pr (Value.int .i64) 76 #[(.pointer r)] w K :=
  calls_of Pr_plain Pr_mixed Pr_func76 pack_Reader_Err_ann (rI .i64) (args := [(.pointer r)]) (by kernel_rfl) h

/- (*changeover/pack.Reader).Done -/
def pack_Reader_Done (r : Option Addr) (K : Int → World → Prop) (w : World) : Prop :=
  callV Pr (Value.int .i64) 76 #[(.pointer r)] w fun e1 w2 =>
  ifB (e1 != 0)
  (K e1 w2)
  (callV Pr (Value.int .i64) 133 #[(.pointer r)] w2 fun t3 w4 =>
  ifB (decide (t3 > 0))
  (K 3 w4)
  (K 0 w4))
def pack_Reader_Done_ann : Ann := (.s .d (.s (.s (.r [(1, .call (rI .i64))]) (.s .d (.c (.s .d .d) .d))) (.s (.s (.r [(1, .call (rI .i64))]) (.c (.s .d .d) .d)) (.s .d .d))))
theorem pack_Reader_Done_calls {r : Option Addr} {K : Int → World → Prop} {w : World} (h : pack_Reader_Done r K w) : callV Pr (Value.int .i64) 77 #[(.pointer r)] w K :=
  calls_of Pr_plain Pr_mixed Pr_func77 pack_Reader_Done_ann (rI .i64) (args := [(.pointer r)]) (by kernel_rfl) h

/- changeover/changeoverref14.numbers -/
def ref14_numbers (out : Sl) (l : Sl) (K : Sl → World → Prop) (w : World) : Prop :=
  loop2 (out : Sl) (0 : Int) (fun out1 i2 k3 w4 =>
  ifB (decide (i2 < (l.len : Int)))
  (opRd Pr (Instr.indexAt 113 l.val (.int .i64 i2)) pav (fun t5 =>
  opRd Pr (Instr.loadAt 3 (.pointer (some t5))) (Value.int .i64) (fun t6 =>
  callV Pr Sl.val 82 #[(.int .i64 t6)] w4 fun t7 w8 =>
  opTy Pr (Builtin.append_ #[24, 24] 24 #[out1.val, t7.val]) Sl.val (fun out9 w10 =>
  k3 out9 (i64 (i2 + 1)) w10) w8) w4) w4)
  (K out1 w4)) w
def ref14_numbers_ann : Ann := (.s .d (.s (.s .d (.b (.l [(.s 0, rSl), (.s 5, (rI .i64))] (.s (.s .d (.c .d .d)) (.s (.b (.r [(3, .rd rPA), (4, .rd (rI .i64)), (5, .call rSl), (6, .ty rSl)])) .d))))) (.s .d .d)))
theorem ref14_numbers_calls {out : Sl} {l : Sl} {K : Sl → World → Prop} {w : World} (h : ref14_numbers out l K w) : callV Pr Sl.val 78 #[out.val, l.val] w K :=
  calls_of Pr_plain Pr_mixed Pr_func78 ref14_numbers_ann rSl (args := [out.val, l.val]) (by kernel_rfl) h

/- changeover/changeoverref12.Bytes -/
def ref12_Bytes (v : Int) (l : Sl) (K : Sl → World → Prop) (w : World) : Prop :=
  callV Pr Sl.val 82 #[(.int .i64 (l.len : Int))] w fun out1 w2 =>
  loop2 (out1 : Sl) (0 : Int) (fun out3 i4 k5 w6 =>
  ifB (decide (i4 < (l.len : Int)))
  (opRd Pr (Instr.indexAt 25 l.val (.int .i64 i4)) pav (fun t7 =>
  opRd Pr (Instr.loadAt 3 (.pointer (some (t7.add 0)))) (Value.int .i64) (fun t8 =>
  callV Pr Sl.val 82 #[(.int .i64 t8)] w6 fun t9 w10 =>
  opTy Pr (Builtin.append_ #[24, 24] 24 #[out3.val, t9.val]) Sl.val (fun out11 w12 =>
  opRd Pr (Instr.indexAt 25 l.val (.int .i64 i4)) pav (fun t13 =>
  opRd Pr (Instr.loadAt 3 (.pointer (some ((t13.add 1).add 0)))) (Value.int .i64) (fun t14 =>
  callV Pr Sl.val 82 #[(.int .i64 t14)] w12 fun t15 w16 =>
  opTy Pr (Builtin.append_ #[24, 24] 24 #[out11.val, t15.val]) Sl.val (fun out17 w18 =>
  opRd Pr (Instr.indexAt 25 l.val (.int .i64 i4)) pav (fun t19 =>
  opRd Pr (Instr.loadAt 3 (.pointer (some ((t19.add 1).add 1)))) (Value.int .i64) (fun t20 =>
  callV Pr Sl.val 82 #[(.int .i64 t20)] w18 fun t21 w22 =>
  opTy Pr (Builtin.append_ #[24, 24] 24 #[out17.val, t21.val]) Sl.val (fun out23 w24 =>
  opRd Pr (Instr.indexAt 25 l.val (.int .i64 i4)) pav (fun t25 =>
  opRd Pr (Instr.loadAt 40 (.pointer (some (t25.add 3)))) ApiCmd.val (fun t26 =>
  callV Pr Sl.val 53 #[(.int .i64 v), (.agg ⟨t26.cs⟩)] w24 fun t27 w28 =>
  opTy Pr (Builtin.append_ #[24, 24] 24 #[out23.val, t27.val]) Sl.val (fun out29 w30 =>
  k5 out29 (i64 (i4 + 1)) w30) w28) w24) w24) w22) w18) w18) w16) w12) w12) w10) w6) w6)
  (K out3 w6)) w2
def ref12_Bytes_ann : Ann := (.s .d (.s (.r [(2, .call rSl)]) (.s (.s .d (.b (.l [(.s 5, rSl), (.s 6, (rI .i64))] (.s (.s .d (.c .d .d)) (.s (.b (.s (.r [(3, .rd rPA), (5, .rd (rI .i64)), (6, .call rSl), (7, .ty rSl)]) (.s (.r [(3, .rd rPA), (6, .rd (rI .i64)), (7, .call rSl), (8, .ty rSl)]) (.s (.r [(3, .rd rPA), (6, .rd (rI .i64)), (7, .call rSl), (8, .ty rSl)]) (.r [(4, .rd rPA), (6, .rd rApiCmd), (7, .call rSl), (8, .ty rSl)]))))) .d))))) (.s .d .d))))
theorem ref12_Bytes_calls {v : Int} {l : Sl} {K : Sl → World → Prop} {w : World} (h : ref12_Bytes v l K w) : callV Pr Sl.val 79 #[(.int .i64 v), l.val] w K :=
  calls_of Pr_plain Pr_mixed Pr_func79 ref12_Bytes_ann rSl (args := [(.int .i64 v), l.val]) (by kernel_rfl) h

/- changeover/vers.May -/
def vers_May (v : Int) (K : Bool → World → Prop) (w : World) : Prop :=
  ifB (v == 1)
  (K true w)
  (ifB (v == 2)
  (K true w)
  (K false w))
def vers_May_ann : Ann := (.s .d (.s (.s .d (.b (.s (.b (.b (.s (.s (.s .d (.c .d .d)) (.s .d (.c .d .d))) .d))) (.s (.s .d .d) .d)))) (.s .d .d)))
theorem vers_May_calls {v : Int} {K : Bool → World → Prop} {w : World} (h : vers_May v K w) : callV Pr Value.bool 80 #[(.int .i64 v)] w K :=
  calls_of Pr_plain Pr_mixed Pr_func80 vers_May_ann rB (args := [(.int .i64 v)]) (by kernel_rfl) h

/- changeover/changeoverref05.Val -/
def ref05_Val (s : List UInt8) (K : Bool → World → Prop) (w : World) : Prop :=
  ifB (decide (((s : List UInt8).length : Int) > 48))
  (K false w)
  (callV Pr (Value.int .i64) 134 #[(sval s)] w fun t1 w2 =>
  ifB (decide (t1 ≥ 0))
  (K false w2)
  (loop1 (0 : Int) (fun i3 k4 w5 =>
  ifB (decide (i3 < ((s : List UInt8).length : Int)))
  (opRd Pr (Instr.index 9 (sval s) (.int .i64 i3)) (Value.int .u8) (fun t6 =>
  ifB (decide (t6 < 32))
  (K false w5)
  (opRd Pr (Instr.index 9 (sval s) (.int .i64 i3)) (Value.int .u8) (fun t7 =>
  ifB (t7 == 127)
  (K false w5)
  (k4 (i64 (i3 + 1)) w5)) w5)) w5)
  (K true w5)) w2))
def ref05_Val_ann : Ann := (.s .d (.s (.s (.r [(5, .call (rI .i64))]) (.c (.s .d .d) .d)) (.s (.s .d (.b (.l [(.s 3, (rI .i64))] (.s (.s .d (.c .d .d)) (.s (.b (.s (.r [(2, .rd (rI .u8)), (7, .rd (rI .u8))]) (.c (.s .d .d) .d))) .d))))) (.s .d .d))))
theorem ref05_Val_calls {s : List UInt8} {K : Bool → World → Prop} {w : World} (h : ref05_Val s K w) : callV Pr Value.bool 81 #[(sval s)] w K :=
  calls_of Pr_plain Pr_mixed Pr_func81 ref05_Val_ann rB (args := [(sval s)]) (by kernel_rfl) h

/- changeover/changeoverref01.Bytes -/
def ref01_Bytes (n : Int) (K : Sl → World → Prop) (w : World) : Prop :=
  join1 (fun (j1 : Int → World → Prop) =>
  ifB (decide (n < 0))
  (j1 0 w)
  (j1 n w))
  (fun n2 w3 =>
  loop2 (n2 : Int) (Sl.nil : Sl) (fun n4 out5 k6 w7 =>
  ifB (decide (n4 > 127))
  (opTy Pr (Instr.buildSlice 24 1 #[(0, (.int .u8 (IntKind.u8.wrap (i64 (128 + (Int.tmod n4 128))))))]) Sl.val (fun t8 w9 =>
  opTy Pr (Builtin.append_ #[24, 24] 24 #[out5.val, t8.val]) Sl.val (fun out10 w11 =>
  k6 (IntKind.i64.wrap (Int.tdiv n4 128)) out10 w11) w9) w7)
  (opTy Pr (Instr.buildSlice 24 1 #[(0, (.int .u8 (IntKind.u8.wrap n4)))]) Sl.val (fun t12 w13 =>
  opTy Pr (Builtin.append_ #[24, 24] 24 #[out5.val, t12.val]) Sl.val (fun t14 w15 =>
  K t14 w15) w13) w7)) w3)
def ref01_Bytes_ann : Ann := (.s .d (.sj [(.s 0, (rI .i64))] (.s .d (.c .d .d)) (.s .d (.s (.b (.l [(.s 0, (rI .i64)), (.s 3, rSl)] (.s (.s .d (.c .d .d)) (.b (.s (.r [(5, .ty rSl), (6, .ty rSl)]) .d))))) (.s (.r [(3, .ty rSl), (4, .ty rSl)]) .d)))))
theorem ref01_Bytes_calls {n : Int} {K : Sl → World → Prop} {w : World} (h : ref01_Bytes n K w) : callV Pr Sl.val 82 #[(.int .i64 n)] w K :=
  calls_of Pr_plain Pr_mixed Pr_func82 ref01_Bytes_ann rSl (args := [(.int .i64 n)]) (by kernel_rfl) h

/- changeover/changeoverref04.Flag -/
def ref04_Flag (is : Bool) (K : Sl → World → Prop) (w : World) : Prop :=
  ifB is
  (opTy Pr (Instr.buildSlice 24 1 #[(0, (.int .u8 1))]) Sl.val (fun t1 w2 =>
  K t1 w2) w)
  (opTy Pr (Instr.buildSlice 24 1 #[(0, (.int .u8 0))]) Sl.val (fun t3 w4 =>
  K t3 w4) w)
def ref04_Flag_ann : Ann := (.s .d (.s (.s .d (.c (.s (.r [(0, .ty rSl)]) .d) .d)) (.s (.r [(0, .ty rSl)]) .d)))
theorem ref04_Flag_calls {is : Bool} {K : Sl → World → Prop} {w : World} (h : ref04_Flag is K w) : callV Pr Sl.val 83 #[(.bool is)] w K :=
  calls_of Pr_plain Pr_mixed Pr_func83 ref04_Flag_ann rSl (args := [(.bool is)]) (by kernel_rfl) h

/- changeover/changeoverref04.Text -/
def ref04_Text (s : List UInt8) (K : Sl → World → Prop) (w : World) : Prop :=
  callV Pr Sl.val 82 #[(.int .i64 ((s : List UInt8).length : Int))] w fun t1 w2 =>
  opTy Pr (Builtin.append_ #[24, 9] 24 #[t1.val, (sval s)]) Sl.val (fun t3 w4 =>
  K t3 w4) w2
def ref04_Text_ann : Ann := (.s .d (.s (.r [(2, .call rSl), (4, .ty rSl)]) .d))
theorem ref04_Text_calls {s : List UInt8} {K : Sl → World → Prop} {w : World} (h : ref04_Text s K w) : callV Pr Sl.val 84 #[(sval s)] w K :=
  calls_of Pr_plain Pr_mixed Pr_func84 ref04_Text_ann rSl (args := [(sval s)]) (by kernel_rfl) h

/- changeover/cmd.Encode -/
def cmd_Encode (v : Int) (c : ApiCmd) (K : (Sl × Int) → World → Prop) (w : World) : Prop :=
  newV (fun b1 w2 =>
  callV Pr Value.bool 80 #[(.int .i64 v)] w2 fun t3 w4 =>
  kp b1 w2 w4 <|
  ifB (!t3)
  (K (Sl.nil, 8) w4)
  (callV Pr (Value.int .i64) 102 #[(.int .i64 v), (.agg ⟨[(.int .i64 c.Kind), (.int .i64 c.Client), (.int .i64 c.Seq), (sval c.Key), (sval c.Val), (sval c.Old), (.int .i64 c.Node)]⟩)] w4 fun e5 w6 =>
  kp b1 w4 w6 <|
  ifB (e5 != 0)
  (K (Sl.nil, e5) w6)
  (opTy Pr (Instr.box 77 (.agg ⟨[Sl.nil.val]⟩)) pav (fun w7 w8 =>
  kp b1 w6 w8 <|
  callV Pr uval 130 #[(.pointer (some w7)), (.int .i64 v), (.agg ⟨[(.int .i64 c.Kind), (.int .i64 c.Client), (.int .i64 c.Seq), (sval c.Key), (sval c.Val), (sval c.Old), (.int .i64 c.Node)]⟩)] w8 fun t9 w10 =>
  kp b1 w8 w10 <|
  callV Pr Sl.val 50 #[(.pointer (some w7))] w10 fun t11 w12 =>
  kp b1 w10 w12 <|
  K (t11, 0) w12) w6))) w
def cmd_Encode_ann : Ann := (.s (.r [(0, .nl 3)]) (.s (.s (.r [(1, .call rB)]) (.c (.s .d .d) .d)) (.s (.s (.r [(2, .call (rI .i64))]) (.s .d (.c (.s .d .d) .d))) (.s (.r [(1, .ty rPA)]) (.s (.r [(3, .call rU)]) (.s (.r [(1, .call rSl)]) .d))))))
theorem cmd_Encode_calls {v : Int} {c : ApiCmd} {K : (Sl × Int) → World → Prop} {w : World} (h : cmd_Encode v c K w) : callV Pr (tval2 Sl.val (Value.int .i64)) 85 #[(.int .i64 v), (.agg ⟨c.cs⟩)] w K :=
  calls_of Pr_plain Pr_mixed Pr_func85 cmd_Encode_ann (rT2 rSl (rI .i64)) (args := [(.int .i64 v), (.agg ⟨c.cs⟩)]) (by kernel_rfl) h

/- changeover/cmd.Text -/
def cmd_Text (c : ApiCmd) (K : (List UInt8) → World → Prop) (w : World) : Prop :=
  opTy Pr (Instr.box 40 (.agg ⟨c.cs⟩)) pav (fun c1 w2 =>
  opRd Pr (Instr.loadAt 40 (.pointer (some c1))) ApiCmd.val (fun t3 =>
  callV Pr (Value.int .i64) 41 #[(.agg ⟨t3.cs⟩)] w2 fun t4 w5 =>
  ifB (t4 != 0)
  (K [] w5)
  (opRd Pr (Instr.loadAt 3 (.pointer (some (c1.add 0)))) (Value.int .i64) (fun t6 =>
  callV Pr sval 135 #[(.int .i64 t6)] w5 fun t7 w8 =>
  opTy Pr (Instr.buildSlice 142 1 #[(0, (sval t7))]) Sl.val (fun l9 w10 =>
  callV Pr Sl.val 88 #[] w10 fun t11 w12 =>
  loop2 (l9 : Sl) (0 : Int) (fun l13 t14 k15 w16 =>
  ifB (decide (t14 < (t11.len : Int)))
  (opRd Pr (Instr.indexAt 123 t11.val (.int .i64 t14)) pav (fun t17 =>
  opRd Pr (Instr.loadAt 127 (.pointer (some t17))) CmdPart.val (fun t18 =>
  opTy Pr (Instr.alloc 127 true (.tuple #[])) pav (fun p19 w20 =>
  opUn Pr (Instr.storeAt 127 (.pointer (some p19)) (.agg ⟨t18.cs⟩)) (fun w21 =>
  opRd Pr (Instr.loadAt 127 (.pointer (some p19))) CmdPart.val (fun t22 =>
  opRd Pr (Instr.loadAt 3 (.pointer (some (c1.add 0)))) (Value.int .i64) (fun t23 =>
  callV Pr Value.bool 136 #[(.agg ⟨t22.cs⟩), (.int .i64 2), (.int .i64 t23)] w21 fun t24 w25 =>
  ifB (!t24)
  (k15 l13 (i64 (t14 + 1)) w25)
  (opRd Pr (Instr.loadAt 125 (.pointer (some (p19.add 3)))) vval (fun t26 =>
  callF Pr vval t26 #[(.pointer (some c1))] w25 fun t27 w28 =>
  opRd Pr (Instr.typeAssert t27 20 163 true) (tval2 Value.pointer Value.bool) (fun t29 =>
  ifB t29.2
  (opRd Pr (nilSem (.pointer t29.1)) pav (fun t30 =>
  opRd Pr (Instr.loadAt 3 (.pointer (some t30))) (Value.int .i64) (fun t31 =>
  callV Pr sval 109 #[(.int .i64 t31)] w28 fun t32 w33 =>
  opTy Pr (Instr.buildSlice 142 1 #[(0, (sval t32))]) Sl.val (fun t34 w35 =>
  opTy Pr (Builtin.append_ #[142, 142] 142 #[l13.val, t34.val]) Sl.val (fun l36 w37 =>
  k15 l36 (i64 (t14 + 1)) w37) w35) w33) w28) w28)
  (opRd Pr (Instr.typeAssert t27 20 176 true) (tval2 Value.pointer Value.bool) (fun t38 =>
  ifB t38.2
  (opRd Pr (nilSem (.pointer t38.1)) pav (fun t39 =>
  opRd Pr (Instr.loadAt 9 (.pointer (some t39))) sval (fun t40 =>
  callV Pr sval 112 #[(sval t40)] w28 fun t41 w42 =>
  opTy Pr (Instr.buildSlice 142 1 #[(0, (sval t41))]) Sl.val (fun t43 w44 =>
  opTy Pr (Builtin.append_ #[142, 142] 142 #[l13.val, t43.val]) Sl.val (fun l45 w46 =>
  k15 l45 (i64 (t14 + 1)) w46) w44) w42) w28) w28)
  (k15 l13 (i64 (t14 + 1)) w28)) w28)) w28) w25)) w21) w21) w20) w16) w16) w16)
  (callV Pr sval 110 #[l13.val] w16 fun t47 w48 =>
  K t47 w48)) w12) w8) w5)) w2) w
def cmd_Text_ann : Ann := (.s (.r [(0, .ty rPA)]) (.s (.s (.r [(0, .rd rApiCmd), (1, .call (rI .i64))]) (.c (.s .d .d) .d)) (.s (.r [(1, .rd (rI .i64)), (2, .call rS), (3, .ty rSl)]) (.s (.s (.r [(0, .call rSl)]) (.b (.l [(.s 3, rSl), (.s 17, (rI .i64))] (.s .d (.s (.c .d .d) (.s (.b (.s (.r [(0, .rd rPA), (1, .rd rCmdPart), (2, .ty rPA), (3, .un)]) (.s (.s (.r [(0, .rd rCmdPart), (2, .rd (rI .i64)), (3, .call rB)]) (.c .d .d)) (.s (.r [(1, .rd rV), (2, .callf rV)]) (.b (.s (.r [(0, .rd (rT2 rP rB))]) (.c (.s .d (.r [(2, .rd rPA), (3, .rd (rI .i64)), (4, .call rS), (5, .ty rSl), (6, .ty rSl)])) (.s (.r [(0, .rd (rT2 rP rB))]) (.c (.s .d (.r [(2, .rd rPA), (3, .rd rS), (4, .call rS), (5, .ty rSl), (6, .ty rSl)])) .d))))))))) .d)))))) (.s (.r [(1, .call rS)]) .d)))))
theorem cmd_Text_calls {c : ApiCmd} {K : (List UInt8) → World → Prop} {w : World} (h : cmd_Text c K w) : callV Pr sval 86 #[(.agg ⟨c.cs⟩)] w K :=
  calls_of Pr_plain Pr_mixed Pr_func86 cmd_Text_ann rS (args := [(.agg ⟨c.cs⟩)]) (by kernel_rfl) h

/- changeover/cmd.fields -/
def cmd_fields (kind : Int) (K : (Int × Bool) → World → Prop) (w : World) : Prop :=
  join1 (fun (j1 : Bool → World → Prop) =>
  ifB (kind == 1)
  (j1 (kind == 1) w)
  (j1 (kind == 6) w))
  (fun t2 w3 =>
  ifB t2
  (K (0, true) w3)
  (ifB (kind == 2)
  (K (11, true) w3)
  (join1 (fun (j4 : Bool → World → Prop) =>
  ifB (kind == 3)
  (j4 (kind == 3) w3)
  (j4 (kind == 4) w3))
  (fun t5 w6 =>
  ifB t5
  (K (3, true) w6)
  (ifB (kind == 5)
  (K (15, true) w6)
  (ifB (kind == 7)
  (ifB (kind == 7)
  (K (16, true) w6)
  (K (0, false) w6))
  (ifB (kind == 8)
  (K (16, true) w6)
  (K (0, false) w6))))))))
def cmd_fields_ann : Ann := (.s .d (.s (.s .d (.b (.sj [(.s 5, rB)] (.s .d (.c .d .d)) (.c (.s .d .d) (.s .d (.c (.s .d .d) (.sj [(.s 10, rB)] (.s .d (.c .d .d)) (.c (.s .d .d) (.s .d (.c (.s .d .d) (.s (.s .d (.c .d .d)) (.c (.s .d .d) .d)))))))))))) (.s .d .d)))
theorem cmd_fields_calls {kind : Int} {K : (Int × Bool) → World → Prop} {w : World} (h : cmd_fields kind K w) : callV Pr (tval2 (Value.int .i64) Value.bool) 87 #[(.int .i64 kind)] w K :=
  calls_of Pr_plain Pr_mixed Pr_func87 cmd_fields_ann (rT2 (rI .i64) rB) (args := [(.int .i64 kind)]) (by kernel_rfl) h

/- changeover/cmd.parts -/
def cmd_parts (K : Sl → World → Prop) (w : World) : Prop :=
  opTy Pr (Instr.buildSlice 123 6 #[(0, (.agg ⟨[(.int .i64 1), (.int .i64 8), .nilFunc, (.func (.func 137) #[] #[])]⟩)), (1, (.agg ⟨[(.int .i64 1), (.int .i64 4294967296), .nilFunc, (.func (.func 138) #[] #[])]⟩)), (2, (.agg ⟨[(.int .i64 2), (.int .i64 0), (.func (.func 139) #[] #[]), (.func (.func 140) #[] #[])]⟩)), (3, (.agg ⟨[(.int .i64 4), (.int .i64 0), (.func (.func 94) #[] #[]), (.func (.func 141) #[] #[])]⟩)), (4, (.agg ⟨[(.int .i64 8), (.int .i64 0), (.func (.func 94) #[] #[]), (.func (.func 142) #[] #[])]⟩)), (5, (.agg ⟨[(.int .i64 16), (.int .i64 9), .nilFunc, (.func (.func 143) #[] #[])]⟩))]) Sl.val (fun t1 w2 =>
  K t1 w2) w
def cmd_parts_ann : Ann := (.s .d (.s (.r [(6, .ty rSl)]) .d))
theorem cmd_parts_calls {K : Sl → World → Prop} {w : World} (h : cmd_parts K w) : callV Pr Sl.val 88 #[] w K :=
  calls_of Pr_plain Pr_mixed Pr_func88 cmd_parts_ann rSl (args := []) (by kernel_rfl) h

/- changeover/changeoverref08.member -/
def ref08_member (kind : Int) (K : Bool → World → Prop) (w : World) : Prop :=
  ifB (kind == 7)
  (K true w)
  (K (kind == 8) w)
def ref08_member_ann : Ann := (.s .d (.s .d .d))
theorem ref08_member_calls {kind : Int} {K : Bool → World → Prop} {w : World} (h : ref08_member kind K w) : callV Pr Value.bool 91 #[(.int .i64 kind)] w K :=
  calls_of Pr_plain Pr_mixed Pr_func91 ref08_member_ann rB (args := [(.int .i64 kind)]) (by kernel_rfl) h

/- changeover/changeoverref05.Key -/
def ref05_Key (s : List UInt8) (K : Bool → World → Prop) (w : World) : Prop :=
  ifB (decide (((s : List UInt8).length : Int) < 1))
  (K false w)
  (ifB (decide (((s : List UInt8).length : Int) > 24))
  (K false w)
  (loop1 (0 : Int) (fun i1 k2 w3 =>
  ifB (decide (i1 < ((s : List UInt8).length : Int)))
  (callV Pr (tval2 (Value.int .i64) (Value.int .i64)) 144 #[(sval s), (.int .i64 i1)] w3 fun t4 w5 =>
  ifB (t4.1 == 0)
  (K false w5)
  (callV Pr Value.bool 145 #[(.int .i64 t4.2)] w5 fun t6 w7 =>
  ifB (!t6)
  (K false w7)
  (k2 (i64 (i1 + t4.1)) w7)))
  (K true w3)) w))
def ref05_Key_ann : Ann := (.s .d (.s (.s .d (.c (.s .d .d) .d)) (.s .d (.s (.b (.l [(.s 3, (rI .i64))] (.s (.s .d (.c .d .d)) (.b (.s (.r [(2, .call (rT2 (rI .i64) (rI .i64)))]) (.s (.s (.r [(4, .call rB)]) (.c (.s .d .d) .d)) .d)))))) (.s .d .d)))))
theorem ref05_Key_calls {s : List UInt8} {K : Bool → World → Prop} {w : World} (h : ref05_Key s K w) : callV Pr Value.bool 92 #[(sval s)] w K :=
  calls_of Pr_plain Pr_mixed Pr_func92 ref05_Key_ann rB (args := [(sval s)]) (by kernel_rfl) h

/- changeover/answer.Check$1 -/
def answer_Check_1 (n : Int) (least : Int) (most : Int) (K : Bool → World → Prop) (w : World) : Prop :=
  ifB (decide (n ≥ least))
  (K (decide (n ≤ most)) w)
  (K false w)
def answer_Check_1_ann : Ann := (.s .d (.s .d .d))
theorem answer_Check_1_calls {n : Int} {least : Int} {most : Int} {K : Bool → World → Prop} {w : World} (h : answer_Check_1 n least most K w) : callV Pr Value.bool 93 #[(.int .i64 n), (.int .i64 least), (.int .i64 most)] w K :=
  calls_of Pr_plain Pr_mixed Pr_func93 answer_Check_1_ann rB (args := [(.int .i64 n), (.int .i64 least), (.int .i64 most)]) (by kernel_rfl) h

/- changeover/runes.Val -/
def runes_Val (s : List UInt8) (K : Bool → World → Prop) (w : World) : Prop :=
  ifB (decide (((s : List UInt8).length : Int) ≤ 48))
  (callV Pr Value.bool 146 #[(sval s)] w fun t1 w2 =>
  ifB t1
  (callV Pr Value.bool 147 #[(sval s), (.func (.func 148) #[] #[])] w2 fun t3 w4 =>
  K t3 w4)
  (K false w2))
  (K false w)
def runes_Val_ann : Ann := (.s .d (.s (.r [(5, .call rB), (9, .call rB)]) .d))
theorem runes_Val_calls {s : List UInt8} {K : Bool → World → Prop} {w : World} (h : runes_Val s K w) : callV Pr Value.bool 94 #[(sval s)] w K :=
  calls_of Pr_plain Pr_mixed Pr_func94 runes_Val_ann rB (args := [(sval s)]) (by kernel_rfl) h

/- (*changeover/pack.Writer).Flag -/
def pack_Writer_Flag (w_ : Option Addr) (is : Bool) (K : Unit → World → Prop) (w : World) : Prop :=
  ifB is
  (callV Pr uval 69 #[(.pointer w_), (.int .i64 1)] w fun t1 w2 =>
  K () w2)
  (callV Pr uval 69 #[(.pointer w_), (.int .i64 0)] w fun t3 w4 =>
  K () w4)
def pack_Writer_Flag_ann : Ann := (.s .d (.s (.s .d (.c .d .d)) (.r [(2, .call rU)])))
theorem pack_Writer_Flag_calls {w_ : Option Addr} {is : Bool} {K : Unit → World → Prop} {w : World} (h : pack_Writer_Flag w_ is K w) : callV Pr uval 95 #[(.pointer w_), (.bool is)] w K :=
  calls_of Pr_plain Pr_mixed Pr_func95 pack_Writer_Flag_ann rU (args := [(.pointer w_), (.bool is)]) (by kernel_rfl) h

/- (*changeover/pack.Writer).Text -/
def pack_Writer_Text (w_ : Option Addr) (s : List UInt8) (K : Unit → World → Prop) (w : World) : Prop :=
  opTy Pr (convert 9 24 (sval s)) Sl.val (fun t1 w2 =>
  callV Pr uval 131 #[(.pointer w_), t1.val] w2 fun t3 w4 =>
  K () w4) w
def pack_Writer_Text_ann : Ann := (.r [(2, .ty rSl), (3, .call rU)])
theorem pack_Writer_Text_calls {w_ : Option Addr} {s : List UInt8} {K : Unit → World → Prop} {w : World} (h : pack_Writer_Text w_ s K w) : callV Pr uval 96 #[(.pointer w_), (sval s)] w K :=
  calls_of Pr_plain Pr_mixed Pr_func96 pack_Writer_Text_ann rU (args := [(.pointer w_), (sval s)]) (by kernel_rfl) h

/- (*changeover/pack.Reader).Number -/
def pack_Reader_Number (r : Option Addr) (most : Int) (K : Int → World → Prop) (w : World) : Prop :=
  opTy Pr (Instr.box 80 (.pointer r)) pav (fun r1 w2 =>
  opTy Pr (Instr.box 3 (.int .i64 most)) pav (fun most3 w4 =>
  opRd Pr (Instr.loadAt 80 (.pointer (some r1))) Value.pointer (fun t5 =>
  callV Pr (Value.int .i64) 149 #[(.pointer t5), (.func (.func 150) #[] #[(.pointer (some r1)), (.pointer (some most3))])] w4 fun t6 w7 =>
  K t6 w7) w4) w2) w
def pack_Reader_Number_ann : Ann := (.s (.r [(0, .ty rPA), (1, .ty rPA)]) (.s (.r [(0, .rd rP), (2, .call (rI .i64))]) .d))
theorem pack_Reader_Number_calls {r : Option Addr} {most : Int} {K : Int → World → Prop} {w : World} (h : pack_Reader_Number r most K w) : callV Pr (Value.int .i64) 97 #[(.pointer r), (.int .i64 most)] w K :=
  calls_of Pr_plain Pr_mixed Pr_func97 pack_Reader_Number_ann (rI .i64) (args := [(.pointer r), (.int .i64 most)]) (by kernel_rfl) h

/- (*changeover/pack.Reader).Flag -/
def pack_Reader_Flag (r : Option Addr) (K : Bool → World → Prop) (w : World) : Prop :=
  opRd Pr (binSem .eql 80 (.tmp 4) (.const (.pointer none)) (.pointer r) (.pointer none)) Value.bool (fun t1 =>
  ifB t1
  (K false w)
  (callV Pr Value.bool 153 #[(.pointer r), (.func (.func 152) #[(.pointer r)] #[])] w fun t2 w3 =>
  K t2 w3)) w
def pack_Reader_Flag_ann : Ann := (.s .d (.s (.s (.r [(1, .rd rB)]) (.c (.s .d .d) .d)) (.s .d (.s (.r [(2, .call rB)]) .d))))
theorem pack_Reader_Flag_calls {r : Option Addr} {K : Bool → World → Prop} {w : World} (h : pack_Reader_Flag r K w) : callV Pr Value.bool 98 #[(.pointer r)] w K :=
  calls_of Pr_plain Pr_mixed Pr_func98 pack_Reader_Flag_ann rB (args := [(.pointer r)]) (by kernel_rfl) h

/- (*changeover/pack.Reader).Text -/
def pack_Reader_Text (r : Option Addr) (most : Int) (K : (List UInt8) → World → Prop) (w : World) : Prop :=
  callV Pr Sl.val 154 #[(.pointer r), (.int .i64 most)] w fun t1 w2 =>
  opRd Pr (convert 24 9 t1.val) sval (fun t3 =>
  K t3 w2) w2
def pack_Reader_Text_ann : Ann := (.s .d (.s (.r [(2, .call rSl), (3, .rd rS)]) .d))
theorem pack_Reader_Text_calls {r : Option Addr} {most : Int} {K : (List UInt8) → World → Prop} {w : World} (h : pack_Reader_Text r most K w) : callV Pr sval 99 #[(.pointer r), (.int .i64 most)] w K :=
  calls_of Pr_plain Pr_mixed Pr_func99 pack_Reader_Text_ann rS (args := [(.pointer r), (.int .i64 most)]) (by kernel_rfl) h

/- slices.Clone[[]byte,byte] -/
def slices_Clone_byte_byte (s : Sl) (K : Sl → World → Prop) (w : World) : Prop :=
  opRd Pr (binSem .eql 24 (.tmp 3) (.const Sl.nil.val) s.val Sl.nil.val) Value.bool (fun t1 =>
  ifB t1
  (K Sl.nil w)
  (opTy Pr (Instr.buildSlice 24 0 #[]) Sl.val (fun t2 w3 =>
  opTy Pr (Builtin.append_ #[24, 24] 24 #[t2.val, s.val]) Sl.val (fun t4 w5 =>
  K t4 w5) w3) w)) w
def slices_Clone_byte_byte_ann : Ann := (.s .d (.s (.s (.r [(1, .rd rB)]) (.c (.s .d .d) .d)) (.s (.r [(0, .ty rSl), (2, .ty rSl)]) .d)))
theorem slices_Clone_byte_byte_calls {s : Sl} {K : Sl → World → Prop} {w : World} (h : slices_Clone_byte_byte s K w) : callV Pr Sl.val 100 #[s.val] w K :=
  calls_of Pr_plain Pr_mixed Pr_func100 slices_Clone_byte_byte_ann rSl (args := [s.val]) (by kernel_rfl) h

/- changeover/cmd.Get -/
def cmd_Get (r : Option Addr) (v : Int) (K : ApiCmd → World → Prop) (w : World) : Prop :=
  newV (fun b1 w2 =>
  callV Pr (Value.int .i64) 97 #[(.pointer r), (.int .i64 9223372036854775807)] w2 fun t3 w4 =>
  kp b1 w2 w4 <|
  opTy Pr (Instr.alloc 40 true (.tuple #[])) pav (fun c5 w6 =>
  kp b1 w4 w6 <|
  opUn Pr (Instr.storeAt 40 (.pointer (some c5)) (.agg ⟨[(.int .i64 t3), (.int .i64 0), (.int .i64 0), (sval []), (sval []), (sval []), (.int .i64 0)]⟩)) (fun w7 =>
  kp b1 w6 w7 <|
  callV Pr Sl.val 88 #[] w7 fun t8 w9 =>
  kp b1 w7 w9 <|
  loop1 (0 : Int) (fun t10 k11 w12 =>
  ifB (decide (t10 < (t8.len : Int)))
  (opRd Pr (Instr.indexAt 123 t8.val (.int .i64 t10)) pav (fun t13 =>
  opRd Pr (Instr.loadAt 127 (.pointer (some t13))) CmdPart.val (fun t14 =>
  opTy Pr (Instr.alloc 127 true (.tuple #[])) pav (fun p15 w16 =>
  kp b1 w12 w16 <|
  opUn Pr (Instr.storeAt 127 (.pointer (some p15)) (.agg ⟨t14.cs⟩)) (fun w17 =>
  kp b1 w16 w17 <|
  opRd Pr (Instr.loadAt 127 (.pointer (some p15))) CmdPart.val (fun t18 =>
  opRd Pr (Instr.loadAt 3 (.pointer (some (c5.add 0)))) (Value.int .i64) (fun t19 =>
  callV Pr Value.bool 136 #[(.agg ⟨t18.cs⟩), (.int .i64 v), (.int .i64 t19)] w17 fun t20 w21 =>
  kp b1 w17 w21 <|
  ifB t20
  (opRd Pr (Instr.loadAt 127 (.pointer (some p15))) CmdPart.val (fun t22 =>
  callV Pr uval 155 #[(.agg ⟨t22.cs⟩), (.pointer r), (.pointer (some c5))] w21 fun t23 w24 =>
  kp b1 w21 w24 <|
  k11 (i64 (t10 + 1)) w24) w21)
  (k11 (i64 (t10 + 1)) w21)) w17) w17) w16) w12) w12) w12)
  (opRd Pr (Instr.loadAt 40 (.pointer (some c5))) ApiCmd.val (fun t25 =>
  wrM b1 (fun w26 =>
  K t25 w26) w12) w12)) w9) w6) w4) w
def cmd_Get_ann : Ann := (.s (.r [(0, .nl 4)]) (.s (.r [(1, .call (rI .i64)), (3, .ty rPA), (4, .un)]) (.s (.s (.r [(0, .call rSl)]) (.b (.l [(.s 13, (rI .i64))] (.s .d (.s (.c .d .d) (.s (.b (.s (.r [(0, .rd rPA), (1, .rd rCmdPart), (2, .ty rPA), (3, .un)]) (.s (.r [(0, .rd rCmdPart), (3, .rd (rI .i64)), (4, .call rB)]) (.c (.r [(0, .rd rCmdPart), (2, .call rU)]) .d)))) .d)))))) (.s (.r [(0, .rd rApiCmd), (1, .ls 4)]) .d))))
theorem cmd_Get_calls {r : Option Addr} {v : Int} {K : ApiCmd → World → Prop} {w : World} (h : cmd_Get r v K w) : callV Pr ApiCmd.val 101 #[(.pointer r), (.int .i64 v)] w K :=
  calls_of Pr_plain Pr_mixed Pr_func101 cmd_Get_ann rApiCmd (args := [(.pointer r), (.int .i64 v)]) (by kernel_rfl) h

/- changeover/cmd.has -/
def cmd_has (v : Int) (c : ApiCmd) (K : Int → World → Prop) (w : World) : Prop :=
  newV (fun b1 w2 =>
  callV Pr (Value.int .i64) 41 #[(.agg ⟨[(.int .i64 c.Kind), (.int .i64 c.Client), (.int .i64 c.Seq), (sval c.Key), (sval c.Val), (sval c.Old), (.int .i64 c.Node)]⟩)] w2 fun e3 w4 =>
  kp b1 w2 w4 <|
  ifB (e3 != 0)
  (K e3 w4)
  (callV Pr Value.bool 156 #[(.int .i64 v), (.int .i64 c.Kind)] w4 fun t5 w6 =>
  kp b1 w4 w6 <|
  ifB (!t5)
  (K 8 w6)
  (K 0 w6))) w
def cmd_has_ann : Ann := (.s (.r [(0, .nl 3)]) (.s (.s (.r [(1, .call (rI .i64))]) (.s .d (.c (.s .d .d) .d))) (.s (.s (.r [(3, .call rB)]) (.c (.s .d .d) .d)) (.s .d .d))))
theorem cmd_has_calls {v : Int} {c : ApiCmd} {K : Int → World → Prop} {w : World} (h : cmd_has v c K w) : callV Pr (Value.int .i64) 102 #[(.int .i64 v), (.agg ⟨c.cs⟩)] w K :=
  calls_of Pr_plain Pr_mixed Pr_func102 cmd_has_ann (rI .i64) (args := [(.int .i64 v), (.agg ⟨c.cs⟩)]) (by kernel_rfl) h

/- changeover/changeoverref08.Digits -/
def ref08_Digits (n : Int) (K : (List UInt8) → World → Prop) (w : World) : Prop :=
  loop2 (n : Int) ([] : List UInt8) (fun n1 s2 k3 w4 =>
  opRd Pr (Instr.sliceAt 9 (sval [48, 49, 50, 51, 52, 53, 54, 55, 56, 57]) (some (.int .i64 (Int.tmod n1 10))) (some (.int .i64 (i64 ((Int.tmod n1 10) + 1)))) none) sval (fun t5 =>
  opRd Pr (binSem .add 9 (.tmp 9) (.tmp 10) (sval t5) (sval s2)) sval (fun s6 =>
  ifB (decide ((IntKind.i64.wrap (Int.tdiv n1 10)) ≤ 0))
  (K s6 w4)
  (k3 (IntKind.i64.wrap (Int.tdiv n1 10)) s6 w4)) w4) w4) w
def ref08_Digits_ann : Ann := (.s .d (.s .d (.b (.l [(.s 0, (rI .i64)), (.s 3, rS)] (.b (.s (.r [(5, .rd rS), (7, .rd rS)]) (.s .d (.s .d (.c (.s .d .d) .d)))))))))
theorem ref08_Digits_calls {n : Int} {K : (List UInt8) → World → Prop} {w : World} (h : ref08_Digits n K w) : callV Pr sval 103 #[(.int .i64 n)] w K :=
  calls_of Pr_plain Pr_mixed Pr_func103 ref08_Digits_ann rS (args := [(.int .i64 n)]) (by kernel_rfl) h

end Go.Chg
