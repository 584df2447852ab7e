/-
  Functions of the program, told by a program of ours (gen.py), each held by the kernel to what is to be shown of its code.
-/
import Derived.Test.YtjkknkklhnfloaaDoorTy
set_option maxRecDepth 100000
set_option linter.unusedVariables false
namespace Go.Chg
open Go.Vc

/- changeover/changeoverlaw13.MsgoneChecks -/
def law13_MsgoneChecks (m : ApiMsg) (other : ApiMsg) (K : Bool → World → Prop) (w : World) : Prop :=
  newV (fun b1 w2 =>
  newV (fun b3 w4 =>
  callV Pr Value.bool 7 #[(.agg ⟨[(.int .i64 m.Kind), (.int .i64 m.From), (.int .i64 m.To), (.int .i64 m.Ballot.Round), (.int .i64 m.Ballot.Node), (.int .i64 m.Index), (.int .i64 m.Commit), (.int .i64 m.Version), m.Entries.val, m.Image.val]⟩)] w4 fun t5 w6 =>
  kp b3 w4 w6 <|
  kp b1 w4 w6 <|
  ifB t5
  (callV Pr Value.bool 8 #[] w6 fun t7 w8 =>
  kp b3 w6 w8 <|
  kp b1 w6 w8 <|
  K t7 w8)
  (callV Pr Value.bool 7 #[(.agg ⟨[(.int .i64 other.Kind), (.int .i64 other.From), (.int .i64 other.To), (.int .i64 other.Ballot.Round), (.int .i64 other.Ballot.Node), (.int .i64 other.Index), (.int .i64 other.Commit), (.int .i64 other.Version), other.Entries.val, other.Image.val]⟩)] w6 fun t9 w10 =>
  kp b3 w6 w10 <|
  kp b1 w6 w10 <|
  ifB t9
  (callV Pr Value.bool 8 #[] w10 fun t11 w12 =>
  kp b3 w10 w12 <|
  kp b1 w10 w12 <|
  K t11 w12)
  (heldM (fun S14 w13 =>
  callV Pr (Value.int .i64) 9 #[(.agg ⟨[(.int .i64 m.Kind), (.int .i64 m.From), (.int .i64 m.To), (.int .i64 m.Ballot.Round), (.int .i64 m.Ballot.Node), (.int .i64 m.Index), (.int .i64 m.Commit), (.int .i64 m.Version), m.Entries.val, m.Image.val]⟩)] w13 fun t15 w16 =>
  kp b3 w13 w16 <|
  kp b1 w13 w16 <|
  (S14 w16) ∧
  (callV Pr (Value.int .i64) 10 #[(.agg ⟨[(.int .i64 m.Kind), (.int .i64 m.From), (.int .i64 m.To), (.int .i64 m.Ballot.Round), (.int .i64 m.Ballot.Node), (.int .i64 m.Index), (.int .i64 m.Commit), (.int .i64 m.Version), m.Entries.val, m.Image.val]⟩)] w16 fun t17 w18 =>
  kp b3 w16 w18 <|
  kp b1 w16 w18 <|
  (S14 w18) ∧
  (ifB (t15 == t17)
  (callV Pr Value.bool 11 #[(.agg ⟨[(.int .i64 m.Kind), (.int .i64 m.From), (.int .i64 m.To), (.int .i64 m.Ballot.Round), (.int .i64 m.Ballot.Node), (.int .i64 m.Index), (.int .i64 m.Commit), (.int .i64 m.Version), m.Entries.val, m.Image.val]⟩), (.agg ⟨[(.int .i64 other.Kind), (.int .i64 other.From), (.int .i64 other.To), (.int .i64 other.Ballot.Round), (.int .i64 other.Ballot.Node), (.int .i64 other.Index), (.int .i64 other.Commit), (.int .i64 other.Version), other.Entries.val, other.Image.val]⟩)] w18 fun t19 w20 =>
  kp b3 w18 w20 <|
  kp b1 w18 w20 <|
  (S14 w20) ∧
  (callV Pr Value.bool 12 #[(.agg ⟨[(.int .i64 m.Kind), (.int .i64 m.From), (.int .i64 m.To), (.int .i64 m.Ballot.Round), (.int .i64 m.Ballot.Node), (.int .i64 m.Index), (.int .i64 m.Commit), (.int .i64 m.Version), m.Entries.val, m.Image.val]⟩), (.agg ⟨[(.int .i64 other.Kind), (.int .i64 other.From), (.int .i64 other.To), (.int .i64 other.Ballot.Round), (.int .i64 other.Ballot.Node), (.int .i64 other.Index), (.int .i64 other.Commit), (.int .i64 other.Version), other.Entries.val, other.Image.val]⟩)] w20 fun t21 w22 =>
  kp b3 w20 w22 <|
  kp b1 w20 w22 <|
  (S14 w22) ∧
  (ifB (t19 == t21)
  (callV Pr Value.bool 11 #[(.agg ⟨[(.int .i64 m.Kind), (.int .i64 m.From), (.int .i64 m.To), (.int .i64 m.Ballot.Round), (.int .i64 m.Ballot.Node), (.int .i64 m.Index), (.int .i64 m.Commit), (.int .i64 m.Version), m.Entries.val, m.Image.val]⟩), (.agg ⟨[(.int .i64 m.Kind), (.int .i64 m.From), (.int .i64 m.To), (.int .i64 m.Ballot.Round), (.int .i64 m.Ballot.Node), (.int .i64 m.Index), (.int .i64 m.Commit), (.int .i64 m.Version), m.Entries.val, m.Image.val]⟩)] w22 fun t23 w24 =>
  kp b3 w22 w24 <|
  kp b1 w22 w24 <|
  (S14 w24) ∧
  (ifB t23
  (callV Pr Value.bool 8 #[] w24 fun t25 w26 =>
  kp b3 w24 w26 <|
  kp b1 w24 w26 <|
  (S14 w26) ∧
  (K t25 w26))
  (K false w24)))
  (K false w22))))
  (K false w18)))) w10))) w2) w
def law13_MsgoneChecks_ann : Ann := (.s (.r [(0, .nl 2), (1, .nl 3)]) (.s (.s (.r [(1, .call rB), (4, .call rB)]) (.c (.s (.r [(0, .call rB)]) .d) .d)) (.s (.h (.take 0 (.take 2 (.one 1 (.one 3 (.take 4 (.take 5 (.take 6 (.take 7 (.take 9 (.take 10 (.one 8 (.one 11 (.take 12 (.take 13 (.take 14 (.take 15 (.take 16 (.one 17 (.take 18 (.take 19 (.one 20 (.take 21 (.take 22 .done))))))))))))))))))))))) [(1, .call (rI .i64)), (3, .call (rI .i64)), (8, .call rB), (11, .call rB), (17, .call rB), (20, .call rB)]) .d)))
theorem law13_MsgoneChecks_calls {m : ApiMsg} {other : ApiMsg} {K : Bool → World → Prop} {w : World} (h : law13_MsgoneChecks m other K w) : callV Pr Value.bool 3 #[(.agg ⟨m.cs⟩), (.agg ⟨other.cs⟩)] w K :=
  calls_of Pr_plain Pr_mixed Pr_func3 law13_MsgoneChecks_ann rB (args := [(.agg ⟨m.cs⟩), (.agg ⟨other.cs⟩)]) (by kernel_rfl) h

/- changeover/changeoverlaw31.AcceptorKeeps -/
def law31_AcceptorKeeps (h_ : ApiHard) (a : ApiMsg) (b : ApiMsg) (K : Bool → World → Prop) (w : World) : Prop :=
  newV (fun b1 w2 =>
  newV (fun b3 w4 =>
  newV (fun b5 w6 =>
  callV Pr Value.bool 13 #[(.agg ⟨[(.int .i64 h_.Promised.Round), (.int .i64 h_.Promised.Node), (.int .i64 h_.Base), h_.Image.val, h_.Accepted.val, h_.Chosen.val]⟩)] w6 fun t7 w8 =>
  kp b5 w6 w8 <|
  kp b3 w6 w8 <|
  kp b1 w6 w8 <|
  ifB t7
  (callV Pr Value.bool 15 #[] w8 fun t9 w10 =>
  kp b5 w8 w10 <|
  kp b3 w8 w10 <|
  kp b1 w8 w10 <|
  K t9 w10)
  (callV Pr Value.bool 7 #[(.agg ⟨[(.int .i64 a.Kind), (.int .i64 a.From), (.int .i64 a.To), (.int .i64 a.Ballot.Round), (.int .i64 a.Ballot.Node), (.int .i64 a.Index), (.int .i64 a.Commit), (.int .i64 a.Version), a.Entries.val, a.Image.val]⟩)] w8 fun t11 w12 =>
  kp b5 w8 w12 <|
  kp b3 w8 w12 <|
  kp b1 w8 w12 <|
  ifB t11
  (callV Pr Value.bool 15 #[] w12 fun t13 w14 =>
  kp b5 w12 w14 <|
  kp b3 w12 w14 <|
  kp b1 w12 w14 <|
  K t13 w14)
  (callV Pr Value.bool 7 #[(.agg ⟨[(.int .i64 b.Kind), (.int .i64 b.From), (.int .i64 b.To), (.int .i64 b.Ballot.Round), (.int .i64 b.Ballot.Node), (.int .i64 b.Index), (.int .i64 b.Commit), (.int .i64 b.Version), b.Entries.val, b.Image.val]⟩)] w12 fun t15 w16 =>
  kp b5 w12 w16 <|
  kp b3 w12 w16 <|
  kp b1 w12 w16 <|
  ifB t15
  (callV Pr Value.bool 15 #[] w16 fun t17 w18 =>
  kp b5 w16 w18 <|
  kp b3 w16 w18 <|
  kp b1 w16 w18 <|
  K t17 w18)
  (callV Pr Value.bool 14 #[(.agg ⟨[(.int .i64 h_.Promised.Round), (.int .i64 h_.Promised.Node), (.int .i64 h_.Base), h_.Image.val, h_.Accepted.val, h_.Chosen.val]⟩)] w16 fun t19 w20 =>
  kp b5 w16 w20 <|
  kp b3 w16 w20 <|
  kp b1 w16 w20 <|
  ifB (!t19)
  (callV Pr Value.bool 15 #[] w20 fun t21 w22 =>
  kp b5 w20 w22 <|
  kp b3 w20 w22 <|
  kp b1 w20 w22 <|
  K t21 w22)
  (callV Pr (tval3 Sl.val ApiMsg.val (Value.int .i64)) 16 #[(.agg ⟨[(.int .i64 h_.Promised.Round), (.int .i64 h_.Promised.Node), (.int .i64 h_.Base), h_.Image.val, h_.Accepted.val, h_.Chosen.val]⟩), (.int .i64 h_.Base), (.agg ⟨[(.int .i64 a.Kind), (.int .i64 a.From), (.int .i64 a.To), (.int .i64 a.Ballot.Round), (.int .i64 a.Ballot.Node), (.int .i64 a.Index), (.int .i64 a.Commit), (.int .i64 a.Version), a.Entries.val, a.Image.val]⟩)] w20 fun t23 w24 =>
  kp b5 w20 w24 <|
  kp b3 w20 w24 <|
  kp b1 w20 w24 <|
  newV (fun b25 w26 =>
  wrM b25 (fun w27 =>
  ifB (t23.2.2 != 0)
  (callV Pr Value.bool 15 #[] w27 fun t28 w29 =>
  kp b25 w27 w29 <|
  kp b5 w27 w29 <|
  kp b3 w27 w29 <|
  kp b1 w27 w29 <|
  K t28 w29)
  (newV (fun b30 w31 =>
  wrM b30 (fun w32 =>
  loop2 (0 : Int) (h_ : ApiHard) (fun i33 next34 k35 w36 =>
  ifB (decide (i33 < (t23.1.len : Int)))
  (heldM (fun S38 w37 =>
  opH Pr S38 (Instr.indexAt 36 t23.1.val (.int .i64 i33)) pav (fun t39 =>
  opH Pr S38 (Instr.loadAt 43 (.pointer (some t39))) ApiRecord.val (fun t40 =>
  (S38 w37) ∧
  (callV Pr ApiHard.val 17 #[(.agg ⟨[(.int .i64 next34.Promised.Round), (.int .i64 next34.Promised.Node), (.int .i64 next34.Base), next34.Image.val, next34.Accepted.val, next34.Chosen.val]⟩), (.agg ⟨t40.cs⟩)] w37 fun t41 w42 =>
  kp b30 w37 w42 <|
  kp b25 w37 w42 <|
  kp b5 w37 w42 <|
  kp b3 w37 w42 <|
  kp b1 w37 w42 <|
  (S38 w42) ∧
  (wrM b30 (fun w43 =>
  (S38 w43) ∧
  (k35 (i64 (i33 + 1)) t41 w43)) w42))))) w36)
  (callV Pr Value.bool 18 #[(.agg ⟨[(.int .i64 next34.Promised.Round), (.int .i64 next34.Promised.Node)]⟩), (.agg ⟨[(.int .i64 h_.Promised.Round), (.int .i64 h_.Promised.Node)]⟩)] w36 fun t44 w45 =>
  kp b30 w36 w45 <|
  kp b25 w36 w45 <|
  kp b5 w36 w45 <|
  kp b3 w36 w45 <|
  kp b1 w36 w45 <|
  ifB t44
  (K false w45)
  (callV Pr Value.bool 14 #[(.agg ⟨[(.int .i64 next34.Promised.Round), (.int .i64 next34.Promised.Node), (.int .i64 next34.Base), next34.Image.val, next34.Accepted.val, next34.Chosen.val]⟩)] w45 fun t46 w47 =>
  kp b30 w45 w47 <|
  kp b25 w45 w47 <|
  kp b5 w45 w47 <|
  kp b3 w45 w47 <|
  kp b1 w45 w47 <|
  ifB (!t46)
  (K false w47)
  (callV Pr (tval3 Sl.val ApiMsg.val (Value.int .i64)) 16 #[(.agg ⟨[(.int .i64 next34.Promised.Round), (.int .i64 next34.Promised.Node), (.int .i64 next34.Base), next34.Image.val, next34.Accepted.val, next34.Chosen.val]⟩), (.int .i64 h_.Base), (.agg ⟨[(.int .i64 b.Kind), (.int .i64 b.From), (.int .i64 b.To), (.int .i64 b.Ballot.Round), (.int .i64 b.Ballot.Node), (.int .i64 b.Index), (.int .i64 b.Commit), (.int .i64 b.Version), b.Entries.val, b.Image.val]⟩)] w47 fun t48 w49 =>
  kp b30 w47 w49 <|
  kp b25 w47 w49 <|
  kp b5 w47 w49 <|
  kp b3 w47 w49 <|
  kp b1 w47 w49 <|
  newV (fun b50 w51 =>
  wrM b50 (fun w52 =>
  ifB (t48.2.2 != 0)
  (callV Pr Value.bool 15 #[] w52 fun t53 w54 =>
  kp b50 w52 w54 <|
  kp b30 w52 w54 <|
  kp b25 w52 w54 <|
  kp b5 w52 w54 <|
  kp b3 w52 w54 <|
  kp b1 w52 w54 <|
  K t53 w54)
  (ifB (t23.2.1.Kind == 7)
  (callV Pr Value.bool 15 #[] w52 fun t55 w56 =>
  kp b50 w52 w56 <|
  kp b30 w52 w56 <|
  kp b25 w52 w56 <|
  kp b5 w52 w56 <|
  kp b3 w52 w56 <|
  kp b1 w52 w56 <|
  K t55 w56)
  (heldM (fun S58 w57 =>
  callV Pr Value.bool 18 #[(.agg ⟨[(.int .i64 b.Ballot.Round), (.int .i64 b.Ballot.Node)]⟩), (.agg ⟨[(.int .i64 next34.Promised.Round), (.int .i64 next34.Promised.Node)]⟩)] w57 fun t59 w60 =>
  kp b50 w57 w60 <|
  kp b30 w57 w60 <|
  kp b25 w57 w60 <|
  kp b5 w57 w60 <|
  kp b3 w57 w60 <|
  kp b1 w57 w60 <|
  (S58 w60) ∧
  (ifB ((t48.2.1.Kind == 7) == t59)
  (callV Pr Value.bool 18 #[(.agg ⟨[(.int .i64 b.Ballot.Round), (.int .i64 b.Ballot.Node)]⟩), (.agg ⟨[(.int .i64 a.Ballot.Round), (.int .i64 a.Ballot.Node)]⟩)] w60 fun t61 w62 =>
  kp b50 w60 w62 <|
  kp b30 w60 w62 <|
  kp b25 w60 w62 <|
  kp b5 w60 w62 <|
  kp b3 w60 w62 <|
  kp b1 w60 w62 <|
  (S58 w62) ∧
  (ifB (!t61)
  (callV Pr Value.bool 15 #[] w62 fun t63 w64 =>
  kp b50 w62 w64 <|
  kp b30 w62 w64 <|
  kp b25 w62 w64 <|
  kp b5 w62 w64 <|
  kp b3 w62 w64 <|
  kp b1 w62 w64 <|
  (S58 w64) ∧
  (K t63 w64))
  (ifB (t48.2.1.Kind == 7)
  (callV Pr Value.bool 15 #[] w62 fun t65 w66 =>
  kp b50 w62 w66 <|
  kp b30 w62 w66 <|
  kp b25 w62 w66 <|
  kp b5 w62 w66 <|
  kp b3 w62 w66 <|
  kp b1 w62 w66 <|
  (S58 w66) ∧
  (K t65 w66))
  (K false w62))))
  (K false w60))) w52))) w51) w49)))) w32) w31) w27)) w26) w24))))) w4) w2) w
def law31_AcceptorKeeps_ann : Ann := (.s (.r [(0, .nl 3), (1, .nl 4), (2, .nl 5)]) (.s (.s (.r [(1, .call rB), (4, .call rB), (8, .call rB), (12, .call rB)]) (.c (.s (.r [(0, .call rB)]) .d) .d)) (.s (.r [(4, .call (rT3 rSl rApiMsg (rI .i64))), (9, .nl 8), (11, .ls 8)]) (.s (.s .d (.c (.s (.r [(0, .call rB)]) .d) .d)) (.s (.r [(1, .nl 10), (2, .ls 10)]) (.s (.s .d (.b (.l [(.s 11, (rI .i64)), (.h 10, rApiHard)] (.s (.s .d (.c .d .d)) (.s (.b (.h (.take 1 (.take 2 (.take 3 (.take 4 (.one 0 (.one 5 (.one 6 .done))))))) [(3, .rd rPA), (4, .rd rApiRecord), (5, .call rApiHard), (6, .ls 10)])) .d))))) (.s (.s (.r [(4, .call rB), (7, .call rB)]) (.c (.s .d .d) .d)) (.s (.r [(4, .call (rT3 rSl rApiMsg (rI .i64))), (9, .nl 13), (11, .ls 13)]) (.s (.s .d (.c (.s (.r [(0, .call rB)]) .d) .d)) (.s (.h (.take 0 (.take 1 (.take 2 (.take 3 (.take 4 (.take 5 (.take 6 (.one 7 (.take 8 (.take 9 (.take 10 (.take 11 (.take 12 (.take 13 (.one 14 (.take 15 (.take 16 (.take 17 (.take 18 (.take 19 (.take 20 (.take 21 (.take 22 (.one 23 (.take 24 (.take 25 .done)))))))))))))))))))))))))) [(7, .call rB), (14, .call rB), (23, .call rB)]) .d))))))))))
theorem law31_AcceptorKeeps_calls {h_ : ApiHard} {a : ApiMsg} {b : ApiMsg} {K : Bool → World → Prop} {w : World} (h : law31_AcceptorKeeps h_ a b K w) : callV Pr Value.bool 4 #[(.agg ⟨h_.cs⟩), (.agg ⟨a.cs⟩), (.agg ⟨b.cs⟩)] w K :=
  calls_of Pr_plain Pr_mixed Pr_func4 law31_AcceptorKeeps_ann rB (args := [(.agg ⟨h_.cs⟩), (.agg ⟨a.cs⟩), (.agg ⟨b.cs⟩)]) (by kernel_rfl) h

/- changeover/changeoverlaw31.AcceptorTells -/
def law31_AcceptorTells (h_ : ApiHard) (m : ApiMsg) (from_ : Int) (K : Bool → World → Prop) (w : World) : Prop :=
  newV (fun b1 w2 =>
  newV (fun b3 w4 =>
  callV Pr Value.bool 13 #[(.agg ⟨[(.int .i64 h_.Promised.Round), (.int .i64 h_.Promised.Node), (.int .i64 h_.Base), h_.Image.val, h_.Accepted.val, h_.Chosen.val]⟩)] w4 fun t5 w6 =>
  kp b3 w4 w6 <|
  kp b1 w4 w6 <|
  ifB t5
  (callV Pr Value.bool 15 #[] w6 fun t7 w8 =>
  kp b3 w6 w8 <|
  kp b1 w6 w8 <|
  K t7 w8)
  (callV Pr Value.bool 7 #[(.agg ⟨[(.int .i64 m.Kind), (.int .i64 m.From), (.int .i64 m.To), (.int .i64 m.Ballot.Round), (.int .i64 m.Ballot.Node), (.int .i64 m.Index), (.int .i64 m.Commit), (.int .i64 m.Version), m.Entries.val, m.Image.val]⟩)] w6 fun t9 w10 =>
  kp b3 w6 w10 <|
  kp b1 w6 w10 <|
  ifB t9
  (callV Pr Value.bool 15 #[] w10 fun t11 w12 =>
  kp b3 w10 w12 <|
  kp b1 w10 w12 <|
  K t11 w12)
  (callV Pr Value.bool 14 #[(.agg ⟨[(.int .i64 h_.Promised.Round), (.int .i64 h_.Promised.Node), (.int .i64 h_.Base), h_.Image.val, h_.Accepted.val, h_.Chosen.val]⟩)] w10 fun t13 w14 =>
  kp b3 w10 w14 <|
  kp b1 w10 w14 <|
  ifB (!t13)
  (callV Pr Value.bool 15 #[] w14 fun t15 w16 =>
  kp b3 w14 w16 <|
  kp b1 w14 w16 <|
  K t15 w16)
  (ifB (decide ((h_.Accepted.len : Int) > 30))
  (callV Pr Value.bool 15 #[] w14 fun t17 w18 =>
  kp b3 w14 w18 <|
  kp b1 w14 w18 <|
  K t17 w18)
  (ifB (m.Kind != 5)
  (callV Pr Value.bool 15 #[] w14 fun t19 w20 =>
  kp b3 w14 w20 <|
  kp b1 w14 w20 <|
  K t19 w20)
  (ifB (decide (from_ < 1))
  (callV Pr Value.bool 15 #[] w14 fun t21 w22 =>
  kp b3 w14 w22 <|
  kp b1 w14 w22 <|
  K t21 w22)
  (ifB (decide (from_ > 4294967296))
  (callV Pr Value.bool 15 #[] w14 fun t23 w24 =>
  kp b3 w14 w24 <|
  kp b1 w14 w24 <|
  K t23 w24)
  (callV Pr (tval3 Sl.val ApiMsg.val (Value.int .i64)) 19 #[(.agg ⟨[(.int .i64 h_.Promised.Round), (.int .i64 h_.Promised.Node), (.int .i64 h_.Base), h_.Image.val, h_.Accepted.val, h_.Chosen.val]⟩), (.int .i64 h_.Base), (.agg ⟨[(.int .i64 m.Kind), (.int .i64 m.From), (.int .i64 m.To), (.int .i64 m.Ballot.Round), (.int .i64 m.Ballot.Node), (.int .i64 m.Index), (.int .i64 m.Commit), (.int .i64 m.Version), m.Entries.val, m.Image.val]⟩)] w14 fun t25 w26 =>
  kp b3 w14 w26 <|
  kp b1 w14 w26 <|
  newV (fun b27 w28 =>
  wrM b27 (fun w29 =>
  ifB (t25.2.2 != 0)
  (callV Pr Value.bool 15 #[] w29 fun t30 w31 =>
  kp b27 w29 w31 <|
  kp b3 w29 w31 <|
  kp b1 w29 w31 <|
  K t30 w31)
  (ifB (t25.2.1.Kind != 6)
  (callV Pr Value.bool 15 #[] w29 fun t32 w33 =>
  kp b27 w29 w33 <|
  kp b3 w29 w33 <|
  kp b1 w29 w33 <|
  K t32 w33)
  (newV (fun b34 w35 =>
  wrM b34 (fun w36 =>
  loop2 (0 : Int) (h_ : ApiHard) (fun i37 next38 k39 w40 =>
  ifB (decide (i37 < (t25.1.len : Int)))
  (heldM (fun S42 w41 =>
  opH Pr S42 (Instr.indexAt 36 t25.1.val (.int .i64 i37)) pav (fun t43 =>
  opH Pr S42 (Instr.loadAt 43 (.pointer (some t43))) ApiRecord.val (fun t44 =>
  (S42 w41) ∧
  (callV Pr ApiHard.val 17 #[(.agg ⟨[(.int .i64 next38.Promised.Round), (.int .i64 next38.Promised.Node), (.int .i64 next38.Base), next38.Image.val, next38.Accepted.val, next38.Chosen.val]⟩), (.agg ⟨t44.cs⟩)] w41 fun t45 w46 =>
  kp b34 w41 w46 <|
  kp b27 w41 w46 <|
  kp b3 w41 w46 <|
  kp b1 w41 w46 <|
  (S42 w46) ∧
  (wrM b34 (fun w47 =>
  (S42 w47) ∧
  (k39 (i64 (i37 + 1)) t45 w47)) w46))))) w40)
  (newV (fun b48 w49 =>
  wrM b48 (fun w50 =>
  callV Pr (tval3 Sl.val ApiMsg.val (Value.int .i64)) 20 #[(.agg ⟨[(.int .i64 next38.Promised.Round), (.int .i64 next38.Promised.Node), (.int .i64 next38.Base), next38.Image.val, next38.Accepted.val, next38.Chosen.val]⟩), (.int .i64 h_.Base), (.agg ⟨[(.int .i64 3), (.int .i64 m.From), (.int .i64 m.To), (.int .i64 (i64 (next38.Promised.Round + 1))), (.int .i64 m.From), (.int .i64 from_), (.int .i64 0), (.int .i64 0), Sl.nil.val, Sl.nil.val]⟩)] w50 fun t51 w52 =>
  kp b48 w50 w52 <|
  kp b34 w50 w52 <|
  kp b27 w50 w52 <|
  kp b3 w50 w52 <|
  kp b1 w50 w52 <|
  newV (fun b53 w54 =>
  wrM b53 (fun w55 =>
  ifB (t51.2.2 != 0)
  (ifB (next38.Promised.Round == 4294967296)
  (callV Pr Value.bool 15 #[] w55 fun t56 w57 =>
  kp b53 w55 w57 <|
  kp b48 w55 w57 <|
  kp b34 w55 w57 <|
  kp b27 w55 w57 <|
  kp b3 w55 w57 <|
  kp b1 w55 w57 <|
  K t56 w57)
  (K false w55))
  (heldM (fun S59 w58 =>
  callV Pr Sl.val 22 #[(.agg ⟨[(.int .i64 next38.Promised.Round), (.int .i64 next38.Promised.Node), (.int .i64 next38.Base), next38.Image.val, next38.Accepted.val, next38.Chosen.val]⟩), (.int .i64 from_), (.int .i64 h_.Base)] w58 fun t60 w61 =>
  kp b53 w58 w61 <|
  kp b48 w58 w61 <|
  kp b34 w58 w61 <|
  kp b27 w58 w61 <|
  kp b3 w58 w61 <|
  kp b1 w58 w61 <|
  (S59 w61) ∧
  (callV Pr Value.bool 21 #[t60.val, t51.2.1.Entries.val] w61 fun t62 w63 =>
  kp b53 w61 w63 <|
  kp b48 w61 w63 <|
  kp b34 w61 w63 <|
  kp b27 w61 w63 <|
  kp b3 w61 w63 <|
  kp b1 w61 w63 <|
  (S59 w63) ∧
  (ifB (!t62)
  (K false w63)
  (heldM (fun S65 w64 =>
  opH Pr S65 (Instr.indexAt 24 m.Entries.val (.int .i64 0)) pav (fun t66 =>
  opH Pr S65 (Instr.loadAt 3 (.pointer (some (t66.add 0)))) (Value.int .i64) (fun t67 =>
  callV Pr (Value.int .i64) 23 #[t51.2.1.Entries.val, (.int .i64 t67)] w64 fun at68 w69 =>
  kp b53 w64 w69 <|
  kp b48 w64 w69 <|
  kp b34 w64 w69 <|
  kp b27 w64 w69 <|
  kp b3 w64 w69 <|
  kp b1 w64 w69 <|
  (S65 w69) ∧
  (drewM (fun w70 =>
  ifB (decide (at68 ≥ 0))
  (opRd Pr (Instr.indexAt 24 t51.2.1.Entries.val (.int .i64 at68)) pav (fun t71 =>
  opRd Pr (Instr.loadAt 50 (.pointer (some t71))) ApiEntry.val (fun t72 =>
  opRd Pr (Instr.indexAt 24 m.Entries.val (.int .i64 0)) pav (fun t73 =>
  opRd Pr (Instr.loadAt 50 (.pointer (some t73))) ApiEntry.val (fun t74 =>
  opRd Pr (binSem .eql 50 (.tmp 134) (.tmp 138) (.agg ⟨t72.cs⟩) (.agg ⟨t74.cs⟩)) Value.bool (fun t75 =>
  heldM (fun S77 w76 =>
  ifB (t51.2.1.Kind == 4)
  (opH Pr S77 (Instr.indexAt 24 m.Entries.val (.int .i64 0)) pav (fun t78 =>
  opH Pr S77 (Instr.loadAt 3 (.pointer (some (t78.add 0)))) (Value.int .i64) (fun t79 =>
  ifB (decide (t79 ≥ from_))
  (opH Pr S77 (Instr.indexAt 24 m.Entries.val (.int .i64 0)) pav (fun t80 =>
  opH Pr S77 (Instr.loadAt 3 (.pointer (some (t80.add 0)))) (Value.int .i64) (fun t81 =>
  ifB (t75 == (decide (t81 > h_.Base)))
  (callV Pr Value.bool 15 #[] w76 fun t82 w83 =>
  kp b53 w76 w83 <|
  kp b48 w76 w83 <|
  kp b34 w76 w83 <|
  kp b27 w76 w83 <|
  kp b3 w76 w83 <|
  kp b1 w76 w83 <|
  (S77 w83) ∧
  (K t82 w83))
  (K false w76))))
  (ifB (t75 == false)
  (callV Pr Value.bool 15 #[] w76 fun t84 w85 =>
  kp b53 w76 w85 <|
  kp b48 w76 w85 <|
  kp b34 w76 w85 <|
  kp b27 w76 w85 <|
  kp b3 w76 w85 <|
  kp b1 w76 w85 <|
  (S77 w85) ∧
  (K t84 w85))
  (K false w76)))))
  (K false w76)) w70) w70) w70) w70) w70) w70)
  (heldM (fun S87 w86 =>
  ifB (t51.2.1.Kind == 4)
  (opH Pr S87 (Instr.indexAt 24 m.Entries.val (.int .i64 0)) pav (fun t88 =>
  opH Pr S87 (Instr.loadAt 3 (.pointer (some (t88.add 0)))) (Value.int .i64) (fun t89 =>
  ifB (decide (t89 ≥ from_))
  (opH Pr S87 (Instr.indexAt 24 m.Entries.val (.int .i64 0)) pav (fun t90 =>
  opH Pr S87 (Instr.loadAt 3 (.pointer (some (t90.add 0)))) (Value.int .i64) (fun t91 =>
  ifB (false == (decide (t91 > h_.Base)))
  (callV Pr Value.bool 15 #[] w86 fun t92 w93 =>
  kp b53 w86 w93 <|
  kp b48 w86 w93 <|
  kp b34 w86 w93 <|
  kp b27 w86 w93 <|
  kp b3 w86 w93 <|
  kp b1 w86 w93 <|
  (S87 w93) ∧
  (K t92 w93))
  (K false w86))))
  (ifB (false == false)
  (callV Pr Value.bool 15 #[] w86 fun t94 w95 =>
  kp b53 w86 w95 <|
  kp b48 w86 w95 <|
  kp b34 w86 w95 <|
  kp b27 w86 w95 <|
  kp b3 w86 w95 <|
  kp b1 w86 w95 <|
  (S87 w95) ∧
  (K t94 w95))
  (K false w86)))))
  (K false w86)) w70)) w69)))) w63)))) w55)) w54) w52) w49) w40)) w36) w35) w29))) w28) w26)))))))) w2) w
def law31_AcceptorTells_ann : Ann := (.s (.r [(0, .nl 3), (1, .nl 4)]) (.s (.s (.r [(1, .call rB), (4, .call rB), (8, .call rB)]) (.c (.s (.r [(0, .call rB)]) .d) .d)) (.s (.r [(4, .call (rT3 rSl rApiMsg (rI .i64))), (9, .nl 8), (11, .ls 8)]) (.s (.s .d (.c (.s (.r [(0, .call rB)]) .d) .d)) (.s (.r [(1, .nl 10), (2, .ls 10)]) (.s (.s .d (.b (.l [(.s 11, (rI .i64)), (.h 10, rApiHard)] (.s (.s .d (.c .d .d)) (.s (.b (.h (.take 1 (.take 2 (.take 3 (.take 4 (.one 0 (.one 5 (.one 6 .done))))))) [(3, .rd rPA), (4, .rd rApiRecord), (5, .call rApiHard), (6, .ls 10)])) .d))))) (.s (.r [(13, .nl 12), (14, .ls 12)]) (.s (.r [(4, .call (rT3 rSl rApiMsg (rI .i64))), (9, .nl 14), (11, .ls 14)]) (.s (.s .d (.c (.s (.r [(5, .call rB)]) .d) .d)) (.s (.s (.h (.take 0 (.take 1 (.take 2 (.take 3 (.take 5 (.take 6 (.one 4 (.one 7 (.take 8 .done))))))))) [(4, .call rSl), (7, .call rB)]) (.c (.s .d .d) .d)) (.s (.h (.take 0 (.take 1 (.take 2 (.take 3 (.take 4 (.take 5 (.take 6 (.one 7 (.take 8 .done))))))))) [(4, .rd rPA), (6, .rd (rI .i64)), (7, .call (rI .i64))]) (.s (.r [(6, .rd rPA), (7, .rd rApiEntry), (10, .rd rPA), (11, .rd rApiEntry), (12, .rd rB)]) (.s (.h (.take 0 (.take 1 (.take 2 (.take 3 (.take 4 (.take 5 (.take 6 (.take 7 (.take 8 (.take 9 (.take 10 (.take 11 (.take 12 (.take 13 (.take 14 (.take 15 (.take 16 (.take 17 (.take 18 (.take 19 (.take 20 (.take 21 (.take 22 (.take 23 (.take 24 (.one 25 (.take 26 (.take 27 .done)))))))))))))))))))))))))))) [(7, .rd rPA), (9, .rd (rI .i64)), (15, .rd rPA), (17, .rd (rI .i64)), (25, .call rB)]) .d)))))))))))))
theorem law31_AcceptorTells_calls {h_ : ApiHard} {m : ApiMsg} {from_ : Int} {K : Bool → World → Prop} {w : World} (h : law31_AcceptorTells h_ m from_ K w) : callV Pr Value.bool 5 #[(.agg ⟨h_.cs⟩), (.agg ⟨m.cs⟩), (.int .i64 from_)] w K :=
  calls_of Pr_plain Pr_mixed Pr_func5 law31_AcceptorTells_ann rB (args := [(.agg ⟨h_.cs⟩), (.agg ⟨m.cs⟩), (.int .i64 from_)]) (by kernel_rfl) h

/- changeover/changeoverlaw13.MsgoneDecodes -/
def law13_MsgoneDecodes (b : Sl) (K : Bool → World → Prop) (w : World) : Prop :=
  ifB (decide ((b.len : Int) > 2000))
  (callV Pr Value.bool 8 #[] w fun t1 w2 =>
  K t1 w2)
  (callV Pr (tval2 ApiMsg.val (Value.int .i64)) 24 #[b.val] w fun t3 w4 =>
  newV (fun b5 w6 =>
  wrM b5 (fun w7 =>
  ifB (t3.2 != 0)
  (callV Pr Value.bool 12 #[(.agg ⟨[(.int .i64 t3.1.Kind), (.int .i64 t3.1.From), (.int .i64 t3.1.To), (.int .i64 t3.1.Ballot.Round), (.int .i64 t3.1.Ballot.Node), (.int .i64 t3.1.Index), (.int .i64 t3.1.Commit), (.int .i64 t3.1.Version), t3.1.Entries.val, t3.1.Image.val]⟩), (.agg ⟨[(.int .i64 0), (.int .i64 0), (.int .i64 0), (.int .i64 0), (.int .i64 0), (.int .i64 0), (.int .i64 0), (.int .i64 0), Sl.nil.val, Sl.nil.val]⟩)] w7 fun t8 w9 =>
  kp b5 w7 w9 <|
  ifB t8
  (callV Pr Value.bool 8 #[] w9 fun t10 w11 =>
  kp b5 w9 w11 <|
  K t10 w11)
  (K false w9))
  (callV Pr (Value.int .i64) 25 #[(.agg ⟨[(.int .i64 t3.1.Kind), (.int .i64 t3.1.From), (.int .i64 t3.1.To), (.int .i64 t3.1.Ballot.Round), (.int .i64 t3.1.Ballot.Node), (.int .i64 t3.1.Index), (.int .i64 t3.1.Commit), (.int .i64 t3.1.Version), t3.1.Entries.val, t3.1.Image.val]⟩)] w7 fun t12 w13 =>
  kp b5 w7 w13 <|
  ifB (t12 == 0)
  (callV Pr Sl.val 27 #[(.agg ⟨[(.int .i64 t3.1.Kind), (.int .i64 t3.1.From), (.int .i64 t3.1.To), (.int .i64 t3.1.Ballot.Round), (.int .i64 t3.1.Ballot.Node), (.int .i64 t3.1.Index), (.int .i64 t3.1.Commit), (.int .i64 t3.1.Version), t3.1.Entries.val, t3.1.Image.val]⟩)] w13 fun t14 w15 =>
  kp b5 w13 w15 <|
  callV Pr Value.bool 26 #[t14.val, b.val] w15 fun t16 w17 =>
  kp b5 w15 w17 <|
  ifB t16
  (callV Pr Value.bool 8 #[] w17 fun t18 w19 =>
  kp b5 w17 w19 <|
  K t18 w19)
  (K false w17))
  (K false w13))) w6) w4)
def law13_MsgoneDecodes_ann : Ann := (.s .d (.s (.s .d (.c (.s (.r [(0, .call rB)]) .d) .d)) (.s (.r [(1, .call (rT2 rApiMsg (rI .i64))), (5, .nl 3), (6, .ls 3)]) (.s (.s .d (.c (.s (.r [(2, .call rB), (4, .call rB)]) .d) .d)) (.s (.r [(1, .call (rI .i64)), (5, .call rSl), (7, .call rB), (10, .call rB)]) .d)))))
theorem law13_MsgoneDecodes_calls {b : Sl} {K : Bool → World → Prop} {w : World} (h : law13_MsgoneDecodes b K w) : callV Pr Value.bool 6 #[b.val] w K :=
  calls_of Pr_plain Pr_mixed Pr_func6 law13_MsgoneDecodes_ann rB (args := [b.val]) (by kernel_rfl) h

/- changeover/changeoverref13.Large -/
def ref13_Large (m : ApiMsg) (K : Bool → World → Prop) (w : World) : Prop :=
  newV (fun b1 w2 =>
  callV Pr Value.bool 28 #[m.Entries.val] w2 fun t3 w4 =>
  kp b1 w2 w4 <|
  ifB t3
  (K true w4)
  (ifB (decide ((m.Image.len : Int) > 300))
  (ifB (decide ((m.Image.len : Int) < 32760))
  (K true w4)
  (K (decide ((m.Image.len : Int) > 32780)) w4))
  (K (decide ((m.Image.len : Int) > 32780)) w4))) w
def ref13_Large_ann : Ann := (.s (.r [(0, .nl 1)]) (.s (.r [(2, .call rB)]) .d))
theorem ref13_Large_calls {m : ApiMsg} {K : Bool → World → Prop} {w : World} (h : ref13_Large m K w) : callV Pr Value.bool 7 #[(.agg ⟨m.cs⟩)] w K :=
  calls_of Pr_plain Pr_mixed Pr_func7 ref13_Large_ann rB (args := [(.agg ⟨m.cs⟩)]) (by kernel_rfl) h

/- changeover/changeoverlaw13.awake -/
def law13_awake (K : Bool → World → Prop) (w : World) : Prop :=
  callV Pr (tval2 Sl.val (Value.int .i64)) 29 #[(.agg ⟨[(.int .i64 9), (.int .i64 1), (.int .i64 2), (.int .i64 0), (.int .i64 0), (.int .i64 3), (.int .i64 0), (.int .i64 0), Sl.nil.val, Sl.nil.val]⟩)] w fun t1 w2 =>
  ifB (t1.2 == 0)
  (ifB ((t1.1.len : Int) == 9)
  (opRd Pr (Instr.indexAt 25 t1.1.val (.int .i64 0)) pav (fun t3 =>
  opRd Pr (Instr.loadAt 5 (.pointer (some t3))) (Value.int .u8) (fun t4 =>
  ifB (t4 == 9)
  (opRd Pr (Instr.indexAt 25 t1.1.val (.int .i64 5)) pav (fun t5 =>
  opRd Pr (Instr.loadAt 5 (.pointer (some t5))) (Value.int .u8) (fun t6 =>
  K (t6 == 3) w2) w2) w2)
  (K false w2)) w2) w2)
  (K false w2))
  (K false w2)
def law13_awake_ann : Ann := (.s .d (.s (.r [(1, .call (rT2 rSl (rI .i64)))]) (.s (.r [(9, .rd rPA), (10, .rd (rI .u8)), (15, .rd rPA), (16, .rd (rI .u8))]) .d)))
theorem law13_awake_calls {K : Bool → World → Prop} {w : World} (h : law13_awake K w) : callV Pr Value.bool 8 #[] w K :=
  calls_of Pr_plain Pr_mixed Pr_func8 law13_awake_ann rB (args := []) (by kernel_rfl) h

/- changeover/msgone.Check -/
def msgone_Check (m : ApiMsg) (K : Int → World → Prop) (w : World) : Prop :=
  newV (fun b1 w2 =>
  callV Pr (Value.int .i64) 30 #[(.int .i64 m.Kind)] w2 fun f3 w4 =>
  kp b1 w2 w4 <|
  join0 (fun (j5 : World → Prop) =>
  ifB (f3 == 0)
  (K 5 w4)
  (callV Pr Value.bool 31 #[(.agg ⟨[(.int .i64 m.Kind), (.int .i64 m.From), (.int .i64 m.To), (.int .i64 m.Ballot.Round), (.int .i64 m.Ballot.Node), (.int .i64 m.Index), (.int .i64 m.Commit), (.int .i64 m.Version), m.Entries.val, m.Image.val]⟩), (.int .i64 f3)] w4 fun t6 w7 =>
  kp b1 w4 w7 <|
  ifB (!t6)
  (K 6 w7)
  (ifB ((bAnd .i64 f3 16) != 0)
  (ifB (decide ((m.Entries.len : Int) > 256))
  (ifB (decide ((m.Entries.len : Int) > 256))
  (K 2 w7)
  (j5 w7))
  (ifB ((bAnd .i64 f3 32) != 0)
  (ifB (decide ((m.Image.len : Int) > 32768))
  (K 2 w7)
  (j5 w7))
  (j5 w7)))
  (ifB ((bAnd .i64 f3 32) != 0)
  (ifB (decide ((m.Image.len : Int) > 32768))
  (K 2 w7)
  (j5 w7))
  (j5 w7)))))
  (fun w8 =>
  join0 (fun (j9 : World → Prop) =>
  ifB ((bAnd .i64 f3 16) != 0)
  (callV Pr (Value.int .i64) 32 #[m.Entries.val] w8 fun e10 w11 =>
  kp b1 w8 w11 <|
  ifB (e10 != 0)
  (K e10 w11)
  (j9 w11))
  (j9 w8))
  (fun w12 =>
  callV Pr Value.bool 33 #[(.agg ⟨[(.int .i64 m.Kind), (.int .i64 m.From), (.int .i64 m.To), (.int .i64 m.Ballot.Round), (.int .i64 m.Ballot.Node), (.int .i64 m.Index), (.int .i64 m.Commit), (.int .i64 m.Version), m.Entries.val, m.Image.val]⟩), (.int .i64 f3)] w12 fun t13 w14 =>
  kp b1 w12 w14 <|
  ifB t13
  (K 3 w14)
  (ifB (m.Kind == 5)
  (callV Pr Value.bool 34 #[(.agg ⟨[(.int .i64 m.Kind), (.int .i64 m.From), (.int .i64 m.To), (.int .i64 m.Ballot.Round), (.int .i64 m.Ballot.Node), (.int .i64 m.Index), (.int .i64 m.Commit), (.int .i64 m.Version), m.Entries.val, m.Image.val]⟩)] w14 fun t15 w16 =>
  kp b1 w14 w16 <|
  ifB (!t15)
  (K 3 w16)
  (ifB (m.Kind == 11)
  (ifB ((m.Image.len : Int) == 0)
  (K 3 w16)
  (K 0 w16))
  (K 0 w16)))
  (ifB (m.Kind == 11)
  (ifB ((m.Image.len : Int) == 0)
  (K 3 w14)
  (K 0 w14))
  (K 0 w14)))))) w
def msgone_Check_ann : Ann := (.s (.r [(0, .nl 1)]) (.s (.r [(2, .call (rI .i64))]) (.sj [] (.b (.s .d (.c (.s .d .d) (.s (.r [(2, .call rB)]) (.c (.s .d .d) (.s (.s .d (.c .d .d)) (.c (.s .d .d) .d))))))) (.sj [] (.s .d (.c (.s (.r [(2, .call (rI .i64))]) (.s .d (.c (.s .d .d) .d))) .d)) (.s (.s (.r [(2, .call rB), (9, .call rB)]) (.c (.s .d .d) .d)) (.s .d .d))))))
theorem msgone_Check_calls {m : ApiMsg} {K : Int → World → Prop} {w : World} (h : msgone_Check m K w) : callV Pr (Value.int .i64) 9 #[(.agg ⟨m.cs⟩)] w K :=
  calls_of Pr_plain Pr_mixed Pr_func9 msgone_Check_ann (rI .i64) (args := [(.agg ⟨m.cs⟩)]) (by kernel_rfl) h

/- changeover/changeoverref13.Check -/
def ref13_Check (m : ApiMsg) (K : Int → World → Prop) (w : World) : Prop :=
  newV (fun b1 w2 =>
  callV Pr sval 35 #[(.int .i64 m.Kind)] w2 fun t3 w4 =>
  kp b1 w2 w4 <|
  ifB (strEq t3 [])
  (K 5 w4)
  (ifB (decide (m.From < 1))
  (K 6 w4)
  (ifB (decide (m.From > 9))
  (K 6 w4)
  (ifB (decide (m.To < 1))
  (K 6 w4)
  (ifB (decide (m.To > 9))
  (K 6 w4)
  (ifB (m.From == m.To)
  (K 6 w4)
  (join0 (fun (j5 : World → Prop) =>
  callV Pr Value.bool 36 #[(.int .i64 m.Kind), (.int .u8 98)] w4 fun t6 w7 =>
  kp b1 w4 w7 <|
  ifB t6
  (callV Pr Value.bool 37 #[(.agg ⟨[(.int .i64 m.Ballot.Round), (.int .i64 m.Ballot.Node)]⟩)] w7 fun t8 w9 =>
  kp b1 w7 w9 <|
  ifB (!t8)
  (K 6 w9)
  (callV Pr Value.bool 36 #[(.int .i64 m.Kind), (.int .u8 105)] w9 fun t10 w11 =>
  kp b1 w9 w11 <|
  ifB t10
  (ifB (decide (m.Index < 1))
  (K 6 w11)
  (ifB (decide (m.Index > 4294967296))
  (K 6 w11)
  (callV Pr Value.bool 36 #[(.int .i64 m.Kind), (.int .u8 99)] w11 fun t12 w13 =>
  kp b1 w11 w13 <|
  ifB t12
  (ifB (decide (m.Commit < 0))
  (K 6 w13)
  (ifB (decide (m.Commit > 4294967296))
  (K 6 w13)
  (callV Pr Value.bool 36 #[(.int .i64 m.Kind), (.int .u8 118)] w13 fun t14 w15 =>
  kp b1 w13 w15 <|
  ifB t14
  (ifB (m.Version != 1)
  (ifB (m.Version != 2)
  (K 6 w15)
  (j5 w15))
  (j5 w15))
  (j5 w15))))
  (callV Pr Value.bool 36 #[(.int .i64 m.Kind), (.int .u8 118)] w13 fun t16 w17 =>
  kp b1 w13 w17 <|
  ifB t16
  (ifB (m.Version != 1)
  (ifB (m.Version != 2)
  (K 6 w17)
  (j5 w17))
  (j5 w17))
  (j5 w17)))))
  (callV Pr Value.bool 36 #[(.int .i64 m.Kind), (.int .u8 99)] w11 fun t18 w19 =>
  kp b1 w11 w19 <|
  ifB t18
  (ifB (decide (m.Commit < 0))
  (K 6 w19)
  (ifB (decide (m.Commit > 4294967296))
  (K 6 w19)
  (callV Pr Value.bool 36 #[(.int .i64 m.Kind), (.int .u8 118)] w19 fun t20 w21 =>
  kp b1 w19 w21 <|
  ifB t20
  (ifB (m.Version != 1)
  (ifB (m.Version != 2)
  (K 6 w21)
  (j5 w21))
  (j5 w21))
  (j5 w21))))
  (callV Pr Value.bool 36 #[(.int .i64 m.Kind), (.int .u8 118)] w19 fun t22 w23 =>
  kp b1 w19 w23 <|
  ifB t22
  (ifB (m.Version != 1)
  (ifB (m.Version != 2)
  (K 6 w23)
  (j5 w23))
  (j5 w23))
  (j5 w23)))))
  (callV Pr Value.bool 36 #[(.int .i64 m.Kind), (.int .u8 105)] w7 fun t24 w25 =>
  kp b1 w7 w25 <|
  ifB t24
  (ifB (decide (m.Index < 1))
  (K 6 w25)
  (ifB (decide (m.Index > 4294967296))
  (K 6 w25)
  (callV Pr Value.bool 36 #[(.int .i64 m.Kind), (.int .u8 99)] w25 fun t26 w27 =>
  kp b1 w25 w27 <|
  ifB t26
  (ifB (decide (m.Commit < 0))
  (K 6 w27)
  (ifB (decide (m.Commit > 4294967296))
  (K 6 w27)
  (callV Pr Value.bool 36 #[(.int .i64 m.Kind), (.int .u8 118)] w27 fun t28 w29 =>
  kp b1 w27 w29 <|
  ifB t28
  (ifB (m.Version != 1)
  (ifB (m.Version != 2)
  (K 6 w29)
  (j5 w29))
  (j5 w29))
  (j5 w29))))
  (callV Pr Value.bool 36 #[(.int .i64 m.Kind), (.int .u8 118)] w27 fun t30 w31 =>
  kp b1 w27 w31 <|
  ifB t30
  (ifB (m.Version != 1)
  (ifB (m.Version != 2)
  (K 6 w31)
  (j5 w31))
  (j5 w31))
  (j5 w31)))))
  (callV Pr Value.bool 36 #[(.int .i64 m.Kind), (.int .u8 99)] w25 fun t32 w33 =>
  kp b1 w25 w33 <|
  ifB t32
  (ifB (decide (m.Commit < 0))
  (K 6 w33)
  (ifB (decide (m.Commit > 4294967296))
  (K 6 w33)
  (callV Pr Value.bool 36 #[(.int .i64 m.Kind), (.int .u8 118)] w33 fun t34 w35 =>
  kp b1 w33 w35 <|
  ifB t34
  (ifB (m.Version != 1)
  (ifB (m.Version != 2)
  (K 6 w35)
  (j5 w35))
  (j5 w35))
  (j5 w35))))
  (callV Pr Value.bool 36 #[(.int .i64 m.Kind), (.int .u8 118)] w33 fun t36 w37 =>
  kp b1 w33 w37 <|
  ifB t36
  (ifB (m.Version != 1)
  (ifB (m.Version != 2)
  (K 6 w37)
  (j5 w37))
  (j5 w37))
  (j5 w37)))))
  (fun w38 =>
  join0 (fun (j39 : World → Prop) =>
  callV Pr Value.bool 36 #[(.int .i64 m.Kind), (.int .u8 101)] w38 fun t40 w41 =>
  kp b1 w38 w41 <|
  ifB t40
  (ifB (decide ((m.Entries.len : Int) > 256))
  (K 2 w41)
  (callV Pr Value.bool 36 #[(.int .i64 m.Kind), (.int .u8 109)] w41 fun t42 w43 =>
  kp b1 w41 w43 <|
  ifB t42
  (ifB (decide ((m.Image.len : Int) > 32768))
  (K 2 w43)
  (j39 w43))
  (j39 w43)))
  (callV Pr Value.bool 36 #[(.int .i64 m.Kind), (.int .u8 109)] w41 fun t44 w45 =>
  kp b1 w41 w45 <|
  ifB t44
  (ifB (decide ((m.Image.len : Int) > 32768))
  (K 2 w45)
  (j39 w45))
  (j39 w45)))
  (fun w46 =>
  join0 (fun (j47 : World → Prop) =>
  callV Pr Value.bool 36 #[(.int .i64 m.Kind), (.int .u8 101)] w46 fun t48 w49 =>
  kp b1 w46 w49 <|
  ifB t48
  (callV Pr (Value.int .i64) 38 #[m.Entries.val] w49 fun e50 w51 =>
  kp b1 w49 w51 <|
  ifB (e50 != 0)
  (K e50 w51)
  (j47 w51))
  (j47 w49))
  (fun w52 =>
  join0 (fun (j53 : World → Prop) =>
  heldM (fun S55 w54 =>
  callV Pr Value.bool 36 #[(.int .i64 m.Kind), (.int .u8 98)] w54 fun t56 w57 =>
  kp b1 w54 w57 <|
  (S55 w57) ∧
  (ifB (!t56)
  (ifB (m.Ballot.Round != 0)
  (K 3 w57)
  (ifB (m.Ballot.Node != 0)
  (K 3 w57)
  (callV Pr Value.bool 36 #[(.int .i64 m.Kind), (.int .u8 105)] w57 fun t58 w59 =>
  kp b1 w57 w59 <|
  (S55 w59) ∧
  (ifB (!t58)
  (ifB (m.Index != 0)
  (K 3 w59)
  (callV Pr Value.bool 36 #[(.int .i64 m.Kind), (.int .u8 99)] w59 fun t60 w61 =>
  kp b1 w59 w61 <|
  (S55 w61) ∧
  (ifB (!t60)
  (ifB (m.Commit != 0)
  (K 3 w61)
  (callV Pr Value.bool 36 #[(.int .i64 m.Kind), (.int .u8 118)] w61 fun t62 w63 =>
  kp b1 w61 w63 <|
  (S55 w63) ∧
  (ifB (!t62)
  (ifB (m.Version != 0)
  (K 3 w63)
  (callV Pr Value.bool 36 #[(.int .i64 m.Kind), (.int .u8 101)] w63 fun t64 w65 =>
  kp b1 w63 w65 <|
  (S55 w65) ∧
  (ifB (!t64)
  (ifB (decide ((m.Entries.len : Int) > 0))
  (K 3 w65)
  (callV Pr Value.bool 36 #[(.int .i64 m.Kind), (.int .u8 109)] w65 fun t66 w67 =>
  kp b1 w65 w67 <|
  (S55 w67) ∧
  (ifB (!(t66 == (decide ((m.Image.len : Int) > 0))))
  (K 3 w67)
  (j53 w67))))
  (callV Pr Value.bool 36 #[(.int .i64 m.Kind), (.int .u8 109)] w65 fun t68 w69 =>
  kp b1 w65 w69 <|
  (S55 w69) ∧
  (ifB (!(t68 == (decide ((m.Image.len : Int) > 0))))
  (K 3 w69)
  (j53 w69))))))
  (callV Pr Value.bool 36 #[(.int .i64 m.Kind), (.int .u8 101)] w63 fun t70 w71 =>
  kp b1 w63 w71 <|
  (S55 w71) ∧
  (ifB (!t70)
  (ifB (decide ((m.Entries.len : Int) > 0))
  (K 3 w71)
  (callV Pr Value.bool 36 #[(.int .i64 m.Kind), (.int .u8 109)] w71 fun t72 w73 =>
  kp b1 w71 w73 <|
  (S55 w73) ∧
  (ifB (!(t72 == (decide ((m.Image.len : Int) > 0))))
  (K 3 w73)
  (j53 w73))))
  (callV Pr Value.bool 36 #[(.int .i64 m.Kind), (.int .u8 109)] w71 fun t74 w75 =>
  kp b1 w71 w75 <|
  (S55 w75) ∧
  (ifB (!(t74 == (decide ((m.Image.len : Int) > 0))))
  (K 3 w75)
  (j53 w75))))))))
  (callV Pr Value.bool 36 #[(.int .i64 m.Kind), (.int .u8 118)] w61 fun t76 w77 =>
  kp b1 w61 w77 <|
  (S55 w77) ∧
  (ifB (!t76)
  (ifB (m.Version != 0)
  (K 3 w77)
  (callV Pr Value.bool 36 #[(.int .i64 m.Kind), (.int .u8 101)] w77 fun t78 w79 =>
  kp b1 w77 w79 <|
  (S55 w79) ∧
  (ifB (!t78)
  (ifB (decide ((m.Entries.len : Int) > 0))
  (K 3 w79)
  (callV Pr Value.bool 36 #[(.int .i64 m.Kind), (.int .u8 109)] w79 fun t80 w81 =>
  kp b1 w79 w81 <|
  (S55 w81) ∧
  (ifB (!(t80 == (decide ((m.Image.len : Int) > 0))))
  (K 3 w81)
  (j53 w81))))
  (callV Pr Value.bool 36 #[(.int .i64 m.Kind), (.int .u8 109)] w79 fun t82 w83 =>
  kp b1 w79 w83 <|
  (S55 w83) ∧
  (ifB (!(t82 == (decide ((m.Image.len : Int) > 0))))
  (K 3 w83)
  (j53 w83))))))
  (callV Pr Value.bool 36 #[(.int .i64 m.Kind), (.int .u8 101)] w77 fun t84 w85 =>
  kp b1 w77 w85 <|
  (S55 w85) ∧
  (ifB (!t84)
  (ifB (decide ((m.Entries.len : Int) > 0))
  (K 3 w85)
  (callV Pr Value.bool 36 #[(.int .i64 m.Kind), (.int .u8 109)] w85 fun t86 w87 =>
  kp b1 w85 w87 <|
  (S55 w87) ∧
  (ifB (!(t86 == (decide ((m.Image.len : Int) > 0))))
  (K 3 w87)
  (j53 w87))))
  (callV Pr Value.bool 36 #[(.int .i64 m.Kind), (.int .u8 109)] w85 fun t88 w89 =>
  kp b1 w85 w89 <|
  (S55 w89) ∧
  (ifB (!(t88 == (decide ((m.Image.len : Int) > 0))))
  (K 3 w89)
  (j53 w89))))))))))
  (callV Pr Value.bool 36 #[(.int .i64 m.Kind), (.int .u8 99)] w59 fun t90 w91 =>
  kp b1 w59 w91 <|
  (S55 w91) ∧
  (ifB (!t90)
  (ifB (m.Commit != 0)
  (K 3 w91)
  (callV Pr Value.bool 36 #[(.int .i64 m.Kind), (.int .u8 118)] w91 fun t92 w93 =>
  kp b1 w91 w93 <|
  (S55 w93) ∧
  (ifB (!t92)
  (ifB (m.Version != 0)
  (K 3 w93)
  (callV Pr Value.bool 36 #[(.int .i64 m.Kind), (.int .u8 101)] w93 fun t94 w95 =>
  kp b1 w93 w95 <|
  (S55 w95) ∧
  (ifB (!t94)
  (ifB (decide ((m.Entries.len : Int) > 0))
  (K 3 w95)
  (callV Pr Value.bool 36 #[(.int .i64 m.Kind), (.int .u8 109)] w95 fun t96 w97 =>
  kp b1 w95 w97 <|
  (S55 w97) ∧
  (ifB (!(t96 == (decide ((m.Image.len : Int) > 0))))
  (K 3 w97)
  (j53 w97))))
  (callV Pr Value.bool 36 #[(.int .i64 m.Kind), (.int .u8 109)] w95 fun t98 w99 =>
  kp b1 w95 w99 <|
  (S55 w99) ∧
  (ifB (!(t98 == (decide ((m.Image.len : Int) > 0))))
  (K 3 w99)
  (j53 w99))))))
  (callV Pr Value.bool 36 #[(.int .i64 m.Kind), (.int .u8 101)] w93 fun t100 w101 =>
  kp b1 w93 w101 <|
  (S55 w101) ∧
  (ifB (!t100)
  (ifB (decide ((m.Entries.len : Int) > 0))
  (K 3 w101)
  (callV Pr Value.bool 36 #[(.int .i64 m.Kind), (.int .u8 109)] w101 fun t102 w103 =>
  kp b1 w101 w103 <|
  (S55 w103) ∧
  (ifB (!(t102 == (decide ((m.Image.len : Int) > 0))))
  (K 3 w103)
  (j53 w103))))
  (callV Pr Value.bool 36 #[(.int .i64 m.Kind), (.int .u8 109)] w101 fun t104 w105 =>
  kp b1 w101 w105 <|
  (S55 w105) ∧
  (ifB (!(t104 == (decide ((m.Image.len : Int) > 0))))
  (K 3 w105)
  (j53 w105))))))))
  (callV Pr Value.bool 36 #[(.int .i64 m.Kind), (.int .u8 118)] w91 fun t106 w107 =>
  kp b1 w91 w107 <|
  (S55 w107) ∧
  (ifB (!t106)
  (ifB (m.Version != 0)
  (K 3 w107)
  (callV Pr Value.bool 36 #[(.int .i64 m.Kind), (.int .u8 101)] w107 fun t108 w109 =>
  kp b1 w107 w109 <|
  (S55 w109) ∧
  (ifB (!t108)
  (ifB (decide ((m.Entries.len : Int) > 0))
  (K 3 w109)
  (callV Pr Value.bool 36 #[(.int .i64 m.Kind), (.int .u8 109)] w109 fun t110 w111 =>
  kp b1 w109 w111 <|
  (S55 w111) ∧
  (ifB (!(t110 == (decide ((m.Image.len : Int) > 0))))
  (K 3 w111)
  (j53 w111))))
  (callV Pr Value.bool 36 #[(.int .i64 m.Kind), (.int .u8 109)] w109 fun t112 w113 =>
  kp b1 w109 w113 <|
  (S55 w113) ∧
  (ifB (!(t112 == (decide ((m.Image.len : Int) > 0))))
  (K 3 w113)
  (j53 w113))))))
  (callV Pr Value.bool 36 #[(.int .i64 m.Kind), (.int .u8 101)] w107 fun t114 w115 =>
  kp b1 w107 w115 <|
  (S55 w115) ∧
  (ifB (!t114)
  (ifB (decide ((m.Entries.len : Int) > 0))
  (K 3 w115)
  (callV Pr Value.bool 36 #[(.int .i64 m.Kind), (.int .u8 109)] w115 fun t116 w117 =>
  kp b1 w115 w117 <|
  (S55 w117) ∧
  (ifB (!(t116 == (decide ((m.Image.len : Int) > 0))))
  (K 3 w117)
  (j53 w117))))
  (callV Pr Value.bool 36 #[(.int .i64 m.Kind), (.int .u8 109)] w115 fun t118 w119 =>
  kp b1 w115 w119 <|
  (S55 w119) ∧
  (ifB (!(t118 == (decide ((m.Image.len : Int) > 0))))
  (K 3 w119)
  (j53 w119)))))))))))))
  (callV Pr Value.bool 36 #[(.int .i64 m.Kind), (.int .u8 105)] w57 fun t120 w121 =>
  kp b1 w57 w121 <|
  (S55 w121) ∧
  (ifB (!t120)
  (ifB (m.Index != 0)
  (K 3 w121)
  (callV Pr Value.bool 36 #[(.int .i64 m.Kind), (.int .u8 99)] w121 fun t122 w123 =>
  kp b1 w121 w123 <|
  (S55 w123) ∧
  (ifB (!t122)
  (ifB (m.Commit != 0)
  (K 3 w123)
  (callV Pr Value.bool 36 #[(.int .i64 m.Kind), (.int .u8 118)] w123 fun t124 w125 =>
  kp b1 w123 w125 <|
  (S55 w125) ∧
  (ifB (!t124)
  (ifB (m.Version != 0)
  (K 3 w125)
  (callV Pr Value.bool 36 #[(.int .i64 m.Kind), (.int .u8 101)] w125 fun t126 w127 =>
  kp b1 w125 w127 <|
  (S55 w127) ∧
  (ifB (!t126)
  (ifB (decide ((m.Entries.len : Int) > 0))
  (K 3 w127)
  (callV Pr Value.bool 36 #[(.int .i64 m.Kind), (.int .u8 109)] w127 fun t128 w129 =>
  kp b1 w127 w129 <|
  (S55 w129) ∧
  (ifB (!(t128 == (decide ((m.Image.len : Int) > 0))))
  (K 3 w129)
  (j53 w129))))
  (callV Pr Value.bool 36 #[(.int .i64 m.Kind), (.int .u8 109)] w127 fun t130 w131 =>
  kp b1 w127 w131 <|
  (S55 w131) ∧
  (ifB (!(t130 == (decide ((m.Image.len : Int) > 0))))
  (K 3 w131)
  (j53 w131))))))
  (callV Pr Value.bool 36 #[(.int .i64 m.Kind), (.int .u8 101)] w125 fun t132 w133 =>
  kp b1 w125 w133 <|
  (S55 w133) ∧
  (ifB (!t132)
  (ifB (decide ((m.Entries.len : Int) > 0))
  (K 3 w133)
  (callV Pr Value.bool 36 #[(.int .i64 m.Kind), (.int .u8 109)] w133 fun t134 w135 =>
  kp b1 w133 w135 <|
  (S55 w135) ∧
  (ifB (!(t134 == (decide ((m.Image.len : Int) > 0))))
  (K 3 w135)
  (j53 w135))))
  (callV Pr Value.bool 36 #[(.int .i64 m.Kind), (.int .u8 109)] w133 fun t136 w137 =>
  kp b1 w133 w137 <|
  (S55 w137) ∧
  (ifB (!(t136 == (decide ((m.Image.len : Int) > 0))))
  (K 3 w137)
  (j53 w137))))))))
  (callV Pr Value.bool 36 #[(.int .i64 m.Kind), (.int .u8 118)] w123 fun t138 w139 =>
  kp b1 w123 w139 <|
  (S55 w139) ∧
  (ifB (!t138)
  (ifB (m.Version != 0)
  (K 3 w139)
  (callV Pr Value.bool 36 #[(.int .i64 m.Kind), (.int .u8 101)] w139 fun t140 w141 =>
  kp b1 w139 w141 <|
  (S55 w141) ∧
  (ifB (!t140)
  (ifB (decide ((m.Entries.len : Int) > 0))
  (K 3 w141)
  (callV Pr Value.bool 36 #[(.int .i64 m.Kind), (.int .u8 109)] w141 fun t142 w143 =>
  kp b1 w141 w143 <|
  (S55 w143) ∧
  (ifB (!(t142 == (decide ((m.Image.len : Int) > 0))))
  (K 3 w143)
  (j53 w143))))
  (callV Pr Value.bool 36 #[(.int .i64 m.Kind), (.int .u8 109)] w141 fun t144 w145 =>
  kp b1 w141 w145 <|
  (S55 w145) ∧
  (ifB (!(t144 == (decide ((m.Image.len : Int) > 0))))
  (K 3 w145)
  (j53 w145))))))
  (callV Pr Value.bool 36 #[(.int .i64 m.Kind), (.int .u8 101)] w139 fun t146 w147 =>
  kp b1 w139 w147 <|
  (S55 w147) ∧
  (ifB (!t146)
  (ifB (decide ((m.Entries.len : Int) > 0))
  (K 3 w147)
  (callV Pr Value.bool 36 #[(.int .i64 m.Kind), (.int .u8 109)] w147 fun t148 w149 =>
  kp b1 w147 w149 <|
  (S55 w149) ∧
  (ifB (!(t148 == (decide ((m.Image.len : Int) > 0))))
  (K 3 w149)
  (j53 w149))))
  (callV Pr Value.bool 36 #[(.int .i64 m.Kind), (.int .u8 109)] w147 fun t150 w151 =>
  kp b1 w147 w151 <|
  (S55 w151) ∧
  (ifB (!(t150 == (decide ((m.Image.len : Int) > 0))))
  (K 3 w151)
  (j53 w151))))))))))
  (callV Pr Value.bool 36 #[(.int .i64 m.Kind), (.int .u8 99)] w121 fun t152 w153 =>
  kp b1 w121 w153 <|
  (S55 w153) ∧
  (ifB (!t152)
  (ifB (m.Commit != 0)
  (K 3 w153)
  (callV Pr Value.bool 36 #[(.int .i64 m.Kind), (.int .u8 118)] w153 fun t154 w155 =>
  kp b1 w153 w155 <|
  (S55 w155) ∧
  (ifB (!t154)
  (ifB (m.Version != 0)
  (K 3 w155)
  (callV Pr Value.bool 36 #[(.int .i64 m.Kind), (.int .u8 101)] w155 fun t156 w157 =>
  kp b1 w155 w157 <|
  (S55 w157) ∧
  (ifB (!t156)
  (ifB (decide ((m.Entries.len : Int) > 0))
  (K 3 w157)
  (callV Pr Value.bool 36 #[(.int .i64 m.Kind), (.int .u8 109)] w157 fun t158 w159 =>
  kp b1 w157 w159 <|
  (S55 w159) ∧
  (ifB (!(t158 == (decide ((m.Image.len : Int) > 0))))
  (K 3 w159)
  (j53 w159))))
  (callV Pr Value.bool 36 #[(.int .i64 m.Kind), (.int .u8 109)] w157 fun t160 w161 =>
  kp b1 w157 w161 <|
  (S55 w161) ∧
  (ifB (!(t160 == (decide ((m.Image.len : Int) > 0))))
  (K 3 w161)
  (j53 w161))))))
  (callV Pr Value.bool 36 #[(.int .i64 m.Kind), (.int .u8 101)] w155 fun t162 w163 =>
  kp b1 w155 w163 <|
  (S55 w163) ∧
  (ifB (!t162)
  (ifB (decide ((m.Entries.len : Int) > 0))
  (K 3 w163)
  (callV Pr Value.bool 36 #[(.int .i64 m.Kind), (.int .u8 109)] w163 fun t164 w165 =>
  kp b1 w163 w165 <|
  (S55 w165) ∧
  (ifB (!(t164 == (decide ((m.Image.len : Int) > 0))))
  (K 3 w165)
  (j53 w165))))
  (callV Pr Value.bool 36 #[(.int .i64 m.Kind), (.int .u8 109)] w163 fun t166 w167 =>
  kp b1 w163 w167 <|
  (S55 w167) ∧
  (ifB (!(t166 == (decide ((m.Image.len : Int) > 0))))
  (K 3 w167)
  (j53 w167))))))))
  (callV Pr Value.bool 36 #[(.int .i64 m.Kind), (.int .u8 118)] w153 fun t168 w169 =>
  kp b1 w153 w169 <|
  (S55 w169) ∧
  (ifB (!t168)
  (ifB (m.Version != 0)
  (K 3 w169)
  (callV Pr Value.bool 36 #[(.int .i64 m.Kind), (.int .u8 101)] w169 fun t170 w171 =>
  kp b1 w169 w171 <|
  (S55 w171) ∧
  (ifB (!t170)
  (ifB (decide ((m.Entries.len : Int) > 0))
  (K 3 w171)
  (callV Pr Value.bool 36 #[(.int .i64 m.Kind), (.int .u8 109)] w171 fun t172 w173 =>
  kp b1 w171 w173 <|
  (S55 w173) ∧
  (ifB (!(t172 == (decide ((m.Image.len : Int) > 0))))
  (K 3 w173)
  (j53 w173))))
  (callV Pr Value.bool 36 #[(.int .i64 m.Kind), (.int .u8 109)] w171 fun t174 w175 =>
  kp b1 w171 w175 <|
  (S55 w175) ∧
  (ifB (!(t174 == (decide ((m.Image.len : Int) > 0))))
  (K 3 w175)
  (j53 w175))))))
  (callV Pr Value.bool 36 #[(.int .i64 m.Kind), (.int .u8 101)] w169 fun t176 w177 =>
  kp b1 w169 w177 <|
  (S55 w177) ∧
  (ifB (!t176)
  (ifB (decide ((m.Entries.len : Int) > 0))
  (K 3 w177)
  (callV Pr Value.bool 36 #[(.int .i64 m.Kind), (.int .u8 109)] w177 fun t178 w179 =>
  kp b1 w177 w179 <|
  (S55 w179) ∧
  (ifB (!(t178 == (decide ((m.Image.len : Int) > 0))))
  (K 3 w179)
  (j53 w179))))
  (callV Pr Value.bool 36 #[(.int .i64 m.Kind), (.int .u8 109)] w177 fun t180 w181 =>
  kp b1 w177 w181 <|
  (S55 w181) ∧
  (ifB (!(t180 == (decide ((m.Image.len : Int) > 0))))
  (K 3 w181)
  (j53 w181))))))))))))) w52)
  (fun w182 =>
  drewM (fun w183 =>
  ifB (m.Kind == 5)
  (ifB ((m.Entries.len : Int) != 1)
  (K 3 w183)
  (opRd Pr (Instr.indexAt 24 m.Entries.val (.int .i64 0)) pav (fun t184 =>
  opRd Pr (Instr.loadAt 23 (.pointer (some (t184.add 1)))) ApiBallot.val (fun t185 =>
  opRd Pr (binSem .neq 23 (.tmp 188) (.tmp 190) (.agg ⟨t185.cs⟩) (.agg ⟨[(.int .i64 m.Ballot.Round), (.int .i64 m.Ballot.Node)]⟩)) Value.bool (fun t186 =>
  ifB t186
  (K 3 w183)
  (K 0 w183)) w183) w183) w183))
  (K 0 w183)) w182))))))))))) w
def ref13_Check_ann : Ann := (.s (.r [(0, .nl 1)]) (.s .d (.s (.s (.r [(1, .call rS)]) (.c (.s .d .d) .d)) (.s (.s .d (.c (.s .d .d) .d)) (.sj [] (.s (.r [(1, .call rB), (5, .call rB), (10, .call rB), (24, .call rB), (38, .call rB)]) (.c (.s .d .d) .d)) (.sj [] (.s (.r [(1, .call rB), (10, .call rB)]) (.c (.s .d .d) .d)) (.sj [] (.s (.r [(1, .call rB)]) (.c (.s (.r [(2, .call (rI .i64))]) (.s .d (.c (.s .d .d) .d))) .d)) (.sj [] (.s (.h (.take 0 (.one 1 (.take 2 (.take 3 (.take 4 (.take 5 (.take 6 (.take 7 (.take 8 (.take 9 (.take 10 (.take 11 (.take 12 (.take 13 (.take 14 (.take 15 (.take 16 (.one 17 (.take 18 (.take 19 (.take 20 (.take 21 (.take 22 (.take 23 (.take 24 (.take 25 (.take 26 (.one 27 (.take 28 (.take 29 (.take 30 (.take 31 (.take 32 (.take 33 (.take 34 (.take 35 (.take 36 (.one 37 (.take 38 (.take 39 (.take 40 (.take 41 (.take 42 (.take 43 (.take 44 (.take 45 (.take 46 (.one 47 (.take 48 (.take 49 (.take 50 (.take 51 (.take 52 (.take 53 (.take 54 (.take 55 (.take 56 (.take 57 (.take 59 (.take 60 (.take 61 (.take 62 (.one 58 (.take 63 (.take 64 .done))))))))))))))))))))))))))))))))))))))))))))))))))))))))))))))))) [(1, .call rB), (17, .call rB), (27, .call rB), (37, .call rB), (47, .call rB), (58, .call rB)]) (.c (.s .d .d) .d)) (.s (.s (.r [(10, .rd rPA), (12, .rd rApiBallot), (15, .rd rB)]) (.c (.s .d .d) .d)) (.s .d .d))))))))))
theorem ref13_Check_calls {m : ApiMsg} {K : Int → World → Prop} {w : World} (h : ref13_Check m K w) : callV Pr (Value.int .i64) 10 #[(.agg ⟨m.cs⟩)] w K :=
  calls_of Pr_plain Pr_mixed Pr_func10 ref13_Check_ann (rI .i64) (args := [(.agg ⟨m.cs⟩)]) (by kernel_rfl) h

/- changeover/msgone.Same -/
def msgone_Same (a : ApiMsg) (b : ApiMsg) (K : Bool → World → Prop) (w : World) : Prop :=
  newV (fun b1 w2 =>
  newV (fun b3 w4 =>
  heldM (fun S6 w5 =>
  callV Pr aval 39 #[(.agg ⟨[(.int .i64 a.Kind), (.int .i64 a.From), (.int .i64 a.To), (.int .i64 a.Ballot.Round), (.int .i64 a.Ballot.Node), (.int .i64 a.Index), (.int .i64 a.Commit), (.int .i64 a.Version), a.Entries.val, a.Image.val]⟩)] w5 fun t7 w8 =>
  kp b3 w5 w8 <|
  kp b1 w5 w8 <|
  (S6 w8) ∧
  (callV Pr aval 39 #[(.agg ⟨[(.int .i64 b.Kind), (.int .i64 b.From), (.int .i64 b.To), (.int .i64 b.Ballot.Round), (.int .i64 b.Ballot.Node), (.int .i64 b.Index), (.int .i64 b.Commit), (.int .i64 b.Version), b.Entries.val, b.Image.val]⟩)] w8 fun t9 w10 =>
  kp b3 w8 w10 <|
  kp b1 w8 w10 <|
  (S6 w10) ∧
  (opH Pr S6 (binSem .eql 66 (.tmp 8) (.tmp 11) (.agg ⟨t7⟩) (.agg ⟨t9⟩)) Value.bool (fun t11 =>
  ifB t11
  (callV Pr Value.bool 40 #[a.Entries.val, b.Entries.val] w10 fun t12 w13 =>
  kp b3 w10 w13 <|
  kp b1 w10 w13 <|
  (S6 w13) ∧
  (ifB t12
  (callV Pr Value.bool 41 #[a.Image.val, b.Image.val] w13 fun t14 w15 =>
  kp b3 w13 w15 <|
  kp b1 w13 w15 <|
  (S6 w15) ∧
  (K t14 w15))
  (K false w13)))
  (K false w10))))) w4) w2) w
def msgone_Same_ann : Ann := (.s (.r [(0, .nl 2), (1, .nl 3)]) (.s .d (.s (.h (.take 0 (.take 1 (.take 3 (.take 4 (.one 2 (.one 5 (.take 6 (.take 7 (.take 8 (.take 9 (.take 10 (.take 11 (.one 12 (.take 13 (.take 14 (.take 15 (.take 16 (.take 17 (.take 18 (.one 19 (.take 20 (.take 21 .done)))))))))))))))))))))) [(2, .call rA), (5, .call rA), (6, .rd rB), (12, .call rB), (19, .call rB)]) .d)))
theorem msgone_Same_calls {a : ApiMsg} {b : ApiMsg} {K : Bool → World → Prop} {w : World} (h : msgone_Same a b K w) : callV Pr Value.bool 11 #[(.agg ⟨a.cs⟩), (.agg ⟨b.cs⟩)] w K :=
  calls_of Pr_plain Pr_mixed Pr_func11 msgone_Same_ann rB (args := [(.agg ⟨a.cs⟩), (.agg ⟨b.cs⟩)]) (by kernel_rfl) h

/- changeover/changeoverref13.Same -/
def ref13_Same (a : ApiMsg) (b : ApiMsg) (K : Bool → World → Prop) (w : World) : Prop :=
  newV (fun b1 w2 =>
  newV (fun b3 w4 =>
  ifB (a.Kind == b.Kind)
  (ifB (a.From == b.From)
  (ifB (a.To == b.To)
  (opRd Pr (binSem .eql 23 (.tmp 26) (.tmp 28) (.agg ⟨[(.int .i64 a.Ballot.Round), (.int .i64 a.Ballot.Node)]⟩) (.agg ⟨[(.int .i64 b.Ballot.Round), (.int .i64 b.Ballot.Node)]⟩)) Value.bool (fun t5 =>
  ifB t5
  (ifB (a.Index == b.Index)
  (ifB (a.Commit == b.Commit)
  (ifB (a.Version == b.Version)
  (callV Pr Value.bool 21 #[a.Entries.val, b.Entries.val] w4 fun t6 w7 =>
  kp b3 w4 w7 <|
  kp b1 w4 w7 <|
  ifB t6
  (callV Pr Value.bool 26 #[a.Image.val, b.Image.val] w7 fun t8 w9 =>
  kp b3 w7 w9 <|
  kp b1 w7 w9 <|
  K t8 w9)
  (K false w7))
  (K false w4))
  (K false w4))
  (K false w4))
  (K false w4)) w4)
  (K false w4))
  (K false w4))
  (K false w4)) w2) w
def ref13_Same_ann : Ann := (.s (.r [(0, .nl 2), (1, .nl 3)]) (.s (.r [(24, .rd rB), (52, .call rB), (59, .call rB)]) .d))
theorem ref13_Same_calls {a : ApiMsg} {b : ApiMsg} {K : Bool → World → Prop} {w : World} (h : ref13_Same a b K w) : callV Pr Value.bool 12 #[(.agg ⟨a.cs⟩), (.agg ⟨b.cs⟩)] w K :=
  calls_of Pr_plain Pr_mixed Pr_func12 ref13_Same_ann rB (args := [(.agg ⟨a.cs⟩), (.agg ⟨b.cs⟩)]) (by kernel_rfl) h

/- changeover/changeoverref19.Heavy -/
def ref19_Heavy (h_ : ApiHard) (K : Bool → World → Prop) (w : World) : Prop :=
  newV (fun b1 w2 =>
  ifB (decide ((h_.Image.len : Int) > 300))
  (K true w2)
  (callV Pr Value.bool 28 #[h_.Accepted.val] w2 fun t3 w4 =>
  kp b1 w2 w4 <|
  ifB t3
  (K true w4)
  (callV Pr Value.bool 28 #[h_.Chosen.val] w4 fun t5 w6 =>
  kp b1 w4 w6 <|
  K t5 w6))) w
def ref19_Heavy_ann : Ann := (.s (.r [(0, .nl 1)]) (.s (.r [(7, .call rB), (12, .call rB)]) .d))
theorem ref19_Heavy_calls {h_ : ApiHard} {K : Bool → World → Prop} {w : World} (h : ref19_Heavy h_ K w) : callV Pr Value.bool 13 #[(.agg ⟨h_.cs⟩)] w K :=
  calls_of Pr_plain Pr_mixed Pr_func13 ref19_Heavy_ann rB (args := [(.agg ⟨h_.cs⟩)]) (by kernel_rfl) h

/- changeover/changeoverref19.Check -/
def ref19_Check (h_ : ApiHard) (K : Bool → World → Prop) (w : World) : Prop :=
  newV (fun b1 w2 =>
  callV Pr Value.bool 42 #[(.agg ⟨[(.int .i64 h_.Promised.Round), (.int .i64 h_.Promised.Node)]⟩)] w2 fun t3 w4 =>
  kp b1 w2 w4 <|
  ifB (!t3)
  (K false w4)
  (ifB (decide (h_.Base < 0))
  (K false w4)
  (ifB (decide (h_.Base > 4294967296))
  (K false w4)
  (ifB (decide ((h_.Image.len : Int) > 32768))
  (K false w4)
  (ifB (!((decide (h_.Base > 0)) == (decide ((h_.Image.len : Int) > 0))))
  (K false w4)
  (callV Pr (Value.int .i64) 38 #[h_.Accepted.val] w4 fun t5 w6 =>
  kp b1 w4 w6 <|
  ifB (t5 != 0)
  (K false w6)
  (callV Pr (Value.int .i64) 38 #[h_.Chosen.val] w6 fun t7 w8 =>
  kp b1 w6 w8 <|
  ifB (t7 != 0)
  (K false w8)
  (loop1 (0 : Int) (fun i9 k10 w11 =>
  ifB (decide (i9 < (h_.Accepted.len : Int)))
  (opRd Pr (Instr.indexAt 24 h_.Accepted.val (.int .i64 i9)) pav (fun t12 =>
  opRd Pr (Instr.loadAt 23 (.pointer (some (t12.add 1)))) ApiBallot.val (fun t13 =>
  newV (fun b14 w15 =>
  wrM b14 (fun w16 =>
  heldM (fun S18 w17 =>
  opH Pr S18 (Instr.indexAt 24 h_.Accepted.val (.int .i64 i9)) pav (fun t19 =>
  opH Pr S18 (Instr.loadAt 3 (.pointer (some (t19.add 0)))) (Value.int .i64) (fun t20 =>
  ifB (decide (t20 ≤ h_.Base))
  (K false w17)
  (ifB (t13.Round == 0)
  (K false w17)
  (callV Pr Value.bool 18 #[(.agg ⟨[(.int .i64 h_.Promised.Round), (.int .i64 h_.Promised.Node)]⟩), (.agg ⟨[(.int .i64 t13.Round), (.int .i64 t13.Node)]⟩)] w17 fun t21 w22 =>
  kp b14 w17 w22 <|
  kp b1 w17 w22 <|
  (S18 w22) ∧
  (ifB t21
  (K false w22)
  (k10 (i64 (i9 + 1)) w22))))))) w16) w15) w11) w11) w11)
  (loop1 (0 : Int) (fun i23 k24 w25 =>
  ifB (decide (i23 < (h_.Chosen.len : Int)))
  (drewM (fun w26 =>
  opRd Pr (Instr.indexAt 24 h_.Chosen.val (.int .i64 i23)) pav (fun t27 =>
  opRd Pr (Instr.loadAt 3 (.pointer (some (t27.add 0)))) (Value.int .i64) (fun t28 =>
  ifB (decide (t28 ≤ h_.Base))
  (K false w26)
  (opRd Pr (Instr.indexAt 24 h_.Chosen.val (.int .i64 i23)) pav (fun t29 =>
  opRd Pr (Instr.loadAt 3 (.pointer (some ((t29.add 1).add 0)))) (Value.int .i64) (fun t30 =>
  ifB (t30 != 0)
  (K false w26)
  (k24 (i64 (i23 + 1)) w26)) w26) w26)) w26) w26) w25)
  (K true w25)) w11)) w8)))))))) w
def ref19_Check_ann : Ann := (.s (.r [(0, .nl 1)]) (.s (.s (.r [(2, .call rB), (33, .call (rI .i64)), (39, .call (rI .i64))]) (.c (.s .d .d) .d)) (.s (.s .d (.b (.l [(.s 3, (rI .i64))] (.s (.s .d (.c .d .d)) (.s (.b (.s (.r [(3, .rd rPA), (5, .rd rApiBallot), (6, .nl 4), (7, .ls 4)]) (.s (.h (.take 0 (.take 1 (.take 2 (.take 3 (.take 4 (.take 5 (.take 6 (.take 7 (.take 8 (.take 9 (.take 10 (.take 11 (.take 12 (.take 13 (.take 14 (.take 15 (.take 16 (.take 17 (.one 18 (.take 19 .done)))))))))))))))))))) [(3, .rd rPA), (5, .rd (rI .i64)), (18, .call rB)]) (.c (.s .d .d) .d)))) .d))))) (.s (.s .d (.b (.l [(.s 5, (rI .i64))] (.s (.s .d (.c .d .d)) (.s (.b (.s (.r [(3, .rd rPA), (5, .rd (rI .i64)), (13, .rd rPA), (16, .rd (rI .i64))]) (.c (.s .d .d) .d))) .d))))) (.s .d .d)))))
theorem ref19_Check_calls {h_ : ApiHard} {K : Bool → World → Prop} {w : World} (h : ref19_Check h_ K w) : callV Pr Value.bool 14 #[(.agg ⟨h_.cs⟩)] w K :=
  calls_of Pr_plain Pr_mixed Pr_func14 ref19_Check_ann rB (args := [(.agg ⟨h_.cs⟩)]) (by kernel_rfl) h

/- changeover/changeoverlaw31.awake -/
def law31_awake (K : Bool → World → Prop) (w : World) : Prop :=
  newV (fun b1 w2 =>
  wrM b1 (fun w3 =>
  callV Pr (tval3 Sl.val ApiMsg.val (Value.int .i64)) 20 #[(.agg ⟨[(.int .i64 3), (.int .i64 1), (.int .i64 0), Sl.nil.val, Sl.nil.val, Sl.nil.val]⟩), (.int .i64 0), (.agg ⟨[(.int .i64 3), (.int .i64 2), (.int .i64 1), (.int .i64 2), (.int .i64 2), (.int .i64 1), (.int .i64 0), (.int .i64 0), Sl.nil.val, Sl.nil.val]⟩)] w3 fun t4 w5 =>
  kp b1 w3 w5 <|
  newV (fun b6 w7 =>
  wrM b6 (fun w8 =>
  ifB (t4.2.2 == 0)
  (ifB ((t4.1.len : Int) == 0)
  (ifB (t4.2.1.Kind == 7)
  (opRd Pr (binSem .eql 23 (.tmp 29) (.tmp 31) (.agg ⟨[(.int .i64 t4.2.1.Ballot.Round), (.int .i64 t4.2.1.Ballot.Node)]⟩) (.agg ⟨[(.int .i64 3), (.int .i64 1)]⟩)) Value.bool (fun t9 =>
  K t9 w8) w8)
  (K false w8))
  (K false w8))
  (K false w8)) w7) w5) w2) w
def law31_awake_ann : Ann := (.s .d (.s (.r [(2, .nl 1), (3, .ls 1)]) (.s (.r [(3, .call (rT3 rSl rApiMsg (rI .i64))), (8, .nl 3), (10, .ls 3)]) (.s (.r [(17, .rd rB)]) .d))))
theorem law31_awake_calls {K : Bool → World → Prop} {w : World} (h : law31_awake K w) : callV Pr Value.bool 15 #[] w K :=
  calls_of Pr_plain Pr_mixed Pr_func15 law31_awake_ann rB (args := []) (by kernel_rfl) h

/- changeover/changeoverlaw31.ask -/
def law31_ask (h_ : ApiHard) (commit : Int) (m : ApiMsg) (K : (Sl × ApiMsg × Int) → World → Prop) (w : World) : Prop :=
  newV (fun b1 w2 =>
  newV (fun b3 w4 =>
  newV (fun b5 w6 =>
  ifB (m.Kind == 5)
  (callV Pr (tval3 Sl.val ApiMsg.val (Value.int .i64)) 19 #[(.agg ⟨[(.int .i64 h_.Promised.Round), (.int .i64 h_.Promised.Node), (.int .i64 h_.Base), h_.Image.val, h_.Accepted.val, h_.Chosen.val]⟩), (.int .i64 commit), (.agg ⟨[(.int .i64 m.Kind), (.int .i64 m.From), (.int .i64 m.To), (.int .i64 m.Ballot.Round), (.int .i64 m.Ballot.Node), (.int .i64 m.Index), (.int .i64 m.Commit), (.int .i64 m.Version), m.Entries.val, m.Image.val]⟩)] w6 fun t7 w8 =>
  kp b5 w6 w8 <|
  kp b3 w6 w8 <|
  kp b1 w6 w8 <|
  wrM b5 (fun w9 =>
  K (t7.1, (ApiMsg.mk t7.2.1.Kind t7.2.1.From t7.2.1.To (ApiBallot.mk t7.2.1.Ballot.Round t7.2.1.Ballot.Node) t7.2.1.Index t7.2.1.Commit t7.2.1.Version t7.2.1.Entries t7.2.1.Image), t7.2.2) w9) w8)
  (callV Pr (tval3 Sl.val ApiMsg.val (Value.int .i64)) 20 #[(.agg ⟨[(.int .i64 h_.Promised.Round), (.int .i64 h_.Promised.Node), (.int .i64 h_.Base), h_.Image.val, h_.Accepted.val, h_.Chosen.val]⟩), (.int .i64 commit), (.agg ⟨[(.int .i64 m.Kind), (.int .i64 m.From), (.int .i64 m.To), (.int .i64 m.Ballot.Round), (.int .i64 m.Ballot.Node), (.int .i64 m.Index), (.int .i64 m.Commit), (.int .i64 m.Version), m.Entries.val, m.Image.val]⟩)] w6 fun t10 w11 =>
  kp b5 w6 w11 <|
  kp b3 w6 w11 <|
  kp b1 w6 w11 <|
  wrM b5 (fun w12 =>
  K (t10.1, (ApiMsg.mk t10.2.1.Kind t10.2.1.From t10.2.1.To (ApiBallot.mk t10.2.1.Ballot.Round t10.2.1.Ballot.Node) t10.2.1.Index t10.2.1.Commit t10.2.1.Version t10.2.1.Entries t10.2.1.Image), t10.2.2) w12) w11)) w4) w2) w
def law31_ask_ann : Ann := (.s (.r [(0, .nl 3), (1, .nl 5), (3, .nl 7)]) (.s (.s .d (.c (.s (.r [(3, .call (rT3 rSl rApiMsg (rI .i64))), (8, .ls 7)]) .d) .d)) (.s (.r [(3, .call (rT3 rSl rApiMsg (rI .i64))), (8, .ls 7)]) .d)))
theorem law31_ask_calls {h_ : ApiHard} {commit : Int} {m : ApiMsg} {K : (Sl × ApiMsg × Int) → World → Prop} {w : World} (h : law31_ask h_ commit m K w) : callV Pr (tval3 Sl.val ApiMsg.val (Value.int .i64)) 16 #[(.agg ⟨h_.cs⟩), (.int .i64 commit), (.agg ⟨m.cs⟩)] w K :=
  calls_of Pr_plain Pr_mixed Pr_func16 law31_ask_ann (rT3 rSl rApiMsg (rI .i64)) (args := [(.agg ⟨h_.cs⟩), (.int .i64 commit), (.agg ⟨m.cs⟩)]) (by kernel_rfl) h

/- changeover/changeoverref31.Behind -/
def ref31_Behind (h_ : ApiHard) (x : ApiRecord) (K : ApiHard → World → Prop) (w : World) : Prop :=
  newV (fun b1 w2 =>
  newV (fun b3 w4 =>
  newV (fun b5 w6 =>
  opTy Pr (Instr.buildSlice 36 0 #[]) Sl.val (fun l7 w8 =>
  kp b5 w6 w8 <|
  kp b3 w6 w8 <|
  kp b1 w6 w8 <|
  join1 (fun (j9 : Sl → World → Prop) =>
  ifB (decide (h_.Base > 0))
  (opTy Pr (Instr.buildSlice 36 1 #[(0, (.agg ⟨[(.int .i64 4), (.int .i64 0), (.int .i64 0), (.int .i64 h_.Base), (.int .i64 0), (.int .i64 0), (.int .i64 0), (sval []), (sval []), (sval []), (.int .i64 0), h_.Image.val]⟩))]) Sl.val (fun t10 w11 =>
  kp b5 w8 w11 <|
  kp b3 w8 w11 <|
  kp b1 w8 w11 <|
  opTy Pr (Builtin.append_ #[36, 36] 36 #[l7.val, t10.val]) Sl.val (fun l12 w13 =>
  kp b5 w11 w13 <|
  kp b3 w11 w13 <|
  kp b1 w11 w13 <|
  j9 l12 w13) w11) w8)
  (j9 l7 w8))
  (fun l14 w15 =>
  join1 (fun (j16 : Sl → World → Prop) =>
  ifB (decide (h_.Promised.Round > 0))
  (opTy Pr (Instr.buildSlice 36 1 #[(0, (.agg ⟨[(.int .i64 1), (.int .i64 h_.Promised.Round), (.int .i64 h_.Promised.Node), (.int .i64 0), (.int .i64 0), (.int .i64 0), (.int .i64 0), (sval []), (sval []), (sval []), (.int .i64 0), Sl.nil.val]⟩))]) Sl.val (fun t17 w18 =>
  kp b5 w15 w18 <|
  kp b3 w15 w18 <|
  kp b1 w15 w18 <|
  opTy Pr (Builtin.append_ #[36, 36] 36 #[l14.val, t17.val]) Sl.val (fun l19 w20 =>
  kp b5 w18 w20 <|
  kp b3 w18 w20 <|
  kp b1 w18 w20 <|
  j16 l19 w20) w18) w15)
  (j16 l14 w15))
  (fun l21 w22 =>
  loop2 (l21 : Sl) (0 : Int) (fun l23 i24 k25 w26 =>
  ifB (decide (i24 < (h_.Accepted.len : Int)))
  (heldM (fun S28 w27 =>
  opH Pr S28 (Instr.indexAt 24 h_.Accepted.val (.int .i64 i24)) pav (fun t29 =>
  opH Pr S28 (Instr.loadAt 23 (.pointer (some (t29.add 1)))) ApiBallot.val (fun t30 =>
  opH Pr S28 (Instr.indexAt 24 h_.Accepted.val (.int .i64 i24)) pav (fun t31 =>
  opH Pr S28 (Instr.loadAt 3 (.pointer (some (t31.add 0)))) (Value.int .i64) (fun t32 =>
  opH Pr S28 (Instr.indexAt 24 h_.Accepted.val (.int .i64 i24)) pav (fun t33 =>
  opH Pr S28 (Instr.loadAt 41 (.pointer (some (t33.add 3)))) ApiCmd.val (fun t34 =>
  opTy Pr (Instr.buildSlice 36 1 #[(0, (.agg ⟨[(.int .i64 2), (.int .i64 t30.Round), (.int .i64 t30.Node), (.int .i64 t32), (.int .i64 t34.Kind), (.int .i64 t34.Client), (.int .i64 t34.Seq), (sval t34.Key), (sval t34.Val), (sval t34.Old), (.int .i64 t34.Node), Sl.nil.val]⟩))]) Sl.val (fun t35 w36 =>
  kp b5 w27 w36 <|
  kp b3 w27 w36 <|
  kp b1 w27 w36 <|
  (S28 w36) ∧
  (opTy Pr (Builtin.append_ #[36, 36] 36 #[l23.val, t35.val]) Sl.val (fun l37 w38 =>
  kp b5 w36 w38 <|
  kp b3 w36 w38 <|
  kp b1 w36 w38 <|
  (S28 w38) ∧
  (k25 l37 (i64 (i24 + 1)) w38)) w36)) w27))))))) w26)
  (loop2 (l23 : Sl) (0 : Int) (fun l39 i40 k41 w42 =>
  ifB (decide (i40 < (h_.Chosen.len : Int)))
  (heldM (fun S44 w43 =>
  opH Pr S44 (Instr.indexAt 24 h_.Chosen.val (.int .i64 i40)) pav (fun t45 =>
  opH Pr S44 (Instr.loadAt 3 (.pointer (some (t45.add 0)))) (Value.int .i64) (fun t46 =>
  opH Pr S44 (Instr.indexAt 24 h_.Chosen.val (.int .i64 i40)) pav (fun t47 =>
  opH Pr S44 (Instr.loadAt 41 (.pointer (some (t47.add 3)))) ApiCmd.val (fun t48 =>
  opTy Pr (Instr.buildSlice 36 1 #[(0, (.agg ⟨[(.int .i64 3), (.int .i64 0), (.int .i64 0), (.int .i64 t46), (.int .i64 t48.Kind), (.int .i64 t48.Client), (.int .i64 t48.Seq), (sval t48.Key), (sval t48.Val), (sval t48.Old), (.int .i64 t48.Node), Sl.nil.val]⟩))]) Sl.val (fun t49 w50 =>
  kp b5 w43 w50 <|
  kp b3 w43 w50 <|
  kp b1 w43 w50 <|
  (S44 w50) ∧
  (opTy Pr (Builtin.append_ #[36, 36] 36 #[l39.val, t49.val]) Sl.val (fun l51 w52 =>
  kp b5 w50 w52 <|
  kp b3 w50 w52 <|
  kp b1 w50 w52 <|
  (S44 w52) ∧
  (k41 l51 (i64 (i40 + 1)) w52)) w50)) w43))))) w42)
  (opTy Pr (Instr.buildSlice 36 1 #[(0, (.agg ⟨[(.int .i64 x.Kind), (.int .i64 x.Ballot.Round), (.int .i64 x.Ballot.Node), (.int .i64 x.Index), (.int .i64 x.Cmd.Kind), (.int .i64 x.Cmd.Client), (.int .i64 x.Cmd.Seq), (sval x.Cmd.Key), (sval x.Cmd.Val), (sval x.Cmd.Old), (.int .i64 x.Cmd.Node), x.Image.val]⟩))]) Sl.val (fun t53 w54 =>
  kp b5 w42 w54 <|
  kp b3 w42 w54 <|
  kp b1 w42 w54 <|
  opTy Pr (Builtin.append_ #[36, 36] 36 #[l39.val, t53.val]) Sl.val (fun l55 w56 =>
  kp b5 w54 w56 <|
  kp b3 w54 w56 <|
  kp b1 w54 w56 <|
  callV Pr ApiHard.val 43 #[l55.val] w56 fun t57 w58 =>
  kp b5 w56 w58 <|
  kp b3 w56 w58 <|
  kp b1 w56 w58 <|
  wrM b5 (fun w59 =>
  K t57 w59) w58) w54) w42)) w26)) w22))) w6) w4) w2) w
def ref31_Behind_ann : Ann := (.s (.r [(0, .nl 2), (1, .nl 3), (2, .nl 4)]) (.s (.r [(0, .ty rSl)]) (.sj [(.s 5, rSl)] (.s .d (.c (.r [(6, .ty rSl), (7, .ty rSl)]) .d)) (.sj [(.s 5, rSl)] (.s .d (.c (.r [(4, .ty rSl), (5, .ty rSl)]) .d)) (.s (.s .d (.b (.l [(.s 5, rSl), (.s 6, (rI .i64))] (.s (.s .d (.c .d .d)) (.s (.b (.h (.take 0 (.take 1 (.take 2 (.take 3 (.take 4 (.take 5 (.take 6 (.take 7 (.take 8 (.take 9 (.take 10 (.take 11 (.take 12 (.take 13 (.take 14 (.take 15 (.take 16 (.take 17 (.take 18 (.take 19 (.one 20 (.one 21 (.take 22 .done))))))))))))))))))))))) [(4, .rd rPA), (6, .rd rApiBallot), (10, .rd rPA), (12, .rd (rI .i64)), (16, .rd rPA), (18, .rd rApiCmd), (20, .ty rSl), (21, .ty rSl)])) .d))))) (.s (.s .d (.b (.l [(.s 5, rSl), (.s 7, (rI .i64))] (.s (.s .d (.c .d .d)) (.s (.b (.h (.take 0 (.take 1 (.take 2 (.take 3 (.take 4 (.take 5 (.take 6 (.take 7 (.take 8 (.take 9 (.take 10 (.take 11 (.take 12 (.take 13 (.one 14 (.one 15 (.take 16 .done))))))))))))))))) [(4, .rd rPA), (6, .rd (rI .i64)), (10, .rd rPA), (12, .rd rApiCmd), (14, .ty rSl), (15, .ty rSl)])) .d))))) (.s (.r [(2, .ty rSl), (3, .ty rSl)]) (.s (.r [(1, .call rApiHard), (2, .ls 4)]) .d))))))))
theorem ref31_Behind_calls {h_ : ApiHard} {x : ApiRecord} {K : ApiHard → World → Prop} {w : World} (h : ref31_Behind h_ x K w) : callV Pr ApiHard.val 17 #[(.agg ⟨h_.cs⟩), (.agg ⟨x.cs⟩)] w K :=
  calls_of Pr_plain Pr_mixed Pr_func17 ref31_Behind_ann rApiHard (args := [(.agg ⟨h_.cs⟩), (.agg ⟨x.cs⟩)]) (by kernel_rfl) h

/- changeover/changeoverref10.Less -/
def ref10_Less (a : ApiBallot) (b : ApiBallot) (K : Bool → World → Prop) (w : World) : Prop :=
  newV (fun b1 w2 =>
  newV (fun b3 w4 =>
  ifB (a.Round == b.Round)
  (K (decide (a.Node < b.Node)) w4)
  (K (decide (a.Round < b.Round)) w4)) w2) w
def ref10_Less_ann : Ann := (.s (.r [(0, .nl 2), (1, .nl 3)]) (.s (.s .d (.c (.s .d .d) .d)) (.s .d .d)))
theorem ref10_Less_calls {a : ApiBallot} {b : ApiBallot} {K : Bool → World → Prop} {w : World} (h : ref10_Less a b K w) : callV Pr Value.bool 18 #[(.agg ⟨a.cs⟩), (.agg ⟨b.cs⟩)] w K :=
  calls_of Pr_plain Pr_mixed Pr_func18 ref10_Less_ann rB (args := [(.agg ⟨a.cs⟩), (.agg ⟨b.cs⟩)]) (by kernel_rfl) h

/- changeover/acceptor.Accept -/
def acceptor_Accept (h_ : ApiHard) (commit : Int) (m : ApiMsg) (K : (Sl × ApiMsg × Int) → World → Prop) (w : World) : Prop :=
  newV (fun b1 w2 =>
  newV (fun b3 w4 =>
  newV (fun b5 w6 =>
  callV Pr (Value.int .i64) 44 #[(.agg ⟨[(.int .i64 h_.Promised.Round), (.int .i64 h_.Promised.Node), (.int .i64 h_.Base), h_.Image.val, h_.Accepted.val, h_.Chosen.val]⟩), (.int .i64 commit), (.agg ⟨[(.int .i64 m.Kind), (.int .i64 m.From), (.int .i64 m.To), (.int .i64 m.Ballot.Round), (.int .i64 m.Ballot.Node), (.int .i64 m.Index), (.int .i64 m.Commit), (.int .i64 m.Version), m.Entries.val, m.Image.val]⟩), (.int .i64 5)] w6 fun e7 w8 =>
  kp b5 w6 w8 <|
  kp b3 w6 w8 <|
  kp b1 w6 w8 <|
  ifB (e7 != 0)
  (wrM b5 (fun w9 =>
  K (Sl.nil, (ApiMsg.mk 0 0 0 (ApiBallot.mk 0 0) 0 0 0 Sl.nil Sl.nil), e7) w9) w8)
  (callV Pr Value.bool 45 #[(.agg ⟨[(.int .i64 m.Ballot.Round), (.int .i64 m.Ballot.Node)]⟩), (.agg ⟨[(.int .i64 h_.Promised.Round), (.int .i64 h_.Promised.Node)]⟩)] w8 fun t10 w11 =>
  kp b5 w8 w11 <|
  kp b3 w8 w11 <|
  kp b1 w8 w11 <|
  ifB t10
  (callV Pr ApiMsg.val 46 #[(.agg ⟨[(.int .i64 m.Kind), (.int .i64 m.From), (.int .i64 m.To), (.int .i64 m.Ballot.Round), (.int .i64 m.Ballot.Node), (.int .i64 m.Index), (.int .i64 m.Commit), (.int .i64 m.Version), m.Entries.val, m.Image.val]⟩), (.int .i64 7), (.agg ⟨[(.int .i64 h_.Promised.Round), (.int .i64 h_.Promised.Node)]⟩)] w11 fun t12 w13 =>
  kp b5 w11 w13 <|
  kp b3 w11 w13 <|
  kp b1 w11 w13 <|
  wrM b5 (fun w14 =>
  K (Sl.nil, t12, 0) w14) w13)
  (opRd Pr (Instr.indexAt 24 m.Entries.val (.int .i64 0)) pav (fun t15 =>
  opRd Pr (Instr.loadAt 50 (.pointer (some t15))) ApiEntry.val (fun t16 =>
  newV (fun b17 w18 =>
  wrM b17 (fun w19 =>
  join1 (fun (j20 : Sl → World → Prop) =>
  callV Pr (tval2 ApiEntry.val Value.bool) 47 #[h_.Accepted.val, (.int .i64 t16.Index)] w19 fun t21 w22 =>
  kp b17 w19 w22 <|
  kp b5 w19 w22 <|
  kp b3 w19 w22 <|
  kp b1 w19 w22 <|
  newV (fun b23 w24 =>
  wrM b23 (fun w25 =>
  ifB (!t21.2)
  (opTy Pr (Instr.buildSlice 36 1 #[(0, (.agg ⟨[(.int .i64 2), (.int .i64 t16.Ballot.Round), (.int .i64 t16.Ballot.Node), (.int .i64 t16.Index), (.int .i64 t16.Cmd.Kind), (.int .i64 t16.Cmd.Client), (.int .i64 t16.Cmd.Seq), (sval t16.Cmd.Key), (sval t16.Cmd.Val), (sval t16.Cmd.Old), (.int .i64 t16.Cmd.Node), Sl.nil.val]⟩))]) Sl.val (fun t26 w27 =>
  kp b23 w25 w27 <|
  kp b17 w25 w27 <|
  kp b5 w25 w27 <|
  kp b3 w25 w27 <|
  kp b1 w25 w27 <|
  opTy Pr (Builtin.append_ #[36, 36] 36 #[Sl.nil.val, t26.val]) Sl.val (fun out28 w29 =>
  kp b23 w27 w29 <|
  kp b17 w27 w29 <|
  kp b5 w27 w29 <|
  kp b3 w27 w29 <|
  kp b1 w27 w29 <|
  j20 out28 w29) w27) w25)
  (opRd Pr (binSem .neq 50 (.tmp 47) (.tmp 48) (.agg ⟨[(.int .i64 t21.1.Index), (.int .i64 t21.1.Ballot.Round), (.int .i64 t21.1.Ballot.Node), (.int .i64 t21.1.Cmd.Kind), (.int .i64 t21.1.Cmd.Client), (.int .i64 t21.1.Cmd.Seq), (sval t21.1.Cmd.Key), (sval t21.1.Cmd.Val), (sval t21.1.Cmd.Old), (.int .i64 t21.1.Cmd.Node)]⟩) (.agg ⟨[(.int .i64 t16.Index), (.int .i64 t16.Ballot.Round), (.int .i64 t16.Ballot.Node), (.int .i64 t16.Cmd.Kind), (.int .i64 t16.Cmd.Client), (.int .i64 t16.Cmd.Seq), (sval t16.Cmd.Key), (sval t16.Cmd.Val), (sval t16.Cmd.Old), (.int .i64 t16.Cmd.Node)]⟩)) Value.bool (fun t30 =>
  ifB t30
  (opTy Pr (Instr.buildSlice 36 1 #[(0, (.agg ⟨[(.int .i64 2), (.int .i64 t16.Ballot.Round), (.int .i64 t16.Ballot.Node), (.int .i64 t16.Index), (.int .i64 t16.Cmd.Kind), (.int .i64 t16.Cmd.Client), (.int .i64 t16.Cmd.Seq), (sval t16.Cmd.Key), (sval t16.Cmd.Val), (sval t16.Cmd.Old), (.int .i64 t16.Cmd.Node), Sl.nil.val]⟩))]) Sl.val (fun t31 w32 =>
  kp b23 w25 w32 <|
  kp b17 w25 w32 <|
  kp b5 w25 w32 <|
  kp b3 w25 w32 <|
  kp b1 w25 w32 <|
  opTy Pr (Builtin.append_ #[36, 36] 36 #[Sl.nil.val, t31.val]) Sl.val (fun out33 w34 =>
  kp b23 w32 w34 <|
  kp b17 w32 w34 <|
  kp b5 w32 w34 <|
  kp b3 w32 w34 <|
  kp b1 w32 w34 <|
  j20 out33 w34) w32) w25)
  (j20 Sl.nil w25)) w25)) w24) w22)
  (fun out35 w36 =>
  callV Pr ApiMsg.val 46 #[(.agg ⟨[(.int .i64 m.Kind), (.int .i64 m.From), (.int .i64 m.To), (.int .i64 m.Ballot.Round), (.int .i64 m.Ballot.Node), (.int .i64 m.Index), (.int .i64 m.Commit), (.int .i64 m.Version), m.Entries.val, m.Image.val]⟩), (.int .i64 6), (.agg ⟨[(.int .i64 m.Ballot.Round), (.int .i64 m.Ballot.Node)]⟩)] w36 fun t37 w38 =>
  kp b17 w36 w38 <|
  kp b5 w36 w38 <|
  kp b3 w36 w38 <|
  kp b1 w36 w38 <|
  newV (fun b39 w40 =>
  wrM b39 (fun w41 =>
  wrM b39 (fun w42 =>
  heldM (fun S44 w43 =>
  wrM b5 (fun w45 =>
  (S44 w45) ∧
  (K (out35, (ApiMsg.mk t37.Kind t37.From t37.To t37.Ballot t16.Index t37.Commit t37.Version t37.Entries t37.Image), 0) w45)) w43) w42) w41) w40) w38)) w18) w11) w11) w11))) w4) w2) w
def acceptor_Accept_ann : Ann := (.s (.r [(0, .nl 3), (1, .nl 5), (3, .nl 7)]) (.s (.s (.r [(3, .call (rI .i64))]) (.s .d (.c (.s (.r [(3, .ls 7)]) .d) .d))) (.s (.s (.r [(4, .call rB)]) (.c (.s (.r [(3, .call rApiMsg), (5, .ls 7)]) .d) .d)) (.s (.r [(2, .rd rPA), (3, .rd rApiEntry), (4, .nl 10), (5, .ls 10)]) (.s .d (.sj [(.s 11, rSl)] (.s (.r [(4, .call (rT2 rApiEntry rB)), (8, .nl 12), (9, .ls 12)]) (.s (.r [(5, .rd rB)]) (.c (.r [(8, .ty rSl), (9, .ty rSl)]) .d))) (.s (.r [(3, .call rApiMsg), (4, .nl 14), (5, .ls 14)]) (.s (.r [(3, .ls 14)]) (.s (.h (.take 0 (.take 1 (.take 2 (.one 3 (.take 4 .done))))) [(3, .ls 7)]) .d)))))))))
theorem acceptor_Accept_calls {h_ : ApiHard} {commit : Int} {m : ApiMsg} {K : (Sl × ApiMsg × Int) → World → Prop} {w : World} (h : acceptor_Accept h_ commit m K w) : callV Pr (tval3 Sl.val ApiMsg.val (Value.int .i64)) 19 #[(.agg ⟨h_.cs⟩), (.int .i64 commit), (.agg ⟨m.cs⟩)] w K :=
  calls_of Pr_plain Pr_mixed Pr_func19 acceptor_Accept_ann (rT3 rSl rApiMsg (rI .i64)) (args := [(.agg ⟨h_.cs⟩), (.int .i64 commit), (.agg ⟨m.cs⟩)]) (by kernel_rfl) h

/- changeover/acceptor.Prepare -/
def acceptor_Prepare (h_ : ApiHard) (commit : Int) (m : ApiMsg) (K : (Sl × ApiMsg × Int) → World → Prop) (w : World) : Prop :=
  newV (fun b1 w2 =>
  newV (fun b3 w4 =>
  newV (fun b5 w6 =>
  callV Pr (Value.int .i64) 44 #[(.agg ⟨[(.int .i64 h_.Promised.Round), (.int .i64 h_.Promised.Node), (.int .i64 h_.Base), h_.Image.val, h_.Accepted.val, h_.Chosen.val]⟩), (.int .i64 commit), (.agg ⟨[(.int .i64 m.Kind), (.int .i64 m.From), (.int .i64 m.To), (.int .i64 m.Ballot.Round), (.int .i64 m.Ballot.Node), (.int .i64 m.Index), (.int .i64 m.Commit), (.int .i64 m.Version), m.Entries.val, m.Image.val]⟩), (.int .i64 3)] w6 fun e7 w8 =>
  kp b5 w6 w8 <|
  kp b3 w6 w8 <|
  kp b1 w6 w8 <|
  ifB (e7 != 0)
  (wrM b5 (fun w9 =>
  K (Sl.nil, (ApiMsg.mk 0 0 0 (ApiBallot.mk 0 0) 0 0 0 Sl.nil Sl.nil), e7) w9) w8)
  (callV Pr Value.bool 45 #[(.agg ⟨[(.int .i64 m.Ballot.Round), (.int .i64 m.Ballot.Node)]⟩), (.agg ⟨[(.int .i64 h_.Promised.Round), (.int .i64 h_.Promised.Node)]⟩)] w8 fun t10 w11 =>
  kp b5 w8 w11 <|
  kp b3 w8 w11 <|
  kp b1 w8 w11 <|
  ifB t10
  (callV Pr ApiMsg.val 46 #[(.agg ⟨[(.int .i64 m.Kind), (.int .i64 m.From), (.int .i64 m.To), (.int .i64 m.Ballot.Round), (.int .i64 m.Ballot.Node), (.int .i64 m.Index), (.int .i64 m.Commit), (.int .i64 m.Version), m.Entries.val, m.Image.val]⟩), (.int .i64 7), (.agg ⟨[(.int .i64 h_.Promised.Round), (.int .i64 h_.Promised.Node)]⟩)] w11 fun t12 w13 =>
  kp b5 w11 w13 <|
  kp b3 w11 w13 <|
  kp b1 w11 w13 <|
  wrM b5 (fun w14 =>
  K (Sl.nil, t12, 0) w14) w13)
  (join1 (fun (j15 : Sl → World → Prop) =>
  callV Pr Value.bool 45 #[(.agg ⟨[(.int .i64 h_.Promised.Round), (.int .i64 h_.Promised.Node)]⟩), (.agg ⟨[(.int .i64 m.Ballot.Round), (.int .i64 m.Ballot.Node)]⟩)] w11 fun t16 w17 =>
  kp b5 w11 w17 <|
  kp b3 w11 w17 <|
  kp b1 w11 w17 <|
  ifB t16
  (opTy Pr (Instr.buildSlice 36 1 #[(0, (.agg ⟨[(.int .i64 1), (.int .i64 m.Ballot.Round), (.int .i64 m.Ballot.Node), (.int .i64 0), (.int .i64 0), (.int .i64 0), (.int .i64 0), (sval []), (sval []), (sval []), (.int .i64 0), Sl.nil.val]⟩))]) Sl.val (fun t18 w19 =>
  kp b5 w17 w19 <|
  kp b3 w17 w19 <|
  kp b1 w17 w19 <|
  opTy Pr (Builtin.append_ #[36, 36] 36 #[Sl.nil.val, t18.val]) Sl.val (fun out20 w21 =>
  kp b5 w19 w21 <|
  kp b3 w19 w21 <|
  kp b1 w19 w21 <|
  j15 out20 w21) w19) w17)
  (j15 Sl.nil w17))
  (fun out22 w23 =>
  callV Pr ApiMsg.val 46 #[(.agg ⟨[(.int .i64 m.Kind), (.int .i64 m.From), (.int .i64 m.To), (.int .i64 m.Ballot.Round), (.int .i64 m.Ballot.Node), (.int .i64 m.Index), (.int .i64 m.Commit), (.int .i64 m.Version), m.Entries.val, m.Image.val]⟩), (.int .i64 4), (.agg ⟨[(.int .i64 m.Ballot.Round), (.int .i64 m.Ballot.Node)]⟩)] w23 fun t24 w25 =>
  kp b5 w23 w25 <|
  kp b3 w23 w25 <|
  kp b1 w23 w25 <|
  newV (fun b26 w27 =>
  wrM b26 (fun w28 =>
  wrM b26 (fun w29 =>
  wrM b26 (fun w30 =>
  callV Pr Sl.val 22 #[(.agg ⟨[(.int .i64 h_.Promised.Round), (.int .i64 h_.Promised.Node), (.int .i64 h_.Base), h_.Image.val, h_.Accepted.val, h_.Chosen.val]⟩), (.int .i64 m.Index), (.int .i64 commit)] w30 fun t31 w32 =>
  kp b26 w30 w32 <|
  kp b5 w30 w32 <|
  kp b3 w30 w32 <|
  kp b1 w30 w32 <|
  wrM b26 (fun w33 =>
  heldM (fun S35 w34 =>
  wrM b5 (fun w36 =>
  (S35 w36) ∧
  (K (out22, (ApiMsg.mk t24.Kind t24.From t24.To t24.Ballot m.Index commit t24.Version t31 t24.Image), 0) w36)) w34) w33) w32) w29) w28) w27) w25)))) w4) w2) w
def acceptor_Prepare_ann : Ann := (.s (.r [(0, .nl 3), (1, .nl 5), (3, .nl 7)]) (.s (.s (.r [(3, .call (rI .i64))]) (.s .d (.c (.s (.r [(3, .ls 7)]) .d) .d))) (.s (.s (.r [(4, .call rB)]) (.c (.s (.r [(3, .call rApiMsg), (5, .ls 7)]) .d) .d)) (.s .d (.sj [(.s 10, rSl)] (.s (.r [(4, .call rB)]) (.c (.r [(4, .ty rSl), (5, .ty rSl)]) .d)) (.s (.r [(3, .call rApiMsg), (4, .nl 11), (5, .ls 11)]) (.s (.r [(4, .ls 11), (6, .ls 11)]) (.s (.r [(4, .call rSl), (6, .ls 11)]) (.s (.h (.take 0 (.take 1 (.take 2 (.one 3 (.take 4 .done))))) [(3, .ls 7)]) .d)))))))))
theorem acceptor_Prepare_calls {h_ : ApiHard} {commit : Int} {m : ApiMsg} {K : (Sl × ApiMsg × Int) → World → Prop} {w : World} (h : acceptor_Prepare h_ commit m K w) : callV Pr (tval3 Sl.val ApiMsg.val (Value.int .i64)) 20 #[(.agg ⟨h_.cs⟩), (.int .i64 commit), (.agg ⟨m.cs⟩)] w K :=
  calls_of Pr_plain Pr_mixed Pr_func20 acceptor_Prepare_ann (rT3 rSl rApiMsg (rI .i64)) (args := [(.agg ⟨h_.cs⟩), (.int .i64 commit), (.agg ⟨m.cs⟩)]) (by kernel_rfl) h

/- changeover/changeoverref12.Same -/
def ref12_Same (a : Sl) (b : Sl) (K : Bool → World → Prop) (w : World) : Prop :=
  ifB ((a.len : Int) != (b.len : Int))
  (K false w)
  (loop1 (0 : Int) (fun i1 k2 w3 =>
  ifB (decide (i1 < (a.len : Int)))
  (drewM (fun w4 =>
  opRd Pr (Instr.indexAt 24 a.val (.int .i64 i1)) pav (fun t5 =>
  opRd Pr (Instr.loadAt 50 (.pointer (some t5))) ApiEntry.val (fun t6 =>
  opRd Pr (Instr.indexAt 24 b.val (.int .i64 i1)) pav (fun t7 =>
  opRd Pr (Instr.loadAt 50 (.pointer (some t7))) ApiEntry.val (fun t8 =>
  opRd Pr (binSem .neq 50 (.tmp 20) (.tmp 24) (.agg ⟨t6.cs⟩) (.agg ⟨t8.cs⟩)) Value.bool (fun t9 =>
  ifB t9
  (K false w4)
  (k2 (i64 (i1 + 1)) w4)) w4) w4) w4) w4) w4) w3)
  (K true w3)) w)
def ref12_Same_ann : Ann := (.s .d (.s (.s .d (.c (.s .d .d) .d)) (.s (.s .d (.b (.l [(.s 5, (rI .i64))] (.s (.s .d (.c .d .d)) (.s (.b (.s (.r [(2, .rd rPA), (3, .rd rApiEntry), (6, .rd rPA), (7, .rd rApiEntry), (8, .rd rB)]) (.c (.s .d .d) .d))) .d))))) (.s .d .d))))
theorem ref12_Same_calls {a : Sl} {b : Sl} {K : Bool → World → Prop} {w : World} (h : ref12_Same a b K w) : callV Pr Value.bool 21 #[a.val, b.val] w K :=
  calls_of Pr_plain Pr_mixed Pr_func21 ref12_Same_ann rB (args := [a.val, b.val]) (by kernel_rfl) h

/- changeover/acceptor.Ahead -/
def acceptor_Ahead (h_ : ApiHard) (from_ : Int) (commit : Int) (K : Sl → World → Prop) (w : World) : Prop :=
  newV (fun b1 w2 =>
  opTy Pr (Instr.box 3 (.int .i64 commit)) pav (fun commit3 w4 =>
  kp b1 w2 w4 <|
  callV Pr Sl.val 49 #[h_.Accepted.val, (.int .i64 from_)] w4 fun t5 w6 =>
  kp b1 w4 w6 <|
  callV Pr Sl.val 48 #[t5.val, (.func (.func 50) #[] #[(.pointer (some commit3))])] w6 fun t7 w8 =>
  kp b1 w6 w8 <|
  K t7 w8) w2) w
def acceptor_Ahead_ann : Ann := (.s (.r [(0, .nl 3), (1, .ty rPA)]) (.s (.r [(3, .call rSl), (5, .call rSl)]) .d))
theorem acceptor_Ahead_calls {h_ : ApiHard} {from_ : Int} {commit : Int} {K : Sl → World → Prop} {w : World} (h : acceptor_Ahead h_ from_ commit K w) : callV Pr Sl.val 22 #[(.agg ⟨h_.cs⟩), (.int .i64 from_), (.int .i64 commit)] w K :=
  calls_of Pr_plain Pr_mixed Pr_func22 acceptor_Ahead_ann rSl (args := [(.agg ⟨h_.cs⟩), (.int .i64 from_), (.int .i64 commit)]) (by kernel_rfl) h

/- changeover/changeoverref12.Find -/
def ref12_Find (l : Sl) (index : Int) (K : Int → World → Prop) (w : World) : Prop :=
  loop1 (0 : Int) (fun i1 k2 w3 =>
  ifB (decide (i1 < (l.len : Int)))
  (opRd Pr (Instr.indexAt 24 l.val (.int .i64 i1)) pav (fun t4 =>
  opRd Pr (Instr.loadAt 3 (.pointer (some (t4.add 0)))) (Value.int .i64) (fun t5 =>
  ifB (t5 == index)
  (K i1 w3)
  (k2 (i64 (i1 + 1)) w3)) w3) w3)
  (K (-1) w3)) w
def ref12_Find_ann : Ann := (.s .d (.s (.s .d (.b (.l [(.s 5, (rI .i64))] (.s (.s .d (.c .d .d)) (.s (.b (.s (.r [(2, .rd rPA), (4, .rd (rI .i64))]) (.c (.s .d .d) .d))) .d))))) (.s .d .d)))
theorem ref12_Find_calls {l : Sl} {index : Int} {K : Int → World → Prop} {w : World} (h : ref12_Find l index K w) : callV Pr (Value.int .i64) 23 #[l.val, (.int .i64 index)] w K :=
  calls_of Pr_plain Pr_mixed Pr_func23 ref12_Find_ann (rI .i64) (args := [l.val, (.int .i64 index)]) (by kernel_rfl) h

/- changeover/msgone.Decode -/
def msgone_Decode (b : Sl) (K : (ApiMsg × Int) → World → Prop) (w : World) : Prop :=
  newV (fun b1 w2 =>
  callV Pr Value.pointer 51 #[b.val] w2 fun r3 w4 =>
  kp b1 w2 w4 <|
  callV Pr ApiMsg.val 52 #[(.pointer r3)] w4 fun t5 w6 =>
  kp b1 w4 w6 <|
  newV (fun b7 w8 =>
  wrM b7 (fun w9 =>
  callV Pr (Value.int .i64) 53 #[(.pointer r3)] w9 fun e10 w11 =>
  kp b7 w9 w11 <|
  kp b1 w9 w11 <|
  join1 (fun (j12 : Int → World → Prop) =>
  ifB (e10 == 0)
  (callV Pr (Value.int .i64) 9 #[(.agg ⟨[(.int .i64 t5.Kind), (.int .i64 t5.From), (.int .i64 t5.To), (.int .i64 t5.Ballot.Round), (.int .i64 t5.Ballot.Node), (.int .i64 t5.Index), (.int .i64 t5.Commit), (.int .i64 t5.Version), t5.Entries.val, t5.Image.val]⟩)] w11 fun e13 w14 =>
  kp b7 w11 w14 <|
  kp b1 w11 w14 <|
  j12 e13 w14)
  (j12 e10 w11))
  (fun e15 w16 =>
  join1 (fun (j17 : Int → World → Prop) =>
  ifB (e15 == 0)
  (callV Pr Value.bool 54 #[(.agg ⟨[(.int .i64 t5.Kind), (.int .i64 t5.From), (.int .i64 t5.To), (.int .i64 t5.Ballot.Round), (.int .i64 t5.Ballot.Node), (.int .i64 t5.Index), (.int .i64 t5.Commit), (.int .i64 t5.Version), t5.Entries.val, t5.Image.val]⟩)] w16 fun t18 w19 =>
  kp b7 w16 w19 <|
  kp b1 w16 w19 <|
  ifB (!t18)
  (j17 8 w19)
  (j17 e15 w19))
  (j17 e15 w16))
  (fun e20 w21 =>
  ifB (e20 != 0)
  (wrM b1 (fun w22 =>
  K ((ApiMsg.mk 0 0 0 (ApiBallot.mk 0 0) 0 0 0 Sl.nil Sl.nil), e20) w22) w21)
  (wrM b1 (fun w23 =>
  K (t5, 0) w23) w21)))) w8) w6) w
def msgone_Decode_ann : Ann := (.s (.r [(0, .nl 2)]) (.s (.r [(1, .call rP)]) (.s (.r [(1, .call rApiMsg), (2, .nl 5), (3, .ls 5)]) (.s (.r [(1, .call (rI .i64))]) (.sj [(.s 6, (rI .i64))] (.s .d (.c (.r [(1, .call (rI .i64))]) .d)) (.sj [(.s 6, (rI .i64))] (.s (.r [(4, .call rB)]) (.c .d .d)) (.s (.s .d (.c (.s (.r [(2, .ls 2)]) .d) .d)) (.s (.r [(1, .ls 2)]) .d))))))))
theorem msgone_Decode_calls {b : Sl} {K : (ApiMsg × Int) → World → Prop} {w : World} (h : msgone_Decode b K w) : callV Pr (tval2 ApiMsg.val (Value.int .i64)) 24 #[b.val] w K :=
  calls_of Pr_plain Pr_mixed Pr_func24 msgone_Decode_ann (rT2 rApiMsg (rI .i64)) (args := [b.val]) (by kernel_rfl) h

/- changeover/changeoverref13.Older -/
def ref13_Older (m : ApiMsg) (K : Int → World → Prop) (w : World) : Prop :=
  newV (fun b1 w2 =>
  callV Pr (Value.int .i64) 10 #[(.agg ⟨[(.int .i64 m.Kind), (.int .i64 m.From), (.int .i64 m.To), (.int .i64 m.Ballot.Round), (.int .i64 m.Ballot.Node), (.int .i64 m.Index), (.int .i64 m.Commit), (.int .i64 m.Version), m.Entries.val, m.Image.val]⟩)] w2 fun e3 w4 =>
  kp b1 w2 w4 <|
  ifB (e3 != 0)
  (K e3 w4)
  (ifB (m.Version == 2)
  (K 8 w4)
  (callV Pr Value.bool 55 #[(.int .i64 1), m.Entries.val] w4 fun t5 w6 =>
  kp b1 w4 w6 <|
  ifB (!t5)
  (K 8 w6)
  (K 0 w6)))) w
def ref13_Older_ann : Ann := (.s (.r [(0, .nl 1)]) (.s (.s (.r [(1, .call (rI .i64))]) (.s .d (.c (.s .d .d) .d))) (.s (.s (.r [(6, .call rB)]) (.c (.s .d .d) .d)) (.s .d .d))))
theorem ref13_Older_calls {m : ApiMsg} {K : Int → World → Prop} {w : World} (h : ref13_Older m K w) : callV Pr (Value.int .i64) 25 #[(.agg ⟨m.cs⟩)] w K :=
  calls_of Pr_plain Pr_mixed Pr_func25 ref13_Older_ann (rI .i64) (args := [(.agg ⟨m.cs⟩)]) (by kernel_rfl) h

/- changeover/changeoverref01.Same -/
def ref01_Same (a : Sl) (b : Sl) (K : Bool → World → Prop) (w : World) : Prop :=
  ifB ((a.len : Int) != (b.len : Int))
  (K false w)
  (loop1 (0 : Int) (fun i1 k2 w3 =>
  ifB (decide (i1 < (a.len : Int)))
  (drewM (fun w4 =>
  opRd Pr (Instr.indexAt 25 a.val (.int .i64 i1)) pav (fun t5 =>
  opRd Pr (Instr.loadAt 5 (.pointer (some t5))) (Value.int .u8) (fun t6 =>
  opRd Pr (Instr.indexAt 25 b.val (.int .i64 i1)) pav (fun t7 =>
  opRd Pr (Instr.loadAt 5 (.pointer (some t7))) (Value.int .u8) (fun t8 =>
  ifB (t6 != t8)
  (K false w4)
  (k2 (i64 (i1 + 1)) w4)) w4) w4) w4) w4) w3)
  (K true w3)) w)
def ref01_Same_ann : Ann := (.s .d (.s (.s .d (.c (.s .d .d) .d)) (.s (.s .d (.b (.l [(.s 5, (rI .i64))] (.s (.s .d (.c .d .d)) (.s (.b (.s (.r [(2, .rd rPA), (3, .rd (rI .u8)), (6, .rd rPA), (7, .rd (rI .u8))]) (.c (.s .d .d) .d))) .d))))) (.s .d .d))))
theorem ref01_Same_calls {a : Sl} {b : Sl} {K : Bool → World → Prop} {w : World} (h : ref01_Same a b K w) : callV Pr Value.bool 26 #[a.val, b.val] w K :=
  calls_of Pr_plain Pr_mixed Pr_func26 ref01_Same_ann rB (args := [a.val, b.val]) (by kernel_rfl) h

/- changeover/changeoverref13.Bytes -/
def ref13_Bytes (m : ApiMsg) (K : Sl → World → Prop) (w : World) : Prop :=
  newV (fun b1 w2 =>
  opTy Pr (Instr.buildSlice 81 7 #[(0, (.int .i64 m.Kind)), (1, (.int .i64 m.From)), (2, (.int .i64 m.To)), (3, (.int .i64 m.Ballot.Round)), (4, (.int .i64 m.Ballot.Node)), (5, (.int .i64 m.Index)), (6, (.int .i64 m.Commit))]) Sl.val (fun l3 w4 =>
  kp b1 w2 w4 <|
  loop2 (Sl.nil : Sl) (0 : Int) (fun out5 i6 k7 w8 =>
  ifB (decide (i6 < (l3.len : Int)))
  (opRd Pr (Instr.indexAt 81 l3.val (.int .i64 i6)) pav (fun t9 =>
  opRd Pr (Instr.loadAt 3 (.pointer (some t9))) (Value.int .i64) (fun t10 =>
  callV Pr Sl.val 56 #[(.int .i64 t10)] w8 fun t11 w12 =>
  kp b1 w8 w12 <|
  opTy Pr (Builtin.append_ #[25, 25] 25 #[out5.val, t11.val]) Sl.val (fun out13 w14 =>
  kp b1 w12 w14 <|
  k7 out13 (i64 (i6 + 1)) w14) w12) w8) w8)
  (callV Pr Sl.val 57 #[(.int .i64 1), m.Entries.val] w8 fun t15 w16 =>
  kp b1 w8 w16 <|
  opTy Pr (Builtin.append_ #[25, 25] 25 #[out5.val, t15.val]) Sl.val (fun out17 w18 =>
  kp b1 w16 w18 <|
  callV Pr Sl.val 56 #[(.int .i64 (m.Image.len : Int))] w18 fun t19 w20 =>
  kp b1 w18 w20 <|
  opTy Pr (Builtin.append_ #[25, 25] 25 #[out17.val, t19.val]) Sl.val (fun out21 w22 =>
  kp b1 w20 w22 <|
  opTy Pr (Builtin.append_ #[25, 25] 25 #[out21.val, m.Image.val]) Sl.val (fun t23 w24 =>
  kp b1 w22 w24 <|
  K t23 w24) w22) w20) w16)) w4) w2) w
def ref13_Bytes_ann : Ann := (.s (.r [(0, .nl 1)]) (.s (.r [(16, .ty rSl)]) (.s .d (.s (.s .d (.b (.l [(.s 4, rSl), (.s 5, (rI .i64))] (.s (.s .d (.c .d .d)) (.s (.b (.r [(3, .rd rPA), (4, .rd (rI .i64)), (5, .call rSl), (6, .ty rSl)])) .d))))) (.s (.r [(3, .call rSl), (4, .ty rSl)]) (.s (.r [(4, .call rSl), (5, .ty rSl)]) (.s (.r [(3, .ty rSl)]) .d)))))))
theorem ref13_Bytes_calls {m : ApiMsg} {K : Sl → World → Prop} {w : World} (h : ref13_Bytes m K w) : callV Pr Sl.val 27 #[(.agg ⟨m.cs⟩)] w K :=
  calls_of Pr_plain Pr_mixed Pr_func27 ref13_Bytes_ann rSl (args := [(.agg ⟨m.cs⟩)]) (by kernel_rfl) h

/- changeover/changeoverref12.Large -/
def ref12_Large (l : Sl) (K : Bool → World → Prop) (w : World) : Prop :=
  loop1 (0 : Int) (fun i1 k2 w3 =>
  ifB (decide (i1 < (l.len : Int)))
  (ifB (decide (i1 < 40))
  (opRd Pr (Instr.indexAt 24 l.val (.int .i64 i1)) pav (fun t4 =>
  opRd Pr (Instr.loadAt 9 (.pointer (some ((t4.add 3).add 3)))) sval (fun t5 =>
  ifB (decide (((t5 : List UInt8).length : Int) > 200))
  (K true w3)
  (opRd Pr (Instr.indexAt 24 l.val (.int .i64 i1)) pav (fun t6 =>
  opRd Pr (Instr.loadAt 9 (.pointer (some ((t6.add 3).add 4)))) sval (fun t7 =>
  ifB (decide (((t7 : List UInt8).length : Int) > 200))
  (K true w3)
  (opRd Pr (Instr.indexAt 24 l.val (.int .i64 i1)) pav (fun t8 =>
  opRd Pr (Instr.loadAt 9 (.pointer (some ((t8.add 3).add 5)))) sval (fun t9 =>
  ifB (decide (((t9 : List UInt8).length : Int) > 200))
  (K true w3)
  (k2 (i64 (i1 + 1)) w3)) w3) w3)) w3) w3)) w3) w3)
  (K (decide ((l.len : Int) > 40)) w3))
  (K (decide ((l.len : Int) > 40)) w3)) w
def ref12_Large_ann : Ann := (.s .d (.s (.s .d (.b (.l [(.s 3, (rI .i64))] (.s (.s .d (.c .d .d)) (.s (.b (.s (.r [(2, .rd rPA), (5, .rd rS), (11, .rd rPA), (14, .rd rS), (21, .rd rPA), (24, .rd rS)]) (.c (.s .d .d) .d))) .d))))) (.s .d .d)))
theorem ref12_Large_calls {l : Sl} {K : Bool → World → Prop} {w : World} (h : ref12_Large l K w) : callV Pr Value.bool 28 #[l.val] w K :=
  calls_of Pr_plain Pr_mixed Pr_func28 ref12_Large_ann rB (args := [l.val]) (by kernel_rfl) h

/- changeover/msgone.Encode -/
def msgone_Encode (m : ApiMsg) (K : (Sl × Int) → World → Prop) (w : World) : Prop :=
  newV (fun b1 w2 =>
  callV Pr (Value.int .i64) 9 #[(.agg ⟨[(.int .i64 m.Kind), (.int .i64 m.From), (.int .i64 m.To), (.int .i64 m.Ballot.Round), (.int .i64 m.Ballot.Node), (.int .i64 m.Index), (.int .i64 m.Commit), (.int .i64 m.Version), m.Entries.val, m.Image.val]⟩)] w2 fun e3 w4 =>
  kp b1 w2 w4 <|
  ifB (e3 != 0)
  (K (Sl.nil, e3) w4)
  (callV Pr Value.bool 54 #[(.agg ⟨[(.int .i64 m.Kind), (.int .i64 m.From), (.int .i64 m.To), (.int .i64 m.Ballot.Round), (.int .i64 m.Ballot.Node), (.int .i64 m.Index), (.int .i64 m.Commit), (.int .i64 m.Version), m.Entries.val, m.Image.val]⟩)] w4 fun t5 w6 =>
  kp b1 w4 w6 <|
  ifB (!t5)
  (K (Sl.nil, 8) w6)
  (opTy Pr (Instr.box 86 (.agg ⟨[Sl.nil.val]⟩)) pav (fun w7 w8 =>
  kp b1 w6 w8 <|
  loop1 (0 : Int) (fun t9 k10 w11 =>
  ifB (decide (t9 < 7))
  (opRd Pr (Instr.index 87 (.agg ⟨[(.int .i64 m.Kind), (.int .i64 m.From), (.int .i64 m.To), (.int .i64 m.Ballot.Round), (.int .i64 m.Ballot.Node), (.int .i64 m.Index), (.int .i64 m.Commit)]⟩) (.int .i64 t9)) (Value.int .i64) (fun n12 =>
  callV Pr uval 58 #[(.pointer (some w7)), (.int .i64 n12)] w11 fun t13 w14 =>
  kp b1 w11 w14 <|
  k10 (i64 (t9 + 1)) w14) w11)
  (callV Pr uval 59 #[(.pointer (some w7)), (.int .i64 1), m.Entries.val] w11 fun t15 w16 =>
  kp b1 w11 w16 <|
  callV Pr uval 60 #[(.pointer (some w7)), m.Image.val] w16 fun t17 w18 =>
  kp b1 w16 w18 <|
  callV Pr Sl.val 61 #[(.pointer (some w7))] w18 fun t19 w20 =>
  kp b1 w18 w20 <|
  K (t19, 0) w20)) w8) w6))) w
def msgone_Encode_ann : Ann := (.s (.r [(0, .nl 1)]) (.s (.s (.r [(1, .call (rI .i64))]) (.s .d (.c (.s .d .d) .d))) (.s (.s (.r [(1, .call rB)]) (.c (.s .d .d) .d)) (.s (.r [(1, .ty rPA)]) (.s (.s .d (.b (.l [(.s 35, (rI .i64))] (.s .d (.s (.c .d .d) (.s (.b (.s (.r [(0, .rd (rI .i64))]) (.r [(2, .call rU)]))) .d)))))) (.s (.r [(3, .call rU)]) (.s (.r [(3, .call rU)]) (.s (.r [(1, .call rSl)]) .d))))))))
theorem msgone_Encode_calls {m : ApiMsg} {K : (Sl × Int) → World → Prop} {w : World} (h : msgone_Encode m K w) : callV Pr (tval2 Sl.val (Value.int .i64)) 29 #[(.agg ⟨m.cs⟩)] w K :=
  calls_of Pr_plain Pr_mixed Pr_func29 msgone_Encode_ann (rT2 rSl (rI .i64)) (args := [(.agg ⟨m.cs⟩)]) (by kernel_rfl) h

/- changeover/msgone.fields -/
def msgone_fields (kind : Int) (K : Int → World → Prop) (w : World) : Prop :=
  join1 (fun (j1 : Bool → World → Prop) =>
  ifB (kind == 1)
  (j1 (kind == 1) w)
  (j1 (kind == 2) w))
  (fun t2 w3 =>
  ifB t2
  (K 8 w3)
  (join1 (fun (j4 : Bool → World → Prop) =>
  ifB (kind == 3)
  (j4 (kind == 3) w3)
  (j4 (kind == 6) w3))
  (fun t5 w6 =>
  ifB t5
  (K 3 w6)
  (ifB (kind == 4)
  (K 23 w6)
  (ifB (kind == 5)
  (K 17 w6)
  (ifB (kind == 7)
  (K 1 w6)
  (ifB (kind == 8)
  (K 5 w6)
  (ifB (kind == 9)
  (K 2 w6)
  (ifB (kind == 10)
  (K 20 w6)
  (ifB (kind == 11)
  (K 32 w6)
  (K 0 w6)))))))))))
def msgone_fields_ann : Ann := (.s .d (.s (.s .d (.b (.sj [(.s 4, rB)] (.s .d (.c .d .d)) (.c (.s .d .d) (.sj [(.s 7, rB)] (.s .d (.c .d .d)) (.c (.s .d .d) (.s .d (.c (.s .d .d) (.s .d (.c (.s .d .d) (.s .d (.c (.s .d .d) (.s .d (.c (.s .d .d) (.s .d (.c (.s .d .d) (.s .d (.c (.s .d .d) (.s .d (.c (.s .d .d) .d)))))))))))))))))))) (.s .d .d)))
theorem msgone_fields_calls {kind : Int} {K : Int → World → Prop} {w : World} (h : msgone_fields kind K w) : callV Pr (Value.int .i64) 30 #[(.int .i64 kind)] w K :=
  calls_of Pr_plain Pr_mixed Pr_func30 msgone_fields_ann (rI .i64) (args := [(.int .i64 kind)]) (by kernel_rfl) h

/- changeover/msgone.ranges -/
def msgone_ranges (m : ApiMsg) (f : Int) (K : Bool → World → Prop) (w : World) : Prop :=
  newV (fun b1 w2 =>
  join0 (fun (j3 : World → Prop) =>
  join1 (fun (j4 : Bool → World → Prop) =>
  callV Pr Value.bool 62 #[(.int .i64 m.From)] w2 fun t5 w6 =>
  kp b1 w2 w6 <|
  ifB (!t5)
  (j4 (!t5) w6)
  (callV Pr Value.bool 62 #[(.int .i64 m.To)] w6 fun t7 w8 =>
  kp b1 w6 w8 <|
  ifB (!t7)
  (j4 (!t7) w8)
  (j4 (m.From == m.To) w8)))
  (fun t9 w10 =>
  ifB t9
  (K false w10)
  (ifB ((bAnd .i64 f 1) != 0)
  (callV Pr Value.bool 63 #[(.agg ⟨[(.int .i64 m.Ballot.Round), (.int .i64 m.Ballot.Node)]⟩)] w10 fun t11 w12 =>
  kp b1 w10 w12 <|
  ifB (!t11)
  (K false w12)
  (opRd Pr (binSem .eql 23 (.tmp 33) (.tmp 34) (.agg ⟨[(.int .i64 m.Ballot.Round), (.int .i64 m.Ballot.Node)]⟩) (.agg ⟨[(.int .i64 0), (.int .i64 0)]⟩)) Value.bool (fun t13 =>
  ifB t13
  (K false w12)
  (ifB ((bAnd .i64 f 2) != 0)
  (ifB (decide (m.Index < 1))
  (K false w12)
  (ifB (decide (m.Index > 4294967296))
  (K false w12)
  (ifB ((bAnd .i64 f 4) != 0)
  (ifB (decide (m.Commit < 0))
  (K false w12)
  (ifB (decide (m.Commit > 4294967296))
  (K false w12)
  (j3 w12)))
  (j3 w12))))
  (ifB ((bAnd .i64 f 4) != 0)
  (ifB (decide (m.Commit < 0))
  (K false w12)
  (ifB (decide (m.Commit > 4294967296))
  (K false w12)
  (j3 w12)))
  (j3 w12)))) w12))
  (ifB ((bAnd .i64 f 2) != 0)
  (ifB (decide (m.Index < 1))
  (K false w10)
  (ifB (decide (m.Index > 4294967296))
  (K false w10)
  (ifB ((bAnd .i64 f 4) != 0)
  (ifB (decide (m.Commit < 0))
  (K false w10)
  (ifB (decide (m.Commit > 4294967296))
  (K false w10)
  (j3 w10)))
  (j3 w10))))
  (ifB ((bAnd .i64 f 4) != 0)
  (ifB (decide (m.Commit < 0))
  (K false w10)
  (ifB (decide (m.Commit > 4294967296))
  (K false w10)
  (j3 w10)))
  (j3 w10))))))
  (fun w14 =>
  ifB ((bAnd .i64 f 8) == 0)
  (K true w14)
  (callV Pr Value.bool 64 #[(.int .i64 m.Version)] w14 fun t15 w16 =>
  kp b1 w14 w16 <|
  K t15 w16))) w
def msgone_ranges_ann : Ann := (.s (.r [(0, .nl 2)]) (.s .d (.sj [] (.b (.sj [(.s 6, rB)] (.s (.r [(3, .call rB)]) (.c .d (.s (.r [(3, .call rB)]) (.c .d .d)))) (.c (.s .d .d) (.s (.r [(6, .call rB), (12, .rd rB)]) (.c (.s .d .d) (.s .d (.c (.s .d .d) (.s .d (.c (.s .d .d) .d))))))))) (.s (.r [(6, .call rB)]) .d))))
theorem msgone_ranges_calls {m : ApiMsg} {f : Int} {K : Bool → World → Prop} {w : World} (h : msgone_ranges m f K w) : callV Pr Value.bool 31 #[(.agg ⟨m.cs⟩), (.int .i64 f)] w K :=
  calls_of Pr_plain Pr_mixed Pr_func31 msgone_ranges_ann rB (args := [(.agg ⟨m.cs⟩), (.int .i64 f)]) (by kernel_rfl) h

/- changeover/entry.Check -/
def entry_Check (l : Sl) (K : Int → World → Prop) (w : World) : Prop :=
  loop1 (0 : Int) (fun t1 k2 w3 =>
  ifB (decide (t1 < (l.len : Int)))
  (opRd Pr (Instr.indexAt 24 l.val (.int .i64 t1)) pav (fun t4 =>
  opRd Pr (Instr.loadAt 50 (.pointer (some t4))) ApiEntry.val (fun t5 =>
  newV (fun b6 w7 =>
  wrM b6 (fun w8 =>
  callV Pr (Value.int .i64) 65 #[(.agg ⟨[(.int .i64 t5.Index), (.int .i64 t5.Ballot.Round), (.int .i64 t5.Ballot.Node), (.int .i64 t5.Cmd.Kind), (.int .i64 t5.Cmd.Client), (.int .i64 t5.Cmd.Seq), (sval t5.Cmd.Key), (sval t5.Cmd.Val), (sval t5.Cmd.Old), (.int .i64 t5.Cmd.Node)]⟩)] w8 fun no9 w10 =>
  kp b6 w8 w10 <|
  ifB (no9 != 0)
  (K no9 w10)
  (drewM (fun w11 =>
  ifB (decide (t1 > 0))
  (opRd Pr (Instr.indexAt 24 l.val (.int .i64 (i64 (t1 - 1)))) pav (fun t12 =>
  opRd Pr (Instr.loadAt 3 (.pointer (some (t12.add 0)))) (Value.int .i64) (fun t13 =>
  ifB (decide (t5.Index ≤ t13))
  (K 12 w11)
  (k2 (i64 (t1 + 1)) w11)) w11) w11)
  (k2 (i64 (t1 + 1)) w11)) w10)) w7) w3) w3) w3)
  (K 0 w3)) w
def entry_Check_ann : Ann := (.s .d (.s (.s .d (.b (.l [(.s 8, (rI .i64))] (.s .d (.s (.c .d .d) (.s (.b (.s (.r [(1, .rd rPA), (2, .rd rApiEntry), (3, .nl 4), (5, .ls 4)]) (.s (.s (.r [(1, .call (rI .i64))]) (.s .d (.c (.s .d .d) .d))) (.s (.r [(8, .rd rPA), (10, .rd (rI .i64))]) (.c (.s .d .d) .d))))) .d)))))) (.s .d .d)))
theorem entry_Check_calls {l : Sl} {K : Int → World → Prop} {w : World} (h : entry_Check l K w) : callV Pr (Value.int .i64) 32 #[l.val] w K :=
  calls_of Pr_plain Pr_mixed Pr_func32 entry_Check_ann (rI .i64) (args := [l.val]) (by kernel_rfl) h

/- changeover/msgone.others -/
def msgone_others (m : ApiMsg) (f : Int) (K : Bool → World → Prop) (w : World) : Prop :=
  newV (fun b1 w2 =>
  join1 (fun (j3 : Bool → World → Prop) =>
  ifB ((bAnd .i64 f 1) == 0)
  (opRd Pr (binSem .neq 23 (.tmp 11) (.tmp 12) (.agg ⟨[(.int .i64 m.Ballot.Round), (.int .i64 m.Ballot.Node)]⟩) (.agg ⟨[(.int .i64 0), (.int .i64 0)]⟩)) Value.bool (fun t4 =>
  ifB t4
  (j3 t4 w2)
  (ifB ((bAnd .i64 f 2) == 0)
  (ifB (m.Index != 0)
  (j3 (m.Index != 0) w2)
  (ifB ((bAnd .i64 f 4) == 0)
  (j3 (m.Commit != 0) w2)
  (j3 false w2)))
  (ifB ((bAnd .i64 f 4) == 0)
  (j3 (m.Commit != 0) w2)
  (j3 false w2)))) w2)
  (ifB ((bAnd .i64 f 2) == 0)
  (ifB (m.Index != 0)
  (j3 (m.Index != 0) w2)
  (ifB ((bAnd .i64 f 4) == 0)
  (j3 (m.Commit != 0) w2)
  (j3 false w2)))
  (ifB ((bAnd .i64 f 4) == 0)
  (j3 (m.Commit != 0) w2)
  (j3 false w2))))
  (fun t5 w6 =>
  ifB t5
  (K true w6)
  (join1 (fun (j7 : Bool → World → Prop) =>
  ifB ((bAnd .i64 f 8) == 0)
  (ifB (m.Version != 0)
  (j7 (m.Version != 0) w6)
  (ifB ((bAnd .i64 f 16) == 0)
  (ifB (decide ((m.Entries.len : Int) > 0))
  (j7 (decide ((m.Entries.len : Int) > 0)) w6)
  (ifB ((bAnd .i64 f 32) == 0)
  (j7 (decide ((m.Image.len : Int) > 0)) w6)
  (j7 false w6)))
  (ifB ((bAnd .i64 f 32) == 0)
  (j7 (decide ((m.Image.len : Int) > 0)) w6)
  (j7 false w6))))
  (ifB ((bAnd .i64 f 16) == 0)
  (ifB (decide ((m.Entries.len : Int) > 0))
  (j7 (decide ((m.Entries.len : Int) > 0)) w6)
  (ifB ((bAnd .i64 f 32) == 0)
  (j7 (decide ((m.Image.len : Int) > 0)) w6)
  (j7 false w6)))
  (ifB ((bAnd .i64 f 32) == 0)
  (j7 (decide ((m.Image.len : Int) > 0)) w6)
  (j7 false w6))))
  (fun t8 w9 =>
  ifB t8
  (K true w9)
  (K false w9))))) w
def msgone_others_ann : Ann := (.s (.r [(0, .nl 2)]) (.s (.b (.sj [(.s 5, rB)] (.s (.r [(7, .rd rB)]) (.c .d (.s .d (.c .d .d)))) (.c (.s .d .d) (.sj [(.s 31, rB)] (.s .d (.c .d (.s .d (.c .d .d)))) (.c (.s .d .d) .d))))) (.s .d .d)))
theorem msgone_others_calls {m : ApiMsg} {f : Int} {K : Bool → World → Prop} {w : World} (h : msgone_others m f K w) : callV Pr Value.bool 33 #[(.agg ⟨m.cs⟩), (.int .i64 f)] w K :=
  calls_of Pr_plain Pr_mixed Pr_func33 msgone_others_ann rB (args := [(.agg ⟨m.cs⟩), (.int .i64 f)]) (by kernel_rfl) h

/- changeover/msgone.accept -/
def msgone_accept (m : ApiMsg) (K : Bool → World → Prop) (w : World) : Prop :=
  newV (fun b1 w2 =>
  drewM (fun w3 =>
  ifB ((m.Entries.len : Int) == 1)
  (opRd Pr (Instr.indexAt 24 m.Entries.val (.int .i64 0)) pav (fun t4 =>
  opRd Pr (Instr.loadAt 23 (.pointer (some (t4.add 1)))) ApiBallot.val (fun t5 =>
  opRd Pr (binSem .eql 23 (.tmp 12) (.tmp 14) (.agg ⟨t5.cs⟩) (.agg ⟨[(.int .i64 m.Ballot.Round), (.int .i64 m.Ballot.Node)]⟩)) Value.bool (fun t6 =>
  K t6 w3) w3) w3) w3)
  (K false w3)) w2) w
def msgone_accept_ann : Ann := (.s (.r [(0, .nl 1)]) (.s (.r [(7, .rd rPA), (9, .rd rApiBallot), (12, .rd rB)]) .d))
theorem msgone_accept_calls {m : ApiMsg} {K : Bool → World → Prop} {w : World} (h : msgone_accept m K w) : callV Pr Value.bool 34 #[(.agg ⟨m.cs⟩)] w K :=
  calls_of Pr_plain Pr_mixed Pr_func34 msgone_accept_ann rB (args := [(.agg ⟨m.cs⟩)]) (by kernel_rfl) h

/- changeover/changeoverref13.Letters -/
def ref13_Letters (kind : Int) (K : (List UInt8) → World → Prop) (w : World) : Prop :=
  opTy Pr (Instr.buildSlice 94 12 #[(0, (sval [])), (1, (sval [118])), (2, (sval [118])), (3, (sval [98, 105])), (4, (sval [98, 105, 99, 101])), (5, (sval [98, 101])), (6, (sval [98, 105])), (7, (sval [98])), (8, (sval [98, 99])), (9, (sval [105])), (10, (sval [99, 101])), (11, (sval [109]))]) Sl.val (fun l1 w2 =>
  ifB (decide (kind < 1))
  (K [] w2)
  (ifB (decide (kind > 11))
  (K [] w2)
  (opRd Pr (Instr.indexAt 94 l1.val (.int .i64 kind)) pav (fun t3 =>
  opRd Pr (Instr.loadAt 9 (.pointer (some t3))) sval (fun t4 =>
  K t4 w2) w2) w2))) w
def ref13_Letters_ann : Ann := (.s .d (.s (.r [(0, .ty rSl)]) (.s (.s .d (.c (.s .d .d) .d)) (.s (.r [(2, .rd rPA), (3, .rd rS)]) .d))))
theorem ref13_Letters_calls {kind : Int} {K : (List UInt8) → World → Prop} {w : World} (h : ref13_Letters kind K w) : callV Pr sval 35 #[(.int .i64 kind)] w K :=
  calls_of Pr_plain Pr_mixed Pr_func35 ref13_Letters_ann rS (args := [(.int .i64 kind)]) (by kernel_rfl) h

/- changeover/changeoverref13.Has -/
def ref13_Has (kind : Int) (c : Int) (K : Bool → World → Prop) (w : World) : Prop :=
  callV Pr sval 35 #[(.int .i64 kind)] w fun l1 w2 =>
  loop1 (0 : Int) (fun i3 k4 w5 =>
  ifB (decide (i3 < ((l1 : List UInt8).length : Int)))
  (opRd Pr (Instr.index 9 (sval l1) (.int .i64 i3)) (Value.int .u8) (fun t6 =>
  ifB (t6 == c)
  (K true w5)
  (k4 (i64 (i3 + 1)) w5)) w5)
  (K false w5)) w2
def ref13_Has_ann : Ann := (.s .d (.s (.r [(1, .call rS)]) (.s (.s .d (.b (.l [(.s 6, (rI .i64))] (.s (.s .d (.c .d .d)) (.s (.b (.s (.r [(2, .rd (rI .u8))]) (.c (.s .d .d) .d))) .d))))) (.s .d .d))))
theorem ref13_Has_calls {kind : Int} {c : Int} {K : Bool → World → Prop} {w : World} (h : ref13_Has kind c K w) : callV Pr Value.bool 36 #[(.int .i64 kind), (.int .u8 c)] w K :=
  calls_of Pr_plain Pr_mixed Pr_func36 ref13_Has_ann rB (args := [(.int .i64 kind), (.int .u8 c)]) (by kernel_rfl) h

/- changeover/changeoverref13.ballot -/
def ref13_ballot (b : ApiBallot) (K : Bool → World → Prop) (w : World) : Prop :=
  newV (fun b1 w2 =>
  callV Pr Value.bool 42 #[(.agg ⟨[(.int .i64 b.Round), (.int .i64 b.Node)]⟩)] w2 fun t3 w4 =>
  kp b1 w2 w4 <|
  ifB t3
  (K (decide (b.Round > 0)) w4)
  (K false w4)) w
def ref13_ballot_ann : Ann := (.s (.r [(0, .nl 1)]) (.s (.r [(1, .call rB)]) .d))
theorem ref13_ballot_calls {b : ApiBallot} {K : Bool → World → Prop} {w : World} (h : ref13_ballot b K w) : callV Pr Value.bool 37 #[(.agg ⟨b.cs⟩)] w K :=
  calls_of Pr_plain Pr_mixed Pr_func37 ref13_ballot_ann rB (args := [(.agg ⟨b.cs⟩)]) (by kernel_rfl) h

/- changeover/changeoverref12.Check -/
def ref12_Check (l : Sl) (K : Int → World → Prop) (w : World) : Prop :=
  loop1 (0 : Int) (fun i1 k2 w3 =>
  ifB (decide (i1 < (l.len : Int)))
  (opRd Pr (Instr.indexAt 24 l.val (.int .i64 i1)) pav (fun t4 =>
  opRd Pr (Instr.loadAt 3 (.pointer (some (t4.add 0)))) (Value.int .i64) (fun t5 =>
  ifB (decide (t5 < 1))
  (K 6 w3)
  (opRd Pr (Instr.indexAt 24 l.val (.int .i64 i1)) pav (fun t6 =>
  opRd Pr (Instr.loadAt 3 (.pointer (some (t6.add 0)))) (Value.int .i64) (fun t7 =>
  ifB (decide (t7 > 4294967296))
  (K 6 w3)
  (opRd Pr (Instr.indexAt 24 l.val (.int .i64 i1)) pav (fun t8 =>
  opRd Pr (Instr.loadAt 23 (.pointer (some (t8.add 1)))) ApiBallot.val (fun t9 =>
  callV Pr Value.bool 42 #[(.agg ⟨t9.cs⟩)] w3 fun t10 w11 =>
  ifB (!t10)
  (K 6 w11)
  (opRd Pr (Instr.indexAt 24 l.val (.int .i64 i1)) pav (fun t12 =>
  opRd Pr (Instr.loadAt 41 (.pointer (some (t12.add 3)))) ApiCmd.val (fun t13 =>
  callV Pr (Value.int .i64) 66 #[(.agg ⟨t13.cs⟩)] w11 fun e14 w15 =>
  ifB (e14 != 0)
  (K e14 w15)
  (drewM (fun w16 =>
  ifB (decide (i1 > 0))
  (opRd Pr (Instr.indexAt 24 l.val (.int .i64 i1)) pav (fun t17 =>
  opRd Pr (Instr.loadAt 3 (.pointer (some (t17.add 0)))) (Value.int .i64) (fun t18 =>
  opRd Pr (Instr.indexAt 24 l.val (.int .i64 (i64 (i1 - 1)))) pav (fun t19 =>
  opRd Pr (Instr.loadAt 3 (.pointer (some (t19.add 0)))) (Value.int .i64) (fun t20 =>
  ifB (decide (t18 ≤ t20))
  (K 12 w16)
  (k2 (i64 (i1 + 1)) w16)) w16) w16) w16) w16)
  (k2 (i64 (i1 + 1)) w16)) w15)) w11) w11)) w3) w3)) w3) w3)) w3) w3)
  (K 0 w3)) w
def ref12_Check_ann : Ann := (.s .d (.s (.s .d (.b (.l [(.s 3, (rI .i64))] (.s (.s .d (.c .d .d)) (.s (.b (.s (.s (.r [(2, .rd rPA), (4, .rd (rI .i64)), (9, .rd rPA), (11, .rd (rI .i64)), (17, .rd rPA), (19, .rd rApiBallot), (20, .call rB)]) (.c (.s .d .d) .d)) (.s (.s (.r [(2, .rd rPA), (4, .rd rApiCmd), (5, .call (rI .i64))]) (.s .d (.c (.s .d .d) .d))) (.s (.r [(5, .rd rPA), (7, .rd (rI .i64)), (11, .rd rPA), (13, .rd (rI .i64))]) (.c (.s .d .d) .d))))) .d))))) (.s .d .d)))
theorem ref12_Check_calls {l : Sl} {K : Int → World → Prop} {w : World} (h : ref12_Check l K w) : callV Pr (Value.int .i64) 38 #[l.val] w K :=
  calls_of Pr_plain Pr_mixed Pr_func38 ref12_Check_ann (rI .i64) (args := [l.val]) (by kernel_rfl) h

/- changeover/msgone.Same$1 -/
def msgone_Same_1 (m : ApiMsg) (K : (List Value) → World → Prop) (w : World) : Prop :=
  newV (fun b1 w2 =>
  newV (fun b3 w4 =>
  wrM b3 (fun w5 =>
  K [(.int .i64 m.Kind), (.int .i64 m.From), (.int .i64 m.To), (.int .i64 m.Ballot.Round), (.int .i64 m.Ballot.Node), (.int .i64 m.Index), (.int .i64 m.Commit), (.int .i64 m.Version)] w5) w4) w2) w
def msgone_Same_1_ann : Ann := (.s (.r [(0, .nl 1), (1, .nl 2)]) (.s (.r [(19, .ls 2)]) .d))
theorem msgone_Same_1_calls {m : ApiMsg} {K : (List Value) → World → Prop} {w : World} (h : msgone_Same_1 m K w) : callV Pr aval 39 #[(.agg ⟨m.cs⟩)] w K :=
  calls_of Pr_plain Pr_mixed Pr_func39 msgone_Same_1_ann rA (args := [(.agg ⟨m.cs⟩)]) (by kernel_rfl) h

/- slices.Equal[[]changeover/api.Entry,changeover/api.Entry] -/
def slices_Equal_api_Entry_api_Entry (s1 : Sl) (s2 : Sl) (K : Bool → World → Prop) (w : World) : Prop :=
  ifB ((s1.len : Int) != (s2.len : Int))
  (K false w)
  (loop1 (0 : Int) (fun t1 k2 w3 =>
  ifB (decide (t1 < (s1.len : Int)))
  (drewM (fun w4 =>
  opRd Pr (Instr.indexAt 24 s1.val (.int .i64 t1)) pav (fun t5 =>
  opRd Pr (Instr.loadAt 50 (.pointer (some t5))) ApiEntry.val (fun t6 =>
  opRd Pr (Instr.indexAt 24 s2.val (.int .i64 t1)) pav (fun t7 =>
  opRd Pr (Instr.loadAt 50 (.pointer (some t7))) ApiEntry.val (fun t8 =>
  opRd Pr (binSem .neq 50 (.tmp 19) (.tmp 23) (.agg ⟨t6.cs⟩) (.agg ⟨t8.cs⟩)) Value.bool (fun t9 =>
  ifB t9
  (K false w4)
  (k2 (i64 (t1 + 1)) w4)) w4) w4) w4) w4) w4) w3)
  (K true w3)) w)
def slices_Equal_api_Entry_api_Entry_ann : Ann := (.s .d (.s (.s .d (.c (.s .d .d) .d)) (.s (.s .d (.b (.l [(.s 13, (rI .i64))] (.s .d (.s (.c .d .d) (.s (.b (.s .d (.s (.r [(2, .rd rPA), (3, .rd rApiEntry), (6, .rd rPA), (7, .rd rApiEntry), (8, .rd rB)]) (.c (.s .d .d) .d)))) .d)))))) (.s .d .d))))
theorem slices_Equal_api_Entry_api_Entry_calls {s1 : Sl} {s2 : Sl} {K : Bool → World → Prop} {w : World} (h : slices_Equal_api_Entry_api_Entry s1 s2 K w) : callV Pr Value.bool 40 #[s1.val, s2.val] w K :=
  calls_of Pr_plain Pr_mixed Pr_func40 slices_Equal_api_Entry_api_Entry_ann rB (args := [s1.val, s2.val]) (by kernel_rfl) h

/- slices.Equal[[]byte,byte] -/
def slices_Equal_byte_byte (s1 : Sl) (s2 : Sl) (K : Bool → World → Prop) (w : World) : Prop :=
  ifB ((s1.len : Int) != (s2.len : Int))
  (K false w)
  (loop1 (0 : Int) (fun t1 k2 w3 =>
  ifB (decide (t1 < (s1.len : Int)))
  (drewM (fun w4 =>
  opRd Pr (Instr.indexAt 25 s1.val (.int .i64 t1)) pav (fun t5 =>
  opRd Pr (Instr.loadAt 5 (.pointer (some t5))) (Value.int .u8) (fun t6 =>
  opRd Pr (Instr.indexAt 25 s2.val (.int .i64 t1)) pav (fun t7 =>
  opRd Pr (Instr.loadAt 5 (.pointer (some t7))) (Value.int .u8) (fun t8 =>
  ifB (t6 != t8)
  (K false w4)
  (k2 (i64 (t1 + 1)) w4)) w4) w4) w4) w4) w3)
  (K true w3)) w)
def slices_Equal_byte_byte_ann : Ann := (.s .d (.s (.s .d (.c (.s .d .d) .d)) (.s (.s .d (.b (.l [(.s 13, (rI .i64))] (.s .d (.s (.c .d .d) (.s (.b (.s .d (.s (.r [(2, .rd rPA), (3, .rd (rI .u8)), (6, .rd rPA), (7, .rd (rI .u8))]) (.c (.s .d .d) .d)))) .d)))))) (.s .d .d))))
theorem slices_Equal_byte_byte_calls {s1 : Sl} {s2 : Sl} {K : Bool → World → Prop} {w : World} (h : slices_Equal_byte_byte s1 s2 K w) : callV Pr Value.bool 41 #[s1.val, s2.val] w K :=
  calls_of Pr_plain Pr_mixed Pr_func41 slices_Equal_byte_byte_ann rB (args := [s1.val, s2.val]) (by kernel_rfl) h

/- changeover/changeoverref10.May -/
def ref10_May (b : ApiBallot) (K : Bool → World → Prop) (w : World) : Prop :=
  newV (fun b1 w2 =>
  join0 (fun (j3 : World → Prop) =>
  ifB (b.Round == 0)
  (ifB (b.Node == 0)
  (K true w2)
  (j3 w2))
  (j3 w2))
  (fun w4 =>
  ifB (decide (b.Round ≥ 1))
  (ifB (decide (b.Round ≤ 4294967296))
  (ifB (decide (b.Node ≥ 1))
  (K (decide (b.Node ≤ 9)) w4)
  (K false w4))
  (K false w4))
  (K false w4))) w
def ref10_May_ann : Ann := (.s (.r [(0, .nl 1)]) (.sj [] (.s .d (.c (.s .d .d) .d)) (.s .d .d)))
theorem ref10_May_calls {b : ApiBallot} {K : Bool → World → Prop} {w : World} (h : ref10_May b K w) : callV Pr Value.bool 42 #[(.agg ⟨b.cs⟩)] w K :=
  calls_of Pr_plain Pr_mixed Pr_func42 ref10_May_ann rB (args := [(.agg ⟨b.cs⟩)]) (by kernel_rfl) h

/- changeover/changeoverref19.Of -/
def ref19_Of (l : Sl) (K : ApiHard → World → Prop) (w : World) : Prop :=
  newV (fun b1 w2 =>
  newV (fun b3 w4 =>
  loop2 (0 : Int) ((ApiHard.mk (ApiBallot.mk 0 0) 0 Sl.nil Sl.nil Sl.nil) : ApiHard) (fun i5 h6 k7 w8 =>
  ifB (decide (i5 < (l.len : Int)))
  (opRd Pr (Instr.indexAt 36 l.val (.int .i64 i5)) pav (fun t9 =>
  opRd Pr (Instr.loadAt 43 (.pointer (some t9))) ApiRecord.val (fun t10 =>
  newV (fun b11 w12 =>
  wrM b11 (fun w13 =>
  callV Pr (Value.int .i64) 67 #[(.agg ⟨[(.int .i64 t10.Kind), (.int .i64 t10.Ballot.Round), (.int .i64 t10.Ballot.Node), (.int .i64 t10.Index), (.int .i64 t10.Cmd.Kind), (.int .i64 t10.Cmd.Client), (.int .i64 t10.Cmd.Seq), (sval t10.Cmd.Key), (sval t10.Cmd.Val), (sval t10.Cmd.Old), (.int .i64 t10.Cmd.Node), t10.Image.val]⟩)] w13 fun t14 w15 =>
  kp b11 w13 w15 <|
  kp b3 w13 w15 <|
  kp b1 w13 w15 <|
  ifB (t14 != 0)
  (k7 (i64 (i5 + 1)) h6 w15)
  (join1 (fun (j16 : ApiHard → World → Prop) =>
  callV Pr Value.bool 68 #[(.int .i64 t10.Kind)] w15 fun t17 w18 =>
  kp b11 w15 w18 <|
  kp b3 w15 w18 <|
  kp b1 w15 w18 <|
  ifB t17
  (callV Pr Value.bool 18 #[(.agg ⟨[(.int .i64 h6.Promised.Round), (.int .i64 h6.Promised.Node)]⟩), (.agg ⟨[(.int .i64 t10.Ballot.Round), (.int .i64 t10.Ballot.Node)]⟩)] w18 fun t19 w20 =>
  kp b11 w18 w20 <|
  kp b3 w18 w20 <|
  kp b1 w18 w20 <|
  ifB t19
  (wrM b3 (fun w21 =>
  j16 (ApiHard.mk t10.Ballot h6.Base h6.Image h6.Accepted h6.Chosen) w21) w20)
  (j16 h6 w20))
  (j16 h6 w18))
  (fun h22 w23 =>
  ifB (t10.Kind == 4)
  (ifB (decide (t10.Index > h22.Base))
  (wrM b3 (fun w24 =>
  wrM b3 (fun w25 =>
  k7 (i64 (i5 + 1)) (ApiHard.mk h22.Promised t10.Index t10.Image h22.Accepted h22.Chosen) w25) w24) w23)
  (k7 (i64 (i5 + 1)) h22 w23))
  (k7 (i64 (i5 + 1)) h22 w23)))) w12) w8) w8) w8)
  (loop2 (0 : Int) (h6 : ApiHard) (fun i26 h27 k28 w29 =>
  ifB (decide (i26 < (l.len : Int)))
  (opRd Pr (Instr.indexAt 36 l.val (.int .i64 i26)) pav (fun t30 =>
  opRd Pr (Instr.loadAt 43 (.pointer (some t30))) ApiRecord.val (fun t31 =>
  newV (fun b32 w33 =>
  wrM b32 (fun w34 =>
  callV Pr (Value.int .i64) 67 #[(.agg ⟨[(.int .i64 t31.Kind), (.int .i64 t31.Ballot.Round), (.int .i64 t31.Ballot.Node), (.int .i64 t31.Index), (.int .i64 t31.Cmd.Kind), (.int .i64 t31.Cmd.Client), (.int .i64 t31.Cmd.Seq), (sval t31.Cmd.Key), (sval t31.Cmd.Val), (sval t31.Cmd.Old), (.int .i64 t31.Cmd.Node), t31.Image.val]⟩)] w34 fun t35 w36 =>
  kp b32 w34 w36 <|
  kp b3 w34 w36 <|
  kp b1 w34 w36 <|
  ifB (t35 != 0)
  (k28 (i64 (i26 + 1)) h27 w36)
  (ifB (decide (t31.Index ≤ h27.Base))
  (k28 (i64 (i26 + 1)) h27 w36)
  (callV Pr Value.bool 69 #[(.int .i64 t31.Kind)] w36 fun t37 w38 =>
  kp b32 w36 w38 <|
  kp b3 w36 w38 <|
  kp b1 w36 w38 <|
  ifB (!t37)
  (k28 (i64 (i26 + 1)) h27 w38)
  (newV (fun b39 w40 =>
  wrM b39 (fun w41 =>
  ifB (t31.Kind == 2)
  (callV Pr Sl.val 70 #[h27.Accepted.val, (.agg ⟨[(.int .i64 t31.Index), (.int .i64 t31.Ballot.Round), (.int .i64 t31.Ballot.Node), (.int .i64 t31.Cmd.Kind), (.int .i64 t31.Cmd.Client), (.int .i64 t31.Cmd.Seq), (sval t31.Cmd.Key), (sval t31.Cmd.Val), (sval t31.Cmd.Old), (.int .i64 t31.Cmd.Node)]⟩)] w41 fun t42 w43 =>
  kp b39 w41 w43 <|
  kp b32 w41 w43 <|
  kp b3 w41 w43 <|
  kp b1 w41 w43 <|
  wrM b3 (fun w44 =>
  k28 (i64 (i26 + 1)) (ApiHard.mk h27.Promised h27.Base h27.Image t42 h27.Chosen) w44) w43)
  (callV Pr (Value.int .i64) 23 #[h27.Chosen.val, (.int .i64 t31.Index)] w41 fun t45 w46 =>
  kp b39 w41 w46 <|
  kp b32 w41 w46 <|
  kp b3 w41 w46 <|
  kp b1 w41 w46 <|
  ifB (decide (t45 < 0))
  (callV Pr Sl.val 70 #[h27.Chosen.val, (.agg ⟨[(.int .i64 t31.Index), (.int .i64 t31.Ballot.Round), (.int .i64 t31.Ballot.Node), (.int .i64 t31.Cmd.Kind), (.int .i64 t31.Cmd.Client), (.int .i64 t31.Cmd.Seq), (sval t31.Cmd.Key), (sval t31.Cmd.Val), (sval t31.Cmd.Old), (.int .i64 t31.Cmd.Node)]⟩)] w46 fun t47 w48 =>
  kp b39 w46 w48 <|
  kp b32 w46 w48 <|
  kp b3 w46 w48 <|
  kp b1 w46 w48 <|
  wrM b3 (fun w49 =>
  k28 (i64 (i26 + 1)) (ApiHard.mk h27.Promised h27.Base h27.Image h27.Accepted t47) w49) w48)
  (k28 (i64 (i26 + 1)) h27 w46))) w40) w38)))) w33) w29) w29) w29)
  (wrM b1 (fun w50 =>
  K h27 w50) w29)) w8)) w4) w2) w
def ref19_Of_ann : Ann := (.s (.r [(0, .nl 2)]) (.s (.r [(0, .nl 3)]) (.s (.s .d (.b (.l [(.s 4, (rI .i64)), (.h 3, rApiHard)] (.s (.s .d (.c .d .d)) (.s (.b (.s (.r [(2, .rd rPA), (3, .rd rApiRecord), (4, .nl 5), (5, .ls 5)]) (.s (.s (.r [(1, .call (rI .i64))]) (.c .d .d)) (.sj [(.h 3, rApiHard)] (.s (.r [(2, .call rB), (8, .call rB)]) (.c (.r [(3, .ls 3)]) .d)) (.s .d (.c (.s (.r [(3, .ls 3)]) (.r [(3, .ls 3)])) .d)))))) .d))))) (.s (.s .d (.b (.l [(.s 6, (rI .i64)), (.h 3, rApiHard)] (.s (.s .d (.c .d .d)) (.s (.b (.s (.r [(2, .rd rPA), (3, .rd rApiRecord), (4, .nl 7), (5, .ls 7)]) (.s (.s (.r [(1, .call (rI .i64)), (13, .call rB)]) (.c .d .d)) (.s (.r [(7, .nl 8), (8, .ls 8)]) (.s .d (.c (.r [(3, .call rSl), (5, .ls 3)]) (.s (.r [(4, .call (rI .i64))]) (.c (.r [(3, .call rSl), (5, .ls 3)]) .d)))))))) .d))))) (.s (.r [(1, .ls 2)]) .d)))))
theorem ref19_Of_calls {l : Sl} {K : ApiHard → World → Prop} {w : World} (h : ref19_Of l K w) : callV Pr ApiHard.val 43 #[l.val] w K :=
  calls_of Pr_plain Pr_mixed Pr_func43 ref19_Of_ann rApiHard (args := [l.val]) (by kernel_rfl) h

/- changeover/acceptor.check -/
def acceptor_check (h_ : ApiHard) (commit : Int) (m : ApiMsg) (kind : Int) (K : Int → World → Prop) (w : World) : Prop :=
  newV (fun b1 w2 =>
  newV (fun b3 w4 =>
  callV Pr (Value.int .i64) 9 #[(.agg ⟨[(.int .i64 m.Kind), (.int .i64 m.From), (.int .i64 m.To), (.int .i64 m.Ballot.Round), (.int .i64 m.Ballot.Node), (.int .i64 m.Index), (.int .i64 m.Commit), (.int .i64 m.Version), m.Entries.val, m.Image.val]⟩)] w4 fun e5 w6 =>
  kp b3 w4 w6 <|
  kp b1 w4 w6 <|
  ifB (e5 != 0)
  (K e5 w6)
  (ifB (m.Kind != kind)
  (K 5 w6)
  (callV Pr (Value.int .i64) 71 #[(.agg ⟨[(.int .i64 h_.Promised.Round), (.int .i64 h_.Promised.Node), (.int .i64 h_.Base), h_.Image.val, h_.Accepted.val, h_.Chosen.val]⟩)] w6 fun t7 w8 =>
  kp b3 w6 w8 <|
  kp b1 w6 w8 <|
  ifB (t7 != 0)
  (K 3 w8)
  (ifB (decide (commit < h_.Base))
  (K 3 w8)
  (ifB (decide (commit > 4294967296))
  (K 3 w8)
  (K 0 w8)))))) w2) w
def acceptor_check_ann : Ann := (.s (.r [(0, .nl 4), (1, .nl 6)]) (.s (.s (.r [(1, .call (rI .i64))]) (.s .d (.c (.s .d .d) .d))) (.s (.s .d (.c (.s .d .d) .d)) (.s (.s (.r [(1, .call (rI .i64))]) (.c (.s .d .d) .d)) (.s .d .d)))))
theorem acceptor_check_calls {h_ : ApiHard} {commit : Int} {m : ApiMsg} {kind : Int} {K : Int → World → Prop} {w : World} (h : acceptor_check h_ commit m kind K w) : callV Pr (Value.int .i64) 44 #[(.agg ⟨h_.cs⟩), (.int .i64 commit), (.agg ⟨m.cs⟩), (.int .i64 kind)] w K :=
  calls_of Pr_plain Pr_mixed Pr_func44 acceptor_check_ann (rI .i64) (args := [(.agg ⟨h_.cs⟩), (.int .i64 commit), (.agg ⟨m.cs⟩), (.int .i64 kind)]) (by kernel_rfl) h

/- changeover/ballot.Less -/
def ballot_Less (a : ApiBallot) (b : ApiBallot) (K : Bool → World → Prop) (w : World) : Prop :=
  newV (fun b1 w2 =>
  newV (fun b3 w4 =>
  heldM (fun S6 w5 =>
  callV Pr (Value.int .i64) 73 #[(.int .i64 a.Round), (.int .i64 b.Round)] w5 fun t7 w8 =>
  kp b3 w5 w8 <|
  kp b1 w5 w8 <|
  (S6 w8) ∧
  (callV Pr (Value.int .i64) 73 #[(.int .i64 a.Node), (.int .i64 b.Node)] w8 fun t9 w10 =>
  kp b3 w8 w10 <|
  kp b1 w8 w10 <|
  (S6 w10) ∧
  (opTy Pr (Instr.buildSlice 81 2 #[(0, (.int .i64 t7)), (1, (.int .i64 t9))]) Sl.val (fun t11 w12 =>
  kp b3 w10 w12 <|
  kp b1 w10 w12 <|
  (S6 w12) ∧
  (callV Pr (Value.int .i64) 72 #[t11.val] w12 fun t13 w14 =>
  kp b3 w12 w14 <|
  kp b1 w12 w14 <|
  (S6 w14) ∧
  (K (decide (t13 < 0)) w14))) w10))) w4) w2) w
def ballot_Less_ann : Ann := (.s (.r [(0, .nl 2), (1, .nl 3)]) (.s (.h (.take 0 (.take 1 (.take 2 (.take 3 (.take 5 (.take 6 (.take 7 (.take 8 (.one 4 (.one 9 (.one 10 (.one 11 (.take 12 (.take 13 .done)))))))))))))) [(4, .call (rI .i64)), (9, .call (rI .i64)), (10, .ty rSl), (11, .call (rI .i64))]) .d))
theorem ballot_Less_calls {a : ApiBallot} {b : ApiBallot} {K : Bool → World → Prop} {w : World} (h : ballot_Less a b K w) : callV Pr Value.bool 45 #[(.agg ⟨a.cs⟩), (.agg ⟨b.cs⟩)] w K :=
  calls_of Pr_plain Pr_mixed Pr_func45 ballot_Less_ann rB (args := [(.agg ⟨a.cs⟩), (.agg ⟨b.cs⟩)]) (by kernel_rfl) h

/- changeover/acceptor.back -/
def acceptor_back (m : ApiMsg) (kind : Int) (b : ApiBallot) (K : ApiMsg → World → Prop) (w : World) : Prop :=
  newV (fun b1 w2 =>
  newV (fun b3 w4 =>
  newV (fun b5 w6 =>
  wrM b5 (fun w7 =>
  K (ApiMsg.mk kind m.To m.From b 0 0 0 Sl.nil Sl.nil) w7) w6) w4) w2) w
def acceptor_back_ann : Ann := (.s (.r [(0, .nl 3), (1, .nl 5), (2, .nl 6)]) (.s (.r [(7, .ls 6)]) .d))
theorem acceptor_back_calls {m : ApiMsg} {kind : Int} {b : ApiBallot} {K : ApiMsg → World → Prop} {w : World} (h : acceptor_back m kind b K w) : callV Pr ApiMsg.val 46 #[(.agg ⟨m.cs⟩), (.int .i64 kind), (.agg ⟨b.cs⟩)] w K :=
  calls_of Pr_plain Pr_mixed Pr_func46 acceptor_back_ann rApiMsg (args := [(.agg ⟨m.cs⟩), (.int .i64 kind), (.agg ⟨b.cs⟩)]) (by kernel_rfl) h

/- changeover/entry.Find -/
def entry_Find (l : Sl) (index : Int) (K : (ApiEntry × Bool) → World → Prop) (w : World) : Prop :=
  newV (fun b1 w2 =>
  callV Pr (tval2 (Value.int .i64) Value.bool) 74 #[l.val, (.int .i64 index)] w2 fun t3 w4 =>
  kp b1 w2 w4 <|
  ifB (!t3.2)
  (wrM b1 (fun w5 =>
  K ((ApiEntry.mk 0 (ApiBallot.mk 0 0) (ApiCmd.mk 0 0 0 [] [] [] 0)), false) w5) w4)
  (opRd Pr (Instr.indexAt 24 l.val (.int .i64 t3.1)) pav (fun t6 =>
  opRd Pr (Instr.loadAt 50 (.pointer (some t6))) ApiEntry.val (fun t7 =>
  wrM b1 (fun w8 =>
  K (t7, true) w8) w4) w4) w4)) w
def entry_Find_ann : Ann := (.s (.r [(0, .nl 4)]) (.s (.r [(2, .call (rT2 (rI .i64) rB))]) (.s (.s .d (.c (.s (.r [(1, .ls 4)]) .d) .d)) (.s (.r [(2, .rd rPA), (3, .rd rApiEntry), (4, .ls 4)]) .d))))
theorem entry_Find_calls {l : Sl} {index : Int} {K : (ApiEntry × Bool) → World → Prop} {w : World} (h : entry_Find l index K w) : callV Pr (tval2 ApiEntry.val Value.bool) 47 #[l.val, (.int .i64 index)] w K :=
  calls_of Pr_plain Pr_mixed Pr_func47 entry_Find_ann (rT2 rApiEntry rB) (args := [l.val, (.int .i64 index)]) (by kernel_rfl) h

/- changeover/entry.From -/
def entry_From (l : Sl) (index : Int) (K : Sl → World → Prop) (w : World) : Prop :=
  callV Pr (tval2 (Value.int .i64) Value.bool) 74 #[l.val, (.int .i64 index)] w fun t1 w2 =>
  opRd Pr (Instr.sliceAt 24 l.val (some (.int .i64 t1.1)) none none) Sl.val (fun t3 =>
  callV Pr Sl.val 76 #[t3.val] w2 fun t4 w5 =>
  K t4 w5) w2
def entry_From_ann : Ann := (.s .d (.s (.r [(2, .call (rT2 (rI .i64) rB))]) (.s (.r [(2, .rd rSl), (3, .call rSl)]) .d)))
theorem entry_From_calls {l : Sl} {index : Int} {K : Sl → World → Prop} {w : World} (h : entry_From l index K w) : callV Pr Sl.val 49 #[l.val, (.int .i64 index)] w K :=
  calls_of Pr_plain Pr_mixed Pr_func49 entry_From_ann rSl (args := [l.val, (.int .i64 index)]) (by kernel_rfl) h

/- changeover/acceptor.Ahead$1 -/
def acceptor_Ahead_1 (e : ApiEntry) (c_x0 : Addr) (K : Bool → World → Prop) (w : World) : Prop :=
  newV (fun b1 w2 =>
  opRd Pr (Instr.loadAt 3 (.pointer (some c_x0))) (Value.int .i64) (fun t3 =>
  K (decide (e.Index ≤ t3)) w2) w2) w
def acceptor_Ahead_1_ann : Ann := (.s (.r [(0, .nl 2)]) (.s (.r [(2, .rd (rI .i64))]) .d))
theorem acceptor_Ahead_1_calls {e : ApiEntry} {c_x0 : Addr} {K : Bool → World → Prop} {w : World} (h : acceptor_Ahead_1 e c_x0 K w) : callV Pr Value.bool 50 #[(.agg ⟨e.cs⟩), (.pointer (some c_x0))] w K :=
  calls_of Pr_plain Pr_mixed Pr_func50 acceptor_Ahead_1_ann rB (args := [(.agg ⟨e.cs⟩), (.pointer (some c_x0))]) (by kernel_rfl) h

/- changeover/pack.NewReader -/
def pack_NewReader (b : Sl) (K : (Option Addr) → World → Prop) (w : World) : Prop :=
  callV Pr Sl.val 77 #[b.val] w fun t1 w2 =>
  opTy Pr (Instr.box 107 (.agg ⟨[t1.val, (.int .i64 0), (.int .i64 0)]⟩)) pav (fun t3 w4 =>
  K (some t3) w4) w2
def pack_NewReader_ann : Ann := (.s .d (.s (.r [(1, .call rSl), (3, .ty rPA)]) .d))
theorem pack_NewReader_calls {b : Sl} {K : (Option Addr) → World → Prop} {w : World} (h : pack_NewReader b K w) : callV Pr Value.pointer 51 #[b.val] w K :=
  calls_of Pr_plain Pr_mixed Pr_func51 pack_NewReader_ann rP (args := [b.val]) (by kernel_rfl) h

/- changeover/msgone.read -/
def msgone_read (r : Option Addr) (K : ApiMsg → World → Prop) (w : World) : Prop :=
  newV (fun b1 w2 =>
  opTy Pr (Instr.alloc 27 true (.tuple #[])) pav (fun m3 w4 =>
  kp b1 w2 w4 <|
  loop1 (0 : Int) (fun t5 k6 w7 =>
  ifB (decide (t5 < 7))
  (opRd Pr (Instr.index 109 (.agg ⟨[(.pointer (some (m3.add 0))), (.pointer (some (m3.add 1))), (.pointer (some (m3.add 2))), (.pointer (some ((m3.add 3).add 0))), (.pointer (some ((m3.add 3).add 1))), (.pointer (some (m3.add 5))), (.pointer (some (m3.add 6)))]⟩) (.int .i64 t5)) Value.pointer (fun to8 =>
  callV Pr (Value.int .i64) 78 #[(.pointer r), (.int .i64 9223372036854775807)] w7 fun t9 w10 =>
  kp b1 w7 w10 <|
  opRd Pr (nilSem (.pointer to8)) pav (fun t11 =>
  opUn Pr (Instr.storeAt 3 (.pointer (some t11)) (.int .i64 t9)) (fun w12 =>
  kp b1 w10 w12 <|
  k6 (i64 (t5 + 1)) w12) w10) w10) w7)
  (callV Pr Sl.val 79 #[(.pointer r), (.int .i64 1)] w7 fun t13 w14 =>
  kp b1 w7 w14 <|
  opUn Pr (Instr.storeAt 24 (.pointer (some (m3.add 8))) t13.val) (fun w15 =>
  kp b1 w14 w15 <|
  callV Pr Sl.val 80 #[(.pointer r), (.int .i64 32768)] w15 fun t16 w17 =>
  kp b1 w15 w17 <|
  opUn Pr (Instr.storeAt 25 (.pointer (some (m3.add 9))) t16.val) (fun w18 =>
  kp b1 w17 w18 <|
  opRd Pr (Instr.loadAt 3 (.pointer (some (m3.add 0)))) (Value.int .i64) (fun t19 =>
  callV Pr (Value.int .i64) 30 #[(.int .i64 t19)] w18 fun t20 w21 =>
  kp b1 w18 w21 <|
  ifB ((bAnd .i64 t20 8) != 0)
  (opUn Pr (Instr.storeAt 3 (.pointer (some (m3.add 7))) (.int .i64 1)) (fun w22 =>
  kp b1 w21 w22 <|
  opRd Pr (Instr.loadAt 27 (.pointer (some m3))) ApiMsg.val (fun t23 =>
  wrM b1 (fun w24 =>
  K t23 w24) w22) w22) w21)
  (opRd Pr (Instr.loadAt 27 (.pointer (some m3))) ApiMsg.val (fun t25 =>
  wrM b1 (fun w26 =>
  K t25 w26) w21) w21)) w18) w17) w14)) w4) w2) w
def msgone_read_ann : Ann := (.s (.r [(0, .nl 2)]) (.s (.r [(0, .ty rPA)]) (.s (.s .d (.b (.l [(.s 16, (rI .i64))] (.s .d (.s (.c .d .d) (.s (.b (.s (.r [(0, .rd rP)]) (.r [(2, .call (rI .i64)), (3, .rd rPA), (4, .un)]))) .d)))))) (.s (.r [(1, .call rSl), (3, .un)]) (.s (.r [(1, .call rSl), (3, .un)]) (.s (.s (.r [(1, .rd (rI .i64)), (2, .call (rI .i64))]) (.c (.r [(1, .un)]) .d)) (.s (.r [(0, .rd rApiMsg), (1, .ls 2)]) .d)))))))
theorem msgone_read_calls {r : Option Addr} {K : ApiMsg → World → Prop} {w : World} (h : msgone_read r K w) : callV Pr ApiMsg.val 52 #[(.pointer r)] w K :=
  calls_of Pr_plain Pr_mixed Pr_func52 msgone_read_ann rApiMsg (args := [(.pointer r)]) (by kernel_rfl) h

/- (*changeover/pack.Reader).Done -/
def pack_Reader_Done (r : Option Addr) (K : Int → World → Prop) (w : World) : Prop :=
  callV Pr (Value.int .i64) 81 #[(.pointer r)] w fun e1 w2 =>
  ifB (e1 != 0)
  (K e1 w2)
  (callV Pr (Value.int .i64) 82 #[(.pointer r)] w2 fun t3 w4 =>
  ifB (decide (t3 > 0))
  (K 3 w4)
  (K 0 w4))
def pack_Reader_Done_ann : Ann := (.s .d (.s (.s (.r [(1, .call (rI .i64))]) (.s .d (.c (.s .d .d) .d))) (.s (.s (.r [(1, .call (rI .i64))]) (.c (.s .d .d) .d)) (.s .d .d))))
theorem pack_Reader_Done_calls {r : Option Addr} {K : Int → World → Prop} {w : World} (h : pack_Reader_Done r K w) : callV Pr (Value.int .i64) 53 #[(.pointer r)] w K :=
  calls_of Pr_plain Pr_mixed Pr_func53 pack_Reader_Done_ann (rI .i64) (args := [(.pointer r)]) (by kernel_rfl) h

/- changeover/msgone.older -/
def msgone_older (m : ApiMsg) (K : Bool → World → Prop) (w : World) : Prop :=
  newV (fun b1 w2 =>
  callV Pr Value.bool 83 #[(.int .i64 1), m.Entries.val] w2 fun t3 w4 =>
  kp b1 w2 w4 <|
  ifB t3
  (K (decide (m.Version ≤ 1)) w4)
  (K false w4)) w
def msgone_older_ann : Ann := (.s (.r [(0, .nl 1)]) (.s (.r [(2, .call rB)]) .d))
theorem msgone_older_calls {m : ApiMsg} {K : Bool → World → Prop} {w : World} (h : msgone_older m K w) : callV Pr Value.bool 54 #[(.agg ⟨m.cs⟩)] w K :=
  calls_of Pr_plain Pr_mixed Pr_func54 msgone_older_ann rB (args := [(.agg ⟨m.cs⟩)]) (by kernel_rfl) h

/- changeover/changeoverref12.Has -/
def ref12_Has (v : Int) (l : Sl) (K : Bool → World → Prop) (w : World) : Prop :=
  loop1 (0 : Int) (fun i1 k2 w3 =>
  ifB (decide (i1 < (l.len : Int)))
  (opRd Pr (Instr.indexAt 24 l.val (.int .i64 i1)) pav (fun t4 =>
  opRd Pr (Instr.loadAt 3 (.pointer (some ((t4.add 3).add 0)))) (Value.int .i64) (fun t5 =>
  callV Pr Value.bool 84 #[(.int .i64 v), (.int .i64 t5)] w3 fun t6 w7 =>
  ifB (!t6)
  (K false w7)
  (k2 (i64 (i1 + 1)) w7)) w3) w3)
  (K true w3)) w
def ref12_Has_ann : Ann := (.s .d (.s (.s .d (.b (.l [(.s 5, (rI .i64))] (.s (.s .d (.c .d .d)) (.s (.b (.s (.r [(3, .rd rPA), (6, .rd (rI .i64)), (7, .call rB)]) (.c (.s .d .d) .d))) .d))))) (.s .d .d)))
theorem ref12_Has_calls {v : Int} {l : Sl} {K : Bool → World → Prop} {w : World} (h : ref12_Has v l K w) : callV Pr Value.bool 55 #[(.int .i64 v), l.val] w K :=
  calls_of Pr_plain Pr_mixed Pr_func55 ref12_Has_ann rB (args := [(.int .i64 v), l.val]) (by kernel_rfl) h

/- changeover/changeoverref01.Bytes -/
def ref01_Bytes (n : Int) (K : Sl → World → Prop) (w : World) : Prop :=
  join1 (fun (j1 : Int → World → Prop) =>
  ifB (decide (n < 0))
  (j1 0 w)
  (j1 n w))
  (fun n2 w3 =>
  loop2 (n2 : Int) (Sl.nil : Sl) (fun n4 out5 k6 w7 =>
  ifB (decide (n4 > 127))
  (opTy Pr (Instr.buildSlice 25 1 #[(0, (.int .u8 (IntKind.u8.wrap (i64 (128 + (Int.tmod n4 128))))))]) Sl.val (fun t8 w9 =>
  opTy Pr (Builtin.append_ #[25, 25] 25 #[out5.val, t8.val]) Sl.val (fun out10 w11 =>
  k6 (IntKind.i64.wrap (Int.tdiv n4 128)) out10 w11) w9) w7)
  (opTy Pr (Instr.buildSlice 25 1 #[(0, (.int .u8 (IntKind.u8.wrap n4)))]) Sl.val (fun t12 w13 =>
  opTy Pr (Builtin.append_ #[25, 25] 25 #[out5.val, t12.val]) Sl.val (fun t14 w15 =>
  K t14 w15) w13) w7)) w3)
def ref01_Bytes_ann : Ann := (.s .d (.sj [(.s 0, (rI .i64))] (.s .d (.c .d .d)) (.s .d (.s (.b (.l [(.s 0, (rI .i64)), (.s 3, rSl)] (.s (.s .d (.c .d .d)) (.b (.s (.r [(5, .ty rSl), (6, .ty rSl)]) .d))))) (.s (.r [(3, .ty rSl), (4, .ty rSl)]) .d)))))
theorem ref01_Bytes_calls {n : Int} {K : Sl → World → Prop} {w : World} (h : ref01_Bytes n K w) : callV Pr Sl.val 56 #[(.int .i64 n)] w K :=
  calls_of Pr_plain Pr_mixed Pr_func56 ref01_Bytes_ann rSl (args := [(.int .i64 n)]) (by kernel_rfl) h

/- changeover/changeoverref12.Bytes -/
def ref12_Bytes (v : Int) (l : Sl) (K : Sl → World → Prop) (w : World) : Prop :=
  callV Pr Sl.val 56 #[(.int .i64 (l.len : Int))] w fun out1 w2 =>
  loop2 (out1 : Sl) (0 : Int) (fun out3 i4 k5 w6 =>
  ifB (decide (i4 < (l.len : Int)))
  (opRd Pr (Instr.indexAt 24 l.val (.int .i64 i4)) pav (fun t7 =>
  opRd Pr (Instr.loadAt 3 (.pointer (some (t7.add 0)))) (Value.int .i64) (fun t8 =>
  callV Pr Sl.val 56 #[(.int .i64 t8)] w6 fun t9 w10 =>
  opTy Pr (Builtin.append_ #[25, 25] 25 #[out3.val, t9.val]) Sl.val (fun out11 w12 =>
  opRd Pr (Instr.indexAt 24 l.val (.int .i64 i4)) pav (fun t13 =>
  opRd Pr (Instr.loadAt 3 (.pointer (some ((t13.add 1).add 0)))) (Value.int .i64) (fun t14 =>
  callV Pr Sl.val 56 #[(.int .i64 t14)] w12 fun t15 w16 =>
  opTy Pr (Builtin.append_ #[25, 25] 25 #[out11.val, t15.val]) Sl.val (fun out17 w18 =>
  opRd Pr (Instr.indexAt 24 l.val (.int .i64 i4)) pav (fun t19 =>
  opRd Pr (Instr.loadAt 3 (.pointer (some ((t19.add 1).add 1)))) (Value.int .i64) (fun t20 =>
  callV Pr Sl.val 56 #[(.int .i64 t20)] w18 fun t21 w22 =>
  opTy Pr (Builtin.append_ #[25, 25] 25 #[out17.val, t21.val]) Sl.val (fun out23 w24 =>
  opRd Pr (Instr.indexAt 24 l.val (.int .i64 i4)) pav (fun t25 =>
  opRd Pr (Instr.loadAt 41 (.pointer (some (t25.add 3)))) ApiCmd.val (fun t26 =>
  callV Pr Sl.val 85 #[(.int .i64 v), (.agg ⟨t26.cs⟩)] w24 fun t27 w28 =>
  opTy Pr (Builtin.append_ #[25, 25] 25 #[out23.val, t27.val]) Sl.val (fun out29 w30 =>
  k5 out29 (i64 (i4 + 1)) w30) w28) w24) w24) w22) w18) w18) w16) w12) w12) w10) w6) w6)
  (K out3 w6)) w2
def ref12_Bytes_ann : Ann := (.s .d (.s (.r [(2, .call rSl)]) (.s (.s .d (.b (.l [(.s 5, rSl), (.s 6, (rI .i64))] (.s (.s .d (.c .d .d)) (.s (.b (.s (.r [(3, .rd rPA), (5, .rd (rI .i64)), (6, .call rSl), (7, .ty rSl)]) (.s (.r [(3, .rd rPA), (6, .rd (rI .i64)), (7, .call rSl), (8, .ty rSl)]) (.s (.r [(3, .rd rPA), (6, .rd (rI .i64)), (7, .call rSl), (8, .ty rSl)]) (.r [(4, .rd rPA), (6, .rd rApiCmd), (7, .call rSl), (8, .ty rSl)]))))) .d))))) (.s .d .d))))
theorem ref12_Bytes_calls {v : Int} {l : Sl} {K : Sl → World → Prop} {w : World} (h : ref12_Bytes v l K w) : callV Pr Sl.val 57 #[(.int .i64 v), l.val] w K :=
  calls_of Pr_plain Pr_mixed Pr_func57 ref12_Bytes_ann rSl (args := [(.int .i64 v), l.val]) (by kernel_rfl) h

/- (*changeover/pack.Writer).Number -/
def pack_Writer_Number (w_ : Option Addr) (n : Int) (K : Unit → World → Prop) (w : World) : Prop :=
  opRd Pr (binSem .neq 84 (.tmp 4) (.const (.pointer none)) (.pointer w_) (.pointer none)) Value.bool (fun t1 =>
  ifB t1
  (opRd Pr (nilSem (.pointer w_)) pav (fun t2 =>
  opRd Pr (Instr.loadAt 25 (.pointer (some (t2.add 0)))) Sl.val (fun t3 =>
  callV Pr Sl.val 86 #[t3.val, (.int .i64 n)] w fun t4 w5 =>
  opRd Pr (nilSem (.pointer w_)) pav (fun t6 =>
  opUn Pr (Instr.storeAt 25 (.pointer (some (t6.add 0))) t4.val) (fun w7 =>
  K () w7) w5) w5) w) w)
  (K () w)) w
def pack_Writer_Number_ann : Ann := (.s (.r [(1, .rd rB)]) (.c (.r [(2, .rd rPA), (4, .rd rSl), (6, .call rSl), (7, .rd rPA), (9, .un)]) .d))
theorem pack_Writer_Number_calls {w_ : Option Addr} {n : Int} {K : Unit → World → Prop} {w : World} (h : pack_Writer_Number w_ n K w) : callV Pr uval 58 #[(.pointer w_), (.int .i64 n)] w K :=
  calls_of Pr_plain Pr_mixed Pr_func58 pack_Writer_Number_ann rU (args := [(.pointer w_), (.int .i64 n)]) (by kernel_rfl) h

/- changeover/entry.Put -/
def entry_Put (w_ : Option Addr) (v : Int) (l : Sl) (K : Unit → World → Prop) (w : World) : Prop :=
  callV Pr uval 58 #[(.pointer w_), (.int .i64 (l.len : Int))] w fun t1 w2 =>
  loop1 (0 : Int) (fun t3 k4 w5 =>
  ifB (decide (t3 < (l.len : Int)))
  (opRd Pr (Instr.indexAt 24 l.val (.int .i64 t3)) pav (fun t6 =>
  opRd Pr (Instr.loadAt 50 (.pointer (some t6))) ApiEntry.val (fun t7 =>
  newV (fun b8 w9 =>
  wrM b8 (fun w10 =>
  callV Pr uval 58 #[(.pointer w_), (.int .i64 t7.Index)] w10 fun t11 w12 =>
  kp b8 w10 w12 <|
  callV Pr uval 58 #[(.pointer w_), (.int .i64 t7.Ballot.Round)] w12 fun t13 w14 =>
  kp b8 w12 w14 <|
  callV Pr uval 58 #[(.pointer w_), (.int .i64 t7.Ballot.Node)] w14 fun t15 w16 =>
  kp b8 w14 w16 <|
  callV Pr uval 87 #[(.pointer w_), (.int .i64 v), (.agg ⟨[(.int .i64 t7.Cmd.Kind), (.int .i64 t7.Cmd.Client), (.int .i64 t7.Cmd.Seq), (sval t7.Cmd.Key), (sval t7.Cmd.Val), (sval t7.Cmd.Old), (.int .i64 t7.Cmd.Node)]⟩)] w16 fun t17 w18 =>
  kp b8 w16 w18 <|
  k4 (i64 (t3 + 1)) w18) w9) w5) w5) w5)
  (K () w5)) w2
def entry_Put_ann : Ann := (.s (.r [(3, .call rU)]) (.s .d (.b (.l [(.s 14, (rI .i64))] (.s .d (.s (.c .d .d) (.s (.b (.s (.r [(0, .rd rPA), (1, .rd rApiEntry), (2, .nl 7), (3, .ls 7)]) (.s (.r [(3, .call rU)]) (.s (.r [(4, .call rU)]) (.s (.r [(4, .call rU)]) (.r [(4, .call rU)])))))) .d)))))))
theorem entry_Put_calls {w_ : Option Addr} {v : Int} {l : Sl} {K : Unit → World → Prop} {w : World} (h : entry_Put w_ v l K w) : callV Pr uval 59 #[(.pointer w_), (.int .i64 v), l.val] w K :=
  calls_of Pr_plain Pr_mixed Pr_func59 entry_Put_ann rU (args := [(.pointer w_), (.int .i64 v), l.val]) (by kernel_rfl) h

/- (*changeover/pack.Writer).Raw -/
def pack_Writer_Raw (w_ : Option Addr) (b : Sl) (K : Unit → World → Prop) (w : World) : Prop :=
  opRd Pr (binSem .neq 84 (.tmp 4) (.const (.pointer none)) (.pointer w_) (.pointer none)) Value.bool (fun t1 =>
  ifB t1
  (opRd Pr (nilSem (.pointer w_)) pav (fun t2 =>
  opRd Pr (Instr.loadAt 25 (.pointer (some (t2.add 0)))) Sl.val (fun t3 =>
  callV Pr Sl.val 86 #[t3.val, (.int .i64 (b.len : Int))] w fun t4 w5 =>
  opTy Pr (Builtin.append_ #[25, 25] 25 #[t4.val, b.val]) Sl.val (fun t6 w7 =>
  opRd Pr (nilSem (.pointer w_)) pav (fun t8 =>
  opUn Pr (Instr.storeAt 25 (.pointer (some (t8.add 0))) t6.val) (fun w9 =>
  K () w9) w7) w7) w5) w) w)
  (K () w)) w
def pack_Writer_Raw_ann : Ann := (.s (.r [(1, .rd rB)]) (.c (.r [(2, .rd rPA), (4, .rd rSl), (7, .call rSl), (9, .ty rSl), (10, .rd rPA), (12, .un)]) .d))
theorem pack_Writer_Raw_calls {w_ : Option Addr} {b : Sl} {K : Unit → World → Prop} {w : World} (h : pack_Writer_Raw w_ b K w) : callV Pr uval 60 #[(.pointer w_), b.val] w K :=
  calls_of Pr_plain Pr_mixed Pr_func60 pack_Writer_Raw_ann rU (args := [(.pointer w_), b.val]) (by kernel_rfl) h

/- (*changeover/pack.Writer).Bytes -/
def pack_Writer_Bytes (w_ : Option Addr) (K : Sl → World → Prop) (w : World) : Prop :=
  opRd Pr (binSem .eql 84 (.tmp 3) (.const (.pointer none)) (.pointer w_) (.pointer none)) Value.bool (fun t1 =>
  ifB t1
  (K Sl.nil w)
  (opRd Pr (nilSem (.pointer w_)) pav (fun t2 =>
  opRd Pr (Instr.loadAt 25 (.pointer (some (t2.add 0)))) Sl.val (fun t3 =>
  callV Pr Sl.val 77 #[t3.val] w fun t4 w5 =>
  K t4 w5) w) w)) w
def pack_Writer_Bytes_ann : Ann := (.s .d (.s (.s (.r [(1, .rd rB)]) (.c (.s .d .d) .d)) (.s (.r [(1, .rd rPA), (3, .rd rSl), (4, .call rSl)]) .d)))
theorem pack_Writer_Bytes_calls {w_ : Option Addr} {K : Sl → World → Prop} {w : World} (h : pack_Writer_Bytes w_ K w) : callV Pr Sl.val 61 #[(.pointer w_)] w K :=
  calls_of Pr_plain Pr_mixed Pr_func61 pack_Writer_Bytes_ann rSl (args := [(.pointer w_)]) (by kernel_rfl) h

/- changeover/msgone.ranges$1 -/
def msgone_ranges_1 (n : Int) (K : Bool → World → Prop) (w : World) : Prop :=
  ifB (decide (n ≥ 1))
  (K (decide (n ≤ 9)) w)
  (K false w)
def msgone_ranges_1_ann : Ann := (.s .d (.s .d .d))
theorem msgone_ranges_1_calls {n : Int} {K : Bool → World → Prop} {w : World} (h : msgone_ranges_1 n K w) : callV Pr Value.bool 62 #[(.int .i64 n)] w K :=
  calls_of Pr_plain Pr_mixed Pr_func62 msgone_ranges_1_ann rB (args := [(.int .i64 n)]) (by kernel_rfl) h

/- changeover/ballot.May -/
def ballot_May (b : ApiBallot) (K : Bool → World → Prop) (w : World) : Prop :=
  newV (fun b1 w2 =>
  opRd Pr (binSem .eql 23 (.tmp 3) (.tmp 4) (.agg ⟨[(.int .i64 b.Round), (.int .i64 b.Node)]⟩) (.agg ⟨[(.int .i64 0), (.int .i64 0)]⟩)) Value.bool (fun t3 =>
  ifB t3
  (K true w2)
  (ifB (decide (b.Round ≥ 1))
  (ifB (decide (b.Round ≤ 4294967296))
  (callV Pr Value.bool 88 #[(.int .i64 b.Node)] w2 fun t4 w5 =>
  kp b1 w2 w5 <|
  K t4 w5)
  (K false w2))
  (K false w2))) w2) w
def ballot_May_ann : Ann := (.s (.r [(0, .nl 1)]) (.s (.r [(2, .rd rB), (15, .call rB)]) .d))
theorem ballot_May_calls {b : ApiBallot} {K : Bool → World → Prop} {w : World} (h : ballot_May b K w) : callV Pr Value.bool 63 #[(.agg ⟨b.cs⟩)] w K :=
  calls_of Pr_plain Pr_mixed Pr_func63 ballot_May_ann rB (args := [(.agg ⟨b.cs⟩)]) (by kernel_rfl) h

/- changeover/vers.May -/
def vers_May (v : Int) (K : Bool → World → Prop) (w : World) : Prop :=
  ifB (v == 1)
  (K true w)
  (ifB (v == 2)
  (K true w)
  (K false w))
def vers_May_ann : Ann := (.s .d (.s (.s .d (.b (.s (.b (.b (.s (.s (.s .d (.c .d .d)) (.s .d (.c .d .d))) .d))) (.s (.s .d .d) .d)))) (.s .d .d)))
theorem vers_May_calls {v : Int} {K : Bool → World → Prop} {w : World} (h : vers_May v K w) : callV Pr Value.bool 64 #[(.int .i64 v)] w K :=
  calls_of Pr_plain Pr_mixed Pr_func64 vers_May_ann rB (args := [(.int .i64 v)]) (by kernel_rfl) h

/- changeover/entry.one -/
def entry_one (e : ApiEntry) (K : Int → World → Prop) (w : World) : Prop :=
  newV (fun b1 w2 =>
  ifB (decide (e.Index < 1))
  (K 6 w2)
  (ifB (decide (e.Index > 4294967296))
  (K 6 w2)
  (callV Pr Value.bool 63 #[(.agg ⟨[(.int .i64 e.Ballot.Round), (.int .i64 e.Ballot.Node)]⟩)] w2 fun t3 w4 =>
  kp b1 w2 w4 <|
  ifB (!t3)
  (K 6 w4)
  (callV Pr (Value.int .i64) 89 #[(.agg ⟨[(.int .i64 e.Cmd.Kind), (.int .i64 e.Cmd.Client), (.int .i64 e.Cmd.Seq), (sval e.Cmd.Key), (sval e.Cmd.Val), (sval e.Cmd.Old), (.int .i64 e.Cmd.Node)]⟩)] w4 fun t5 w6 =>
  kp b1 w4 w6 <|
  K t5 w6)))) w
def entry_one_ann : Ann := (.s (.r [(0, .nl 1)]) (.s (.s (.r [(11, .call rB)]) (.c (.s .d .d) .d)) (.s (.r [(2, .call (rI .i64))]) .d)))
theorem entry_one_calls {e : ApiEntry} {K : Int → World → Prop} {w : World} (h : entry_one e K w) : callV Pr (Value.int .i64) 65 #[(.agg ⟨e.cs⟩)] w K :=
  calls_of Pr_plain Pr_mixed Pr_func65 entry_one_ann (rI .i64) (args := [(.agg ⟨e.cs⟩)]) (by kernel_rfl) h

/- changeover/changeoverref08.Check -/
def ref08_Check (c : ApiCmd) (K : Int → World → Prop) (w : World) : Prop :=
  newV (fun b1 w2 =>
  ifB (decide (c.Kind < 1))
  (K 5 w2)
  (ifB (decide (c.Kind > 8))
  (K 5 w2)
  (callV Pr Value.bool 90 #[(.int .i64 c.Kind)] w2 fun own3 w4 =>
  kp b1 w2 w4 <|
  join0 (fun (j5 : World → Prop) =>
  ifB own3
  (ifB (decide (c.Client < 1))
  (K 6 w4)
  (ifB (decide (c.Client > 8))
  (K 6 w4)
  (ifB (decide (c.Seq < 1))
  (K 6 w4)
  (ifB (decide (c.Seq > 4294967296))
  (K 6 w4)
  (callV Pr Value.bool 91 #[(.int .i64 c.Kind)] w4 fun t6 w7 =>
  kp b1 w4 w7 <|
  ifB t6
  (ifB (decide (c.Node < 1))
  (K 6 w7)
  (ifB (decide (c.Node > 9))
  (K 6 w7)
  (j5 w7)))
  (j5 w7))))))
  (callV Pr Value.bool 91 #[(.int .i64 c.Kind)] w4 fun t8 w9 =>
  kp b1 w4 w9 <|
  ifB t8
  (ifB (decide (c.Node < 1))
  (K 6 w9)
  (ifB (decide (c.Node > 9))
  (K 6 w9)
  (j5 w9)))
  (j5 w9)))
  (fun w10 =>
  ifB (c.Kind == 2)
  (join0 (fun (j11 : World → Prop) =>
  ifB own3
  (callV Pr Value.bool 92 #[(sval c.Key)] w10 fun t12 w13 =>
  kp b1 w10 w13 <|
  ifB (!t12)
  (K 7 w13)
  (callV Pr Value.bool 93 #[(sval c.Val)] w13 fun t14 w15 =>
  kp b1 w13 w15 <|
  ifB (!t14)
  (K 7 w15)
  (ifB (c.Kind == 5)
  (callV Pr Value.bool 93 #[(sval c.Old)] w15 fun t16 w17 =>
  kp b1 w15 w17 <|
  ifB (!t16)
  (K 7 w17)
  (j11 w17))
  (j11 w15))))
  (callV Pr Value.bool 93 #[(sval c.Val)] w10 fun t18 w19 =>
  kp b1 w10 w19 <|
  ifB (!t18)
  (K 7 w19)
  (ifB (c.Kind == 5)
  (callV Pr Value.bool 93 #[(sval c.Old)] w19 fun t20 w21 =>
  kp b1 w19 w21 <|
  ifB (!t20)
  (K 7 w21)
  (j11 w21))
  (j11 w19))))
  (fun w22 =>
  ifB (!own3)
  (ifB (c.Client != 0)
  (K 3 w22)
  (ifB (c.Seq != 0)
  (K 3 w22)
  (ifB (!(strEq c.Key []))
  (K 3 w22)
  (ifB (!true)
  (ifB (!(strEq c.Val []))
  (K 3 w22)
  (ifB (c.Kind != 5)
  (ifB (!(strEq c.Old []))
  (K 3 w22)
  (callV Pr Value.bool 91 #[(.int .i64 c.Kind)] w22 fun t23 w24 =>
  kp b1 w22 w24 <|
  ifB (!t23)
  (ifB (c.Node != 0)
  (K 3 w24)
  (K 0 w24))
  (K 0 w24)))
  (callV Pr Value.bool 91 #[(.int .i64 c.Kind)] w22 fun t25 w26 =>
  kp b1 w22 w26 <|
  ifB (!t25)
  (ifB (c.Node != 0)
  (K 3 w26)
  (K 0 w26))
  (K 0 w26))))
  (ifB (c.Kind != 5)
  (ifB (!(strEq c.Old []))
  (K 3 w22)
  (callV Pr Value.bool 91 #[(.int .i64 c.Kind)] w22 fun t27 w28 =>
  kp b1 w22 w28 <|
  ifB (!t27)
  (ifB (c.Node != 0)
  (K 3 w28)
  (K 0 w28))
  (K 0 w28)))
  (callV Pr Value.bool 91 #[(.int .i64 c.Kind)] w22 fun t29 w30 =>
  kp b1 w22 w30 <|
  ifB (!t29)
  (ifB (c.Node != 0)
  (K 3 w30)
  (K 0 w30))
  (K 0 w30)))))))
  (ifB (!true)
  (ifB (!(strEq c.Val []))
  (K 3 w22)
  (ifB (c.Kind != 5)
  (ifB (!(strEq c.Old []))
  (K 3 w22)
  (callV Pr Value.bool 91 #[(.int .i64 c.Kind)] w22 fun t31 w32 =>
  kp b1 w22 w32 <|
  ifB (!t31)
  (ifB (c.Node != 0)
  (K 3 w32)
  (K 0 w32))
  (K 0 w32)))
  (callV Pr Value.bool 91 #[(.int .i64 c.Kind)] w22 fun t33 w34 =>
  kp b1 w22 w34 <|
  ifB (!t33)
  (ifB (c.Node != 0)
  (K 3 w34)
  (K 0 w34))
  (K 0 w34))))
  (ifB (c.Kind != 5)
  (ifB (!(strEq c.Old []))
  (K 3 w22)
  (callV Pr Value.bool 91 #[(.int .i64 c.Kind)] w22 fun t35 w36 =>
  kp b1 w22 w36 <|
  ifB (!t35)
  (ifB (c.Node != 0)
  (K 3 w36)
  (K 0 w36))
  (K 0 w36)))
  (callV Pr Value.bool 91 #[(.int .i64 c.Kind)] w22 fun t37 w38 =>
  kp b1 w22 w38 <|
  ifB (!t37)
  (ifB (c.Node != 0)
  (K 3 w38)
  (K 0 w38))
  (K 0 w38))))))
  (join0 (fun (j39 : World → Prop) =>
  ifB own3
  (callV Pr Value.bool 92 #[(sval c.Key)] w10 fun t40 w41 =>
  kp b1 w10 w41 <|
  ifB (!t40)
  (K 7 w41)
  (ifB (c.Kind == 5)
  (callV Pr Value.bool 93 #[(sval c.Val)] w41 fun t42 w43 =>
  kp b1 w41 w43 <|
  ifB (!t42)
  (K 7 w43)
  (ifB (c.Kind == 5)
  (callV Pr Value.bool 93 #[(sval c.Old)] w43 fun t44 w45 =>
  kp b1 w43 w45 <|
  ifB (!t44)
  (K 7 w45)
  (j39 w45))
  (j39 w43)))
  (ifB (c.Kind == 5)
  (callV Pr Value.bool 93 #[(sval c.Old)] w41 fun t46 w47 =>
  kp b1 w41 w47 <|
  ifB (!t46)
  (K 7 w47)
  (j39 w47))
  (j39 w41))))
  (ifB (c.Kind == 5)
  (callV Pr Value.bool 93 #[(sval c.Val)] w10 fun t48 w49 =>
  kp b1 w10 w49 <|
  ifB (!t48)
  (K 7 w49)
  (ifB (c.Kind == 5)
  (callV Pr Value.bool 93 #[(sval c.Old)] w49 fun t50 w51 =>
  kp b1 w49 w51 <|
  ifB (!t50)
  (K 7 w51)
  (j39 w51))
  (j39 w49)))
  (ifB (c.Kind == 5)
  (callV Pr Value.bool 93 #[(sval c.Old)] w10 fun t52 w53 =>
  kp b1 w10 w53 <|
  ifB (!t52)
  (K 7 w53)
  (j39 w53))
  (j39 w10))))
  (fun w54 =>
  ifB (!own3)
  (ifB (c.Client != 0)
  (K 3 w54)
  (ifB (c.Seq != 0)
  (K 3 w54)
  (ifB (!(strEq c.Key []))
  (K 3 w54)
  (ifB (!(c.Kind == 5))
  (ifB (!(strEq c.Val []))
  (K 3 w54)
  (ifB (c.Kind != 5)
  (ifB (!(strEq c.Old []))
  (K 3 w54)
  (callV Pr Value.bool 91 #[(.int .i64 c.Kind)] w54 fun t55 w56 =>
  kp b1 w54 w56 <|
  ifB (!t55)
  (ifB (c.Node != 0)
  (K 3 w56)
  (K 0 w56))
  (K 0 w56)))
  (callV Pr Value.bool 91 #[(.int .i64 c.Kind)] w54 fun t57 w58 =>
  kp b1 w54 w58 <|
  ifB (!t57)
  (ifB (c.Node != 0)
  (K 3 w58)
  (K 0 w58))
  (K 0 w58))))
  (ifB (c.Kind != 5)
  (ifB (!(strEq c.Old []))
  (K 3 w54)
  (callV Pr Value.bool 91 #[(.int .i64 c.Kind)] w54 fun t59 w60 =>
  kp b1 w54 w60 <|
  ifB (!t59)
  (ifB (c.Node != 0)
  (K 3 w60)
  (K 0 w60))
  (K 0 w60)))
  (callV Pr Value.bool 91 #[(.int .i64 c.Kind)] w54 fun t61 w62 =>
  kp b1 w54 w62 <|
  ifB (!t61)
  (ifB (c.Node != 0)
  (K 3 w62)
  (K 0 w62))
  (K 0 w62)))))))
  (ifB (!(c.Kind == 5))
  (ifB (!(strEq c.Val []))
  (K 3 w54)
  (ifB (c.Kind != 5)
  (ifB (!(strEq c.Old []))
  (K 3 w54)
  (callV Pr Value.bool 91 #[(.int .i64 c.Kind)] w54 fun t63 w64 =>
  kp b1 w54 w64 <|
  ifB (!t63)
  (ifB (c.Node != 0)
  (K 3 w64)
  (K 0 w64))
  (K 0 w64)))
  (callV Pr Value.bool 91 #[(.int .i64 c.Kind)] w54 fun t65 w66 =>
  kp b1 w54 w66 <|
  ifB (!t65)
  (ifB (c.Node != 0)
  (K 3 w66)
  (K 0 w66))
  (K 0 w66))))
  (ifB (c.Kind != 5)
  (ifB (!(strEq c.Old []))
  (K 3 w54)
  (callV Pr Value.bool 91 #[(.int .i64 c.Kind)] w54 fun t67 w68 =>
  kp b1 w54 w68 <|
  ifB (!t67)
  (ifB (c.Node != 0)
  (K 3 w68)
  (K 0 w68))
  (K 0 w68)))
  (callV Pr Value.bool 91 #[(.int .i64 c.Kind)] w54 fun t69 w70 =>
  kp b1 w54 w70 <|
  ifB (!t69)
  (ifB (c.Node != 0)
  (K 3 w70)
  (K 0 w70))
  (K 0 w70)))))))))) w
def ref08_Check_ann : Ann := (.s (.r [(0, .nl 1)]) (.s (.s .d (.c (.s .d .d) .d)) (.s (.r [(2, .call rB)]) (.sj [] (.s (.r [(24, .call rB)]) (.c (.s .d .d) .d)) (.s .d (.sj [] (.s (.r [(4, .call rB), (12, .call rB), (23, .call rB)]) (.c (.s .d .d) .d)) (.s (.s (.r [(39, .call rB)]) (.c (.s .d .d) .d)) (.s .d .d))))))))
theorem ref08_Check_calls {c : ApiCmd} {K : Int → World → Prop} {w : World} (h : ref08_Check c K w) : callV Pr (Value.int .i64) 66 #[(.agg ⟨c.cs⟩)] w K :=
  calls_of Pr_plain Pr_mixed Pr_func66 ref08_Check_ann (rI .i64) (args := [(.agg ⟨c.cs⟩)]) (by kernel_rfl) h

/- changeover/changeoverref16.Check -/
def ref16_Check (x : ApiRecord) (K : Int → World → Prop) (w : World) : Prop :=
  newV (fun b1 w2 =>
  ifB (decide (x.Kind < 1))
  (K 5 w2)
  (ifB (decide (x.Kind > 4))
  (K 5 w2)
  (join0 (fun (j3 : World → Prop) =>
  callV Pr Value.bool 68 #[(.int .i64 x.Kind)] w2 fun t4 w5 =>
  kp b1 w2 w5 <|
  ifB t4
  (ifB (x.Ballot.Round == 0)
  (K 6 w5)
  (callV Pr Value.bool 42 #[(.agg ⟨[(.int .i64 x.Ballot.Round), (.int .i64 x.Ballot.Node)]⟩)] w5 fun t6 w7 =>
  kp b1 w5 w7 <|
  ifB (!t6)
  (K 6 w7)
  (callV Pr Value.bool 94 #[(.int .i64 x.Kind)] w7 fun t8 w9 =>
  kp b1 w7 w9 <|
  ifB t8
  (ifB (decide (x.Index < 1))
  (K 6 w9)
  (ifB (decide (x.Index > 4294967296))
  (K 6 w9)
  (j3 w9)))
  (j3 w9))))
  (callV Pr Value.bool 94 #[(.int .i64 x.Kind)] w5 fun t10 w11 =>
  kp b1 w5 w11 <|
  ifB t10
  (ifB (decide (x.Index < 1))
  (K 6 w11)
  (ifB (decide (x.Index > 4294967296))
  (K 6 w11)
  (j3 w11)))
  (j3 w11)))
  (fun w12 =>
  join0 (fun (j13 : World → Prop) =>
  ifB (x.Kind == 4)
  (ifB (decide ((x.Image.len : Int) > 32768))
  (K 2 w12)
  (j13 w12))
  (j13 w12))
  (fun w14 =>
  join0 (fun (j15 : World → Prop) =>
  callV Pr Value.bool 69 #[(.int .i64 x.Kind)] w14 fun t16 w17 =>
  kp b1 w14 w17 <|
  ifB t16
  (callV Pr (Value.int .i64) 66 #[(.agg ⟨[(.int .i64 x.Cmd.Kind), (.int .i64 x.Cmd.Client), (.int .i64 x.Cmd.Seq), (sval x.Cmd.Key), (sval x.Cmd.Val), (sval x.Cmd.Old), (.int .i64 x.Cmd.Node)]⟩)] w17 fun e18 w19 =>
  kp b1 w17 w19 <|
  ifB (e18 != 0)
  (K e18 w19)
  (j15 w19))
  (j15 w17))
  (fun w20 =>
  callV Pr Value.bool 68 #[(.int .i64 x.Kind)] w20 fun t21 w22 =>
  kp b1 w20 w22 <|
  ifB (!t21)
  (ifB (x.Ballot.Round != 0)
  (K 3 w22)
  (ifB (x.Ballot.Node != 0)
  (K 3 w22)
  (callV Pr Value.bool 94 #[(.int .i64 x.Kind)] w22 fun t23 w24 =>
  kp b1 w22 w24 <|
  ifB (!t23)
  (ifB (x.Index != 0)
  (K 3 w24)
  (callV Pr Value.bool 69 #[(.int .i64 x.Kind)] w24 fun t25 w26 =>
  kp b1 w24 w26 <|
  ifB (!t25)
  (opRd Pr (binSem .neq 41 (.tmp 88) (.tmp 89) (.agg ⟨[(.int .i64 x.Cmd.Kind), (.int .i64 x.Cmd.Client), (.int .i64 x.Cmd.Seq), (sval x.Cmd.Key), (sval x.Cmd.Val), (sval x.Cmd.Old), (.int .i64 x.Cmd.Node)]⟩) (.agg ⟨[(.int .i64 0), (.int .i64 0), (.int .i64 0), (sval []), (sval []), (sval []), (.int .i64 0)]⟩)) Value.bool (fun t27 =>
  ifB t27
  (K 3 w26)
  (ifB (!((x.Kind == 4) == (decide ((x.Image.len : Int) > 0))))
  (K 3 w26)
  (K 0 w26))) w26)
  (ifB (!((x.Kind == 4) == (decide ((x.Image.len : Int) > 0))))
  (K 3 w26)
  (K 0 w26))))
  (callV Pr Value.bool 69 #[(.int .i64 x.Kind)] w24 fun t28 w29 =>
  kp b1 w24 w29 <|
  ifB (!t28)
  (opRd Pr (binSem .neq 41 (.tmp 88) (.tmp 89) (.agg ⟨[(.int .i64 x.Cmd.Kind), (.int .i64 x.Cmd.Client), (.int .i64 x.Cmd.Seq), (sval x.Cmd.Key), (sval x.Cmd.Val), (sval x.Cmd.Old), (.int .i64 x.Cmd.Node)]⟩) (.agg ⟨[(.int .i64 0), (.int .i64 0), (.int .i64 0), (sval []), (sval []), (sval []), (.int .i64 0)]⟩)) Value.bool (fun t30 =>
  ifB t30
  (K 3 w29)
  (ifB (!((x.Kind == 4) == (decide ((x.Image.len : Int) > 0))))
  (K 3 w29)
  (K 0 w29))) w29)
  (ifB (!((x.Kind == 4) == (decide ((x.Image.len : Int) > 0))))
  (K 3 w29)
  (K 0 w29))))))
  (callV Pr Value.bool 94 #[(.int .i64 x.Kind)] w22 fun t31 w32 =>
  kp b1 w22 w32 <|
  ifB (!t31)
  (ifB (x.Index != 0)
  (K 3 w32)
  (callV Pr Value.bool 69 #[(.int .i64 x.Kind)] w32 fun t33 w34 =>
  kp b1 w32 w34 <|
  ifB (!t33)
  (opRd Pr (binSem .neq 41 (.tmp 88) (.tmp 89) (.agg ⟨[(.int .i64 x.Cmd.Kind), (.int .i64 x.Cmd.Client), (.int .i64 x.Cmd.Seq), (sval x.Cmd.Key), (sval x.Cmd.Val), (sval x.Cmd.Old), (.int .i64 x.Cmd.Node)]⟩) (.agg ⟨[(.int .i64 0), (.int .i64 0), (.int .i64 0), (sval []), (sval []), (sval []), (.int .i64 0)]⟩)) Value.bool (fun t35 =>
  ifB t35
  (K 3 w34)
  (ifB (!((x.Kind == 4) == (decide ((x.Image.len : Int) > 0))))
  (K 3 w34)
  (K 0 w34))) w34)
  (ifB (!((x.Kind == 4) == (decide ((x.Image.len : Int) > 0))))
  (K 3 w34)
  (K 0 w34))))
  (callV Pr Value.bool 69 #[(.int .i64 x.Kind)] w32 fun t36 w37 =>
  kp b1 w32 w37 <|
  ifB (!t36)
  (opRd Pr (binSem .neq 41 (.tmp 88) (.tmp 89) (.agg ⟨[(.int .i64 x.Cmd.Kind), (.int .i64 x.Cmd.Client), (.int .i64 x.Cmd.Seq), (sval x.Cmd.Key), (sval x.Cmd.Val), (sval x.Cmd.Old), (.int .i64 x.Cmd.Node)]⟩) (.agg ⟨[(.int .i64 0), (.int .i64 0), (.int .i64 0), (sval []), (sval []), (sval []), (.int .i64 0)]⟩)) Value.bool (fun t38 =>
  ifB t38
  (K 3 w37)
  (ifB (!((x.Kind == 4) == (decide ((x.Image.len : Int) > 0))))
  (K 3 w37)
  (K 0 w37))) w37)
  (ifB (!((x.Kind == 4) == (decide ((x.Image.len : Int) > 0))))
  (K 3 w37)
  (K 0 w37)))))))))) w
def ref16_Check_ann : Ann := (.s (.r [(0, .nl 1)]) (.s .d (.s (.s .d (.c (.s .d .d) .d)) (.sj [] (.s (.r [(1, .call rB), (10, .call rB), (16, .call rB)]) (.c (.s .d .d) .d)) (.sj [] (.s .d (.c (.s .d .d) .d)) (.sj [] (.s (.r [(1, .call rB)]) (.c (.s (.r [(2, .call (rI .i64))]) (.s .d (.c (.s .d .d) .d))) .d)) (.s (.s (.r [(1, .call rB), (17, .call rB), (27, .call rB), (33, .rd rB)]) (.c (.s .d .d) .d)) (.s .d .d))))))))
theorem ref16_Check_calls {x : ApiRecord} {K : Int → World → Prop} {w : World} (h : ref16_Check x K w) : callV Pr (Value.int .i64) 67 #[(.agg ⟨x.cs⟩)] w K :=
  calls_of Pr_plain Pr_mixed Pr_func67 ref16_Check_ann (rI .i64) (args := [(.agg ⟨x.cs⟩)]) (by kernel_rfl) h

/- changeover/changeoverref16.HasBallot -/
def ref16_HasBallot (kind : Int) (K : Bool → World → Prop) (w : World) : Prop :=
  ifB (kind == 1)
  (K true w)
  (K (kind == 2) w)
def ref16_HasBallot_ann : Ann := (.s .d (.s .d .d))
theorem ref16_HasBallot_calls {kind : Int} {K : Bool → World → Prop} {w : World} (h : ref16_HasBallot kind K w) : callV Pr Value.bool 68 #[(.int .i64 kind)] w K :=
  calls_of Pr_plain Pr_mixed Pr_func68 ref16_HasBallot_ann rB (args := [(.int .i64 kind)]) (by kernel_rfl) h

/- changeover/changeoverref16.HasCmd -/
def ref16_HasCmd (kind : Int) (K : Bool → World → Prop) (w : World) : Prop :=
  ifB (kind == 2)
  (K true w)
  (K (kind == 3) w)
def ref16_HasCmd_ann : Ann := (.s .d (.s .d .d))
theorem ref16_HasCmd_calls {kind : Int} {K : Bool → World → Prop} {w : World} (h : ref16_HasCmd kind K w) : callV Pr Value.bool 69 #[(.int .i64 kind)] w K :=
  calls_of Pr_plain Pr_mixed Pr_func69 ref16_HasCmd_ann rB (args := [(.int .i64 kind)]) (by kernel_rfl) h

/- changeover/changeoverref12.With -/
def ref12_With (l : Sl) (e : ApiEntry) (K : Sl → World → Prop) (w : World) : Prop :=
  newV (fun b1 w2 =>
  loop3 (Sl.nil : Sl) (false : Bool) (0 : Int) (fun out3 done4 i5 k6 w7 =>
  ifB (decide (i5 < (l.len : Int)))
  (join2 (fun (j8 : Sl → Bool → World → Prop) =>
  drewM (fun w9 =>
  ifB (!done4)
  (opRd Pr (Instr.indexAt 24 l.val (.int .i64 i5)) pav (fun t10 =>
  opRd Pr (Instr.loadAt 3 (.pointer (some (t10.add 0)))) (Value.int .i64) (fun t11 =>
  ifB (decide (t11 ≥ e.Index))
  (opTy Pr (Instr.buildSlice 24 1 #[(0, (.agg ⟨[(.int .i64 e.Index), (.int .i64 e.Ballot.Round), (.int .i64 e.Ballot.Node), (.int .i64 e.Cmd.Kind), (.int .i64 e.Cmd.Client), (.int .i64 e.Cmd.Seq), (sval e.Cmd.Key), (sval e.Cmd.Val), (sval e.Cmd.Old), (.int .i64 e.Cmd.Node)]⟩))]) Sl.val (fun t12 w13 =>
  kp b1 w9 w13 <|
  opTy Pr (Builtin.append_ #[24, 24] 24 #[out3.val, t12.val]) Sl.val (fun out14 w15 =>
  kp b1 w13 w15 <|
  j8 out14 true w15) w13) w9)
  (j8 out3 done4 w9)) w9) w9)
  (j8 out3 done4 w9)) w7)
  (fun out16 done17 w18 =>
  drewM (fun w19 =>
  opRd Pr (Instr.indexAt 24 l.val (.int .i64 i5)) pav (fun t20 =>
  opRd Pr (Instr.loadAt 3 (.pointer (some (t20.add 0)))) (Value.int .i64) (fun t21 =>
  ifB (t21 != e.Index)
  (opRd Pr (Instr.indexAt 24 l.val (.int .i64 i5)) pav (fun t22 =>
  opRd Pr (Instr.loadAt 50 (.pointer (some t22))) ApiEntry.val (fun t23 =>
  opTy Pr (Instr.buildSlice 24 1 #[(0, (.agg ⟨t23.cs⟩))]) Sl.val (fun t24 w25 =>
  kp b1 w19 w25 <|
  opTy Pr (Builtin.append_ #[24, 24] 24 #[out16.val, t24.val]) Sl.val (fun out26 w27 =>
  kp b1 w25 w27 <|
  k6 out26 done17 (i64 (i5 + 1)) w27) w25) w19) w19) w19)
  (k6 out16 done17 (i64 (i5 + 1)) w19)) w19) w19) w18))
  (ifB (!done4)
  (opTy Pr (Instr.buildSlice 24 1 #[(0, (.agg ⟨[(.int .i64 e.Index), (.int .i64 e.Ballot.Round), (.int .i64 e.Ballot.Node), (.int .i64 e.Cmd.Kind), (.int .i64 e.Cmd.Client), (.int .i64 e.Cmd.Seq), (sval e.Cmd.Key), (sval e.Cmd.Val), (sval e.Cmd.Old), (.int .i64 e.Cmd.Node)]⟩))]) Sl.val (fun t28 w29 =>
  kp b1 w7 w29 <|
  opTy Pr (Builtin.append_ #[24, 24] 24 #[out3.val, t28.val]) Sl.val (fun out30 w31 =>
  kp b1 w29 w31 <|
  K out30 w31) w29) w7)
  (K out3 w7))) w2) w
def ref12_With_ann : Ann := (.s (.r [(0, .nl 3)]) (.s .d (.s .d (.s (.s .d (.b (.l [(.s 5, rSl), (.s 6, rB), (.s 7, (rI .i64))] (.s (.s .d (.c .d .d)) (.s (.b (.sj [(.s 5, rSl), (.s 6, rB)] (.s (.r [(5, .rd rPA), (7, .rd (rI .i64))]) (.c (.s (.r [(2, .ty rSl), (3, .ty rSl)]) .d) .d)) (.s (.r [(2, .rd rPA), (4, .rd (rI .i64))]) (.c (.r [(3, .rd rPA), (4, .rd rApiEntry), (5, .ty rSl), (6, .ty rSl)]) .d)))) .d))))) (.s (.s .d (.c (.r [(2, .ty rSl), (3, .ty rSl)]) .d)) (.s .d .d))))))
theorem ref12_With_calls {l : Sl} {e : ApiEntry} {K : Sl → World → Prop} {w : World} (h : ref12_With l e K w) : callV Pr Sl.val 70 #[l.val, (.agg ⟨e.cs⟩)] w K :=
  calls_of Pr_plain Pr_mixed Pr_func70 ref12_With_ann rSl (args := [l.val, (.agg ⟨e.cs⟩)]) (by kernel_rfl) h

/- changeover/hard.Check -/
def hard_Check (h_ : ApiHard) (K : Int → World → Prop) (w : World) : Prop :=
  opTy Pr (Instr.box 34 (.agg ⟨h_.cs⟩)) pav (fun h1 w2 =>
  join0 (fun (j3 : World → Prop) =>
  opRd Pr (Instr.loadAt 23 (.pointer (some (h1.add 0)))) ApiBallot.val (fun t4 =>
  callV Pr Value.bool 63 #[(.agg ⟨t4.cs⟩)] w2 fun t5 w6 =>
  ifB (!t5)
  (K 3 w6)
  (opRd Pr (Instr.loadAt 3 (.pointer (some (h1.add 2)))) (Value.int .i64) (fun t7 =>
  ifB (decide (t7 < 0))
  (K 3 w6)
  (opRd Pr (Instr.loadAt 3 (.pointer (some (h1.add 2)))) (Value.int .i64) (fun t8 =>
  ifB (t8 == 0)
  (opRd Pr (Instr.loadAt 25 (.pointer (some (h1.add 3)))) Sl.val (fun t9 =>
  ifB (decide ((t9.len : Int) > 0))
  (K 3 w6)
  (j3 w6)) w6)
  (j3 w6)) w6)) w6)) w2)
  (fun w10 =>
  join0 (fun (j11 : World → Prop) =>
  opRd Pr (Instr.loadAt 3 (.pointer (some (h1.add 2)))) (Value.int .i64) (fun t12 =>
  ifB (decide (t12 > 0))
  (opRd Pr (Instr.loadAt 3 (.pointer (some (h1.add 2)))) (Value.int .i64) (fun t13 =>
  opRd Pr (Instr.loadAt 25 (.pointer (some (h1.add 3)))) Sl.val (fun t14 =>
  callV Pr (Value.int .i64) 95 #[(.agg ⟨[(.int .i64 4), (.int .i64 0), (.int .i64 0), (.int .i64 t13), (.int .i64 0), (.int .i64 0), (.int .i64 0), (sval []), (sval []), (sval []), (.int .i64 0), t14.val]⟩)] w10 fun t15 w16 =>
  ifB (t15 != 0)
  (K 3 w16)
  (j11 w16)) w10) w10)
  (j11 w10)) w10)
  (fun w17 =>
  opRd Pr (Instr.loadAt 24 (.pointer (some (h1.add 4)))) Sl.val (fun t18 =>
  callV Pr (Value.int .i64) 32 #[t18.val] w17 fun t19 w20 =>
  ifB (t19 != 0)
  (K 3 w20)
  (opRd Pr (Instr.loadAt 24 (.pointer (some (h1.add 5)))) Sl.val (fun t21 =>
  callV Pr (Value.int .i64) 32 #[t21.val] w20 fun t22 w23 =>
  ifB (t22 != 0)
  (K 3 w23)
  (opRd Pr (Instr.loadAt 24 (.pointer (some (h1.add 4)))) Sl.val (fun t24 =>
  callV Pr Value.bool 98 #[t24.val, (.func (.func 96) #[] #[(.pointer (some h1))])] w23 fun t25 w26 =>
  ifB t25
  (K 3 w26)
  (opRd Pr (Instr.loadAt 24 (.pointer (some (h1.add 5)))) Sl.val (fun t27 =>
  callV Pr Value.bool 98 #[t27.val, (.func (.func 97) #[] #[(.pointer (some h1))])] w26 fun t28 w29 =>
  ifB t28
  (K 3 w29)
  (K 0 w29)) w26)) w23)) w20)) w17))) w
def hard_Check_ann : Ann := (.s (.r [(0, .ty rPA)]) (.sj [] (.s (.r [(1, .rd rApiBallot), (2, .call rB), (6, .rd (rI .i64)), (11, .rd (rI .i64)), (15, .rd rSl)]) (.c (.s .d .d) .d)) (.sj [] (.s (.r [(1, .rd (rI .i64)), (5, .rd (rI .i64)), (7, .rd rSl), (9, .call (rI .i64))]) (.c (.s .d .d) .d)) (.s (.s (.r [(1, .rd rSl), (2, .call (rI .i64)), (6, .rd rSl), (7, .call (rI .i64))]) (.c (.s .d .d) .d)) (.s .d (.s .d (.s (.s (.r [(1, .rd rSl), (3, .call rB), (6, .rd rSl), (8, .call rB)]) (.c (.s .d .d) .d)) (.s .d .d))))))))
theorem hard_Check_calls {h_ : ApiHard} {K : Int → World → Prop} {w : World} (h : hard_Check h_ K w) : callV Pr (Value.int .i64) 71 #[(.agg ⟨h_.cs⟩)] w K :=
  calls_of Pr_plain Pr_mixed Pr_func71 hard_Check_ann (rI .i64) (args := [(.agg ⟨h_.cs⟩)]) (by kernel_rfl) h

/- cmp.Or[int] -/
def cmp_Or_int (vals : Sl) (K : Int → World → Prop) (w : World) : Prop :=
  loop1 (0 : Int) (fun t1 k2 w3 =>
  ifB (decide (t1 < (vals.len : Int)))
  (opRd Pr (Instr.indexAt 81 vals.val (.int .i64 t1)) pav (fun t4 =>
  opRd Pr (Instr.loadAt 3 (.pointer (some t4))) (Value.int .i64) (fun val5 =>
  ifB (val5 != 0)
  (K val5 w3)
  (k2 (i64 (t1 + 1)) w3)) w3) w3)
  (K 0 w3)) w
def cmp_Or_int_ann : Ann := (.s .d (.s .d (.s (.s .d (.b (.l [(.s 8, (rI .i64))] (.s .d (.s (.c .d .d) (.s (.b (.s (.r [(0, .rd rPA), (1, .rd (rI .i64))]) (.s .d (.c (.s .d .d) .d)))) .d)))))) (.s .d .d))))
theorem cmp_Or_int_calls {vals : Sl} {K : Int → World → Prop} {w : World} (h : cmp_Or_int vals K w) : callV Pr (Value.int .i64) 72 #[vals.val] w K :=
  calls_of Pr_plain Pr_mixed Pr_func72 cmp_Or_int_ann (rI .i64) (args := [vals.val]) (by kernel_rfl) h

/- cmp.Compare[int] -/
def cmp_Compare_int (x : Int) (y : Int) (K : Int → World → Prop) (w : World) : Prop :=
  callV Pr Value.bool 99 #[(.int .i64 x)] w fun xNaN1 w2 =>
  callV Pr Value.bool 99 #[(.int .i64 y)] w2 fun yNaN3 w4 =>
  ifB xNaN1
  (ifB yNaN3
  (K 0 w4)
  (K (-1) w4))
  (ifB yNaN3
  (K 1 w4)
  (ifB (decide (x < y))
  (K (-1) w4)
  (ifB (decide (x > y))
  (K 1 w4)
  (K 0 w4))))
def cmp_Compare_int_ann : Ann := (.s .d (.s (.r [(1, .call rB)]) (.s (.r [(1, .call rB)]) (.s (.s .d (.c (.s (.s .d (.c (.s .d .d) .d)) (.s .d .d)) .d)) (.s (.s .d (.c (.s .d .d) .d)) (.s (.s .d (.c (.s .d .d) .d)) (.s (.s .d (.c (.s .d .d) .d)) (.s .d .d))))))))
theorem cmp_Compare_int_calls {x : Int} {y : Int} {K : Int → World → Prop} {w : World} (h : cmp_Compare_int x y K w) : callV Pr (Value.int .i64) 73 #[(.int .i64 x), (.int .i64 y)] w K :=
  calls_of Pr_plain Pr_mixed Pr_func73 cmp_Compare_int_ann (rI .i64) (args := [(.int .i64 x), (.int .i64 y)]) (by kernel_rfl) h

/- changeover/entry.place -/
def entry_place (l : Sl) (index : Int) (K : (Int × Bool) → World → Prop) (w : World) : Prop :=
  callV Pr (tval2 (Value.int .i64) Value.bool) 100 #[l.val, (.int .i64 index), (.func (.func 101) #[] #[])] w fun t1 w2 =>
  K (t1.1, t1.2) w2
def entry_place_ann : Ann := (.s .d (.s (.r [(2, .call (rT2 (rI .i64) rB))]) .d))
theorem entry_place_calls {l : Sl} {index : Int} {K : (Int × Bool) → World → Prop} {w : World} (h : entry_place l index K w) : callV Pr (tval2 (Value.int .i64) Value.bool) 74 #[l.val, (.int .i64 index)] w K :=
  calls_of Pr_plain Pr_mixed Pr_func74 entry_place_ann (rT2 (rI .i64) rB) (args := [l.val, (.int .i64 index)]) (by kernel_rfl) h

/- slices.Clone[[]changeover/api.Entry,changeover/api.Entry] -/
def slices_Clone_api_Entry_api_Entry (s : Sl) (K : Sl → World → Prop) (w : World) : Prop :=
  opRd Pr (binSem .eql 24 (.tmp 3) (.const Sl.nil.val) s.val Sl.nil.val) Value.bool (fun t1 =>
  ifB t1
  (K Sl.nil w)
  (opTy Pr (Instr.buildSlice 24 0 #[]) Sl.val (fun t2 w3 =>
  opTy Pr (Builtin.append_ #[24, 24] 24 #[t2.val, s.val]) Sl.val (fun t4 w5 =>
  K t4 w5) w3) w)) w
def slices_Clone_api_Entry_api_Entry_ann : Ann := (.s .d (.s (.s (.r [(1, .rd rB)]) (.c (.s .d .d) .d)) (.s (.r [(0, .ty rSl), (2, .ty rSl)]) .d)))
theorem slices_Clone_api_Entry_api_Entry_calls {s : Sl} {K : Sl → World → Prop} {w : World} (h : slices_Clone_api_Entry_api_Entry s K w) : callV Pr Sl.val 76 #[s.val] w K :=
  calls_of Pr_plain Pr_mixed Pr_func76 slices_Clone_api_Entry_api_Entry_ann rSl (args := [s.val]) (by kernel_rfl) h

/- slices.Clone[[]byte,byte] -/
def slices_Clone_byte_byte (s : Sl) (K : Sl → World → Prop) (w : World) : Prop :=
  opRd Pr (binSem .eql 25 (.tmp 3) (.const Sl.nil.val) s.val Sl.nil.val) Value.bool (fun t1 =>
  ifB t1
  (K Sl.nil w)
  (opTy Pr (Instr.buildSlice 25 0 #[]) Sl.val (fun t2 w3 =>
  opTy Pr (Builtin.append_ #[25, 25] 25 #[t2.val, s.val]) Sl.val (fun t4 w5 =>
  K t4 w5) w3) w)) w
def slices_Clone_byte_byte_ann : Ann := (.s .d (.s (.s (.r [(1, .rd rB)]) (.c (.s .d .d) .d)) (.s (.r [(0, .ty rSl), (2, .ty rSl)]) .d)))
theorem slices_Clone_byte_byte_calls {s : Sl} {K : Sl → World → Prop} {w : World} (h : slices_Clone_byte_byte s K w) : callV Pr Sl.val 77 #[s.val] w K :=
  calls_of Pr_plain Pr_mixed Pr_func77 slices_Clone_byte_byte_ann rSl (args := [s.val]) (by kernel_rfl) h

/- (*changeover/pack.Reader).Number -/
def pack_Reader_Number (r : Option Addr) (most : Int) (K : Int → World → Prop) (w : World) : Prop :=
  opTy Pr (Instr.box 76 (.pointer r)) pav (fun r1 w2 =>
  opTy Pr (Instr.box 3 (.int .i64 most)) pav (fun most3 w4 =>
  opRd Pr (Instr.loadAt 76 (.pointer (some r1))) Value.pointer (fun t5 =>
  callV Pr (Value.int .i64) 102 #[(.pointer t5), (.func (.func 103) #[] #[(.pointer (some r1)), (.pointer (some most3))])] w4 fun t6 w7 =>
  K t6 w7) w4) w2) w
def pack_Reader_Number_ann : Ann := (.s (.r [(0, .ty rPA), (1, .ty rPA)]) (.s (.r [(0, .rd rP), (2, .call (rI .i64))]) .d))
theorem pack_Reader_Number_calls {r : Option Addr} {most : Int} {K : Int → World → Prop} {w : World} (h : pack_Reader_Number r most K w) : callV Pr (Value.int .i64) 78 #[(.pointer r), (.int .i64 most)] w K :=
  calls_of Pr_plain Pr_mixed Pr_func78 pack_Reader_Number_ann (rI .i64) (args := [(.pointer r), (.int .i64 most)]) (by kernel_rfl) h

/- changeover/entry.Get -/
def entry_Get (r : Option Addr) (v : Int) (K : Sl → World → Prop) (w : World) : Prop :=
  callV Pr (Value.int .i64) 105 #[(.pointer r), (.int .i64 256)] w fun t1 w2 =>
  loop2 (Sl.nil : Sl) (0 : Int) (fun out3 t4 k5 w6 =>
  ifB (decide (t4 < t1))
  (callV Pr (Value.int .i64) 78 #[(.pointer r), (.int .i64 9223372036854775807)] w6 fun t7 w8 =>
  newV (fun b9 w10 =>
  wrM b9 (fun w11 =>
  callV Pr (Value.int .i64) 78 #[(.pointer r), (.int .i64 9223372036854775807)] w11 fun t12 w13 =>
  kp b9 w11 w13 <|
  wrM b9 (fun w14 =>
  callV Pr (Value.int .i64) 78 #[(.pointer r), (.int .i64 9223372036854775807)] w14 fun t15 w16 =>
  kp b9 w14 w16 <|
  wrM b9 (fun w17 =>
  callV Pr ApiCmd.val 106 #[(.pointer r), (.int .i64 v)] w17 fun t18 w19 =>
  kp b9 w17 w19 <|
  wrM b9 (fun w20 =>
  opTy Pr (Instr.buildSlice 24 1 #[(0, (.agg ⟨[(.int .i64 t7), (.int .i64 t12), (.int .i64 t15), (.int .i64 t18.Kind), (.int .i64 t18.Client), (.int .i64 t18.Seq), (sval t18.Key), (sval t18.Val), (sval t18.Old), (.int .i64 t18.Node)]⟩))]) Sl.val (fun t21 w22 =>
  kp b9 w20 w22 <|
  opTy Pr (Builtin.append_ #[24, 24] 24 #[out3.val, t21.val]) Sl.val (fun out23 w24 =>
  kp b9 w22 w24 <|
  k5 out23 (i64 (t4 + 1)) w24) w22) w20) w19) w16) w13) w10) w8)
  (K out3 w6)) w2
def entry_Get_ann : Ann := (.s .d (.s .d (.s (.s (.r [(1, .call (rI .i64))]) (.b (.l [(.s 5, rSl), (.s 9, (rI .i64))] (.s .d (.s (.c .d .d) (.s (.b (.s (.r [(1, .call (rI .i64)), (3, .nl 6), (4, .ls 6)]) (.s (.r [(1, .call (rI .i64)), (4, .ls 6)]) (.s (.r [(1, .call (rI .i64)), (4, .ls 6)]) (.s (.r [(2, .call rApiCmd), (4, .ls 6)]) (.r [(2, .ty rSl), (3, .ty rSl)])))))) .d)))))) (.s .d .d))))
theorem entry_Get_calls {r : Option Addr} {v : Int} {K : Sl → World → Prop} {w : World} (h : entry_Get r v K w) : callV Pr Sl.val 79 #[(.pointer r), (.int .i64 v)] w K :=
  calls_of Pr_plain Pr_mixed Pr_func79 entry_Get_ann rSl (args := [(.pointer r), (.int .i64 v)]) (by kernel_rfl) h

/- (*changeover/pack.Reader).Raw -/
def pack_Reader_Raw (r : Option Addr) (most : Int) (K : Sl → World → Prop) (w : World) : Prop :=
  opTy Pr (Instr.box 76 (.pointer r)) pav (fun r1 w2 =>
  opTy Pr (Instr.box 3 (.int .i64 most)) pav (fun most3 w4 =>
  opRd Pr (Instr.loadAt 76 (.pointer (some r1))) Value.pointer (fun t5 =>
  callV Pr Sl.val 107 #[(.pointer t5), (.func (.func 108) #[] #[(.pointer (some r1)), (.pointer (some most3))])] w4 fun t6 w7 =>
  K t6 w7) w4) w2) w
def pack_Reader_Raw_ann : Ann := (.s (.r [(0, .ty rPA), (1, .ty rPA)]) (.s (.r [(0, .rd rP), (2, .call rSl)]) .d))
theorem pack_Reader_Raw_calls {r : Option Addr} {most : Int} {K : Sl → World → Prop} {w : World} (h : pack_Reader_Raw r most K w) : callV Pr Sl.val 80 #[(.pointer r), (.int .i64 most)] w K :=
  calls_of Pr_plain Pr_mixed Pr_func80 pack_Reader_Raw_ann rSl (args := [(.pointer r), (.int .i64 most)]) (by kernel_rfl) h

/- (*changeover/pack.Reader).Err -/
def pack_Reader_Err (r : Option Addr) (K : Int → World → Prop) (w : World) : Prop :=
  opRd Pr (binSem .eql 76 (.tmp 3) (.const (.pointer none)) (.pointer r) (.pointer none)) Value.bool (fun t1 =>
  ifB t1
  (K 1 w)
  (opRd Pr (nilSem (.pointer r)) pav (fun t2 =>
  opRd Pr (Instr.loadAt 30 (.pointer (some (t2.add 2)))) (Value.int .i64) (fun t3 =>
  K t3 w) w) w)) w
def pack_Reader_Err_ann : Ann := (.s .d (.s (.s (.r [(1, .rd rB)]) (.c (.s .d .d) .d)) (.s (.r [(1, .rd rPA), (3, .rd (rI .i64))]) .d)))
theorem pack_Reader_Err_calls {r : Option Addr} {K : Int → World → Prop} {w : World} (h : pack_Reader_Err r K w) : callV Pr (Value.int .i64) 81 #[(.pointer r)] w K :=
  calls_of Pr_plain Pr_mixed Pr_func81 pack_Reader_Err_ann (rI .i64) (args := [(.pointer r)]) (by kernel_rfl) h

/- (*changeover/pack.Reader).left -/
def pack_Reader_left (r : Option Addr) (K : Int → World → Prop) (w : World) : Prop :=
  drewM (fun w1 =>
  opRd Pr (nilSem (.pointer r)) pav (fun t2 =>
  opRd Pr (Instr.loadAt 25 (.pointer (some (t2.add 0)))) Sl.val (fun t3 =>
  opRd Pr (nilSem (.pointer r)) pav (fun t4 =>
  opRd Pr (Instr.loadAt 3 (.pointer (some (t4.add 1)))) (Value.int .i64) (fun t5 =>
  K (i64 ((t3.len : Int) - t5)) w1) w1) w1) w1) w1) w
def pack_Reader_left_ann : Ann := (.s .d (.s (.r [(1, .rd rPA), (3, .rd rSl), (6, .rd rPA), (8, .rd (rI .i64))]) .d))
theorem pack_Reader_left_calls {r : Option Addr} {K : Int → World → Prop} {w : World} (h : pack_Reader_left r K w) : callV Pr (Value.int .i64) 82 #[(.pointer r)] w K :=
  calls_of Pr_plain Pr_mixed Pr_func82 pack_Reader_left_ann (rI .i64) (args := [(.pointer r)]) (by kernel_rfl) h

/- changeover/entry.Has -/
def entry_Has (v : Int) (l : Sl) (K : Bool → World → Prop) (w : World) : Prop :=
  opTy Pr (Instr.box 3 (.int .i64 v)) pav (fun v1 w2 =>
  callV Pr Value.bool 98 #[l.val, (.func (.func 110) #[] #[(.pointer (some v1))])] w2 fun t3 w4 =>
  K (!t3) w4) w
def entry_Has_ann : Ann := (.s (.r [(0, .ty rPA)]) (.s (.r [(2, .call rB)]) .d))
theorem entry_Has_calls {v : Int} {l : Sl} {K : Bool → World → Prop} {w : World} (h : entry_Has v l K w) : callV Pr Value.bool 83 #[(.int .i64 v), l.val] w K :=
  calls_of Pr_plain Pr_mixed Pr_func83 entry_Has_ann rB (args := [(.int .i64 v), l.val]) (by kernel_rfl) h

/- changeover/changeoverref07.Has -/
def ref07_Has (v : Int) (kind : Int) (K : Bool → World → Prop) (w : World) : Prop :=
  ifB (decide (kind < 1))
  (K false w)
  (ifB (decide (kind > 8))
  (K false w)
  (ifB (v == 2)
  (K true w)
  (ifB (v == 1)
  (K (kind != 5) w)
  (K false w))))
def ref07_Has_ann : Ann := (.s .d (.s (.s .d (.c (.s .d .d) .d)) (.s .d .d)))
theorem ref07_Has_calls {v : Int} {kind : Int} {K : Bool → World → Prop} {w : World} (h : ref07_Has v kind K w) : callV Pr Value.bool 84 #[(.int .i64 v), (.int .i64 kind)] w K :=
  calls_of Pr_plain Pr_mixed Pr_func84 ref07_Has_ann rB (args := [(.int .i64 v), (.int .i64 kind)]) (by kernel_rfl) h

/- changeover/changeoverref08.Bytes -/
def ref08_Bytes (v : Int) (c : ApiCmd) (K : Sl → World → Prop) (w : World) : Prop :=
  newV (fun b1 w2 =>
  callV Pr Sl.val 56 #[(.int .i64 c.Kind)] w2 fun out3 w4 =>
  kp b1 w2 w4 <|
  join1 (fun (j5 : Sl → World → Prop) =>
  ifB (v == 1)
  (callV Pr Sl.val 56 #[(.int .i64 c.Client)] w4 fun t6 w7 =>
  kp b1 w4 w7 <|
  opTy Pr (Builtin.append_ #[25, 25] 25 #[out3.val, t6.val]) Sl.val (fun out8 w9 =>
  kp b1 w7 w9 <|
  callV Pr Sl.val 56 #[(.int .i64 c.Seq)] w9 fun t10 w11 =>
  kp b1 w9 w11 <|
  opTy Pr (Builtin.append_ #[25, 25] 25 #[out8.val, t10.val]) Sl.val (fun out12 w13 =>
  kp b1 w11 w13 <|
  callV Pr Sl.val 112 #[(sval c.Key)] w13 fun t14 w15 =>
  kp b1 w13 w15 <|
  opTy Pr (Builtin.append_ #[25, 25] 25 #[out12.val, t14.val]) Sl.val (fun out16 w17 =>
  kp b1 w15 w17 <|
  j5 out16 w17) w15) w11) w7)
  (callV Pr Value.bool 90 #[(.int .i64 c.Kind)] w4 fun t18 w19 =>
  kp b1 w4 w19 <|
  ifB t18
  (callV Pr Sl.val 56 #[(.int .i64 c.Client)] w19 fun t20 w21 =>
  kp b1 w19 w21 <|
  opTy Pr (Builtin.append_ #[25, 25] 25 #[out3.val, t20.val]) Sl.val (fun out22 w23 =>
  kp b1 w21 w23 <|
  callV Pr Sl.val 56 #[(.int .i64 c.Seq)] w23 fun t24 w25 =>
  kp b1 w23 w25 <|
  opTy Pr (Builtin.append_ #[25, 25] 25 #[out22.val, t24.val]) Sl.val (fun out26 w27 =>
  kp b1 w25 w27 <|
  callV Pr Sl.val 112 #[(sval c.Key)] w27 fun t28 w29 =>
  kp b1 w27 w29 <|
  opTy Pr (Builtin.append_ #[25, 25] 25 #[out26.val, t28.val]) Sl.val (fun out30 w31 =>
  kp b1 w29 w31 <|
  j5 out30 w31) w29) w25) w21)
  (j5 out3 w19)))
  (fun out32 w33 =>
  join1 (fun (j34 : Sl → World → Prop) =>
  ifB (!(v == 1))
  (ifB (c.Kind == 5)
  (callV Pr Sl.val 112 #[(sval c.Old)] w33 fun t35 w36 =>
  kp b1 w33 w36 <|
  opTy Pr (Builtin.append_ #[25, 25] 25 #[out32.val, t35.val]) Sl.val (fun out37 w38 =>
  kp b1 w36 w38 <|
  j34 out37 w38) w36)
  (j34 out32 w33))
  (j34 out32 w33))
  (fun out39 w40 =>
  join1 (fun (j41 : Sl → World → Prop) =>
  ifB (v == 1)
  (callV Pr Sl.val 112 #[(sval c.Val)] w40 fun t42 w43 =>
  kp b1 w40 w43 <|
  opTy Pr (Builtin.append_ #[25, 25] 25 #[out39.val, t42.val]) Sl.val (fun out44 w45 =>
  kp b1 w43 w45 <|
  j41 out44 w45) w43)
  (ifB (c.Kind == 2)
  (callV Pr Sl.val 112 #[(sval c.Val)] w40 fun t46 w47 =>
  kp b1 w40 w47 <|
  opTy Pr (Builtin.append_ #[25, 25] 25 #[out39.val, t46.val]) Sl.val (fun out48 w49 =>
  kp b1 w47 w49 <|
  j41 out48 w49) w47)
  (ifB (c.Kind == 5)
  (callV Pr Sl.val 112 #[(sval c.Val)] w40 fun t50 w51 =>
  kp b1 w40 w51 <|
  opTy Pr (Builtin.append_ #[25, 25] 25 #[out39.val, t50.val]) Sl.val (fun out52 w53 =>
  kp b1 w51 w53 <|
  j41 out52 w53) w51)
  (j41 out39 w40))))
  (fun out54 w55 =>
  ifB (v == 1)
  (callV Pr Sl.val 56 #[(.int .i64 c.Node)] w55 fun t56 w57 =>
  kp b1 w55 w57 <|
  opTy Pr (Builtin.append_ #[25, 25] 25 #[out54.val, t56.val]) Sl.val (fun out58 w59 =>
  kp b1 w57 w59 <|
  K out58 w59) w57)
  (callV Pr Value.bool 91 #[(.int .i64 c.Kind)] w55 fun t60 w61 =>
  kp b1 w55 w61 <|
  ifB t60
  (callV Pr Sl.val 56 #[(.int .i64 c.Node)] w61 fun t62 w63 =>
  kp b1 w61 w63 <|
  opTy Pr (Builtin.append_ #[25, 25] 25 #[out54.val, t62.val]) Sl.val (fun out64 w65 =>
  kp b1 w63 w65 <|
  K out64 w65) w63)
  (K out54 w61)))))) w
def ref08_Bytes_ann : Ann := (.s (.r [(0, .nl 3)]) (.s (.r [(2, .call rSl)]) (.s .d (.sj [(.s 5, rSl)] (.s (.r [(4, .call rB)]) (.c (.s (.r [(3, .call rSl), (4, .ty rSl)]) (.s (.r [(3, .call rSl), (4, .ty rSl)]) (.r [(3, .call rSl), (4, .ty rSl)]))) .d)) (.sj [(.s 5, rSl)] (.s .d (.c (.r [(3, .call rSl), (4, .ty rSl)]) .d)) (.sj [(.s 5, rSl)] (.s .d (.c (.r [(3, .call rSl), (4, .ty rSl)]) .d)) (.s (.s (.r [(4, .call rB)]) (.c (.r [(3, .call rSl), (4, .ty rSl)]) .d)) (.s .d .d))))))))
theorem ref08_Bytes_calls {v : Int} {c : ApiCmd} {K : Sl → World → Prop} {w : World} (h : ref08_Bytes v c K w) : callV Pr Sl.val 85 #[(.int .i64 v), (.agg ⟨c.cs⟩)] w K :=
  calls_of Pr_plain Pr_mixed Pr_func85 ref08_Bytes_ann rSl (args := [(.int .i64 v), (.agg ⟨c.cs⟩)]) (by kernel_rfl) h

/- changeover/varint.Put -/
def varint_Put (b : Sl) (n : Int) (K : Sl → World → Prop) (w : World) : Prop :=
  callV Pr Sl.val 77 #[b.val] w fun out1 w2 =>
  loop2 ((imax n 0) : Int) (out1 : Sl) (fun n3 out4 k5 w6 =>
  ifB (decide (n3 ≥ 128))
  (opTy Pr (Instr.buildSlice 25 1 #[(0, (.int .u8 (bOr .u8 (IntKind.u8.wrap n3) 128)))]) Sl.val (fun t7 w8 =>
  opTy Pr (Builtin.append_ #[25, 25] 25 #[out4.val, t7.val]) Sl.val (fun out9 w10 =>
  k5 (shR .i64 n3 7) out9 w10) w8) w6)
  (opTy Pr (Instr.buildSlice 25 1 #[(0, (.int .u8 (IntKind.u8.wrap n3)))]) Sl.val (fun t11 w12 =>
  opTy Pr (Builtin.append_ #[25, 25] 25 #[out4.val, t11.val]) Sl.val (fun t13 w14 =>
  K t13 w14) w12) w6)) w2
def varint_Put_ann : Ann := (.s .d (.s (.r [(1, .call rSl)]) (.s (.s .d (.b (.l [(.s 1, (rI .i64)), (.s 5, rSl)] (.s (.s .d (.c .d .d)) (.s (.b (.r [(4, .ty rSl), (5, .ty rSl)])) .d))))) (.s (.r [(3, .ty rSl), (4, .ty rSl)]) .d))))
theorem varint_Put_calls {b : Sl} {n : Int} {K : Sl → World → Prop} {w : World} (h : varint_Put b n K w) : callV Pr Sl.val 86 #[b.val, (.int .i64 n)] w K :=
  calls_of Pr_plain Pr_mixed Pr_func86 varint_Put_ann rSl (args := [b.val, (.int .i64 n)]) (by kernel_rfl) h

/- changeover/cmd.Put -/
def cmd_Put (w_ : Option Addr) (v : Int) (c : ApiCmd) (K : Unit → World → Prop) (w : World) : Prop :=
  opTy Pr (Instr.box 41 (.agg ⟨c.cs⟩)) pav (fun c1 w2 =>
  opRd Pr (Instr.loadAt 3 (.pointer (some (c1.add 0)))) (Value.int .i64) (fun t3 =>
  callV Pr uval 58 #[(.pointer w_), (.int .i64 t3)] w2 fun t4 w5 =>
  callV Pr Sl.val 113 #[] w5 fun t6 w7 =>
  loop1 (0 : Int) (fun t8 k9 w10 =>
  ifB (decide (t8 < (t6.len : Int)))
  (opRd Pr (Instr.indexAt 125 t6.val (.int .i64 t8)) pav (fun t11 =>
  opRd Pr (Instr.loadAt 129 (.pointer (some t11))) CmdPart.val (fun t12 =>
  opTy Pr (Instr.alloc 129 true (.tuple #[])) pav (fun p13 w14 =>
  opUn Pr (Instr.storeAt 129 (.pointer (some p13)) (.agg ⟨t12.cs⟩)) (fun w15 =>
  opRd Pr (Instr.loadAt 129 (.pointer (some p13))) CmdPart.val (fun t16 =>
  opRd Pr (Instr.loadAt 3 (.pointer (some (c1.add 0)))) (Value.int .i64) (fun t17 =>
  callV Pr Value.bool 114 #[(.agg ⟨t16.cs⟩), (.int .i64 v), (.int .i64 t17)] w15 fun t18 w19 =>
  ifB t18
  (opRd Pr (Instr.loadAt 129 (.pointer (some p13))) CmdPart.val (fun t20 =>
  callV Pr uval 115 #[(.agg ⟨t20.cs⟩), (.pointer w_), (.pointer (some c1))] w19 fun t21 w22 =>
  k9 (i64 (t8 + 1)) w22) w19)
  (k9 (i64 (t8 + 1)) w19)) w15) w15) w14) w10) w10) w10)
  (K () w10)) w7) w2) w
def cmd_Put_ann : Ann := (.s (.r [(0, .ty rPA)]) (.s (.r [(2, .rd (rI .i64)), (3, .call rU)]) (.s (.r [(0, .call rSl)]) (.b (.l [(.s 14, (rI .i64))] (.s .d (.s (.c .d .d) (.s (.b (.s (.r [(0, .rd rPA), (1, .rd rCmdPart), (2, .ty rPA), (3, .un)]) (.s (.r [(0, .rd rCmdPart), (3, .rd (rI .i64)), (4, .call rB)]) (.c (.r [(0, .rd rCmdPart), (2, .call rU)]) .d)))) .d))))))))
theorem cmd_Put_calls {w_ : Option Addr} {v : Int} {c : ApiCmd} {K : Unit → World → Prop} {w : World} (h : cmd_Put w_ v c K w) : callV Pr uval 87 #[(.pointer w_), (.int .i64 v), (.agg ⟨c.cs⟩)] w K :=
  calls_of Pr_plain Pr_mixed Pr_func87 cmd_Put_ann rU (args := [(.pointer w_), (.int .i64 v), (.agg ⟨c.cs⟩)]) (by kernel_rfl) h

/- changeover/ballot.node -/
def ballot_node (n : Int) (K : Bool → World → Prop) (w : World) : Prop :=
  ifB (decide (n ≥ 1))
  (K (decide (n ≤ 9)) w)
  (K false w)
def ballot_node_ann : Ann := (.s .d (.s .d .d))
theorem ballot_node_calls {n : Int} {K : Bool → World → Prop} {w : World} (h : ballot_node n K w) : callV Pr Value.bool 88 #[(.int .i64 n)] w K :=
  calls_of Pr_plain Pr_mixed Pr_func88 ballot_node_ann rB (args := [(.int .i64 n)]) (by kernel_rfl) h

/- changeover/cmd.Check -/
def cmd_Check (c : ApiCmd) (K : Int → World → Prop) (w : World) : Prop :=
  opTy Pr (Instr.box 41 (.agg ⟨c.cs⟩)) pav (fun c1 w2 =>
  opRd Pr (Instr.loadAt 3 (.pointer (some (c1.add 0)))) (Value.int .i64) (fun t3 =>
  callV Pr (tval2 (Value.int .i64) Value.bool) 116 #[(.int .i64 t3)] w2 fun t4 w5 =>
  ifB (!t4.2)
  (K 5 w5)
  (callV Pr Sl.val 113 #[] w5 fun t6 w7 =>
  loop4 (true : Bool) (true : Bool) (true : Bool) (0 : Int) (fun range18 text9 form10 t11 k12 w13 =>
  ifB (decide (t11 < (t6.len : Int)))
  (opRd Pr (Instr.indexAt 125 t6.val (.int .i64 t11)) pav (fun t14 =>
  opRd Pr (Instr.loadAt 129 (.pointer (some t14))) CmdPart.val (fun t15 =>
  opTy Pr (Instr.alloc 129 true (.tuple #[])) pav (fun p16 w17 =>
  opUn Pr (Instr.storeAt 129 (.pointer (some p16)) (.agg ⟨t15.cs⟩)) (fun w18 =>
  opRd Pr (Instr.loadAt 129 (.pointer (some p16))) CmdPart.val (fun t19 =>
  callV Pr (tval2 Value.bool Value.bool) 117 #[(.agg ⟨t19.cs⟩), (.pointer (some c1)), (.int .i64 t4.1)] w18 fun t20 w21 =>
  opRd Pr (Instr.loadAt 129 (.pointer (some p16))) CmdPart.val (fun t22 =>
  callV Pr (tval2 Value.bool Value.bool) 118 #[(.agg ⟨t22.cs⟩), (.pointer (some c1)), (.int .i64 t4.1)] w21 fun t23 w24 =>
  ifB range18
  (ifB text9
  (ifB form10
  (ifB t20.2
  (k12 t20.1 t23.1 t23.2 (i64 (t11 + 1)) w24)
  (k12 t20.1 t23.1 false (i64 (t11 + 1)) w24))
  (k12 t20.1 t23.1 false (i64 (t11 + 1)) w24))
  (ifB form10
  (ifB t20.2
  (k12 t20.1 false t23.2 (i64 (t11 + 1)) w24)
  (k12 t20.1 false false (i64 (t11 + 1)) w24))
  (k12 t20.1 false false (i64 (t11 + 1)) w24)))
  (ifB text9
  (ifB form10
  (ifB t20.2
  (k12 false t23.1 t23.2 (i64 (t11 + 1)) w24)
  (k12 false t23.1 false (i64 (t11 + 1)) w24))
  (k12 false t23.1 false (i64 (t11 + 1)) w24))
  (ifB form10
  (ifB t20.2
  (k12 false false t23.2 (i64 (t11 + 1)) w24)
  (k12 false false false (i64 (t11 + 1)) w24))
  (k12 false false false (i64 (t11 + 1)) w24)))) w21) w18) w17) w13) w13) w13)
  (ifB (!range18)
  (K 6 w13)
  (ifB (!text9)
  (K 7 w13)
  (ifB (!form10)
  (K 3 w13)
  (K 0 w13))))) w7)) w2) w
def cmd_Check_ann : Ann := (.s (.r [(0, .ty rPA)]) (.s (.r [(1, .rd (rI .i64)), (2, .call (rT2 (rI .i64) rB))]) (.s (.s .d (.c (.s .d .d) .d)) (.s .d (.s (.s (.r [(0, .call rSl)]) (.b (.l [(.s 5, rB), (.s 6, rB), (.s 7, rB), (.s 24, (rI .i64))] (.s .d (.s (.c .d .d) (.s (.b (.s (.r [(0, .rd rPA), (1, .rd rCmdPart), (2, .ty rPA), (3, .un)]) (.s (.r [(0, .rd rCmdPart), (2, .call (rT2 rB rB))]) (.s (.r [(0, .rd rCmdPart), (2, .call (rT2 rB rB))]) .d)))) .d)))))) (.s (.b (.s .d (.c (.s .d .d) (.s .d (.c (.s .d .d) (.s .d (.c (.s .d .d) .d))))))) (.s .d .d)))))))
theorem cmd_Check_calls {c : ApiCmd} {K : Int → World → Prop} {w : World} (h : cmd_Check c K w) : callV Pr (Value.int .i64) 89 #[(.agg ⟨c.cs⟩)] w K :=
  calls_of Pr_plain Pr_mixed Pr_func89 cmd_Check_ann (rI .i64) (args := [(.agg ⟨c.cs⟩)]) (by kernel_rfl) h

/- changeover/changeoverref08.Owned -/
def ref08_Owned (kind : Int) (K : Bool → World → Prop) (w : World) : Prop :=
  ifB (decide (kind ≥ 2))
  (K (decide (kind ≤ 5)) w)
  (K false w)
def ref08_Owned_ann : Ann := (.s .d (.s .d .d))
theorem ref08_Owned_calls {kind : Int} {K : Bool → World → Prop} {w : World} (h : ref08_Owned kind K w) : callV Pr Value.bool 90 #[(.int .i64 kind)] w K :=
  calls_of Pr_plain Pr_mixed Pr_func90 ref08_Owned_ann rB (args := [(.int .i64 kind)]) (by kernel_rfl) h

/- changeover/changeoverref08.member -/
def ref08_member (kind : Int) (K : Bool → World → Prop) (w : World) : Prop :=
  ifB (kind == 7)
  (K true w)
  (K (kind == 8) w)
def ref08_member_ann : Ann := (.s .d (.s .d .d))
theorem ref08_member_calls {kind : Int} {K : Bool → World → Prop} {w : World} (h : ref08_member kind K w) : callV Pr Value.bool 91 #[(.int .i64 kind)] w K :=
  calls_of Pr_plain Pr_mixed Pr_func91 ref08_member_ann rB (args := [(.int .i64 kind)]) (by kernel_rfl) h

/- changeover/changeoverref05.Key -/
def ref05_Key (s : List UInt8) (K : Bool → World → Prop) (w : World) : Prop :=
  ifB (decide (((s : List UInt8).length : Int) < 1))
  (K false w)
  (ifB (decide (((s : List UInt8).length : Int) > 24))
  (K false w)
  (loop1 (0 : Int) (fun i1 k2 w3 =>
  ifB (decide (i1 < ((s : List UInt8).length : Int)))
  (callV Pr (tval2 (Value.int .i64) (Value.int .i64)) 119 #[(sval s), (.int .i64 i1)] w3 fun t4 w5 =>
  ifB (t4.1 == 0)
  (K false w5)
  (callV Pr Value.bool 120 #[(.int .i64 t4.2)] w5 fun t6 w7 =>
  ifB (!t6)
  (K false w7)
  (k2 (i64 (i1 + t4.1)) w7)))
  (K true w3)) w))
def ref05_Key_ann : Ann := (.s .d (.s (.s .d (.c (.s .d .d) .d)) (.s .d (.s (.b (.l [(.s 3, (rI .i64))] (.s (.s .d (.c .d .d)) (.b (.s (.r [(2, .call (rT2 (rI .i64) (rI .i64)))]) (.s (.s (.r [(4, .call rB)]) (.c (.s .d .d) .d)) .d)))))) (.s .d .d)))))
theorem ref05_Key_calls {s : List UInt8} {K : Bool → World → Prop} {w : World} (h : ref05_Key s K w) : callV Pr Value.bool 92 #[(sval s)] w K :=
  calls_of Pr_plain Pr_mixed Pr_func92 ref05_Key_ann rB (args := [(sval s)]) (by kernel_rfl) h

/- changeover/changeoverref05.Val -/
def ref05_Val (s : List UInt8) (K : Bool → World → Prop) (w : World) : Prop :=
  ifB (decide (((s : List UInt8).length : Int) > 48))
  (K false w)
  (callV Pr (Value.int .i64) 121 #[(sval s)] w fun t1 w2 =>
  ifB (decide (t1 ≥ 0))
  (K false w2)
  (loop1 (0 : Int) (fun i3 k4 w5 =>
  ifB (decide (i3 < ((s : List UInt8).length : Int)))
  (opRd Pr (Instr.index 9 (sval s) (.int .i64 i3)) (Value.int .u8) (fun t6 =>
  ifB (decide (t6 < 32))
  (K false w5)
  (opRd Pr (Instr.index 9 (sval s) (.int .i64 i3)) (Value.int .u8) (fun t7 =>
  ifB (t7 == 127)
  (K false w5)
  (k4 (i64 (i3 + 1)) w5)) w5)) w5)
  (K true w5)) w2))
def ref05_Val_ann : Ann := (.s .d (.s (.s (.r [(5, .call (rI .i64))]) (.c (.s .d .d) .d)) (.s (.s .d (.b (.l [(.s 3, (rI .i64))] (.s (.s .d (.c .d .d)) (.s (.b (.s (.r [(2, .rd (rI .u8)), (7, .rd (rI .u8))]) (.c (.s .d .d) .d))) .d))))) (.s .d .d))))
theorem ref05_Val_calls {s : List UInt8} {K : Bool → World → Prop} {w : World} (h : ref05_Val s K w) : callV Pr Value.bool 93 #[(sval s)] w K :=
  calls_of Pr_plain Pr_mixed Pr_func93 ref05_Val_ann rB (args := [(sval s)]) (by kernel_rfl) h

/- changeover/changeoverref16.HasIndex -/
def ref16_HasIndex (kind : Int) (K : Bool → World → Prop) (w : World) : Prop :=
  ifB (kind == 2)
  (K true w)
  (ifB (kind == 3)
  (K true w)
  (K (kind == 4) w))
def ref16_HasIndex_ann : Ann := (.s .d (.s .d .d))
theorem ref16_HasIndex_calls {kind : Int} {K : Bool → World → Prop} {w : World} (h : ref16_HasIndex kind K w) : callV Pr Value.bool 94 #[(.int .i64 kind)] w K :=
  calls_of Pr_plain Pr_mixed Pr_func94 ref16_HasIndex_ann rB (args := [(.int .i64 kind)]) (by kernel_rfl) h

/- changeover/recone.Check -/
def recone_Check (x : ApiRecord) (K : Int → World → Prop) (w : World) : Prop :=
  newV (fun b1 w2 =>
  callV Pr (tval2 ReconeHas.val Value.bool) 122 #[(.int .i64 x.Kind)] w2 fun t3 w4 =>
  kp b1 w2 w4 <|
  newV (fun b5 w6 =>
  wrM b5 (fun w7 =>
  join0 (fun (j8 : World → Prop) =>
  ifB (!t3.2)
  (K 5 w7)
  (callV Pr Value.bool 123 #[(.agg ⟨[(.int .i64 x.Kind), (.int .i64 x.Ballot.Round), (.int .i64 x.Ballot.Node), (.int .i64 x.Index), (.int .i64 x.Cmd.Kind), (.int .i64 x.Cmd.Client), (.int .i64 x.Cmd.Seq), (sval x.Cmd.Key), (sval x.Cmd.Val), (sval x.Cmd.Old), (.int .i64 x.Cmd.Node), x.Image.val]⟩), (.agg ⟨[(.bool t3.1.ballot), (.bool t3.1.index), (.bool t3.1.cmd), (.bool t3.1.image)]⟩)] w7 fun t9 w10 =>
  kp b5 w7 w10 <|
  kp b1 w7 w10 <|
  ifB (!t9)
  (K 6 w10)
  (ifB t3.1.image
  (ifB (decide ((x.Image.len : Int) > 32768))
  (K 2 w10)
  (j8 w10))
  (j8 w10))))
  (fun w11 =>
  ifB t3.1.cmd
  (callV Pr (Value.int .i64) 89 #[(.agg ⟨[(.int .i64 x.Cmd.Kind), (.int .i64 x.Cmd.Client), (.int .i64 x.Cmd.Seq), (sval x.Cmd.Key), (sval x.Cmd.Val), (sval x.Cmd.Old), (.int .i64 x.Cmd.Node)]⟩)] w11 fun e12 w13 =>
  kp b5 w11 w13 <|
  kp b1 w11 w13 <|
  ifB (e12 != 0)
  (K e12 w13)
  (callV Pr Value.bool 124 #[(.agg ⟨[(.int .i64 x.Kind), (.int .i64 x.Ballot.Round), (.int .i64 x.Ballot.Node), (.int .i64 x.Index), (.int .i64 x.Cmd.Kind), (.int .i64 x.Cmd.Client), (.int .i64 x.Cmd.Seq), (sval x.Cmd.Key), (sval x.Cmd.Val), (sval x.Cmd.Old), (.int .i64 x.Cmd.Node), x.Image.val]⟩), (.agg ⟨[(.bool t3.1.ballot), (.bool t3.1.index), (.bool t3.1.cmd), (.bool t3.1.image)]⟩)] w13 fun t14 w15 =>
  kp b5 w13 w15 <|
  kp b1 w13 w15 <|
  ifB t14
  (K 3 w15)
  (K 0 w15)))
  (callV Pr Value.bool 124 #[(.agg ⟨[(.int .i64 x.Kind), (.int .i64 x.Ballot.Round), (.int .i64 x.Ballot.Node), (.int .i64 x.Index), (.int .i64 x.Cmd.Kind), (.int .i64 x.Cmd.Client), (.int .i64 x.Cmd.Seq), (sval x.Cmd.Key), (sval x.Cmd.Val), (sval x.Cmd.Old), (.int .i64 x.Cmd.Node), x.Image.val]⟩), (.agg ⟨[(.bool t3.1.ballot), (.bool t3.1.index), (.bool t3.1.cmd), (.bool t3.1.image)]⟩)] w11 fun t16 w17 =>
  kp b5 w11 w17 <|
  kp b1 w11 w17 <|
  ifB t16
  (K 3 w17)
  (K 0 w17)))) w6) w4) w
def recone_Check_ann : Ann := (.s (.r [(0, .nl 1)]) (.s (.r [(2, .call (rT2 rReconeHas rB)), (6, .nl 3), (7, .ls 3)]) (.sj [] (.b (.s .d (.c (.s .d .d) (.s (.r [(2, .call rB)]) (.c (.s .d .d) (.s .d (.c (.s .d .d) .d))))))) (.s (.s .d (.c (.s (.r [(2, .call (rI .i64))]) (.s .d (.c (.s .d .d) .d))) .d)) (.s (.s (.r [(2, .call rB)]) (.c (.s .d .d) .d)) (.s .d .d))))))
theorem recone_Check_calls {x : ApiRecord} {K : Int → World → Prop} {w : World} (h : recone_Check x K w) : callV Pr (Value.int .i64) 95 #[(.agg ⟨x.cs⟩)] w K :=
  calls_of Pr_plain Pr_mixed Pr_func95 recone_Check_ann (rI .i64) (args := [(.agg ⟨x.cs⟩)]) (by kernel_rfl) h

/- changeover/hard.Check$1 -/
def hard_Check_1 (e : ApiEntry) (c_x0 : Addr) (K : Bool → World → Prop) (w : World) : Prop :=
  newV (fun b1 w2 =>
  opRd Pr (Instr.loadAt 3 (.pointer (some (c_x0.add 2)))) (Value.int .i64) (fun t3 =>
  ifB (decide (e.Index ≤ t3))
  (K true w2)
  (opRd Pr (binSem .eql 23 (.tmp 11) (.tmp 12) (.agg ⟨[(.int .i64 e.Ballot.Round), (.int .i64 e.Ballot.Node)]⟩) (.agg ⟨[(.int .i64 0), (.int .i64 0)]⟩)) Value.bool (fun t4 =>
  ifB t4
  (K true w2)
  (opRd Pr (Instr.loadAt 23 (.pointer (some (c_x0.add 0)))) ApiBallot.val (fun t5 =>
  callV Pr Value.bool 45 #[(.agg ⟨t5.cs⟩), (.agg ⟨[(.int .i64 e.Ballot.Round), (.int .i64 e.Ballot.Node)]⟩)] w2 fun t6 w7 =>
  kp b1 w2 w7 <|
  K t6 w7) w2)) w2)) w2) w
def hard_Check_1_ann : Ann := (.s (.r [(0, .nl 2)]) (.s (.r [(3, .rd (rI .i64)), (9, .rd rB), (13, .rd rApiBallot), (16, .call rB)]) .d))
theorem hard_Check_1_calls {e : ApiEntry} {c_x0 : Addr} {K : Bool → World → Prop} {w : World} (h : hard_Check_1 e c_x0 K w) : callV Pr Value.bool 96 #[(.agg ⟨e.cs⟩), (.pointer (some c_x0))] w K :=
  calls_of Pr_plain Pr_mixed Pr_func96 hard_Check_1_ann rB (args := [(.agg ⟨e.cs⟩), (.pointer (some c_x0))]) (by kernel_rfl) h

/- changeover/hard.Check$2 -/
def hard_Check_2 (e : ApiEntry) (c_x0 : Addr) (K : Bool → World → Prop) (w : World) : Prop :=
  newV (fun b1 w2 =>
  opRd Pr (Instr.loadAt 3 (.pointer (some (c_x0.add 2)))) (Value.int .i64) (fun t3 =>
  ifB (decide (e.Index ≤ t3))
  (K true w2)
  (opRd Pr (binSem .neq 23 (.tmp 11) (.tmp 12) (.agg ⟨[(.int .i64 e.Ballot.Round), (.int .i64 e.Ballot.Node)]⟩) (.agg ⟨[(.int .i64 0), (.int .i64 0)]⟩)) Value.bool (fun t4 =>
  K t4 w2) w2)) w2) w
def hard_Check_2_ann : Ann := (.s (.r [(0, .nl 2)]) (.s (.r [(3, .rd (rI .i64)), (9, .rd rB)]) .d))
theorem hard_Check_2_calls {e : ApiEntry} {c_x0 : Addr} {K : Bool → World → Prop} {w : World} (h : hard_Check_2 e c_x0 K w) : callV Pr Value.bool 97 #[(.agg ⟨e.cs⟩), (.pointer (some c_x0))] w K :=
  calls_of Pr_plain Pr_mixed Pr_func97 hard_Check_2_ann rB (args := [(.agg ⟨e.cs⟩), (.pointer (some c_x0))]) (by kernel_rfl) h

/- slices.ContainsFunc[[]changeover/api.Entry,changeover/api.Entry] -/
def slices_ContainsFunc_api_Entry_api_Entry (s : Sl) (f : Value) (K : Bool → World → Prop) (w : World) : Prop :=
  callV Pr (Value.int .i64) 75 #[s.val, f] w fun t1 w2 =>
  K (decide (t1 ≥ 0)) w2
def slices_ContainsFunc_api_Entry_api_Entry_ann : Ann := (.s .d (.s (.r [(2, .call (rI .i64))]) .d))
theorem slices_ContainsFunc_api_Entry_api_Entry_calls {s : Sl} {f : Value} {K : Bool → World → Prop} {w : World} (h : slices_ContainsFunc_api_Entry_api_Entry s f K w) : callV Pr Value.bool 98 #[s.val, f] w K :=
  calls_of Pr_plain Pr_mixed Pr_func98 slices_ContainsFunc_api_Entry_api_Entry_ann rB (args := [s.val, f]) (by kernel_rfl) h

/- cmp.isNaN[int] -/
def cmp_isNaN_int (x : Int) (K : Bool → World → Prop) (w : World) : Prop :=
  K (x != x) w
def cmp_isNaN_int_ann : Ann := (.s .d (.s .d .d))
theorem cmp_isNaN_int_calls {x : Int} {K : Bool → World → Prop} {w : World} (h : cmp_isNaN_int x K w) : callV Pr Value.bool 99 #[(.int .i64 x)] w K :=
  calls_of Pr_plain Pr_mixed Pr_func99 cmp_isNaN_int_ann rB (args := [(.int .i64 x)]) (by kernel_rfl) h

/- changeover/entry.place$1 -/
def entry_place_1 (e : ApiEntry) (n : Int) (K : Int → World → Prop) (w : World) : Prop :=
  newV (fun b1 w2 =>
  callV Pr (Value.int .i64) 73 #[(.int .i64 e.Index), (.int .i64 n)] w2 fun t3 w4 =>
  kp b1 w2 w4 <|
  K t3 w4) w
def entry_place_1_ann : Ann := (.s (.r [(0, .nl 2)]) (.s (.r [(3, .call (rI .i64))]) .d))
theorem entry_place_1_calls {e : ApiEntry} {n : Int} {K : Int → World → Prop} {w : World} (h : entry_place_1 e n K w) : callV Pr (Value.int .i64) 101 #[(.agg ⟨e.cs⟩), (.int .i64 n)] w K :=
  calls_of Pr_plain Pr_mixed Pr_func101 entry_place_1_ann (rI .i64) (args := [(.agg ⟨e.cs⟩), (.int .i64 n)]) (by kernel_rfl) h

/- (*changeover/pack.Reader).Number$1 -/
def pack_Reader_Number_1 (c_x0 : Addr) (c_x1 : Addr) (K : Int → World → Prop) (w : World) : Prop :=
  opRd Pr (Instr.loadAt 76 (.pointer (some c_x0))) Value.pointer (fun t1 =>
  opRd Pr (Instr.loadAt 3 (.pointer (some c_x1))) (Value.int .i64) (fun t2 =>
  callV Pr (Value.int .i64) 104 #[(.pointer t1), (.int .i64 t2)] w fun t3 w4 =>
  K t3 w4) w) w
def pack_Reader_Number_1_ann : Ann := (.s .d (.s (.r [(0, .rd rP), (1, .rd (rI .i64)), (2, .call (rI .i64))]) .d))
theorem pack_Reader_Number_1_calls {c_x0 : Addr} {c_x1 : Addr} {K : Int → World → Prop} {w : World} (h : pack_Reader_Number_1 c_x0 c_x1 K w) : callV Pr (Value.int .i64) 103 #[(.pointer (some c_x0)), (.pointer (some c_x1))] w K :=
  calls_of Pr_plain Pr_mixed Pr_func103 pack_Reader_Number_1_ann (rI .i64) (args := [(.pointer (some c_x0)), (.pointer (some c_x1))]) (by kernel_rfl) h

/- (*changeover/pack.Reader).limited -/
def pack_Reader_limited (r : Option Addr) (most : Int) (K : Int → World → Prop) (w : World) : Prop :=
  heldM (fun S2 w1 =>
  opH Pr S2 (nilSem (.pointer r)) pav (fun t3 =>
  opH Pr S2 (Instr.loadAt 25 (.pointer (some (t3.add 0)))) Sl.val (fun t4 =>
  opH Pr S2 (nilSem (.pointer r)) pav (fun t5 =>
  opH Pr S2 (Instr.loadAt 3 (.pointer (some (t5.add 1)))) (Value.int .i64) (fun t6 =>
  callV Pr (tval3 (Value.int .i64) (Value.int .i64) (Value.int .i64)) 125 #[t4.val, (.int .i64 t6)] w1 fun t7 w8 =>
  (S2 w8) ∧
  (ifB (t7.2.2 != 0)
  (callV Pr uval 126 #[(.pointer r), (.int .i64 t7.2.2)] w8 fun t9 w10 =>
  opRd Pr (nilSem (.pointer r)) pav (fun t11 =>
  opUn Pr (Instr.storeAt 3 (.pointer (some (t11.add 1))) (.int .i64 t7.2.1)) (fun w12 =>
  K t7.1 w12) w10) w10)
  (ifB (decide (t7.1 > most))
  (callV Pr uval 126 #[(.pointer r), (.int .i64 2)] w8 fun t13 w14 =>
  opRd Pr (nilSem (.pointer r)) pav (fun t15 =>
  opUn Pr (Instr.storeAt 3 (.pointer (some (t15.add 1))) (.int .i64 t7.2.1)) (fun w16 =>
  K t7.1 w16) w14) w14)
  (opRd Pr (nilSem (.pointer r)) pav (fun t17 =>
  opUn Pr (Instr.storeAt 3 (.pointer (some (t17.add 1))) (.int .i64 t7.2.1)) (fun w18 =>
  K t7.1 w18) w8) w8)))))))) w
def pack_Reader_limited_ann : Ann := (.s .d (.s (.h (.take 0 (.take 1 (.take 2 (.take 3 (.take 4 (.take 5 (.take 6 (.take 7 (.one 8 (.take 9 (.take 10 (.take 11 (.take 12 (.take 13 (.take 14 (.take 15 .done)))))))))))))))) [(1, .rd rPA), (3, .rd rSl), (5, .rd rPA), (7, .rd (rI .i64)), (8, .call (rT3 (rI .i64) (rI .i64) (rI .i64)))]) (.s (.b (.s .d (.c (.r [(2, .call rU)]) (.s .d (.c (.r [(1, .call rU)]) .d))))) (.s (.r [(2, .rd rPA), (4, .un)]) (.s .d .d)))))
theorem pack_Reader_limited_calls {r : Option Addr} {most : Int} {K : Int → World → Prop} {w : World} (h : pack_Reader_limited r most K w) : callV Pr (Value.int .i64) 104 #[(.pointer r), (.int .i64 most)] w K :=
  calls_of Pr_plain Pr_mixed Pr_func104 pack_Reader_limited_ann (rI .i64) (args := [(.pointer r), (.int .i64 most)]) (by kernel_rfl) h

/- (*changeover/pack.Reader).Count -/
def pack_Reader_Count (r : Option Addr) (most : Int) (K : Int → World → Prop) (w : World) : Prop :=
  opTy Pr (Instr.box 76 (.pointer r)) pav (fun r1 w2 =>
  opTy Pr (Instr.box 3 (.int .i64 most)) pav (fun most3 w4 =>
  opRd Pr (Instr.loadAt 76 (.pointer (some r1))) Value.pointer (fun t5 =>
  callV Pr (Value.int .i64) 102 #[(.pointer t5), (.func (.func 127) #[] #[(.pointer (some r1)), (.pointer (some most3))])] w4 fun t6 w7 =>
  K t6 w7) w4) w2) w
def pack_Reader_Count_ann : Ann := (.s (.r [(0, .ty rPA), (1, .ty rPA)]) (.s (.r [(0, .rd rP), (2, .call (rI .i64))]) .d))
theorem pack_Reader_Count_calls {r : Option Addr} {most : Int} {K : Int → World → Prop} {w : World} (h : pack_Reader_Count r most K w) : callV Pr (Value.int .i64) 105 #[(.pointer r), (.int .i64 most)] w K :=
  calls_of Pr_plain Pr_mixed Pr_func105 pack_Reader_Count_ann (rI .i64) (args := [(.pointer r), (.int .i64 most)]) (by kernel_rfl) h

/- changeover/cmd.Get -/
def cmd_Get (r : Option Addr) (v : Int) (K : ApiCmd → World → Prop) (w : World) : Prop :=
  newV (fun b1 w2 =>
  callV Pr (Value.int .i64) 78 #[(.pointer r), (.int .i64 9223372036854775807)] w2 fun t3 w4 =>
  kp b1 w2 w4 <|
  opTy Pr (Instr.alloc 41 true (.tuple #[])) pav (fun c5 w6 =>
  kp b1 w4 w6 <|
  opUn Pr (Instr.storeAt 41 (.pointer (some c5)) (.agg ⟨[(.int .i64 t3), (.int .i64 0), (.int .i64 0), (sval []), (sval []), (sval []), (.int .i64 0)]⟩)) (fun w7 =>
  kp b1 w6 w7 <|
  callV Pr Sl.val 113 #[] w7 fun t8 w9 =>
  kp b1 w7 w9 <|
  loop1 (0 : Int) (fun t10 k11 w12 =>
  ifB (decide (t10 < (t8.len : Int)))
  (opRd Pr (Instr.indexAt 125 t8.val (.int .i64 t10)) pav (fun t13 =>
  opRd Pr (Instr.loadAt 129 (.pointer (some t13))) CmdPart.val (fun t14 =>
  opTy Pr (Instr.alloc 129 true (.tuple #[])) pav (fun p15 w16 =>
  kp b1 w12 w16 <|
  opUn Pr (Instr.storeAt 129 (.pointer (some p15)) (.agg ⟨t14.cs⟩)) (fun w17 =>
  kp b1 w16 w17 <|
  opRd Pr (Instr.loadAt 129 (.pointer (some p15))) CmdPart.val (fun t18 =>
  opRd Pr (Instr.loadAt 3 (.pointer (some (c5.add 0)))) (Value.int .i64) (fun t19 =>
  callV Pr Value.bool 114 #[(.agg ⟨t18.cs⟩), (.int .i64 v), (.int .i64 t19)] w17 fun t20 w21 =>
  kp b1 w17 w21 <|
  ifB t20
  (opRd Pr (Instr.loadAt 129 (.pointer (some p15))) CmdPart.val (fun t22 =>
  callV Pr uval 129 #[(.agg ⟨t22.cs⟩), (.pointer r), (.pointer (some c5))] w21 fun t23 w24 =>
  kp b1 w21 w24 <|
  k11 (i64 (t10 + 1)) w24) w21)
  (k11 (i64 (t10 + 1)) w21)) w17) w17) w16) w12) w12) w12)
  (opRd Pr (Instr.loadAt 41 (.pointer (some c5))) ApiCmd.val (fun t25 =>
  wrM b1 (fun w26 =>
  K t25 w26) w12) w12)) w9) w6) w4) w
def cmd_Get_ann : Ann := (.s (.r [(0, .nl 4)]) (.s (.r [(1, .call (rI .i64)), (3, .ty rPA), (4, .un)]) (.s (.s (.r [(0, .call rSl)]) (.b (.l [(.s 13, (rI .i64))] (.s .d (.s (.c .d .d) (.s (.b (.s (.r [(0, .rd rPA), (1, .rd rCmdPart), (2, .ty rPA), (3, .un)]) (.s (.r [(0, .rd rCmdPart), (3, .rd (rI .i64)), (4, .call rB)]) (.c (.r [(0, .rd rCmdPart), (2, .call rU)]) .d)))) .d)))))) (.s (.r [(0, .rd rApiCmd), (1, .ls 4)]) .d))))
theorem cmd_Get_calls {r : Option Addr} {v : Int} {K : ApiCmd → World → Prop} {w : World} (h : cmd_Get r v K w) : callV Pr ApiCmd.val 106 #[(.pointer r), (.int .i64 v)] w K :=
  calls_of Pr_plain Pr_mixed Pr_func106 cmd_Get_ann rApiCmd (args := [(.pointer r), (.int .i64 v)]) (by kernel_rfl) h

/- (*changeover/pack.Reader).Raw$1 -/
def pack_Reader_Raw_1 (c_x0 : Addr) (c_x1 : Addr) (K : Sl → World → Prop) (w : World) : Prop :=
  opRd Pr (Instr.loadAt 76 (.pointer (some c_x0))) Value.pointer (fun t1 =>
  opRd Pr (Instr.loadAt 3 (.pointer (some c_x1))) (Value.int .i64) (fun t2 =>
  callV Pr Sl.val 109 #[(.pointer t1), (.int .i64 t2)] w fun t3 w4 =>
  K t3 w4) w) w
def pack_Reader_Raw_1_ann : Ann := (.s .d (.s (.r [(0, .rd rP), (1, .rd (rI .i64)), (2, .call rSl)]) .d))
theorem pack_Reader_Raw_1_calls {c_x0 : Addr} {c_x1 : Addr} {K : Sl → World → Prop} {w : World} (h : pack_Reader_Raw_1 c_x0 c_x1 K w) : callV Pr Sl.val 108 #[(.pointer (some c_x0)), (.pointer (some c_x1))] w K :=
  calls_of Pr_plain Pr_mixed Pr_func108 pack_Reader_Raw_1_ann rSl (args := [(.pointer (some c_x0)), (.pointer (some c_x1))]) (by kernel_rfl) h

/- (*changeover/pack.Reader).raw -/
def pack_Reader_raw (r : Option Addr) (most : Int) (K : Sl → World → Prop) (w : World) : Prop :=
  callV Pr (Value.int .i64) 128 #[(.pointer r), (.int .i64 most)] w fun n1 w2 =>
  opRd Pr (nilSem (.pointer r)) pav (fun t3 =>
  opRd Pr (Instr.loadAt 30 (.pointer (some (t3.add 2)))) (Value.int .i64) (fun t4 =>
  ifB (t4 != 0)
  (K Sl.nil w2)
  (opRd Pr (nilSem (.pointer r)) pav (fun t5 =>
  opRd Pr (Instr.loadAt 3 (.pointer (some (t5.add 1)))) (Value.int .i64) (fun t6 =>
  opRd Pr (nilSem (.pointer r)) pav (fun t7 =>
  opUn Pr (Instr.storeAt 3 (.pointer (some (t7.add 1))) (.int .i64 (i64 (t6 + n1)))) (fun w8 =>
  heldM (fun S10 w9 =>
  opH Pr S10 (nilSem (.pointer r)) pav (fun t11 =>
  opH Pr S10 (Instr.loadAt 25 (.pointer (some (t11.add 0)))) Sl.val (fun t12 =>
  opH Pr S10 (nilSem (.pointer r)) pav (fun t13 =>
  opH Pr S10 (Instr.loadAt 3 (.pointer (some (t13.add 1)))) (Value.int .i64) (fun t14 =>
  opH Pr S10 (nilSem (.pointer r)) pav (fun t15 =>
  opH Pr S10 (Instr.loadAt 3 (.pointer (some (t15.add 1)))) (Value.int .i64) (fun t16 =>
  opH Pr S10 (Instr.sliceAt 25 t12.val (some (.int .i64 (i64 (t14 - n1)))) (some (.int .i64 t16)) none) Sl.val (fun t17 =>
  callV Pr Sl.val 77 #[t17.val] w9 fun t18 w19 =>
  (S10 w19) ∧
  (K t18 w19))))))))) w8) w2) w2) w2) w2)) w2) w2
def pack_Reader_raw_ann : Ann := (.s .d (.s (.r [(2, .call (rI .i64))]) (.s (.s (.r [(1, .rd rPA), (3, .rd (rI .i64))]) (.c (.s .d .d) .d)) (.s (.r [(1, .rd rPA), (3, .rd (rI .i64)), (6, .rd rPA), (8, .un)]) (.s (.h (.take 0 (.take 1 (.take 2 (.take 3 (.take 4 (.take 5 (.take 6 (.take 7 (.take 8 (.take 9 (.take 10 (.take 11 (.take 12 (.take 13 (.take 14 (.one 15 (.take 16 .done))))))))))))))))) [(1, .rd rPA), (3, .rd rSl), (5, .rd rPA), (7, .rd (rI .i64)), (11, .rd rPA), (13, .rd (rI .i64)), (14, .rd rSl), (15, .call rSl)]) .d)))))
theorem pack_Reader_raw_calls {r : Option Addr} {most : Int} {K : Sl → World → Prop} {w : World} (h : pack_Reader_raw r most K w) : callV Pr Sl.val 109 #[(.pointer r), (.int .i64 most)] w K :=
  calls_of Pr_plain Pr_mixed Pr_func109 pack_Reader_raw_ann rSl (args := [(.pointer r), (.int .i64 most)]) (by kernel_rfl) h

/- changeover/entry.Has$1 -/
def entry_Has_1 (e : ApiEntry) (c_x0 : Addr) (K : Bool → World → Prop) (w : World) : Prop :=
  newV (fun b1 w2 =>
  opRd Pr (Instr.loadAt 3 (.pointer (some c_x0))) (Value.int .i64) (fun t3 =>
  callV Pr Value.bool 111 #[(.int .i64 t3), (.int .i64 e.Cmd.Kind)] w2 fun t4 w5 =>
  kp b1 w2 w5 <|
  K (!t4) w5) w2) w
def entry_Has_1_ann : Ann := (.s (.r [(0, .nl 2)]) (.s (.r [(0, .rd (rI .i64)), (4, .call rB)]) .d))
theorem entry_Has_1_calls {e : ApiEntry} {c_x0 : Addr} {K : Bool → World → Prop} {w : World} (h : entry_Has_1 e c_x0 K w) : callV Pr Value.bool 110 #[(.agg ⟨e.cs⟩), (.pointer (some c_x0))] w K :=
  calls_of Pr_plain Pr_mixed Pr_func110 entry_Has_1_ann rB (args := [(.agg ⟨e.cs⟩), (.pointer (some c_x0))]) (by kernel_rfl) h

/- changeover/vers.Has -/
def vers_Has (v : Int) (kind : Int) (K : Bool → World → Prop) (w : World) : Prop :=
  callV Pr Value.bool 64 #[(.int .i64 v)] w fun t1 w2 =>
  ifB (!t1)
  (K false w2)
  (ifB (kind == 1)
  (ifB (kind == 1)
  (K true w2)
  (ifB (kind == 5)
  (K (decide (v ≥ 2)) w2)
  (K false w2)))
  (ifB (kind == 2)
  (ifB (kind == 2)
  (K true w2)
  (ifB (kind == 5)
  (K (decide (v ≥ 2)) w2)
  (K false w2)))
  (ifB (kind == 3)
  (ifB (kind == 3)
  (K true w2)
  (ifB (kind == 5)
  (K (decide (v ≥ 2)) w2)
  (K false w2)))
  (ifB (kind == 4)
  (ifB (kind == 4)
  (K true w2)
  (ifB (kind == 5)
  (K (decide (v ≥ 2)) w2)
  (K false w2)))
  (ifB (kind == 6)
  (ifB (kind == 6)
  (K true w2)
  (ifB (kind == 5)
  (K (decide (v ≥ 2)) w2)
  (K false w2)))
  (ifB (kind == 7)
  (ifB (kind == 7)
  (K true w2)
  (ifB (kind == 5)
  (K (decide (v ≥ 2)) w2)
  (K false w2)))
  (ifB (kind == 8)
  (K true w2)
  (ifB (kind == 5)
  (K (decide (v ≥ 2)) w2)
  (K false w2)))))))))
def vers_Has_ann : Ann := (.s .d (.s (.s (.r [(1, .call rB)]) (.c (.s .d .d) .d)) (.s (.s .d (.b (.s (.s .d (.c .d (.s .d (.c .d (.s .d (.c .d (.s .d (.c .d (.s .d (.c .d (.s .d (.c .d .d)))))))))))) (.c (.s .d .d) (.s .d (.c (.s .d .d) .d)))))) (.s .d .d))))
theorem vers_Has_calls {v : Int} {kind : Int} {K : Bool → World → Prop} {w : World} (h : vers_Has v kind K w) : callV Pr Value.bool 111 #[(.int .i64 v), (.int .i64 kind)] w K :=
  calls_of Pr_plain Pr_mixed Pr_func111 vers_Has_ann rB (args := [(.int .i64 v), (.int .i64 kind)]) (by kernel_rfl) h

/- changeover/changeoverref04.Text -/
def ref04_Text (s : List UInt8) (K : Sl → World → Prop) (w : World) : Prop :=
  callV Pr Sl.val 56 #[(.int .i64 ((s : List UInt8).length : Int))] w fun t1 w2 =>
  opTy Pr (Builtin.append_ #[25, 9] 25 #[t1.val, (sval s)]) Sl.val (fun t3 w4 =>
  K t3 w4) w2
def ref04_Text_ann : Ann := (.s .d (.s (.r [(2, .call rSl), (4, .ty rSl)]) .d))
theorem ref04_Text_calls {s : List UInt8} {K : Sl → World → Prop} {w : World} (h : ref04_Text s K w) : callV Pr Sl.val 112 #[(sval s)] w K :=
  calls_of Pr_plain Pr_mixed Pr_func112 ref04_Text_ann rSl (args := [(sval s)]) (by kernel_rfl) h

/- changeover/cmd.parts -/
def cmd_parts (K : Sl → World → Prop) (w : World) : Prop :=
  opTy Pr (Instr.buildSlice 125 6 #[(0, (.agg ⟨[(.int .i64 1), (.int .i64 8), .nilFunc, (.func (.func 130) #[] #[])]⟩)), (1, (.agg ⟨[(.int .i64 1), (.int .i64 4294967296), .nilFunc, (.func (.func 131) #[] #[])]⟩)), (2, (.agg ⟨[(.int .i64 2), (.int .i64 0), (.func (.func 132) #[] #[]), (.func (.func 133) #[] #[])]⟩)), (3, (.agg ⟨[(.int .i64 4), (.int .i64 0), (.func (.func 134) #[] #[]), (.func (.func 135) #[] #[])]⟩)), (4, (.agg ⟨[(.int .i64 8), (.int .i64 0), (.func (.func 134) #[] #[]), (.func (.func 136) #[] #[])]⟩)), (5, (.agg ⟨[(.int .i64 16), (.int .i64 9), .nilFunc, (.func (.func 137) #[] #[])]⟩))]) Sl.val (fun t1 w2 =>
  K t1 w2) w
def cmd_parts_ann : Ann := (.s .d (.s (.r [(6, .ty rSl)]) .d))
theorem cmd_parts_calls {K : Sl → World → Prop} {w : World} (h : cmd_parts K w) : callV Pr Sl.val 113 #[] w K :=
  calls_of Pr_plain Pr_mixed Pr_func113 cmd_parts_ann rSl (args := []) (by kernel_rfl) h

/- (changeover/cmd.part).wanted -/
def cmd_part_wanted (p : CmdPart) (v : Int) (kind : Int) (K : Bool → World → Prop) (w : World) : Prop :=
  newV (fun b1 w2 =>
  callV Pr (tval2 (Value.int .i64) Value.bool) 116 #[(.int .i64 kind)] w2 fun t3 w4 =>
  kp b1 w2 w4 <|
  ifB (v == 1)
  (K (p.has_ != 4) w4)
  (K ((bAnd .i64 t3.1 p.has_) != 0) w4)) w
def cmd_part_wanted_ann : Ann := (.s (.r [(0, .nl 3)]) (.s (.r [(1, .call (rT2 (rI .i64) rB))]) (.s (.s .d (.c (.s .d .d) .d)) (.s .d .d))))
theorem cmd_part_wanted_calls {p : CmdPart} {v : Int} {kind : Int} {K : Bool → World → Prop} {w : World} (h : cmd_part_wanted p v kind K w) : callV Pr Value.bool 114 #[(.agg ⟨p.cs⟩), (.int .i64 v), (.int .i64 kind)] w K :=
  calls_of Pr_plain Pr_mixed Pr_func114 cmd_part_wanted_ann rB (args := [(.agg ⟨p.cs⟩), (.int .i64 v), (.int .i64 kind)]) (by kernel_rfl) h

/- changeover/cmd.fields -/
def cmd_fields (kind : Int) (K : (Int × Bool) → World → Prop) (w : World) : Prop :=
  join1 (fun (j1 : Bool → World → Prop) =>
  ifB (kind == 1)
  (j1 (kind == 1) w)
  (j1 (kind == 6) w))
  (fun t2 w3 =>
  ifB t2
  (K (0, true) w3)
  (ifB (kind == 2)
  (K (11, true) w3)
  (join1 (fun (j4 : Bool → World → Prop) =>
  ifB (kind == 3)
  (j4 (kind == 3) w3)
  (j4 (kind == 4) w3))
  (fun t5 w6 =>
  ifB t5
  (K (3, true) w6)
  (ifB (kind == 5)
  (K (15, true) w6)
  (ifB (kind == 7)
  (ifB (kind == 7)
  (K (16, true) w6)
  (K (0, false) w6))
  (ifB (kind == 8)
  (K (16, true) w6)
  (K (0, false) w6))))))))
def cmd_fields_ann : Ann := (.s .d (.s (.s .d (.b (.sj [(.s 5, rB)] (.s .d (.c .d .d)) (.c (.s .d .d) (.s .d (.c (.s .d .d) (.sj [(.s 10, rB)] (.s .d (.c .d .d)) (.c (.s .d .d) (.s .d (.c (.s .d .d) (.s (.s .d (.c .d .d)) (.c (.s .d .d) .d)))))))))))) (.s .d .d)))
theorem cmd_fields_calls {kind : Int} {K : (Int × Bool) → World → Prop} {w : World} (h : cmd_fields kind K w) : callV Pr (tval2 (Value.int .i64) Value.bool) 116 #[(.int .i64 kind)] w K :=
  calls_of Pr_plain Pr_mixed Pr_func116 cmd_fields_ann (rT2 (rI .i64) rB) (args := [(.int .i64 kind)]) (by kernel_rfl) h

/- changeover/changeoverref05.Size -/
def ref05_Size (s : List UInt8) (i : Int) (K : (Int × Int) → World → Prop) (w : World) : Prop :=
  opRd Pr (Instr.index 9 (sval s) (.int .i64 i)) (Value.int .u8) (fun t1 =>
  join3 (fun (j2 : Int → Int → Int → World → Prop) =>
  ifB (decide ((IntKind.i64.wrap t1) < 128))
  (K (1, (IntKind.i64.wrap t1)) w)
  (ifB (decide ((IntKind.i64.wrap t1) ≥ 194))
  (ifB (decide ((IntKind.i64.wrap t1) ≤ 223))
  (j2 2 128 (i64 ((IntKind.i64.wrap t1) - 192)) w)
  (ifB (decide ((IntKind.i64.wrap t1) ≥ 224))
  (ifB (decide ((IntKind.i64.wrap t1) ≤ 239))
  (j2 3 2048 (i64 ((IntKind.i64.wrap t1) - 224)) w)
  (ifB (decide ((IntKind.i64.wrap t1) ≥ 240))
  (ifB (decide ((IntKind.i64.wrap t1) ≤ 244))
  (j2 4 65536 (i64 ((IntKind.i64.wrap t1) - 240)) w)
  (K (0, 0) w))
  (K (0, 0) w)))
  (ifB (decide ((IntKind.i64.wrap t1) ≥ 240))
  (ifB (decide ((IntKind.i64.wrap t1) ≤ 244))
  (j2 4 65536 (i64 ((IntKind.i64.wrap t1) - 240)) w)
  (K (0, 0) w))
  (K (0, 0) w))))
  (ifB (decide ((IntKind.i64.wrap t1) ≥ 224))
  (ifB (decide ((IntKind.i64.wrap t1) ≤ 239))
  (j2 3 2048 (i64 ((IntKind.i64.wrap t1) - 224)) w)
  (ifB (decide ((IntKind.i64.wrap t1) ≥ 240))
  (ifB (decide ((IntKind.i64.wrap t1) ≤ 244))
  (j2 4 65536 (i64 ((IntKind.i64.wrap t1) - 240)) w)
  (K (0, 0) w))
  (K (0, 0) w)))
  (ifB (decide ((IntKind.i64.wrap t1) ≥ 240))
  (ifB (decide ((IntKind.i64.wrap t1) ≤ 244))
  (j2 4 65536 (i64 ((IntKind.i64.wrap t1) - 240)) w)
  (K (0, 0) w))
  (K (0, 0) w)))))
  (fun n3 low4 v5 w6 =>
  ifB (decide ((i64 (i + n3)) > ((s : List UInt8).length : Int)))
  (K (0, 0) w6)
  (loop2 (v5 : Int) (1 : Int) (fun v7 k8 k9 w10 =>
  ifB (decide (k8 < n3))
  (opRd Pr (Instr.index 9 (sval s) (.int .i64 (i64 (i + k8)))) (Value.int .u8) (fun t11 =>
  ifB (decide ((IntKind.i64.wrap t11) < 128))
  (K (0, 0) w10)
  (ifB (decide ((IntKind.i64.wrap t11) > 191))
  (K (0, 0) w10)
  (k9 (i64 ((i64 ((i64 (64 * v7)) + (IntKind.i64.wrap t11))) - 128)) (i64 (k8 + 1)) w10))) w10)
  (ifB (decide (v7 < low4))
  (K (0, 0) w10)
  (ifB (decide (v7 > 1114111))
  (K (0, 0) w10)
  (ifB (decide (v7 ≥ 55296))
  (ifB (decide (v7 ≤ 57343))
  (K (0, 0) w10)
  (K (n3, v7) w10))
  (K (n3, v7) w10))))) w6))) w
def ref05_Size_ann : Ann := (.s .d (.s (.r [(2, .rd (rI .u8))]) (.s .d (.sj [(.s 7, (rI .i64)), (.s 8, (rI .i64)), (.s 9, (rI .i64))] (.b (.s .d (.c (.s .d .d) (.s .d (.c .d (.s .d (.c .d (.s .d (.c .d (.s .d .d)))))))))) (.s (.s .d (.c (.s .d .d) .d)) (.s (.s .d (.b (.l [(.s 9, (rI .i64)), (.s 10, (rI .i64))] (.s (.s .d (.c .d .d)) (.s (.b (.s (.r [(4, .rd (rI .u8))]) (.s (.s .d (.c (.s .d .d) .d)) .d))) .d))))) (.s (.s .d (.c (.s .d .d) .d)) (.s .d .d))))))))
theorem ref05_Size_calls {s : List UInt8} {i : Int} {K : (Int × Int) → World → Prop} {w : World} (h : ref05_Size s i K w) : callV Pr (tval2 (Value.int .i64) (Value.int .i64)) 119 #[(sval s), (.int .i64 i)] w K :=
  calls_of Pr_plain Pr_mixed Pr_func119 ref05_Size_ann (rT2 (rI .i64) (rI .i64)) (args := [(sval s), (.int .i64 i)]) (by kernel_rfl) h

/- changeover/changeoverref05.Plain -/
def ref05_Plain (r : Int) (K : Bool → World → Prop) (w : World) : Prop :=
  loop1 (0 : Int) (fun i1 k2 w3 =>
  ifB (decide (i1 < ((cs66_24119 : List UInt8).length : Int)))
  (opRd Pr (Instr.index 9 (sval cs66_24119) (.int .i64 i1)) (Value.int .u8) (fun t4 =>
  ifB ((IntKind.i64.wrap t4) == r)
  (K true w3)
  (k2 (i64 (i1 + 1)) w3)) w3)
  (ifB (decide (r ≥ 161))
  (K (r != 65533) w3)
  (K false w3))) w
def ref05_Plain_ann : Ann := (.s .d (.s .d (.s (.s .d (.b (.l [(.s 4, (rI .i64))] (.s (.s .d (.c .d .d)) (.s (.b (.s (.r [(2, .rd (rI .u8))]) (.c (.s .d .d) .d))) .d))))) (.s .d .d))))
theorem ref05_Plain_calls {r : Int} {K : Bool → World → Prop} {w : World} (h : ref05_Plain r K w) : callV Pr Value.bool 120 #[(.int .i64 r)] w K :=
  calls_of Pr_plain Pr_mixed Pr_func120 ref05_Plain_ann rB (args := [(.int .i64 r)]) (by kernel_rfl) h

/- changeover/changeoverref05.Bad -/
def ref05_Bad (s : List UInt8) (K : Int → World → Prop) (w : World) : Prop :=
  loop1 (0 : Int) (fun i1 k2 w3 =>
  ifB (decide (i1 < ((s : List UInt8).length : Int)))
  (callV Pr (tval2 (Value.int .i64) (Value.int .i64)) 119 #[(sval s), (.int .i64 i1)] w3 fun t4 w5 =>
  ifB (t4.1 == 0)
  (K i1 w5)
  (k2 (i64 (i1 + t4.1)) w5))
  (K (-1) w3)) w
def ref05_Bad_ann : Ann := (.s .d (.s .d (.s (.b (.l [(.s 3, (rI .i64))] (.s (.s .d (.c .d .d)) (.b (.s (.r [(2, .call (rT2 (rI .i64) (rI .i64)))]) (.s (.s .d (.c (.s .d .d) .d)) .d)))))) (.s .d .d))))
theorem ref05_Bad_calls {s : List UInt8} {K : Int → World → Prop} {w : World} (h : ref05_Bad s K w) : callV Pr (Value.int .i64) 121 #[(sval s)] w K :=
  calls_of Pr_plain Pr_mixed Pr_func121 ref05_Bad_ann (rI .i64) (args := [(sval s)]) (by kernel_rfl) h

/- changeover/recone.fields -/
def recone_fields (kind : Int) (K : (ReconeHas × Bool) → World → Prop) (w : World) : Prop :=
  newV (fun b1 w2 =>
  newV (fun b3 w4 =>
  ifB (kind == 2)
  (wrM b3 (fun w5 =>
  wrM b3 (fun w6 =>
  wrM b3 (fun w7 =>
  wrM b1 (fun w8 =>
  K ((ReconeHas.mk true true true false), true) w8) w7) w6) w5) w4)
  (ifB (kind == 3)
  (wrM b3 (fun w9 =>
  wrM b3 (fun w10 =>
  wrM b1 (fun w11 =>
  K ((ReconeHas.mk false true true false), true) w11) w10) w9) w4)
  (ifB (kind == 1)
  (wrM b3 (fun w12 =>
  wrM b1 (fun w13 =>
  K ((ReconeHas.mk true false false false), true) w13) w12) w4)
  (ifB (kind == 4)
  (wrM b3 (fun w14 =>
  wrM b3 (fun w15 =>
  wrM b1 (fun w16 =>
  K ((ReconeHas.mk false true false true), true) w16) w15) w14) w4)
  (wrM b1 (fun w17 =>
  K ((ReconeHas.mk false false false false), false) w17) w4))))) w2) w
def recone_fields_ann : Ann := (.s (.r [(0, .nl 2)]) (.s (.r [(0, .nl 4)]) (.s (.s .d (.b (.s (.b (.s (.b (.s (.b (.s (.b (.s (.b (.s (.s (.s .d (.c .d .d)) (.s (.s .d (.c .d .d)) (.s (.s .d (.c .d .d)) (.s .d (.c .d .d))))) .d)) (.r [(1, .ls 4)]))) (.s (.r [(1, .ls 4), (3, .ls 4)]) .d))) (.s (.r [(1, .ls 4)]) .d))) (.s (.r [(1, .ls 4), (3, .ls 4)]) .d))) (.s (.s (.r [(1, .ls 2)]) .d) .d)))) (.s (.r [(1, .ls 2)]) .d))))
theorem recone_fields_calls {kind : Int} {K : (ReconeHas × Bool) → World → Prop} {w : World} (h : recone_fields kind K w) : callV Pr (tval2 ReconeHas.val Value.bool) 122 #[(.int .i64 kind)] w K :=
  calls_of Pr_plain Pr_mixed Pr_func122 recone_fields_ann (rT2 rReconeHas rB) (args := [(.int .i64 kind)]) (by kernel_rfl) h

/- changeover/recone.ranges -/
def recone_ranges (x : ApiRecord) (h_ : ReconeHas) (K : Bool → World → Prop) (w : World) : Prop :=
  newV (fun b1 w2 =>
  newV (fun b3 w4 =>
  join0 (fun (j5 : World → Prop) =>
  ifB h_.ballot
  (callV Pr Value.bool 63 #[(.agg ⟨[(.int .i64 x.Ballot.Round), (.int .i64 x.Ballot.Node)]⟩)] w4 fun t6 w7 =>
  kp b3 w4 w7 <|
  kp b1 w4 w7 <|
  ifB (!t6)
  (K false w7)
  (opRd Pr (binSem .eql 23 (.tmp 14) (.tmp 15) (.agg ⟨[(.int .i64 x.Ballot.Round), (.int .i64 x.Ballot.Node)]⟩) (.agg ⟨[(.int .i64 0), (.int .i64 0)]⟩)) Value.bool (fun t8 =>
  ifB t8
  (K false w7)
  (j5 w7)) w7))
  (j5 w4))
  (fun w9 =>
  ifB (!h_.index)
  (K true w9)
  (ifB (decide (x.Index ≥ 1))
  (K (decide (x.Index ≤ 4294967296)) w9)
  (K false w9)))) w2) w
def recone_ranges_ann : Ann := (.s (.r [(0, .nl 2), (1, .nl 3)]) (.sj [] (.s (.r [(5, .call rB), (11, .rd rB)]) (.c (.s .d .d) .d)) (.s .d .d)))
theorem recone_ranges_calls {x : ApiRecord} {h_ : ReconeHas} {K : Bool → World → Prop} {w : World} (h : recone_ranges x h_ K w) : callV Pr Value.bool 123 #[(.agg ⟨x.cs⟩), (.agg ⟨h_.cs⟩)] w K :=
  calls_of Pr_plain Pr_mixed Pr_func123 recone_ranges_ann rB (args := [(.agg ⟨x.cs⟩), (.agg ⟨h_.cs⟩)]) (by kernel_rfl) h

/- changeover/recone.others -/
def recone_others (x : ApiRecord) (h_ : ReconeHas) (K : Bool → World → Prop) (w : World) : Prop :=
  newV (fun b1 w2 =>
  newV (fun b3 w4 =>
  join1 (fun (j5 : Bool → World → Prop) =>
  ifB (!h_.ballot)
  (opRd Pr (binSem .neq 23 (.tmp 11) (.tmp 12) (.agg ⟨[(.int .i64 x.Ballot.Round), (.int .i64 x.Ballot.Node)]⟩) (.agg ⟨[(.int .i64 0), (.int .i64 0)]⟩)) Value.bool (fun t6 =>
  ifB t6
  (j5 t6 w4)
  (ifB (!h_.index)
  (ifB (x.Index != 0)
  (j5 (x.Index != 0) w4)
  (ifB (!h_.cmd)
  (opRd Pr (binSem .neq 41 (.tmp 28) (.tmp 29) (.agg ⟨[(.int .i64 x.Cmd.Kind), (.int .i64 x.Cmd.Client), (.int .i64 x.Cmd.Seq), (sval x.Cmd.Key), (sval x.Cmd.Val), (sval x.Cmd.Old), (.int .i64 x.Cmd.Node)]⟩) (.agg ⟨[(.int .i64 0), (.int .i64 0), (.int .i64 0), (sval []), (sval []), (sval []), (.int .i64 0)]⟩)) Value.bool (fun t7 =>
  j5 t7 w4) w4)
  (j5 false w4)))
  (ifB (!h_.cmd)
  (opRd Pr (binSem .neq 41 (.tmp 28) (.tmp 29) (.agg ⟨[(.int .i64 x.Cmd.Kind), (.int .i64 x.Cmd.Client), (.int .i64 x.Cmd.Seq), (sval x.Cmd.Key), (sval x.Cmd.Val), (sval x.Cmd.Old), (.int .i64 x.Cmd.Node)]⟩) (.agg ⟨[(.int .i64 0), (.int .i64 0), (.int .i64 0), (sval []), (sval []), (sval []), (.int .i64 0)]⟩)) Value.bool (fun t8 =>
  j5 t8 w4) w4)
  (j5 false w4)))) w4)
  (ifB (!h_.index)
  (ifB (x.Index != 0)
  (j5 (x.Index != 0) w4)
  (ifB (!h_.cmd)
  (opRd Pr (binSem .neq 41 (.tmp 28) (.tmp 29) (.agg ⟨[(.int .i64 x.Cmd.Kind), (.int .i64 x.Cmd.Client), (.int .i64 x.Cmd.Seq), (sval x.Cmd.Key), (sval x.Cmd.Val), (sval x.Cmd.Old), (.int .i64 x.Cmd.Node)]⟩) (.agg ⟨[(.int .i64 0), (.int .i64 0), (.int .i64 0), (sval []), (sval []), (sval []), (.int .i64 0)]⟩)) Value.bool (fun t9 =>
  j5 t9 w4) w4)
  (j5 false w4)))
  (ifB (!h_.cmd)
  (opRd Pr (binSem .neq 41 (.tmp 28) (.tmp 29) (.agg ⟨[(.int .i64 x.Cmd.Kind), (.int .i64 x.Cmd.Client), (.int .i64 x.Cmd.Seq), (sval x.Cmd.Key), (sval x.Cmd.Val), (sval x.Cmd.Old), (.int .i64 x.Cmd.Node)]⟩) (.agg ⟨[(.int .i64 0), (.int .i64 0), (.int .i64 0), (sval []), (sval []), (sval []), (.int .i64 0)]⟩)) Value.bool (fun t10 =>
  j5 t10 w4) w4)
  (j5 false w4))))
  (fun t11 w12 =>
  ifB t11
  (K true w12)
  (K (!(h_.image == (decide ((x.Image.len : Int) > 0)))) w12))) w2) w
def recone_others_ann : Ann := (.s (.r [(0, .nl 2), (1, .nl 3)]) (.s (.b (.sj [(.s 5, rB)] (.s (.r [(7, .rd rB)]) (.c .d (.s .d (.c .d (.r [(7, .rd rB)]))))) (.c (.s .d .d) .d))) (.s .d .d)))
theorem recone_others_calls {x : ApiRecord} {h_ : ReconeHas} {K : Bool → World → Prop} {w : World} (h : recone_others x h_ K w) : callV Pr Value.bool 124 #[(.agg ⟨x.cs⟩), (.agg ⟨h_.cs⟩)] w K :=
  calls_of Pr_plain Pr_mixed Pr_func124 recone_others_ann rB (args := [(.agg ⟨x.cs⟩), (.agg ⟨h_.cs⟩)]) (by kernel_rfl) h

/- changeover/varint.Get -/
def varint_Get (b : Sl) (at_ : Int) (K : (Int × Int × Int) → World → Prop) (w : World) : Prop :=
  ifB (decide (at_ < 0))
  (K (0, 0, 6) w)
  (ifB (decide (at_ > (b.len : Int)))
  (K (0, 0, 6) w)
  (join2 (fun (j1 : Int → Int → World → Prop) =>
  loop2 (0 : Int) (at_ : Int) (fun n2 i3 k4 w5 =>
  ifB (decide (i3 < (b.len : Int)))
  (opRd Pr (Instr.indexAt 25 b.val (.int .i64 i3)) pav (fun t6 =>
  opRd Pr (Instr.loadAt 5 (.pointer (some t6))) (Value.int .u8) (fun c7 =>
  join0 (fun (j8 : World → Prop) =>
  ifB (c7 == 0)
  (ifB (decide (i3 > at_))
  (ifB (decide (i3 > at_))
  (K (0, 0, 3) w5)
  (j8 w5))
  (ifB (decide ((i64 (7 * (i64 (i3 - at_)))) > 56))
  (ifB (decide ((i64 (7 * (i64 (i3 - at_)))) > 56))
  (K (0, 0, 3) w5)
  (j8 w5))
  (ifB (decide (n2 > 9223372036854775807))
  (K (0, 0, 3) w5)
  (j8 w5))))
  (ifB (decide ((i64 (7 * (i64 (i3 - at_)))) > 56))
  (ifB (decide ((i64 (7 * (i64 (i3 - at_)))) > 56))
  (K (0, 0, 3) w5)
  (j8 w5))
  (ifB (decide (n2 > 9223372036854775807))
  (K (0, 0, 3) w5)
  (j8 w5))))
  (fun w9 =>
  opRd Pr (binSem .shl 151 (.tmp 49) (.tmp 50) (.int .u64 (IntKind.u64.wrap (bAnd .u8 c7 127))) (.int .i64 (i64 (7 * (i64 (i3 - at_)))))) (Value.int .u64) (fun t10 =>
  ifB (decide (c7 < 128))
  (j1 (bOr .u64 n2 t10) i3 w9)
  (k4 (bOr .u64 n2 t10) (i64 (i3 + 1)) w9)) w9)) w5) w5)
  (j1 n2 i3 w5)) w)
  (fun n11 i12 w13 =>
  ifB (i12 == (b.len : Int))
  (K (0, 0, 1) w13)
  (K ((IntKind.i64.wrap n11), (i64 (i12 + 1)), 0) w13))))
def varint_Get_ann : Ann := (.s .d (.b (.s (.s .d (.c (.s .d .d) .d)) (.s .d (.s .d (.s .d (.sj [(.s 7, (rI .u64)), (.s 8, (rI .i64))] (.b (.l [(.s 7, (rI .u64)), (.s 8, (rI .i64))] (.s (.s .d (.c .d .d)) (.s (.b (.s (.r [(2, .rd rPA), (3, .rd (rI .u8))]) (.sj [] (.b (.s (.s .d (.c .d (.s .d (.c .d .d)))) (.c (.s .d .d) .d))) (.s (.r [(5, .rd (rI .u64))]) (.s .d (.c .d .d)))))) .d)))) (.s (.s .d (.c (.s .d .d) .d)) (.s .d .d)))))))))
theorem varint_Get_calls {b : Sl} {at_ : Int} {K : (Int × Int × Int) → World → Prop} {w : World} (h : varint_Get b at_ K w) : callV Pr (tval3 (Value.int .i64) (Value.int .i64) (Value.int .i64)) 125 #[b.val, (.int .i64 at_)] w K :=
  calls_of Pr_plain Pr_mixed Pr_func125 varint_Get_ann (rT3 (rI .i64) (rI .i64) (rI .i64)) (args := [b.val, (.int .i64 at_)]) (by kernel_rfl) h

/- (*changeover/pack.Reader).fail -/
def pack_Reader_fail (r : Option Addr) (e : Int) (K : Unit → World → Prop) (w : World) : Prop :=
  opRd Pr (nilSem (.pointer r)) pav (fun t1 =>
  opUn Pr (Instr.storeAt 30 (.pointer (some (t1.add 2))) (.int .i64 e)) (fun w2 =>
  K () w2) w) w
def pack_Reader_fail_ann : Ann := (.r [(2, .rd rPA), (4, .un)])
theorem pack_Reader_fail_calls {r : Option Addr} {e : Int} {K : Unit → World → Prop} {w : World} (h : pack_Reader_fail r e K w) : callV Pr uval 126 #[(.pointer r), (.int .i64 e)] w K :=
  calls_of Pr_plain Pr_mixed Pr_func126 pack_Reader_fail_ann rU (args := [(.pointer r), (.int .i64 e)]) (by kernel_rfl) h

/- (*changeover/pack.Reader).Count$1 -/
def pack_Reader_Count_1 (c_x0 : Addr) (c_x1 : Addr) (K : Int → World → Prop) (w : World) : Prop :=
  opRd Pr (Instr.loadAt 76 (.pointer (some c_x0))) Value.pointer (fun t1 =>
  opRd Pr (Instr.loadAt 3 (.pointer (some c_x1))) (Value.int .i64) (fun t2 =>
  callV Pr (Value.int .i64) 128 #[(.pointer t1), (.int .i64 t2)] w fun t3 w4 =>
  K t3 w4) w) w
def pack_Reader_Count_1_ann : Ann := (.s .d (.s (.r [(0, .rd rP), (1, .rd (rI .i64)), (2, .call (rI .i64))]) .d))
theorem pack_Reader_Count_1_calls {c_x0 : Addr} {c_x1 : Addr} {K : Int → World → Prop} {w : World} (h : pack_Reader_Count_1 c_x0 c_x1 K w) : callV Pr (Value.int .i64) 127 #[(.pointer (some c_x0)), (.pointer (some c_x1))] w K :=
  calls_of Pr_plain Pr_mixed Pr_func127 pack_Reader_Count_1_ann (rI .i64) (args := [(.pointer (some c_x0)), (.pointer (some c_x1))]) (by kernel_rfl) h

/- (*changeover/pack.Reader).counted -/
def pack_Reader_counted (r : Option Addr) (most : Int) (K : Int → World → Prop) (w : World) : Prop :=
  callV Pr (Value.int .i64) 104 #[(.pointer r), (.int .i64 most)] w fun n1 w2 =>
  opRd Pr (nilSem (.pointer r)) pav (fun t3 =>
  opRd Pr (Instr.loadAt 30 (.pointer (some (t3.add 2)))) (Value.int .i64) (fun t4 =>
  ifB (t4 == 0)
  (callV Pr (Value.int .i64) 82 #[(.pointer r)] w2 fun t5 w6 =>
  ifB (decide (n1 > t5))
  (callV Pr uval 126 #[(.pointer r), (.int .i64 1)] w6 fun t7 w8 =>
  K n1 w8)
  (K n1 w6))
  (K n1 w2)) w2) w2
def pack_Reader_counted_ann : Ann := (.s .d (.s (.r [(2, .call (rI .i64))]) (.s (.s (.r [(1, .rd rPA), (3, .rd (rI .i64)), (8, .call (rI .i64))]) (.c (.r [(1, .call rU)]) .d)) (.s .d .d))))
theorem pack_Reader_counted_calls {r : Option Addr} {most : Int} {K : Int → World → Prop} {w : World} (h : pack_Reader_counted r most K w) : callV Pr (Value.int .i64) 128 #[(.pointer r), (.int .i64 most)] w K :=
  calls_of Pr_plain Pr_mixed Pr_func128 pack_Reader_counted_ann (rI .i64) (args := [(.pointer r), (.int .i64 most)]) (by kernel_rfl) h

/- changeover/cmd.parts$1 -/
def cmd_parts_1 (c : Option Addr) (K : Value → World → Prop) (w : World) : Prop :=
  opRd Pr (nilSem (.pointer c)) pav (fun t1 =>
  K (.iface 108 (.pointer (some (t1.add 1)))) w) w
def cmd_parts_1_ann : Ann := (.s .d (.s (.r [(1, .rd rPA)]) .d))
theorem cmd_parts_1_calls {c : Option Addr} {K : Value → World → Prop} {w : World} (h : cmd_parts_1 c K w) : callV Pr vval 130 #[(.pointer c)] w K :=
  calls_of Pr_plain Pr_mixed Pr_func130 cmd_parts_1_ann rV (args := [(.pointer c)]) (by kernel_rfl) h

/- changeover/cmd.parts$2 -/
def cmd_parts_2 (c : Option Addr) (K : Value → World → Prop) (w : World) : Prop :=
  opRd Pr (nilSem (.pointer c)) pav (fun t1 =>
  K (.iface 108 (.pointer (some (t1.add 2)))) w) w
def cmd_parts_2_ann : Ann := (.s .d (.s (.r [(1, .rd rPA)]) .d))
theorem cmd_parts_2_calls {c : Option Addr} {K : Value → World → Prop} {w : World} (h : cmd_parts_2 c K w) : callV Pr vval 131 #[(.pointer c)] w K :=
  calls_of Pr_plain Pr_mixed Pr_func131 cmd_parts_2_ann rV (args := [(.pointer c)]) (by kernel_rfl) h

/- changeover/runes.Key -/
def runes_Key (s : List UInt8) (K : Bool → World → Prop) (w : World) : Prop :=
  ifB (!(strEq s []))
  (ifB (decide (((s : List UInt8).length : Int) ≤ 24))
  (callV Pr Value.bool 140 #[(sval s)] w fun t1 w2 =>
  ifB t1
  (callV Pr Value.bool 141 #[(sval s), (.func (.func 142) #[] #[])] w2 fun t3 w4 =>
  K t3 w4)
  (K false w2))
  (K false w))
  (K false w)
def runes_Key_ann : Ann := (.s .d (.s (.r [(9, .call rB), (13, .call rB)]) .d))
theorem runes_Key_calls {s : List UInt8} {K : Bool → World → Prop} {w : World} (h : runes_Key s K w) : callV Pr Value.bool 132 #[(sval s)] w K :=
  calls_of Pr_plain Pr_mixed Pr_func132 runes_Key_ann rB (args := [(sval s)]) (by kernel_rfl) h

/- changeover/cmd.parts$3 -/
def cmd_parts_3 (c : Option Addr) (K : Value → World → Prop) (w : World) : Prop :=
  opRd Pr (nilSem (.pointer c)) pav (fun t1 =>
  K (.iface 147 (.pointer (some (t1.add 3)))) w) w
def cmd_parts_3_ann : Ann := (.s .d (.s (.r [(1, .rd rPA)]) .d))
theorem cmd_parts_3_calls {c : Option Addr} {K : Value → World → Prop} {w : World} (h : cmd_parts_3 c K w) : callV Pr vval 133 #[(.pointer c)] w K :=
  calls_of Pr_plain Pr_mixed Pr_func133 cmd_parts_3_ann rV (args := [(.pointer c)]) (by kernel_rfl) h

/- changeover/runes.Val -/
def runes_Val (s : List UInt8) (K : Bool → World → Prop) (w : World) : Prop :=
  ifB (decide (((s : List UInt8).length : Int) ≤ 48))
  (callV Pr Value.bool 140 #[(sval s)] w fun t1 w2 =>
  ifB t1
  (callV Pr Value.bool 141 #[(sval s), (.func (.func 143) #[] #[])] w2 fun t3 w4 =>
  K t3 w4)
  (K false w2))
  (K false w)
def runes_Val_ann : Ann := (.s .d (.s (.r [(5, .call rB), (9, .call rB)]) .d))
theorem runes_Val_calls {s : List UInt8} {K : Bool → World → Prop} {w : World} (h : runes_Val s K w) : callV Pr Value.bool 134 #[(sval s)] w K :=
  calls_of Pr_plain Pr_mixed Pr_func134 runes_Val_ann rB (args := [(sval s)]) (by kernel_rfl) h

/- changeover/cmd.parts$4 -/
def cmd_parts_4 (c : Option Addr) (K : Value → World → Prop) (w : World) : Prop :=
  opRd Pr (nilSem (.pointer c)) pav (fun t1 =>
  K (.iface 147 (.pointer (some (t1.add 5)))) w) w
def cmd_parts_4_ann : Ann := (.s .d (.s (.r [(1, .rd rPA)]) .d))
theorem cmd_parts_4_calls {c : Option Addr} {K : Value → World → Prop} {w : World} (h : cmd_parts_4 c K w) : callV Pr vval 135 #[(.pointer c)] w K :=
  calls_of Pr_plain Pr_mixed Pr_func135 cmd_parts_4_ann rV (args := [(.pointer c)]) (by kernel_rfl) h

/- changeover/cmd.parts$5 -/
def cmd_parts_5 (c : Option Addr) (K : Value → World → Prop) (w : World) : Prop :=
  opRd Pr (nilSem (.pointer c)) pav (fun t1 =>
  K (.iface 147 (.pointer (some (t1.add 4)))) w) w
def cmd_parts_5_ann : Ann := (.s .d (.s (.r [(1, .rd rPA)]) .d))
theorem cmd_parts_5_calls {c : Option Addr} {K : Value → World → Prop} {w : World} (h : cmd_parts_5 c K w) : callV Pr vval 136 #[(.pointer c)] w K :=
  calls_of Pr_plain Pr_mixed Pr_func136 cmd_parts_5_ann rV (args := [(.pointer c)]) (by kernel_rfl) h

/- changeover/cmd.parts$6 -/
def cmd_parts_6 (c : Option Addr) (K : Value → World → Prop) (w : World) : Prop :=
  opRd Pr (nilSem (.pointer c)) pav (fun t1 =>
  K (.iface 108 (.pointer (some (t1.add 6)))) w) w
def cmd_parts_6_ann : Ann := (.s .d (.s (.r [(1, .rd rPA)]) .d))
theorem cmd_parts_6_calls {c : Option Addr} {K : Value → World → Prop} {w : World} (h : cmd_parts_6 c K w) : callV Pr vval 137 #[(.pointer c)] w K :=
  calls_of Pr_plain Pr_mixed Pr_func137 cmd_parts_6_ann rV (args := [(.pointer c)]) (by kernel_rfl) h

/- (*changeover/pack.Writer).Text -/
def pack_Writer_Text (w_ : Option Addr) (s : List UInt8) (K : Unit → World → Prop) (w : World) : Prop :=
  opTy Pr (convert 9 25 (sval s)) Sl.val (fun t1 w2 =>
  callV Pr uval 60 #[(.pointer w_), t1.val] w2 fun t3 w4 =>
  K () w4) w
def pack_Writer_Text_ann : Ann := (.r [(2, .ty rSl), (3, .call rU)])
theorem pack_Writer_Text_calls {w_ : Option Addr} {s : List UInt8} {K : Unit → World → Prop} {w : World} (h : pack_Writer_Text w_ s K w) : callV Pr uval 138 #[(.pointer w_), (sval s)] w K :=
  calls_of Pr_plain Pr_mixed Pr_func138 pack_Writer_Text_ann rU (args := [(.pointer w_), (sval s)]) (by kernel_rfl) h

/- (*changeover/pack.Reader).Text -/
def pack_Reader_Text (r : Option Addr) (most : Int) (K : (List UInt8) → World → Prop) (w : World) : Prop :=
  callV Pr Sl.val 80 #[(.pointer r), (.int .i64 most)] w fun t1 w2 =>
  opRd Pr (convert 25 9 t1.val) sval (fun t3 =>
  K t3 w2) w2
def pack_Reader_Text_ann : Ann := (.s .d (.s (.r [(2, .call rSl), (3, .rd rS)]) .d))
theorem pack_Reader_Text_calls {r : Option Addr} {most : Int} {K : (List UInt8) → World → Prop} {w : World} (h : pack_Reader_Text r most K w) : callV Pr sval 139 #[(.pointer r), (.int .i64 most)] w K :=
  calls_of Pr_plain Pr_mixed Pr_func139 pack_Reader_Text_ann rS (args := [(.pointer r), (.int .i64 most)]) (by kernel_rfl) h

/- changeover/runes.Whole -/
def runes_Whole (s : List UInt8) (K : Bool → World → Prop) (w : World) : Prop :=
  callV Pr (Value.int .i64) 144 #[(sval s)] w fun t1 w2 =>
  K (decide (t1 < 0)) w2
def runes_Whole_ann : Ann := (.s .d (.s (.r [(1, .call (rI .i64))]) .d))
theorem runes_Whole_calls {s : List UInt8} {K : Bool → World → Prop} {w : World} (h : runes_Whole s K w) : callV Pr Value.bool 140 #[(sval s)] w K :=
  calls_of Pr_plain Pr_mixed Pr_func140 runes_Whole_ann rB (args := [(sval s)]) (by kernel_rfl) h

/- changeover/runes.Plain -/
def runes_Plain (r : Int) (K : Bool → World → Prop) (w : World) : Prop :=
  join1 (fun (j1 : Bool → World → Prop) =>
  ifB (decide (r ≥ 97))
  (ifB (decide (r ≤ 122))
  (j1 (decide (r ≤ 122)) w)
  (ifB (decide (r ≥ 65))
  (ifB (decide (r ≤ 90))
  (j1 (decide (r ≤ 90)) w)
  (ifB (decide (r ≥ 48))
  (j1 (decide (r ≤ 57)) w)
  (j1 false w)))
  (ifB (decide (r ≥ 48))
  (j1 (decide (r ≤ 57)) w)
  (j1 false w))))
  (ifB (decide (r ≥ 65))
  (ifB (decide (r ≤ 90))
  (j1 (decide (r ≤ 90)) w)
  (ifB (decide (r ≥ 48))
  (j1 (decide (r ≤ 57)) w)
  (j1 false w)))
  (ifB (decide (r ≥ 48))
  (j1 (decide (r ≤ 57)) w)
  (j1 false w))))
  (fun t2 w3 =>
  ifB t2
  (K true w3)
  (ifB (r == 45)
  (ifB (r == 45)
  (K true w3)
  (ifB (decide (r ≥ 161))
  (K (r != 65533) w3)
  (K false w3)))
  (ifB (r == 95)
  (ifB (r == 95)
  (K true w3)
  (ifB (decide (r ≥ 161))
  (K (r != 65533) w3)
  (K false w3)))
  (ifB (r == 46)
  (ifB (r == 46)
  (K true w3)
  (ifB (decide (r ≥ 161))
  (K (r != 65533) w3)
  (K false w3)))
  (ifB (r == 58)
  (K true w3)
  (ifB (decide (r ≥ 161))
  (K (r != 65533) w3)
  (K false w3)))))))
def runes_Plain_ann : Ann := (.s .d (.s (.b (.sj [(.s 3, rB)] (.s .d (.c .d (.s .d (.c .d .d)))) (.c (.s .d .d) (.s (.s .d (.c .d (.s .d (.c .d (.s .d (.c .d .d)))))) (.c (.s .d .d) .d))))) (.s .d .d)))
theorem runes_Plain_calls {r : Int} {K : Bool → World → Prop} {w : World} (h : runes_Plain r K w) : callV Pr Value.bool 142 #[(.int .i32 r)] w K :=
  calls_of Pr_plain Pr_mixed Pr_func142 runes_Plain_ann rB (args := [(.int .i32 r)]) (by kernel_rfl) h

/- changeover/runes.Val$1 -/
def runes_Val_1 (r : Int) (K : Bool → World → Prop) (w : World) : Prop :=
  ifB (decide (r ≥ 32))
  (K (r != 127) w)
  (K false w)
def runes_Val_1_ann : Ann := (.s .d (.s .d .d))
theorem runes_Val_1_calls {r : Int} {K : Bool → World → Prop} {w : World} (h : runes_Val_1 r K w) : callV Pr Value.bool 143 #[(.int .i32 r)] w K :=
  calls_of Pr_plain Pr_mixed Pr_func143 runes_Val_1_ann rB (args := [(.int .i32 r)]) (by kernel_rfl) h

/- changeover/runes.Bad -/
def runes_Bad (s : List UInt8) (K : Int → World → Prop) (w : World) : Prop :=
  opTy Pr (Instr.range 9 (sval s)) pav (fun t1 w2 =>
  loop0 (fun k3 w4 =>
  opAl Pr (Instr.next (.pointer (some t1)) true 0) (nxval (Value.int .i64) (Value.int .i32)) endval (fun t5 w6 =>
  ifB (t5.2 != 65533)
  (k3 w6)
  (opRd Pr (Instr.sliceAt 9 (sval s) (some (.int .i64 t5.1)) none none) sval (fun t7 =>
  callV Pr (tval2 (Value.int .i32) (Value.int .i64)) 145 #[(sval t7)] w6 fun t8 w9 =>
  ifB (t8.2 == 1)
  (K t5.1 w9)
  (k3 w9)) w6)) (fun _ w10 =>
  K (-1) w10) w4) w2) w
def runes_Bad_ann : Ann := (.s .d (.s (.s (.r [(1, .ty rPA)]) (.b (.l [] (.s (.r [(0, .alt (rNx (rI .i64) (rI .i32)) rEnd)]) (.s (.c .d .d) (.b (.s .d (.s (.s .d (.c .d .d)) (.s (.r [(2, .rd rS), (3, .call (rT2 (rI .i32) (rI .i64)))]) (.s .d (.c (.s .d .d) .d))))))))))) (.s .d .d)))
theorem runes_Bad_calls {s : List UInt8} {K : Int → World → Prop} {w : World} (h : runes_Bad s K w) : callV Pr (Value.int .i64) 144 #[(sval s)] w K :=
  calls_of Pr_plain Pr_mixed Pr_func144 runes_Bad_ann (rI .i64) (args := [(sval s)]) (by kernel_rfl) h

/- unicode/utf8.DecodeRuneInString -/
def unicode_utf8_DecodeRuneInString (s : List UInt8) (K : (Int × Int) → World → Prop) (w : World) : Prop :=
  ifB (!(strEq s []))
  (opRd Pr (Instr.index 9 (sval s) (.int .i64 0)) (Value.int .u8) (fun t1 =>
  ifB (decide (t1 < 128))
  (opRd Pr (Instr.index 9 (sval s) (.int .i64 0)) (Value.int .u8) (fun t2 =>
  K ((IntKind.i32.wrap t2), 1) w) w)
  (callV Pr (tval2 (Value.int .i32) (Value.int .i64)) 146 #[(sval s)] w fun t3 w4 =>
  K (t3.1, t3.2) w4)) w)
  (callV Pr (tval2 (Value.int .i32) (Value.int .i64)) 146 #[(sval s)] w fun t5 w6 =>
  K (t5.1, t5.2) w6)
def unicode_utf8_DecodeRuneInString_ann : Ann := (.s .d (.s (.s (.r [(4, .rd (rI .u8))]) (.c (.s (.r [(1, .rd (rI .u8))]) .d) (.r [(1, .call (rT2 (rI .i32) (rI .i64)))]))) .d))
theorem unicode_utf8_DecodeRuneInString_calls {s : List UInt8} {K : (Int × Int) → World → Prop} {w : World} (h : unicode_utf8_DecodeRuneInString s K w) : callV Pr (tval2 (Value.int .i32) (Value.int .i64)) 145 #[(sval s)] w K :=
  calls_of Pr_plain Pr_mixed Pr_func145 unicode_utf8_DecodeRuneInString_ann (rT2 (rI .i32) (rI .i64)) (args := [(sval s)]) (by kernel_rfl) h

/- unicode/utf8.decodeRuneInStringSlow -/
def unicode_utf8_decodeRuneInStringSlow (s : List UInt8) (K : (Int × Int) → World → Prop) (w : World) : Prop :=
  ifB (decide (((s : List UInt8).length : Int) < 1))
  (K (65533, 0) w)
  (opRd Pr (Instr.index 9 (sval s) (.int .i64 0)) (Value.int .u8) (fun s01 =>
  opRd Pr (Instr.indexAt 156 (.pointer (some g_unicode_utf8_first)) (.int .u8 s01)) pav (fun t2 =>
  opRd Pr (Instr.loadAt 5 (.pointer (some t2))) (Value.int .u8) (fun x3 =>
  ifB (decide (x3 ≥ 240))
  (opRd Pr (Instr.index 9 (sval s) (.int .i64 0)) (Value.int .u8) (fun t4 =>
  K ((bOr .i32 (bAndNot .i32 (IntKind.i32.wrap t4) (shR .i32 (shL .i32 (IntKind.i32.wrap x3) 31) 31)) (bAnd .i32 65533 (shR .i32 (shL .i32 (IntKind.i32.wrap x3) 31) 31))), 1) w) w)
  (opRd Pr (Instr.indexAt 159 (.pointer (some g_unicode_utf8_acceptRanges)) (.int .u8 (shR .u8 x3 4))) pav (fun t5 =>
  opRd Pr (Instr.loadAt 158 (.pointer (some t5))) Utf8AcceptRange.val (fun t6 =>
  newV (fun b7 w8 =>
  wrM b7 (fun w9 =>
  ifB (decide (((s : List UInt8).length : Int) < (IntKind.i64.wrap (bAnd .u8 x3 7))))
  (K (65533, 1) w9)
  (opRd Pr (Instr.index 9 (sval s) (.int .i64 1)) (Value.int .u8) (fun s110 =>
  ifB (decide (s110 < t6.lo))
  (K (65533, 1) w9)
  (ifB (decide (t6.hi < s110))
  (K (65533, 1) w9)
  (ifB (decide ((IntKind.i64.wrap (bAnd .u8 x3 7)) ≤ 2))
  (K ((bOr .i32 (shL .i32 (IntKind.i32.wrap (bAnd .u8 s01 31)) 6) (IntKind.i32.wrap (bAnd .u8 s110 63))), 2) w9)
  (opRd Pr (Instr.index 9 (sval s) (.int .i64 2)) (Value.int .u8) (fun s211 =>
  ifB (decide (s211 < 128))
  (K (65533, 1) w9)
  (ifB (decide ((191 : Int) < s211))
  (K (65533, 1) w9)
  (ifB (decide ((IntKind.i64.wrap (bAnd .u8 x3 7)) ≤ 3))
  (K ((bOr .i32 (bOr .i32 (shL .i32 (IntKind.i32.wrap (bAnd .u8 s01 15)) 12) (shL .i32 (IntKind.i32.wrap (bAnd .u8 s110 63)) 6)) (IntKind.i32.wrap (bAnd .u8 s211 63))), 3) w9)
  (opRd Pr (Instr.index 9 (sval s) (.int .i64 3)) (Value.int .u8) (fun s312 =>
  ifB (decide (s312 < 128))
  (K (65533, 1) w9)
  (ifB (decide ((191 : Int) < s312))
  (K (65533, 1) w9)
  (K ((bOr .i32 (bOr .i32 (bOr .i32 (shL .i32 (IntKind.i32.wrap (bAnd .u8 s01 7)) 18) (shL .i32 (IntKind.i32.wrap (bAnd .u8 s110 63)) 12)) (shL .i32 (IntKind.i32.wrap (bAnd .u8 s211 63)) 6)) (IntKind.i32.wrap (bAnd .u8 s312 63))), 4) w9))) w9)))) w9)))) w9)) w8) w) w) w)) w) w) w)
def unicode_utf8_decodeRuneInStringSlow_ann : Ann := (.s .d (.s .d (.s (.s .d (.c (.s .d .d) .d)) (.s (.r [(1, .rd (rI .u8))]) (.s (.r [(1, .rd rPA), (2, .rd (rI .u8))]) (.s (.s .d (.c (.s .d (.s (.r [(1, .rd (rI .u8))]) .d)) .d)) (.s .d (.s (.r [(2, .rd rPA), (3, .rd rUtf8AcceptRange), (4, .nl 9), (5, .ls 9)]) (.s (.s .d (.c (.s .d .d) .d)) (.s (.r [(1, .rd (rI .u8))]) (.s (.s .d (.c (.s .d .d) .d)) (.s (.s .d (.c (.s .d .d) .d)) (.s (.r [(1, .rd (rI .u8))]) (.s (.s .d (.c (.s .d .d) .d)) (.s (.s .d (.c (.s .d .d) .d)) (.s (.r [(1, .rd (rI .u8))]) (.s (.s .d (.c (.s .d .d) .d)) (.s .d .d))))))))))))))))))
theorem unicode_utf8_decodeRuneInStringSlow_calls {s : List UInt8} {K : (Int × Int) → World → Prop} {w : World} (h : unicode_utf8_decodeRuneInStringSlow s K w) : callV Pr (tval2 (Value.int .i32) (Value.int .i64)) 146 #[(sval s)] w K :=
  calls_of Pr_plain Pr_mixed Pr_func146 unicode_utf8_decodeRuneInStringSlow_ann (rT2 (rI .i32) (rI .i64)) (args := [(sval s)]) (by kernel_rfl) h

/- gosem.cut.vars -/
def gosem_cut_vars (K : Unit → World → Prop) (w : World) : Prop :=
  opUn Pr (Instr.storeAt 159 (.pointer (some g_unicode_utf8_acceptRanges)) (.agg ⟨[(.int .u8 128), (.int .u8 191), (.int .u8 160), (.int .u8 191), (.int .u8 128), (.int .u8 159), (.int .u8 144), (.int .u8 191), (.int .u8 128), (.int .u8 143), (.int .u8 0), (.int .u8 0), (.int .u8 0), (.int .u8 0), (.int .u8 0), (.int .u8 0), (.int .u8 0), (.int .u8 0), (.int .u8 0), (.int .u8 0), (.int .u8 0), (.int .u8 0), (.int .u8 0), (.int .u8 0), (.int .u8 0), (.int .u8 0), (.int .u8 0), (.int .u8 0), (.int .u8 0), (.int .u8 0), (.int .u8 0), (.int .u8 0)]⟩)) (fun w1 =>
  K () w1) w
def gosem_cut_vars_ann : Ann := (.r [(6, .un)])
theorem gosem_cut_vars_calls {K : Unit → World → Prop} {w : World} (h : gosem_cut_vars K w) : callV Pr uval 169 #[] w K :=
  calls_of Pr_plain Pr_mixed Pr_func169 gosem_cut_vars_ann rU (args := []) (by kernel_rfl) h

/- (changeover/cmd.part).number -/
def cmd_part_number_0 (c : Option Addr) (f : Int) (K : (Bool × Bool) → World → Prop) (w : World) : Prop :=
  newV (fun b1 w2 =>
  callV Pr vval 130 #[(.pointer c)] w2 fun t3 w4 =>
  kp b1 w2 w4 <|
  opRd Pr (Instr.typeAssert t3 20 108 true) (tval2 Value.pointer Value.bool) (fun t5 =>
  ifB (!t5.2)
  (K (true, true) w4)
  (ifB ((bAnd .i64 f 1) == 0)
  (drewM (fun w6 =>
  opRd Pr (nilSem (.pointer t5.1)) pav (fun t7 =>
  opRd Pr (Instr.loadAt 3 (.pointer (some t7))) (Value.int .i64) (fun t8 =>
  K (true, (t8 == 0)) w6) w6) w6) w4)
  (drewM (fun w9 =>
  opRd Pr (nilSem (.pointer t5.1)) pav (fun t10 =>
  opRd Pr (Instr.loadAt 3 (.pointer (some t10))) (Value.int .i64) (fun t11 =>
  ifB (decide (t11 ≥ 1))
  (opRd Pr (nilSem (.pointer t5.1)) pav (fun t12 =>
  opRd Pr (Instr.loadAt 3 (.pointer (some t12))) (Value.int .i64) (fun t13 =>
  K ((decide (t13 ≤ 8)), true) w9) w9) w9)
  (K (false, true) w9)) w9) w9) w4))) w4) w
def cmd_part_number_0_ann : Ann := (.s (.r [(0, .nl 3)]) (.s (.r [(3, .call rV), (4, .rd (rT2 rP rB))]) (.s (.s .d (.c (.s .d .d) .d)) (.s (.s .d (.c (.s (.r [(1, .rd rPA), (2, .rd (rI .i64))]) .d) .d)) (.s (.r [(1, .rd rPA), (2, .rd (rI .i64)), (6, .rd rPA), (7, .rd (rI .i64))]) .d)))))
theorem cmd_part_number_0_calls {c : Option Addr} {f : Int} {K : (Bool × Bool) → World → Prop} {w : World} (h : cmd_part_number_0 c f K w) : callV Pr (tval2 Value.bool Value.bool) 117 #[(.agg ⟨[(.int .i64 1), (.int .i64 8), .nilFunc, (.func (.func 130) #[] #[])]⟩), (.pointer c), (.int .i64 f)] w K :=
  calls_of Pr_plain Pr_mixed Pr_func117 cmd_part_number_0_ann (rT2 rB rB) (args := [(.agg ⟨[(.int .i64 1), (.int .i64 8), .nilFunc, (.func (.func 130) #[] #[])]⟩), (.pointer c), (.int .i64 f)]) (by kernel_rfl) h

/- (changeover/cmd.part).number -/
def cmd_part_number_1 (c : Option Addr) (f : Int) (K : (Bool × Bool) → World → Prop) (w : World) : Prop :=
  newV (fun b1 w2 =>
  callV Pr vval 131 #[(.pointer c)] w2 fun t3 w4 =>
  kp b1 w2 w4 <|
  opRd Pr (Instr.typeAssert t3 20 108 true) (tval2 Value.pointer Value.bool) (fun t5 =>
  ifB (!t5.2)
  (K (true, true) w4)
  (ifB ((bAnd .i64 f 1) == 0)
  (drewM (fun w6 =>
  opRd Pr (nilSem (.pointer t5.1)) pav (fun t7 =>
  opRd Pr (Instr.loadAt 3 (.pointer (some t7))) (Value.int .i64) (fun t8 =>
  K (true, (t8 == 0)) w6) w6) w6) w4)
  (drewM (fun w9 =>
  opRd Pr (nilSem (.pointer t5.1)) pav (fun t10 =>
  opRd Pr (Instr.loadAt 3 (.pointer (some t10))) (Value.int .i64) (fun t11 =>
  ifB (decide (t11 ≥ 1))
  (opRd Pr (nilSem (.pointer t5.1)) pav (fun t12 =>
  opRd Pr (Instr.loadAt 3 (.pointer (some t12))) (Value.int .i64) (fun t13 =>
  K ((decide (t13 ≤ 4294967296)), true) w9) w9) w9)
  (K (false, true) w9)) w9) w9) w4))) w4) w
def cmd_part_number_1_ann : Ann := (.s (.r [(0, .nl 3)]) (.s (.r [(3, .call rV), (4, .rd (rT2 rP rB))]) (.s (.s .d (.c (.s .d .d) .d)) (.s (.s .d (.c (.s (.r [(1, .rd rPA), (2, .rd (rI .i64))]) .d) .d)) (.s (.r [(1, .rd rPA), (2, .rd (rI .i64)), (6, .rd rPA), (7, .rd (rI .i64))]) .d)))))
theorem cmd_part_number_1_calls {c : Option Addr} {f : Int} {K : (Bool × Bool) → World → Prop} {w : World} (h : cmd_part_number_1 c f K w) : callV Pr (tval2 Value.bool Value.bool) 117 #[(.agg ⟨[(.int .i64 1), (.int .i64 4294967296), .nilFunc, (.func (.func 131) #[] #[])]⟩), (.pointer c), (.int .i64 f)] w K :=
  calls_of Pr_plain Pr_mixed Pr_func117 cmd_part_number_1_ann (rT2 rB rB) (args := [(.agg ⟨[(.int .i64 1), (.int .i64 4294967296), .nilFunc, (.func (.func 131) #[] #[])]⟩), (.pointer c), (.int .i64 f)]) (by kernel_rfl) h

/- (changeover/cmd.part).number -/
def cmd_part_number_2 (c : Option Addr) (f : Int) (K : (Bool × Bool) → World → Prop) (w : World) : Prop :=
  newV (fun b1 w2 =>
  callV Pr vval 133 #[(.pointer c)] w2 fun t3 w4 =>
  kp b1 w2 w4 <|
  opRd Pr (Instr.typeAssert t3 20 108 true) (tval2 Value.pointer Value.bool) (fun t5 =>
  ifB (!t5.2)
  (K (true, true) w4)
  (ifB ((bAnd .i64 f 2) == 0)
  (drewM (fun w6 =>
  opRd Pr (nilSem (.pointer t5.1)) pav (fun t7 =>
  opRd Pr (Instr.loadAt 3 (.pointer (some t7))) (Value.int .i64) (fun t8 =>
  K (true, (t8 == 0)) w6) w6) w6) w4)
  (drewM (fun w9 =>
  opRd Pr (nilSem (.pointer t5.1)) pav (fun t10 =>
  opRd Pr (Instr.loadAt 3 (.pointer (some t10))) (Value.int .i64) (fun t11 =>
  ifB (decide (t11 ≥ 1))
  (opRd Pr (nilSem (.pointer t5.1)) pav (fun t12 =>
  opRd Pr (Instr.loadAt 3 (.pointer (some t12))) (Value.int .i64) (fun t13 =>
  K ((decide (t13 ≤ 0)), true) w9) w9) w9)
  (K (false, true) w9)) w9) w9) w4))) w4) w
def cmd_part_number_2_ann : Ann := (.s (.r [(0, .nl 3)]) (.s (.r [(3, .call rV), (4, .rd (rT2 rP rB))]) (.s (.s .d (.c (.s .d .d) .d)) (.s (.s .d (.c (.s (.r [(1, .rd rPA), (2, .rd (rI .i64))]) .d) .d)) (.s (.r [(1, .rd rPA), (2, .rd (rI .i64)), (6, .rd rPA), (7, .rd (rI .i64))]) .d)))))
theorem cmd_part_number_2_calls {c : Option Addr} {f : Int} {K : (Bool × Bool) → World → Prop} {w : World} (h : cmd_part_number_2 c f K w) : callV Pr (tval2 Value.bool Value.bool) 117 #[(.agg ⟨[(.int .i64 2), (.int .i64 0), (.func (.func 132) #[] #[]), (.func (.func 133) #[] #[])]⟩), (.pointer c), (.int .i64 f)] w K :=
  calls_of Pr_plain Pr_mixed Pr_func117 cmd_part_number_2_ann (rT2 rB rB) (args := [(.agg ⟨[(.int .i64 2), (.int .i64 0), (.func (.func 132) #[] #[]), (.func (.func 133) #[] #[])]⟩), (.pointer c), (.int .i64 f)]) (by kernel_rfl) h

end Go.Chg
