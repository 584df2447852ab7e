/-
  Functions of the program, told by a program of ours (gen.py), each held by the kernel to what is to be shown of its code.
-/
import Derived.Test.YtahfcnaalleldaaDoorTy
set_option maxRecDepth 100000
set_option linter.unusedVariables false
namespace Go.Chg
open Go.Vc

/- changeover/changeoverlaw06.QuoteTexts -/
def law06_QuoteTexts (s : List UInt8) (K : Bool → World → Prop) (w : World) : Prop :=
  ifB (decide (((s : List UInt8).length : Int) > 300))
  (callV Pr Value.bool 14 #[] w fun t1 w2 =>
  K t1 w2)
  (callV Pr sval 15 #[(sval s)] w fun q3 w4 =>
  callV Pr (tval2 sval (Value.int .i64)) 16 #[(sval q3)] w4 fun t5 w6 =>
  callV Pr sval 17 #[(sval s)] w6 fun t7 w8 =>
  ifB (strEq q3 t7)
  (ifB (strEq t5.1 s)
  (ifB (t5.2 == 0)
  (callV Pr Value.bool 14 #[] w8 fun t9 w10 =>
  K t9 w10)
  (K false w8))
  (K false w8))
  (K false w8))
def law06_QuoteTexts_ann : Ann := (.s .d (.s (.s .d (.c (.s (.r [(0, .call rB)]) .d) .d)) (.s (.r [(1, .call rS)]) (.s (.r [(1, .call (rT2 rS (rI .i64)))]) (.s (.r [(2, .call rS), (14, .call rB)]) .d)))))
theorem law06_QuoteTexts_calls {s : List UInt8} {K : Bool → World → Prop} {w : World} (h : law06_QuoteTexts s K w) : callV Pr Value.bool 3 #[(sval s)] w K :=
  calls_of Pr_plain Pr_mixed Pr_func3 law06_QuoteTexts_ann rB (args := [(sval s)]) (by kernel_rfl) h

/- changeover/changeoverlaw06.QuoteReads -/
def law06_QuoteReads (s : List UInt8) (K : Bool → World → Prop) (w : World) : Prop :=
  ifB (decide (((s : List UInt8).length : Int) > 300))
  (callV Pr Value.bool 14 #[] w fun t1 w2 =>
  K t1 w2)
  (callV Pr (tval2 sval (Value.int .i64)) 16 #[(sval s)] w fun t3 w4 =>
  callV Pr (tval2 sval Value.bool) 18 #[(sval s)] w4 fun t5 w6 =>
  ifB (!t5.2)
  (ifB (strEq t3.1 [])
  (ifB (t3.2 == 3)
  (callV Pr Value.bool 14 #[] w6 fun t7 w8 =>
  K t7 w8)
  (K false w6))
  (K false w6))
  (ifB (strEq t3.1 t5.1)
  (ifB (t3.2 == 0)
  (callV Pr Value.bool 14 #[] w6 fun t9 w10 =>
  K t9 w10)
  (K false w6))
  (K false w6)))
def law06_QuoteReads_ann : Ann := (.s .d (.s (.s .d (.c (.s (.r [(0, .call rB)]) .d) .d)) (.s (.r [(1, .call (rT2 rS (rI .i64)))]) (.s (.r [(1, .call (rT2 rS rB))]) (.s (.s .d (.c (.s (.r [(7, .call rB)]) .d) .d)) (.s (.r [(8, .call rB)]) .d))))))
theorem law06_QuoteReads_calls {s : List UInt8} {K : Bool → World → Prop} {w : World} (h : law06_QuoteReads s K w) : callV Pr Value.bool 4 #[(sval s)] w K :=
  calls_of Pr_plain Pr_mixed Pr_func4 law06_QuoteReads_ann rB (args := [(sval s)]) (by kernel_rfl) h

/- changeover/changeoverlaw06.QuoteLines -/
def law06_QuoteLines (line : List UInt8) (K : Bool → World → Prop) (w : World) : Prop :=
  ifB (decide (((line : List UInt8).length : Int) > 300))
  (callV Pr Value.bool 14 #[] w fun t1 w2 =>
  K t1 w2)
  (callV Pr (tval2 Sl.val (Value.int .i64)) 19 #[(sval line)] w fun t3 w4 =>
  ifB (t3.2 != 0)
  (ifB ((t3.1.len : Int) == 0)
  (ifB (t3.2 == 3)
  (callV Pr Value.bool 14 #[] w4 fun t5 w6 =>
  K t5 w6)
  (K false w4))
  (K false w4))
  (loop1 (0 : Int) (fun i7 k8 w9 =>
  ifB (decide (i7 < (t3.1.len : Int)))
  (opRd Pr (Instr.indexAt 30 t3.1.val (.int .i64 i7)) pav (fun t10 =>
  opRd Pr (Instr.loadAt 9 (.pointer (some t10))) sval (fun t11 =>
  callV Pr Value.bool 20 #[(sval t11)] w9 fun t12 w13 =>
  ifB (!t12)
  (K false w13)
  (k8 (i64 (i7 + 1)) w13)) w9) w9)
  (callV Pr sval 21 #[t3.1.val] w9 fun t14 w15 =>
  ifB (strEq t14 line)
  (callV Pr Value.bool 14 #[] w15 fun t16 w17 =>
  K t16 w17)
  (K false w15))) w4))
def law06_QuoteLines_ann : Ann := (.s .d (.s (.s .d (.c (.s (.r [(0, .call rB)]) .d) .d)) (.s (.r [(1, .call (rT2 rSl (rI .i64)))]) (.s (.s .d (.c (.s (.r [(8, .call rB)]) .d) .d)) (.s (.s .d (.b (.l [(.s 5, (rI .i64))] (.s (.s .d (.c .d .d)) (.s (.b (.s (.r [(2, .rd rPA), (3, .rd rS), (4, .call rB)]) (.c (.s .d .d) .d))) .d))))) (.s (.r [(1, .call rS), (5, .call rB)]) .d))))))
theorem law06_QuoteLines_calls {line : List UInt8} {K : Bool → World → Prop} {w : World} (h : law06_QuoteLines line K w) : callV Pr Value.bool 5 #[(sval line)] w K :=
  calls_of Pr_plain Pr_mixed Pr_func5 law06_QuoteLines_ann rB (args := [(sval line)]) (by kernel_rfl) h

/- changeover/changeoverlaw06.QuoteWords -/
def law06_QuoteWords (l : Sl) (K : Bool → World → Prop) (w : World) : Prop :=
  loop2 (0 : Int) (0 : Int) (fun n1 i2 k3 w4 =>
  ifB (decide (i2 < (l.len : Int)))
  (opRd Pr (Instr.indexAt 30 l.val (.int .i64 i2)) pav (fun t5 =>
  opRd Pr (Instr.loadAt 9 (.pointer (some t5))) sval (fun t6 =>
  ifB (decide ((i64 (n1 + ((t6 : List UInt8).length : Int))) > 500))
  (callV Pr Value.bool 14 #[] w4 fun t7 w8 =>
  K t7 w8)
  (ifB (decide (i2 > 60))
  (callV Pr Value.bool 14 #[] w4 fun t9 w10 =>
  K t9 w10)
  (k3 (i64 (n1 + ((t6 : List UInt8).length : Int))) (i64 (i2 + 1)) w4))) w4) w4)
  (loop2 (true : Bool) (0 : Int) (fun all11 i12 k13 w14 =>
  ifB (decide (i12 < (l.len : Int)))
  (ifB all11
  (opRd Pr (Instr.indexAt 30 l.val (.int .i64 i12)) pav (fun t15 =>
  opRd Pr (Instr.loadAt 9 (.pointer (some t15))) sval (fun t16 =>
  callV Pr Value.bool 20 #[(sval t16)] w14 fun t17 w18 =>
  k13 t17 (i64 (i12 + 1)) w18) w14) w14)
  (k13 false (i64 (i12 + 1)) w14))
  (ifB (!all11)
  (callV Pr Value.bool 14 #[] w14 fun t19 w20 =>
  K t19 w20)
  (callV Pr sval 21 #[l.val] w14 fun t21 w22 =>
  callV Pr (tval2 Sl.val (Value.int .i64)) 19 #[(sval t21)] w22 fun t23 w24 =>
  ifB (t23.2 == 0)
  (callV Pr Value.bool 22 #[t23.1.val, l.val] w24 fun t25 w26 =>
  ifB t25
  (callV Pr Value.bool 14 #[] w26 fun t27 w28 =>
  K t27 w28)
  (K false w26))
  (K false w24)))) w4)) w
def law06_QuoteWords_ann : Ann := (.s .d (.s .d (.s (.s .d (.b (.l [(.s 3, (rI .i64)), (.s 4, (rI .i64))] (.s (.s .d (.c .d .d)) (.s (.b (.s (.r [(3, .rd rPA), (4, .rd rS)]) (.s .d (.c (.s (.r [(0, .call rB)]) .d) .d)))) .d))))) (.s .d (.s (.s .d (.b (.l [(.s 5, rB), (.s 6, (rI .i64))] (.s (.s .d (.c .d .d)) (.s (.b (.r [(4, .rd rPA), (5, .rd rS), (6, .call rB)])) .d))))) (.s (.s .d (.c (.s (.r [(0, .call rB)]) .d) .d)) (.s (.r [(1, .call rS), (2, .call (rT2 rSl (rI .i64)))]) (.s (.r [(5, .call rB), (8, .call rB)]) .d))))))))
theorem law06_QuoteWords_calls {l : Sl} {K : Bool → World → Prop} {w : World} (h : law06_QuoteWords l K w) : callV Pr Value.bool 6 #[l.val] w K :=
  calls_of Pr_plain Pr_mixed Pr_func6 law06_QuoteWords_ann rB (args := [l.val]) (by kernel_rfl) h

/- changeover/changeoverlaw13.MsgoneChecks -/
def law13_MsgoneChecks (m : ApiMsg) (other : ApiMsg) (K : Bool → World → Prop) (w : World) : Prop :=
  newV (fun b1 w2 =>
  newV (fun b3 w4 =>
  callV Pr Value.bool 23 #[(.agg ⟨[(.int .i64 m.Kind), (.int .i64 m.From), (.int .i64 m.To), (.int .i64 m.Ballot.Round), (.int .i64 m.Ballot.Node), (.int .i64 m.Index), (.int .i64 m.Commit), (.int .i64 m.Version), m.Entries.val, m.Image.val]⟩)] w4 fun t5 w6 =>
  kp b3 w4 w6 <|
  kp b1 w4 w6 <|
  ifB t5
  (callV Pr Value.bool 24 #[] w6 fun t7 w8 =>
  kp b3 w6 w8 <|
  kp b1 w6 w8 <|
  K t7 w8)
  (callV Pr Value.bool 23 #[(.agg ⟨[(.int .i64 other.Kind), (.int .i64 other.From), (.int .i64 other.To), (.int .i64 other.Ballot.Round), (.int .i64 other.Ballot.Node), (.int .i64 other.Index), (.int .i64 other.Commit), (.int .i64 other.Version), other.Entries.val, other.Image.val]⟩)] w6 fun t9 w10 =>
  kp b3 w6 w10 <|
  kp b1 w6 w10 <|
  ifB t9
  (callV Pr Value.bool 24 #[] w10 fun t11 w12 =>
  kp b3 w10 w12 <|
  kp b1 w10 w12 <|
  K t11 w12)
  (heldM (fun S14 w13 =>
  callV Pr (Value.int .i64) 25 #[(.agg ⟨[(.int .i64 m.Kind), (.int .i64 m.From), (.int .i64 m.To), (.int .i64 m.Ballot.Round), (.int .i64 m.Ballot.Node), (.int .i64 m.Index), (.int .i64 m.Commit), (.int .i64 m.Version), m.Entries.val, m.Image.val]⟩)] w13 fun t15 w16 =>
  kp b3 w13 w16 <|
  kp b1 w13 w16 <|
  (S14 w16) ∧
  (callV Pr (Value.int .i64) 26 #[(.agg ⟨[(.int .i64 m.Kind), (.int .i64 m.From), (.int .i64 m.To), (.int .i64 m.Ballot.Round), (.int .i64 m.Ballot.Node), (.int .i64 m.Index), (.int .i64 m.Commit), (.int .i64 m.Version), m.Entries.val, m.Image.val]⟩)] w16 fun t17 w18 =>
  kp b3 w16 w18 <|
  kp b1 w16 w18 <|
  (S14 w18) ∧
  (ifB (t15 == t17)
  (callV Pr Value.bool 27 #[(.agg ⟨[(.int .i64 m.Kind), (.int .i64 m.From), (.int .i64 m.To), (.int .i64 m.Ballot.Round), (.int .i64 m.Ballot.Node), (.int .i64 m.Index), (.int .i64 m.Commit), (.int .i64 m.Version), m.Entries.val, m.Image.val]⟩), (.agg ⟨[(.int .i64 other.Kind), (.int .i64 other.From), (.int .i64 other.To), (.int .i64 other.Ballot.Round), (.int .i64 other.Ballot.Node), (.int .i64 other.Index), (.int .i64 other.Commit), (.int .i64 other.Version), other.Entries.val, other.Image.val]⟩)] w18 fun t19 w20 =>
  kp b3 w18 w20 <|
  kp b1 w18 w20 <|
  (S14 w20) ∧
  (callV Pr Value.bool 28 #[(.agg ⟨[(.int .i64 m.Kind), (.int .i64 m.From), (.int .i64 m.To), (.int .i64 m.Ballot.Round), (.int .i64 m.Ballot.Node), (.int .i64 m.Index), (.int .i64 m.Commit), (.int .i64 m.Version), m.Entries.val, m.Image.val]⟩), (.agg ⟨[(.int .i64 other.Kind), (.int .i64 other.From), (.int .i64 other.To), (.int .i64 other.Ballot.Round), (.int .i64 other.Ballot.Node), (.int .i64 other.Index), (.int .i64 other.Commit), (.int .i64 other.Version), other.Entries.val, other.Image.val]⟩)] w20 fun t21 w22 =>
  kp b3 w20 w22 <|
  kp b1 w20 w22 <|
  (S14 w22) ∧
  (ifB (t19 == t21)
  (callV Pr Value.bool 27 #[(.agg ⟨[(.int .i64 m.Kind), (.int .i64 m.From), (.int .i64 m.To), (.int .i64 m.Ballot.Round), (.int .i64 m.Ballot.Node), (.int .i64 m.Index), (.int .i64 m.Commit), (.int .i64 m.Version), m.Entries.val, m.Image.val]⟩), (.agg ⟨[(.int .i64 m.Kind), (.int .i64 m.From), (.int .i64 m.To), (.int .i64 m.Ballot.Round), (.int .i64 m.Ballot.Node), (.int .i64 m.Index), (.int .i64 m.Commit), (.int .i64 m.Version), m.Entries.val, m.Image.val]⟩)] w22 fun t23 w24 =>
  kp b3 w22 w24 <|
  kp b1 w22 w24 <|
  (S14 w24) ∧
  (ifB t23
  (callV Pr Value.bool 24 #[] w24 fun t25 w26 =>
  kp b3 w24 w26 <|
  kp b1 w24 w26 <|
  (S14 w26) ∧
  (K t25 w26))
  (K false w24)))
  (K false w22))))
  (K false w18)))) w10))) w2) w
def law13_MsgoneChecks_ann : Ann := (.s (.r [(0, .nl 2), (1, .nl 3)]) (.s (.s (.r [(1, .call rB), (4, .call rB)]) (.c (.s (.r [(0, .call rB)]) .d) .d)) (.s (.h (.take 0 (.take 2 (.one 1 (.one 3 (.take 4 (.take 5 (.take 6 (.take 7 (.take 9 (.take 10 (.one 8 (.one 11 (.take 12 (.take 13 (.take 14 (.take 15 (.take 16 (.one 17 (.take 18 (.take 19 (.one 20 (.take 21 (.take 22 .done))))))))))))))))))))))) [(1, .call (rI .i64)), (3, .call (rI .i64)), (8, .call rB), (11, .call rB), (17, .call rB), (20, .call rB)]) .d)))
theorem law13_MsgoneChecks_calls {m : ApiMsg} {other : ApiMsg} {K : Bool → World → Prop} {w : World} (h : law13_MsgoneChecks m other K w) : callV Pr Value.bool 7 #[(.agg ⟨m.cs⟩), (.agg ⟨other.cs⟩)] w K :=
  calls_of Pr_plain Pr_mixed Pr_func7 law13_MsgoneChecks_ann rB (args := [(.agg ⟨m.cs⟩), (.agg ⟨other.cs⟩)]) (by kernel_rfl) h

/- changeover/changeoverlaw26.SnaponeEncodes -/
def law26_SnaponeEncodes (s : ApiState) (K : Bool → World → Prop) (w : World) : Prop :=
  newV (fun b1 w2 =>
  callV Pr Value.bool 29 #[(.agg ⟨[(.int .i64 s.Schema), s.Pairs.val, s.Sessions.val]⟩)] w2 fun t3 w4 =>
  kp b1 w2 w4 <|
  ifB t3
  (callV Pr Value.bool 30 #[] w4 fun t5 w6 =>
  kp b1 w4 w6 <|
  K t5 w6)
  (callV Pr (tval2 Sl.val (Value.int .i64)) 31 #[(.agg ⟨[(.int .i64 s.Schema), s.Pairs.val, s.Sessions.val]⟩)] w4 fun t7 w8 =>
  kp b1 w4 w8 <|
  callV Pr Value.bool 32 #[(.agg ⟨[(.int .i64 s.Schema), s.Pairs.val, s.Sessions.val]⟩)] w8 fun t9 w10 =>
  kp b1 w8 w10 <|
  ifB (!t9)
  (ifB ((t7.1.len : Int) == 0)
  (ifB (t7.2 == 3)
  (callV Pr Value.bool 30 #[] w10 fun t11 w12 =>
  kp b1 w10 w12 <|
  K t11 w12)
  (K false w10))
  (K false w10))
  (ifB (s.Schema != 1)
  (ifB ((t7.1.len : Int) == 0)
  (ifB (t7.2 == 8)
  (callV Pr Value.bool 30 #[] w10 fun t13 w14 =>
  kp b1 w10 w14 <|
  K t13 w14)
  (K false w10))
  (K false w10))
  (callV Pr (tval2 ApiState.val (Value.int .i64)) 33 #[t7.1.val] w10 fun t15 w16 =>
  kp b1 w10 w16 <|
  newV (fun b17 w18 =>
  wrM b17 (fun w19 =>
  ifB (t7.2 == 0)
  (callV Pr Sl.val 35 #[(.agg ⟨[(.int .i64 s.Schema), s.Pairs.val, s.Sessions.val]⟩)] w19 fun t20 w21 =>
  kp b17 w19 w21 <|
  kp b1 w19 w21 <|
  callV Pr Value.bool 34 #[t7.1.val, t20.val] w21 fun t22 w23 =>
  kp b17 w21 w23 <|
  kp b1 w21 w23 <|
  ifB t22
  (callV Pr Value.bool 36 #[(.agg ⟨[(.int .i64 t15.1.Schema), t15.1.Pairs.val, t15.1.Sessions.val]⟩), (.agg ⟨[(.int .i64 s.Schema), s.Pairs.val, s.Sessions.val]⟩)] w23 fun t24 w25 =>
  kp b17 w23 w25 <|
  kp b1 w23 w25 <|
  ifB t24
  (ifB (t15.2 == 0)
  (callV Pr Value.bool 30 #[] w25 fun t26 w27 =>
  kp b17 w25 w27 <|
  kp b1 w25 w27 <|
  K t26 w27)
  (K false w25))
  (K false w25))
  (K false w23))
  (K false w19)) w18) w16)))) w
def law26_SnaponeEncodes_ann : Ann := (.s (.r [(0, .nl 1)]) (.s (.s (.r [(1, .call rB)]) (.c (.s (.r [(0, .call rB)]) .d) .d)) (.s (.r [(1, .call (rT2 rSl (rI .i64)))]) (.s (.s (.r [(1, .call rB)]) (.c (.s (.r [(8, .call rB)]) .d) .d)) (.s (.s .d (.c (.s (.r [(8, .call rB)]) .d) .d)) (.s (.r [(1, .call (rT2 rApiState (rI .i64))), (5, .nl 5), (6, .ls 5)]) (.s (.r [(5, .call rSl), (6, .call rB), (11, .call rB), (18, .call rB)]) .d)))))))
theorem law26_SnaponeEncodes_calls {s : ApiState} {K : Bool → World → Prop} {w : World} (h : law26_SnaponeEncodes s K w) : callV Pr Value.bool 8 #[(.agg ⟨s.cs⟩)] w K :=
  calls_of Pr_plain Pr_mixed Pr_func8 law26_SnaponeEncodes_ann rB (args := [(.agg ⟨s.cs⟩)]) (by kernel_rfl) h

/- changeover/changeoverlaw26.SnaponeDecodes -/
def law26_SnaponeDecodes (b : Sl) (K : Bool → World → Prop) (w : World) : Prop :=
  ifB (decide ((b.len : Int) > 3000))
  (callV Pr Value.bool 30 #[] w fun t1 w2 =>
  K t1 w2)
  (callV Pr (tval2 ApiState.val (Value.int .i64)) 33 #[b.val] w fun t3 w4 =>
  newV (fun b5 w6 =>
  wrM b5 (fun w7 =>
  ifB (t3.2 != 0)
  (callV Pr Value.bool 36 #[(.agg ⟨[(.int .i64 t3.1.Schema), t3.1.Pairs.val, t3.1.Sessions.val]⟩), (.agg ⟨[(.int .i64 0), Sl.nil.val, Sl.nil.val]⟩)] w7 fun t8 w9 =>
  kp b5 w7 w9 <|
  ifB t8
  (callV Pr Value.bool 30 #[] w9 fun t10 w11 =>
  kp b5 w9 w11 <|
  K t10 w11)
  (K false w9))
  (callV Pr Value.bool 32 #[(.agg ⟨[(.int .i64 t3.1.Schema), t3.1.Pairs.val, t3.1.Sessions.val]⟩)] w7 fun t12 w13 =>
  kp b5 w7 w13 <|
  ifB t12
  (ifB (t3.1.Schema == 1)
  (callV Pr Sl.val 35 #[(.agg ⟨[(.int .i64 t3.1.Schema), t3.1.Pairs.val, t3.1.Sessions.val]⟩)] w13 fun t14 w15 =>
  kp b5 w13 w15 <|
  callV Pr Value.bool 34 #[t14.val, b.val] w15 fun t16 w17 =>
  kp b5 w15 w17 <|
  ifB t16
  (callV Pr Value.bool 30 #[] w17 fun t18 w19 =>
  kp b5 w17 w19 <|
  K t18 w19)
  (K false w17))
  (K false w13))
  (K false w13))) w6) w4)
def law26_SnaponeDecodes_ann : Ann := (.s .d (.s (.s .d (.c (.s (.r [(0, .call rB)]) .d) .d)) (.s (.r [(1, .call (rT2 rApiState (rI .i64))), (5, .nl 3), (6, .ls 3)]) (.s (.s .d (.c (.s (.r [(2, .call rB), (4, .call rB)]) .d) .d)) (.s (.r [(1, .call rB), (9, .call rSl), (11, .call rB), (14, .call rB)]) .d)))))
theorem law26_SnaponeDecodes_calls {b : Sl} {K : Bool → World → Prop} {w : World} (h : law26_SnaponeDecodes b K w) : callV Pr Value.bool 9 #[b.val] w K :=
  calls_of Pr_plain Pr_mixed Pr_func9 law26_SnaponeDecodes_ann rB (args := [b.val]) (by kernel_rfl) h

/- changeover/changeoverlaw27.SnaptwoGets -/
def law27_SnaptwoGets (b : Sl) (K : Bool → World → Prop) (w : World) : Prop :=
  ifB (decide ((b.len : Int) > 3000))
  (callV Pr Value.bool 37 #[] w fun t1 w2 =>
  K t1 w2)
  (callV Pr (tval2 ApiState.val (Value.int .i64)) 38 #[b.val] w fun t3 w4 =>
  newV (fun b5 w6 =>
  wrM b5 (fun w7 =>
  callV Pr (tval2 ApiState.val (Value.int .i64)) 39 #[b.val] w7 fun t8 w9 =>
  kp b5 w7 w9 <|
  newV (fun b10 w11 =>
  wrM b10 (fun w12 =>
  ifB (t3.2 != 0)
  (callV Pr Value.bool 36 #[(.agg ⟨[(.int .i64 t3.1.Schema), t3.1.Pairs.val, t3.1.Sessions.val]⟩), (.agg ⟨[(.int .i64 0), Sl.nil.val, Sl.nil.val]⟩)] w12 fun t13 w14 =>
  kp b10 w12 w14 <|
  kp b5 w12 w14 <|
  ifB t13
  (ifB (t8.2 != 0)
  (callV Pr Value.bool 37 #[] w14 fun t15 w16 =>
  kp b10 w14 w16 <|
  kp b5 w14 w16 <|
  K t15 w16)
  (K false w14))
  (K false w14))
  (callV Pr Value.bool 32 #[(.agg ⟨[(.int .i64 t3.1.Schema), t3.1.Pairs.val, t3.1.Sessions.val]⟩)] w12 fun t17 w18 =>
  kp b10 w12 w18 <|
  kp b5 w12 w18 <|
  ifB t17
  (callV Pr Sl.val 35 #[(.agg ⟨[(.int .i64 t3.1.Schema), t3.1.Pairs.val, t3.1.Sessions.val]⟩)] w18 fun t19 w20 =>
  kp b10 w18 w20 <|
  kp b5 w18 w20 <|
  callV Pr Value.bool 34 #[t19.val, b.val] w20 fun t21 w22 =>
  kp b10 w20 w22 <|
  kp b5 w20 w22 <|
  ifB t21
  (ifB ((t8.2 == 0) == (t3.1.Schema == 2))
  (callV Pr Value.bool 37 #[] w22 fun t23 w24 =>
  kp b10 w22 w24 <|
  kp b5 w22 w24 <|
  K t23 w24)
  (K false w22))
  (K false w22))
  (K false w18))) w11) w9) w6) w4)
def law27_SnaptwoGets_ann : Ann := (.s .d (.s (.s .d (.c (.s (.r [(0, .call rB)]) .d) .d)) (.s (.r [(1, .call (rT2 rApiState (rI .i64))), (5, .nl 3), (6, .ls 3)]) (.s (.r [(1, .call (rT2 rApiState (rI .i64))), (5, .nl 5), (6, .ls 5)]) (.s (.s .d (.c (.s (.r [(2, .call rB), (8, .call rB)]) .d) .d)) (.s (.r [(1, .call rB), (4, .call rSl), (6, .call rB), (17, .call rB)]) .d))))))
theorem law27_SnaptwoGets_calls {b : Sl} {K : Bool → World → Prop} {w : World} (h : law27_SnaptwoGets b K w) : callV Pr Value.bool 10 #[b.val] w K :=
  calls_of Pr_plain Pr_mixed Pr_func10 law27_SnaptwoGets_ann rB (args := [b.val]) (by kernel_rfl) h

/- changeover/changeoverlaw27.SnaptwoMigrates -/
def law27_SnaptwoMigrates (s : ApiState) (b : Sl) (K : Bool → World → Prop) (w : World) : Prop :=
  newV (fun b1 w2 =>
  callV Pr Value.bool 29 #[(.agg ⟨[(.int .i64 s.Schema), s.Pairs.val, s.Sessions.val]⟩)] w2 fun t3 w4 =>
  kp b1 w2 w4 <|
  ifB t3
  (callV Pr Value.bool 37 #[] w4 fun t5 w6 =>
  kp b1 w4 w6 <|
  K t5 w6)
  (ifB (decide ((b.len : Int) > 3000))
  (callV Pr Value.bool 37 #[] w4 fun t7 w8 =>
  kp b1 w4 w8 <|
  K t7 w8)
  (callV Pr (tval2 Sl.val (Value.int .i64)) 40 #[b.val] w4 fun t9 w10 =>
  kp b1 w4 w10 <|
  callV Pr (tval2 ApiState.val (Value.int .i64)) 33 #[b.val] w10 fun t11 w12 =>
  kp b1 w10 w12 <|
  newV (fun b13 w14 =>
  wrM b13 (fun w15 =>
  join0 (fun (j16 : World → Prop) =>
  ifB (t11.2 != 0)
  (ifB (t9.2 != t11.2)
  (K false w15)
  (ifB (decide ((t9.1.len : Int) > 0))
  (K false w15)
  (ifB (t11.2 == 0)
  (ifB (t9.2 != 0)
  (K false w15)
  (j16 w15))
  (j16 w15))))
  (ifB (t11.2 == 0)
  (ifB (t9.2 != 0)
  (K false w15)
  (j16 w15))
  (j16 w15)))
  (fun w17 =>
  callV Pr Value.bool 32 #[(.agg ⟨[(.int .i64 s.Schema), s.Pairs.val, s.Sessions.val]⟩)] w17 fun t18 w19 =>
  kp b13 w17 w19 <|
  kp b1 w17 w19 <|
  ifB (!t18)
  (callV Pr Value.bool 37 #[] w19 fun t20 w21 =>
  kp b13 w19 w21 <|
  kp b1 w19 w21 <|
  K t20 w21)
  (ifB (s.Schema != 1)
  (callV Pr Value.bool 37 #[] w19 fun t22 w23 =>
  kp b13 w19 w23 <|
  kp b1 w19 w23 <|
  K t22 w23)
  (callV Pr Sl.val 35 #[(.agg ⟨[(.int .i64 s.Schema), s.Pairs.val, s.Sessions.val]⟩)] w19 fun t24 w25 =>
  kp b13 w19 w25 <|
  kp b1 w19 w25 <|
  callV Pr (tval2 Sl.val (Value.int .i64)) 40 #[t24.val] w25 fun t26 w27 =>
  kp b13 w25 w27 <|
  kp b1 w25 w27 <|
  callV Pr (tval2 ApiState.val (Value.int .i64)) 38 #[t26.1.val] w27 fun t28 w29 =>
  kp b13 w27 w29 <|
  kp b1 w27 w29 <|
  newV (fun b30 w31 =>
  wrM b30 (fun w32 =>
  heldM (fun S34 w33 =>
  ifB (t26.2 == 0)
  (ifB (t28.2 == 0)
  (callV Pr ApiState.val 41 #[(.agg ⟨[(.int .i64 s.Schema), s.Pairs.val, s.Sessions.val]⟩), (.int .i64 2), (.int .i64 1)] w33 fun t35 w36 =>
  kp b30 w33 w36 <|
  kp b13 w33 w36 <|
  kp b1 w33 w36 <|
  (S34 w36) ∧
  (callV Pr Value.bool 36 #[(.agg ⟨[(.int .i64 t28.1.Schema), t28.1.Pairs.val, t28.1.Sessions.val]⟩), (.agg ⟨t35.cs⟩)] w36 fun t37 w38 =>
  kp b30 w36 w38 <|
  kp b13 w36 w38 <|
  kp b1 w36 w38 <|
  (S34 w38) ∧
  (ifB t37
  (callV Pr Value.bool 37 #[] w38 fun t39 w40 =>
  kp b30 w38 w40 <|
  kp b13 w38 w40 <|
  kp b1 w38 w40 <|
  (S34 w40) ∧
  (K t39 w40))
  (K false w38))))
  (K false w33))
  (K false w33)) w32) w31) w29)))) w14) w12))) w
def law27_SnaptwoMigrates_ann : Ann := (.s (.r [(0, .nl 2)]) (.s (.s (.r [(1, .call rB)]) (.c (.s (.r [(0, .call rB)]) .d) .d)) (.s (.r [(1, .call (rT2 rSl (rI .i64)))]) (.s (.r [(1, .call (rT2 rApiState (rI .i64))), (5, .nl 7), (6, .ls 7)]) (.sj [] (.s .d (.c (.s .d .d) .d)) (.s (.s (.r [(1, .call rB)]) (.c (.s (.r [(0, .call rB)]) .d) .d)) (.s (.r [(1, .call rSl), (2, .call (rT2 rSl (rI .i64)))]) (.s (.r [(1, .call (rT2 rApiState (rI .i64))), (5, .nl 11), (6, .ls 11)]) (.s (.h (.take 0 (.take 1 (.take 2 (.take 3 (.take 4 (.take 5 (.take 6 (.take 7 (.take 8 (.one 9 (.one 10 (.take 11 (.take 12 (.one 13 (.take 14 (.take 15 .done)))))))))))))))) [(9, .call rApiState), (10, .call rB), (13, .call rB)]) .d)))))))))
theorem law27_SnaptwoMigrates_calls {s : ApiState} {b : Sl} {K : Bool → World → Prop} {w : World} (h : law27_SnaptwoMigrates s b K w) : callV Pr Value.bool 11 #[(.agg ⟨s.cs⟩), b.val] w K :=
  calls_of Pr_plain Pr_mixed Pr_func11 law27_SnaptwoMigrates_ann rB (args := [(.agg ⟨s.cs⟩), b.val]) (by kernel_rfl) h

/- changeover/changeoverlaw27.SnaptwoPuts -/
def law27_SnaptwoPuts (s : ApiState) (K : Bool → World → Prop) (w : World) : Prop :=
  newV (fun b1 w2 =>
  callV Pr Value.bool 29 #[(.agg ⟨[(.int .i64 s.Schema), s.Pairs.val, s.Sessions.val]⟩)] w2 fun t3 w4 =>
  kp b1 w2 w4 <|
  ifB t3
  (callV Pr Value.bool 37 #[] w4 fun t5 w6 =>
  kp b1 w4 w6 <|
  K t5 w6)
  (callV Pr (tval2 Sl.val (Value.int .i64)) 42 #[(.agg ⟨[(.int .i64 s.Schema), s.Pairs.val, s.Sessions.val]⟩)] w4 fun t7 w8 =>
  kp b1 w4 w8 <|
  callV Pr (tval2 Sl.val (Value.int .i64)) 43 #[(.agg ⟨[(.int .i64 s.Schema), s.Pairs.val, s.Sessions.val]⟩)] w8 fun t9 w10 =>
  kp b1 w8 w10 <|
  callV Pr Value.bool 32 #[(.agg ⟨[(.int .i64 s.Schema), s.Pairs.val, s.Sessions.val]⟩)] w10 fun t11 w12 =>
  kp b1 w10 w12 <|
  ifB (!t11)
  (ifB ((t7.1.len : Int) == 0)
  (ifB (t7.2 == 3)
  (ifB ((t9.1.len : Int) == 0)
  (ifB (t9.2 == 3)
  (callV Pr Value.bool 37 #[] w12 fun t13 w14 =>
  kp b1 w12 w14 <|
  K t13 w14)
  (K false w12))
  (K false w12))
  (K false w12))
  (K false w12))
  (callV Pr (tval2 ApiState.val (Value.int .i64)) 38 #[t7.1.val] w12 fun t15 w16 =>
  kp b1 w12 w16 <|
  newV (fun b17 w18 =>
  wrM b17 (fun w19 =>
  callV Pr Sl.val 35 #[(.agg ⟨[(.int .i64 s.Schema), s.Pairs.val, s.Sessions.val]⟩)] w19 fun t20 w21 =>
  kp b17 w19 w21 <|
  kp b1 w19 w21 <|
  callV Pr Value.bool 34 #[t7.1.val, t20.val] w21 fun t22 w23 =>
  kp b17 w21 w23 <|
  kp b1 w21 w23 <|
  ifB (!t22)
  (K false w23)
  (ifB (t7.2 != 0)
  (K false w23)
  (ifB (t15.2 != 0)
  (K false w23)
  (callV Pr Value.bool 36 #[(.agg ⟨[(.int .i64 t15.1.Schema), t15.1.Pairs.val, t15.1.Sessions.val]⟩), (.agg ⟨[(.int .i64 s.Schema), s.Pairs.val, s.Sessions.val]⟩)] w23 fun t24 w25 =>
  kp b17 w23 w25 <|
  kp b1 w23 w25 <|
  ifB (!t24)
  (K false w25)
  (ifB (s.Schema == 1)
  (ifB ((t9.1.len : Int) == 0)
  (ifB (t9.2 == 8)
  (callV Pr Value.bool 37 #[] w25 fun t26 w27 =>
  kp b17 w25 w27 <|
  kp b1 w25 w27 <|
  K t26 w27)
  (K false w25))
  (K false w25))
  (callV Pr (tval2 ApiState.val (Value.int .i64)) 39 #[t7.1.val] w25 fun t28 w29 =>
  kp b17 w25 w29 <|
  kp b1 w25 w29 <|
  newV (fun b30 w31 =>
  wrM b30 (fun w32 =>
  ifB (t9.2 == 0)
  (ifB (t28.2 == 0)
  (callV Pr Value.bool 34 #[t9.1.val, t7.1.val] w32 fun t33 w34 =>
  kp b30 w32 w34 <|
  kp b17 w32 w34 <|
  kp b1 w32 w34 <|
  ifB t33
  (callV Pr Value.bool 36 #[(.agg ⟨[(.int .i64 t28.1.Schema), t28.1.Pairs.val, t28.1.Sessions.val]⟩), (.agg ⟨[(.int .i64 s.Schema), s.Pairs.val, s.Sessions.val]⟩)] w34 fun t35 w36 =>
  kp b30 w34 w36 <|
  kp b17 w34 w36 <|
  kp b1 w34 w36 <|
  ifB t35
  (callV Pr Value.bool 37 #[] w36 fun t37 w38 =>
  kp b30 w36 w38 <|
  kp b17 w36 w38 <|
  kp b1 w36 w38 <|
  K t37 w38)
  (K false w36))
  (K false w34))
  (K false w32))
  (K false w32)) w31) w29)))))) w18) w16))) w
def law27_SnaptwoPuts_ann : Ann := (.s (.r [(0, .nl 1)]) (.s (.s (.r [(1, .call rB)]) (.c (.s (.r [(0, .call rB)]) .d) .d)) (.s (.r [(1, .call (rT2 rSl (rI .i64)))]) (.s (.r [(1, .call (rT2 rSl (rI .i64)))]) (.s (.s (.r [(1, .call rB)]) (.c (.s (.r [(17, .call rB)]) .d) .d)) (.s (.r [(1, .call (rT2 rApiState (rI .i64))), (5, .nl 7), (6, .ls 7)]) (.s (.s (.r [(2, .call rSl), (3, .call rB), (16, .call rB)]) (.c (.s .d .d) .d)) (.s (.s .d (.c (.s (.r [(8, .call rB)]) .d) .d)) (.s (.r [(1, .call (rT2 rApiState (rI .i64))), (5, .nl 9), (6, .ls 9)]) (.s (.r [(9, .call rB), (14, .call rB), (17, .call rB)]) .d))))))))))
theorem law27_SnaptwoPuts_calls {s : ApiState} {K : Bool → World → Prop} {w : World} (h : law27_SnaptwoPuts s K w) : callV Pr Value.bool 12 #[(.agg ⟨s.cs⟩)] w K :=
  calls_of Pr_plain Pr_mixed Pr_func12 law27_SnaptwoPuts_ann rB (args := [(.agg ⟨s.cs⟩)]) (by kernel_rfl) h

/- changeover/changeoverlaw13.MsgoneDecodes -/
def law13_MsgoneDecodes (b : Sl) (K : Bool → World → Prop) (w : World) : Prop :=
  ifB (decide ((b.len : Int) > 2000))
  (callV Pr Value.bool 24 #[] w fun t1 w2 =>
  K t1 w2)
  (callV Pr (tval2 ApiMsg.val (Value.int .i64)) 44 #[b.val] w fun t3 w4 =>
  newV (fun b5 w6 =>
  wrM b5 (fun w7 =>
  ifB (t3.2 != 0)
  (callV Pr Value.bool 28 #[(.agg ⟨[(.int .i64 t3.1.Kind), (.int .i64 t3.1.From), (.int .i64 t3.1.To), (.int .i64 t3.1.Ballot.Round), (.int .i64 t3.1.Ballot.Node), (.int .i64 t3.1.Index), (.int .i64 t3.1.Commit), (.int .i64 t3.1.Version), t3.1.Entries.val, t3.1.Image.val]⟩), (.agg ⟨[(.int .i64 0), (.int .i64 0), (.int .i64 0), (.int .i64 0), (.int .i64 0), (.int .i64 0), (.int .i64 0), (.int .i64 0), Sl.nil.val, Sl.nil.val]⟩)] w7 fun t8 w9 =>
  kp b5 w7 w9 <|
  ifB t8
  (callV Pr Value.bool 24 #[] w9 fun t10 w11 =>
  kp b5 w9 w11 <|
  K t10 w11)
  (K false w9))
  (callV Pr (Value.int .i64) 45 #[(.agg ⟨[(.int .i64 t3.1.Kind), (.int .i64 t3.1.From), (.int .i64 t3.1.To), (.int .i64 t3.1.Ballot.Round), (.int .i64 t3.1.Ballot.Node), (.int .i64 t3.1.Index), (.int .i64 t3.1.Commit), (.int .i64 t3.1.Version), t3.1.Entries.val, t3.1.Image.val]⟩)] w7 fun t12 w13 =>
  kp b5 w7 w13 <|
  ifB (t12 == 0)
  (callV Pr Sl.val 46 #[(.agg ⟨[(.int .i64 t3.1.Kind), (.int .i64 t3.1.From), (.int .i64 t3.1.To), (.int .i64 t3.1.Ballot.Round), (.int .i64 t3.1.Ballot.Node), (.int .i64 t3.1.Index), (.int .i64 t3.1.Commit), (.int .i64 t3.1.Version), t3.1.Entries.val, t3.1.Image.val]⟩)] w13 fun t14 w15 =>
  kp b5 w13 w15 <|
  callV Pr Value.bool 34 #[t14.val, b.val] w15 fun t16 w17 =>
  kp b5 w15 w17 <|
  ifB t16
  (callV Pr Value.bool 24 #[] w17 fun t18 w19 =>
  kp b5 w17 w19 <|
  K t18 w19)
  (K false w17))
  (K false w13))) w6) w4)
def law13_MsgoneDecodes_ann : Ann := (.s .d (.s (.s .d (.c (.s (.r [(0, .call rB)]) .d) .d)) (.s (.r [(1, .call (rT2 rApiMsg (rI .i64))), (5, .nl 3), (6, .ls 3)]) (.s (.s .d (.c (.s (.r [(2, .call rB), (4, .call rB)]) .d) .d)) (.s (.r [(1, .call (rI .i64)), (5, .call rSl), (7, .call rB), (10, .call rB)]) .d)))))
theorem law13_MsgoneDecodes_calls {b : Sl} {K : Bool → World → Prop} {w : World} (h : law13_MsgoneDecodes b K w) : callV Pr Value.bool 13 #[b.val] w K :=
  calls_of Pr_plain Pr_mixed Pr_func13 law13_MsgoneDecodes_ann rB (args := [b.val]) (by kernel_rfl) h

/- changeover/changeoverlaw06.awake -/
def law06_awake (K : Bool → World → Prop) (w : World) : Prop :=
  callV Pr (tval2 Sl.val (Value.int .i64)) 19 #[(sval [97, 32, 34, 98, 32, 99, 34])] w fun t1 w2 =>
  ifB (t1.2 == 0)
  (ifB ((t1.1.len : Int) == 2)
  (opRd Pr (Instr.indexAt 30 t1.1.val (.int .i64 1)) pav (fun t3 =>
  opRd Pr (Instr.loadAt 9 (.pointer (some t3))) sval (fun t4 =>
  ifB (strEq t4 [34, 98, 32, 99, 34])
  (opTy Pr (Instr.buildSlice 30 2 #[(0, (sval [97])), (1, (sval [98]))]) Sl.val (fun t5 w6 =>
  callV Pr sval 21 #[t5.val] w6 fun t7 w8 =>
  K (strEq t7 [97, 32, 98]) w8) w2)
  (K false w2)) w2) w2)
  (K false w2))
  (K false w2)
def law06_awake_ann : Ann := (.s .d (.s (.r [(0, .call (rT2 rSl (rI .i64)))]) (.s (.r [(9, .rd rPA), (10, .rd rS), (14, .ty rSl), (15, .call rS)]) .d)))
theorem law06_awake_calls {K : Bool → World → Prop} {w : World} (h : law06_awake K w) : callV Pr Value.bool 14 #[] w K :=
  calls_of Pr_plain Pr_mixed Pr_func14 law06_awake_ann rB (args := []) (by kernel_rfl) h

/- changeover/quote.Quote -/
def quote_Quote (s : List UInt8) (K : (List UInt8) → World → Prop) (w : World) : Prop :=
  opTy Pr (Instr.alloc 66 true (.tuple #[])) pav (fun w1 w2 =>
  callV Pr vval 47 #[(.pointer (some w1)), (.int .u8 34)] w2 fun t3 w4 =>
  opTy Pr (Instr.range 9 (sval s)) pav (fun t5 w6 =>
  loop0 (fun k7 w8 =>
  opAl Pr (Instr.next (.pointer (some t5)) true 0) (nxval (Value.int .i64) (Value.int .i32)) endval (fun t9 w10 =>
  opRd Pr (Instr.sliceAt 9 (sval s) (some (.int .i64 t9.1)) none none) sval (fun t11 =>
  callV Pr (tval2 (Value.int .i32) (Value.int .i64)) 48 #[(sval t11)] w10 fun t12 w13 =>
  opRd Pr (Instr.sliceAt 9 (sval s) (some (.int .i64 t9.1)) (some (.int .i64 (i64 (t9.1 + t12.2)))) none) sval (fun t14 =>
  callV Pr sval 50 #[(.int .i32 t9.2), (sval t14)] w13 fun t15 w16 =>
  callV Pr (tval2 (Value.int .i64) vval) 49 #[(.pointer (some w1)), (sval t15)] w16 fun t17 w18 =>
  k7 w18) w13) w10) (fun _ w19 =>
  callV Pr vval 47 #[(.pointer (some w1)), (.int .u8 34)] w19 fun t20 w21 =>
  callV Pr sval 51 #[(.pointer (some w1))] w21 fun t22 w23 =>
  K t22 w23) w8) w6) w4) w
def quote_Quote_ann : Ann := (.s .d (.s (.r [(0, .ty rPA)]) (.s (.r [(0, .call rV)]) (.s (.s (.r [(1, .ty rPA)]) (.b (.l [] (.s (.r [(0, .alt (rNx (rI .i64) (rI .i32)) rEnd)]) (.s (.c .d .d) (.b (.s .d (.s (.r [(2, .rd rS), (3, .call (rT2 (rI .i32) (rI .i64)))]) (.r [(6, .rd rS), (7, .call rS), (8, .call (rT2 (rI .i64) rV))]))))))))) (.s (.r [(0, .call rV)]) (.s (.r [(0, .call rS)]) .d))))))
theorem quote_Quote_calls {s : List UInt8} {K : (List UInt8) → World → Prop} {w : World} (h : quote_Quote s K w) : callV Pr sval 15 #[(sval s)] w K :=
  calls_of Pr_plain Pr_mixed Pr_func15 quote_Quote_ann rS (args := [(sval s)]) (by kernel_rfl) h

/- changeover/quote.Unquote -/
def quote_Unquote (s : List UInt8) (K : ((List UInt8) × Int) → World → Prop) (w : World) : Prop :=
  loop2 (Sl.nil : Sl) (1 : Int) (fun out1 i2 k3 w4 =>
  ifB (decide (i2 < (i64 (((s : List UInt8).length : Int) - 1))))
  (opRd Pr (Instr.index 9 (sval s) (.int .i64 i2)) (Value.int .u8) (fun c5 =>
  ifB (c5 == 92)
  (opRd Pr (Instr.sliceAt 9 (sval s) (some (.int .i64 (i64 (i2 + 1)))) (some (.int .i64 (i64 (((s : List UInt8).length : Int) - 1)))) none) sval (fun t6 =>
  callV Pr (tval2 (Value.int .u8) (Value.int .i64)) 52 #[(sval t6)] w4 fun t7 w8 =>
  ifB (t7.2 == 0)
  (K ([], 3) w8)
  (opTy Pr (Instr.buildSlice 39 1 #[(0, (.int .u8 t7.1))]) Sl.val (fun t9 w10 =>
  opTy Pr (Builtin.append_ #[39, 39] 39 #[out1.val, t9.val]) Sl.val (fun out11 w12 =>
  k3 out11 (i64 ((i64 (i2 + t7.2)) + 1)) w12) w10) w8)) w4)
  (opTy Pr (Instr.buildSlice 39 1 #[(0, (.int .u8 c5))]) Sl.val (fun t13 w14 =>
  opTy Pr (Builtin.append_ #[39, 39] 39 #[out1.val, t13.val]) Sl.val (fun out15 w16 =>
  k3 out15 (i64 (i2 + 1)) w16) w14) w4)) w4)
  (ifB (decide (((s : List UInt8).length : Int) < 2))
  (K ([], 3) w4)
  (opRd Pr (convert 39 9 out1.val) sval (fun t17 =>
  callV Pr sval 15 #[(sval t17)] w4 fun t18 w19 =>
  ifB (!(strEq t18 s))
  (K ([], 3) w19)
  (opRd Pr (convert 39 9 out1.val) sval (fun t20 =>
  K (t20, 0) w19) w19)) w4))) w
def quote_Unquote_ann : Ann := (.s .d (.s .d (.s (.s .d (.b (.l [(.s 4, rSl), (.s 5, (rI .i64))] (.s (.s .d (.c .d .d)) (.s (.b (.s (.r [(2, .rd (rI .u8))]) (.s (.s .d (.c (.s (.r [(6, .rd rS), (7, .call (rT2 (rI .u8) (rI .i64)))]) (.s (.s .d (.c (.s .d .d) .d)) (.s .d .d))) .d)) (.r [(2, .ty rSl), (3, .ty rSl)])))) .d))))) (.s (.s (.r [(5, .rd rS), (6, .call rS)]) (.c (.s .d .d) .d)) (.s (.r [(1, .rd rS)]) .d)))))
theorem quote_Unquote_calls {s : List UInt8} {K : ((List UInt8) × Int) → World → Prop} {w : World} (h : quote_Unquote s K w) : callV Pr (tval2 sval (Value.int .i64)) 16 #[(sval s)] w K :=
  calls_of Pr_plain Pr_mixed Pr_func16 quote_Unquote_ann (rT2 rS (rI .i64)) (args := [(sval s)]) (by kernel_rfl) h

/- changeover/changeoverref06.Quote -/
def ref06_Quote (s : List UInt8) (K : (List UInt8) → World → Prop) (w : World) : Prop :=
  loop2 ([34] : List UInt8) (0 : Int) (fun out1 i2 k3 w4 =>
  ifB (decide (i2 < ((s : List UInt8).length : Int)))
  (callV Pr (tval2 (Value.int .i64) (Value.int .i64)) 53 #[(sval s), (.int .i64 i2)] w4 fun t5 w6 =>
  ifB (t5.1 == 0)
  (drewM (fun w7 =>
  opRd Pr (binSem .add 9 (.tmp 37) (.const (sval [92, 120])) (sval out1) (sval [92, 120])) sval (fun t8 =>
  opRd Pr (Instr.index 9 (sval s) (.int .i64 i2)) (Value.int .u8) (fun t9 =>
  opRd Pr (Instr.index 9 (sval s) (.int .i64 i2)) (Value.int .u8) (fun t10 =>
  opRd Pr (Instr.sliceAt 9 (sval cs16_37011) (some (.int .u8 (IntKind.u8.wrap (Int.tdiv t9 16)))) (some (.int .u8 (IntKind.u8.wrap ((IntKind.u8.wrap (Int.tdiv t10 16)) + 1)))) none) sval (fun t11 =>
  opRd Pr (binSem .add 9 (.tmp 38) (.tmp 49) (sval t8) (sval t11)) sval (fun t12 =>
  opRd Pr (Instr.index 9 (sval s) (.int .i64 i2)) (Value.int .u8) (fun t13 =>
  opRd Pr (Instr.index 9 (sval s) (.int .i64 i2)) (Value.int .u8) (fun t14 =>
  opRd Pr (Instr.sliceAt 9 (sval cs16_37011) (some (.int .u8 (Int.tmod t13 16))) (some (.int .u8 (IntKind.u8.wrap ((Int.tmod t14 16) + 1)))) none) sval (fun t15 =>
  opRd Pr (binSem .add 9 (.tmp 50) (.tmp 61) (sval t12) (sval t15)) sval (fun out16 =>
  k3 out16 (i64 (i2 + 1)) w7) w7) w7) w7) w7) w7) w7) w7) w7) w7) w6)
  (ifB (decide (t5.2 < 32))
  (drewM (fun w17 =>
  opRd Pr (binSem .add 9 (.tmp 37) (.const (sval [92, 120])) (sval out1) (sval [92, 120])) sval (fun t18 =>
  opRd Pr (Instr.index 9 (sval s) (.int .i64 i2)) (Value.int .u8) (fun t19 =>
  opRd Pr (Instr.index 9 (sval s) (.int .i64 i2)) (Value.int .u8) (fun t20 =>
  opRd Pr (Instr.sliceAt 9 (sval cs16_37011) (some (.int .u8 (IntKind.u8.wrap (Int.tdiv t19 16)))) (some (.int .u8 (IntKind.u8.wrap ((IntKind.u8.wrap (Int.tdiv t20 16)) + 1)))) none) sval (fun t21 =>
  opRd Pr (binSem .add 9 (.tmp 38) (.tmp 49) (sval t18) (sval t21)) sval (fun t22 =>
  opRd Pr (Instr.index 9 (sval s) (.int .i64 i2)) (Value.int .u8) (fun t23 =>
  opRd Pr (Instr.index 9 (sval s) (.int .i64 i2)) (Value.int .u8) (fun t24 =>
  opRd Pr (Instr.sliceAt 9 (sval cs16_37011) (some (.int .u8 (Int.tmod t23 16))) (some (.int .u8 (IntKind.u8.wrap ((Int.tmod t24 16) + 1)))) none) sval (fun t25 =>
  opRd Pr (binSem .add 9 (.tmp 50) (.tmp 61) (sval t22) (sval t25)) sval (fun out26 =>
  k3 out26 (i64 (i2 + 1)) w17) w17) w17) w17) w17) w17) w17) w17) w17) w17) w6)
  (ifB (t5.2 == 127)
  (drewM (fun w27 =>
  opRd Pr (binSem .add 9 (.tmp 37) (.const (sval [92, 120])) (sval out1) (sval [92, 120])) sval (fun t28 =>
  opRd Pr (Instr.index 9 (sval s) (.int .i64 i2)) (Value.int .u8) (fun t29 =>
  opRd Pr (Instr.index 9 (sval s) (.int .i64 i2)) (Value.int .u8) (fun t30 =>
  opRd Pr (Instr.sliceAt 9 (sval cs16_37011) (some (.int .u8 (IntKind.u8.wrap (Int.tdiv t29 16)))) (some (.int .u8 (IntKind.u8.wrap ((IntKind.u8.wrap (Int.tdiv t30 16)) + 1)))) none) sval (fun t31 =>
  opRd Pr (binSem .add 9 (.tmp 38) (.tmp 49) (sval t28) (sval t31)) sval (fun t32 =>
  opRd Pr (Instr.index 9 (sval s) (.int .i64 i2)) (Value.int .u8) (fun t33 =>
  opRd Pr (Instr.index 9 (sval s) (.int .i64 i2)) (Value.int .u8) (fun t34 =>
  opRd Pr (Instr.sliceAt 9 (sval cs16_37011) (some (.int .u8 (Int.tmod t33 16))) (some (.int .u8 (IntKind.u8.wrap ((Int.tmod t34 16) + 1)))) none) sval (fun t35 =>
  opRd Pr (binSem .add 9 (.tmp 50) (.tmp 61) (sval t32) (sval t35)) sval (fun out36 =>
  k3 out36 (i64 (i2 + 1)) w27) w27) w27) w27) w27) w27) w27) w27) w27) w27) w6)
  (ifB (t5.2 == 34)
  (opRd Pr (binSem .add 9 (.tmp 70) (.const (sval [92])) (sval out1) (sval [92])) sval (fun t37 =>
  opRd Pr (Instr.sliceAt 9 (sval s) (some (.int .i64 i2)) (some (.int .i64 (i64 (i2 + 1)))) none) sval (fun t38 =>
  opRd Pr (binSem .add 9 (.tmp 71) (.tmp 76) (sval t37) (sval t38)) sval (fun out39 =>
  k3 out39 (i64 (i2 + t5.1)) w6) w6) w6) w6)
  (ifB (t5.2 == 92)
  (opRd Pr (binSem .add 9 (.tmp 70) (.const (sval [92])) (sval out1) (sval [92])) sval (fun t40 =>
  opRd Pr (Instr.sliceAt 9 (sval s) (some (.int .i64 i2)) (some (.int .i64 (i64 (i2 + 1)))) none) sval (fun t41 =>
  opRd Pr (binSem .add 9 (.tmp 71) (.tmp 76) (sval t40) (sval t41)) sval (fun out42 =>
  k3 out42 (i64 (i2 + t5.1)) w6) w6) w6) w6)
  (opRd Pr (Instr.sliceAt 9 (sval s) (some (.int .i64 i2)) (some (.int .i64 (i64 (i2 + t5.1)))) none) sval (fun t43 =>
  opRd Pr (binSem .add 9 (.tmp 18) (.tmp 24) (sval out1) (sval t43)) sval (fun out44 =>
  k3 out44 (i64 (i2 + t5.1)) w6) w6) w6))))))
  (opRd Pr (binSem .add 9 (.tmp 81) (.const (sval [34])) (sval out1) (sval [34])) sval (fun t45 =>
  K t45 w4) w4)) w
def ref06_Quote_ann : Ann := (.s .d (.s .d (.s .d (.s (.b (.l [(.s 3, rS), (.s 4, (rI .i64))] (.s (.s .d (.c .d .d)) (.b (.s (.r [(2, .call (rT2 (rI .i64) (rI .i64)))]) (.s (.b (.s .d (.c (.s .d (.s (.r [(1, .rd rS), (5, .rd (rI .u8)), (9, .rd (rI .u8)), (12, .rd rS), (13, .rd rS), (17, .rd (rI .u8)), (21, .rd (rI .u8)), (24, .rd rS), (25, .rd rS)]) .d)) (.s .d (.c (.r [(1, .rd rS), (6, .rd rS), (7, .rd rS)]) (.r [(6, .rd rS), (7, .rd rS)])))))) .d)))))) (.s (.r [(1, .rd rS)]) .d)))))
theorem ref06_Quote_calls {s : List UInt8} {K : (List UInt8) → World → Prop} {w : World} (h : ref06_Quote s K w) : callV Pr sval 17 #[(sval s)] w K :=
  calls_of Pr_plain Pr_mixed Pr_func17 ref06_Quote_ann rS (args := [(sval s)]) (by kernel_rfl) h

/- changeover/changeoverref06.Unquote -/
def ref06_Unquote (s : List UInt8) (K : ((List UInt8) × Bool) → World → Prop) (w : World) : Prop :=
  ifB (decide (((s : List UInt8).length : Int) < 2))
  (K ([], false) w)
  (loop2 (Sl.nil : Sl) (1 : Int) (fun out1 i2 k3 w4 =>
  ifB (decide (i2 < (i64 (((s : List UInt8).length : Int) - 1))))
  (opRd Pr (Instr.index 9 (sval s) (.int .i64 i2)) (Value.int .u8) (fun t5 =>
  ifB (t5 != 92)
  (opRd Pr (Instr.index 9 (sval s) (.int .i64 i2)) (Value.int .u8) (fun t6 =>
  opTy Pr (Instr.buildSlice 39 1 #[(0, (.int .u8 t6))]) Sl.val (fun t7 w8 =>
  opTy Pr (Builtin.append_ #[39, 39] 39 #[out1.val, t7.val]) Sl.val (fun out9 w10 =>
  k3 out9 (i64 (i2 + 1)) w10) w8) w4) w4)
  (join2 (fun (j11 : Sl → Int → World → Prop) =>
  ifB (decide ((i64 (i2 + 1)) < (i64 (((s : List UInt8).length : Int) - 1))))
  (opRd Pr (Instr.index 9 (sval s) (.int .i64 (i64 (i2 + 1)))) (Value.int .u8) (fun t12 =>
  ifB (t12 == 34)
  (opRd Pr (Instr.index 9 (sval s) (.int .i64 (i64 (i2 + 1)))) (Value.int .u8) (fun t13 =>
  opTy Pr (Instr.buildSlice 39 1 #[(0, (.int .u8 t13))]) Sl.val (fun t14 w15 =>
  opTy Pr (Builtin.append_ #[39, 39] 39 #[out1.val, t14.val]) Sl.val (fun out16 w17 =>
  k3 out16 (i64 (i2 + 2)) w17) w15) w4) w4)
  (opRd Pr (Instr.index 9 (sval s) (.int .i64 (i64 (i2 + 1)))) (Value.int .u8) (fun t18 =>
  ifB (t18 == 92)
  (opRd Pr (Instr.index 9 (sval s) (.int .i64 (i64 (i2 + 1)))) (Value.int .u8) (fun t19 =>
  opTy Pr (Instr.buildSlice 39 1 #[(0, (.int .u8 t19))]) Sl.val (fun t20 w21 =>
  opTy Pr (Builtin.append_ #[39, 39] 39 #[out1.val, t20.val]) Sl.val (fun out22 w23 =>
  k3 out22 (i64 (i2 + 2)) w23) w21) w4) w4)
  (j11 out1 i2 w4)) w4)) w4)
  (j11 out1 i2 w4))
  (fun out24 i25 w26 =>
  ifB (decide ((i64 (i25 + 3)) ≥ (i64 (((s : List UInt8).length : Int) - 1))))
  (K ([], false) w26)
  (opRd Pr (Instr.index 9 (sval s) (.int .i64 (i64 (i25 + 1)))) (Value.int .u8) (fun t27 =>
  ifB (t27 != 120)
  (K ([], false) w26)
  (opRd Pr (Instr.index 9 (sval s) (.int .i64 (i64 (i25 + 2)))) (Value.int .u8) (fun t28 =>
  callV Pr (Value.int .i64) 54 #[(.int .u8 t28)] w26 fun t29 w30 =>
  ifB (decide (t29 < 0))
  (K ([], false) w30)
  (opRd Pr (Instr.index 9 (sval s) (.int .i64 (i64 (i25 + 3)))) (Value.int .u8) (fun t31 =>
  callV Pr (Value.int .i64) 54 #[(.int .u8 t31)] w30 fun t32 w33 =>
  ifB (decide (t32 < 0))
  (K ([], false) w33)
  (heldM (fun S35 w34 =>
  opH Pr S35 (Instr.index 9 (sval s) (.int .i64 (i64 (i25 + 2)))) (Value.int .u8) (fun t36 =>
  opH Pr S35 (Instr.index 9 (sval s) (.int .i64 (i64 (i25 + 3)))) (Value.int .u8) (fun t37 =>
  callV Pr (Value.int .i64) 54 #[(.int .u8 t36)] w34 fun t38 w39 =>
  (S35 w39) ∧
  (callV Pr (Value.int .i64) 54 #[(.int .u8 t37)] w39 fun t40 w41 =>
  (S35 w41) ∧
  (opTy Pr (Instr.buildSlice 39 1 #[(0, (.int .u8 (IntKind.u8.wrap (i64 ((i64 (16 * t38)) + t40)))))]) Sl.val (fun t42 w43 =>
  (S35 w43) ∧
  (opTy Pr (Builtin.append_ #[39, 39] 39 #[out24.val, t42.val]) Sl.val (fun out44 w45 =>
  (S35 w45) ∧
  (k3 out44 (i64 (i25 + 4)) w45)) w43)) w41))))) w33)) w30)) w26)) w26)))) w4)
  (heldM (fun S47 w46 =>
  opH Pr S47 (convert 39 9 out1.val) sval (fun t48 =>
  opH Pr S47 (convert 39 9 out1.val) sval (fun t49 =>
  callV Pr sval 17 #[(sval t49)] w46 fun t50 w51 =>
  (S47 w51) ∧
  (K (t48, (strEq t50 s)) w51)))) w4)) w)
def ref06_Unquote_ann : Ann := (.s .d (.s (.s .d (.c (.s .d .d) .d)) (.s .d (.s .d (.s .d (.s (.b (.l [(.s 4, rSl), (.s 6, (rI .i64))] (.s (.s .d (.c .d .d)) (.b (.s (.s (.r [(2, .rd (rI .u8))]) (.c (.s (.r [(3, .rd (rI .u8)), (4, .ty rSl), (5, .ty rSl)]) (.s .d .d)) .d)) (.sj [(.s 4, rSl), (.s 6, (rI .i64))] (.s (.r [(8, .rd (rI .u8)), (14, .rd (rI .u8))]) (.c (.s (.r [(4, .rd (rI .u8)), (5, .ty rSl), (6, .ty rSl)]) (.s .d .d)) .d)) (.s (.s (.r [(8, .rd (rI .u8)), (15, .rd (rI .u8)), (16, .call (rI .i64)), (23, .rd (rI .u8)), (24, .call (rI .i64))]) (.c (.s .d .d) .d)) (.s (.h (.take 0 (.take 1 (.take 2 (.take 3 (.take 4 (.take 7 (.take 8 (.take 9 (.take 10 (.one 5 (.take 6 (.one 11 (.take 12 (.take 13 (.one 14 (.one 15 (.take 16 .done))))))))))))))))) [(4, .rd (rI .u8)), (5, .call (rI .i64)), (10, .rd (rI .u8)), (11, .call (rI .i64)), (14, .ty rSl), (15, .ty rSl)]) .d)))))))) (.s (.h (.take 0 (.take 1 (.take 2 (.take 3 (.take 5 (.one 4 (.take 6 (.take 7 (.take 8 .done))))))))) [(1, .rd rS), (3, .rd rS), (4, .call rS)]) .d)))))))
theorem ref06_Unquote_calls {s : List UInt8} {K : ((List UInt8) × Bool) → World → Prop} {w : World} (h : ref06_Unquote s K w) : callV Pr (tval2 sval Value.bool) 18 #[(sval s)] w K :=
  calls_of Pr_plain Pr_mixed Pr_func18 ref06_Unquote_ann (rT2 rS rB) (args := [(sval s)]) (by kernel_rfl) h

/- changeover/quote.Words -/
def quote_Words (line : List UInt8) (K : (Sl × Int) → World → Prop) (w : World) : Prop :=
  ifB (strEq line [])
  (K (Sl.nil, 0) w)
  (loop2 (line : List UInt8) (Sl.nil : Sl) (fun line1 out2 k3 w4 =>
  callV Pr (tval2 sval Value.bool) 55 #[(sval line1)] w4 fun t5 w6 =>
  ifB (!t5.2)
  (K (Sl.nil, 3) w6)
  (opTy Pr (Instr.buildSlice 30 1 #[(0, (sval t5.1))]) Sl.val (fun t7 w8 =>
  opTy Pr (Builtin.append_ #[30, 30] 30 #[out2.val, t7.val]) Sl.val (fun out9 w10 =>
  opRd Pr (Instr.sliceAt 9 (sval line1) (some (.int .i64 ((t5.1 : List UInt8).length : Int))) none none) sval (fun line11 =>
  ifB (strEq line11 [])
  (K (out9, 0) w10)
  (opRd Pr (Instr.index 9 (sval line11) (.int .i64 0)) (Value.int .u8) (fun t12 =>
  ifB (t12 != 32)
  (K (Sl.nil, 3) w10)
  (opRd Pr (Instr.sliceAt 9 (sval line11) (some (.int .i64 1)) none none) sval (fun line13 =>
  k3 line13 out9 w10) w10)) w10)) w10) w8) w6)) w)
def quote_Words_ann : Ann := (.s .d (.s (.s .d (.c (.s .d .d) .d)) (.s .d (.b (.l [(.s 0, rS), (.s 4, rSl)] (.b (.s (.r [(1, .call (rT2 rS rB))]) (.s (.s .d (.c (.s .d .d) .d)) (.s (.r [(2, .ty rSl), (3, .ty rSl)]) (.s (.r [(3, .rd rS)]) (.s (.s .d (.c (.s .d .d) .d)) (.s (.s (.r [(1, .rd (rI .u8))]) (.c (.s .d .d) .d)) (.r [(1, .rd rS)])))))))))))))
theorem quote_Words_calls {line : List UInt8} {K : (Sl × Int) → World → Prop} {w : World} (h : quote_Words line K w) : callV Pr (tval2 Sl.val (Value.int .i64)) 19 #[(sval line)] w K :=
  calls_of Pr_plain Pr_mixed Pr_func19 quote_Words_ann (rT2 rSl (rI .i64)) (args := [(sval line)]) (by kernel_rfl) h

/- changeover/changeoverref06.Word -/
def ref06_Word (s : List UInt8) (K : Bool → World → Prop) (w : World) : Prop :=
  ifB (strEq s [])
  (K false w)
  (opRd Pr (Instr.index 9 (sval s) (.int .i64 0)) (Value.int .u8) (fun t1 =>
  ifB (t1 == 34)
  (callV Pr (tval2 sval Value.bool) 18 #[(sval s)] w fun t2 w3 =>
  K t2.2 w3)
  (loop1 (0 : Int) (fun i4 k5 w6 =>
  ifB (decide (i4 < ((s : List UInt8).length : Int)))
  (opRd Pr (Instr.index 9 (sval s) (.int .i64 i4)) (Value.int .u8) (fun t7 =>
  ifB (decide (t7 ≤ 32))
  (K false w6)
  (k5 (i64 (i4 + 1)) w6)) w6)
  (K true w6)) w)) w)
def ref06_Word_ann : Ann := (.s .d (.s (.s .d (.c (.s .d .d) .d)) (.s (.s (.r [(1, .rd (rI .u8))]) (.c (.s (.r [(1, .call (rT2 rS rB))]) (.s .d .d)) .d)) (.s (.s .d (.b (.l [(.s 5, (rI .i64))] (.s (.s .d (.c .d .d)) (.s (.b (.s (.r [(2, .rd (rI .u8))]) (.c (.s .d .d) .d))) .d))))) (.s .d .d)))))
theorem ref06_Word_calls {s : List UInt8} {K : Bool → World → Prop} {w : World} (h : ref06_Word s K w) : callV Pr Value.bool 20 #[(sval s)] w K :=
  calls_of Pr_plain Pr_mixed Pr_func20 ref06_Word_ann rB (args := [(sval s)]) (by kernel_rfl) h

/- changeover/quote.Line -/
def quote_Line (l : Sl) (K : (List UInt8) → World → Prop) (w : World) : Prop :=
  callV Pr sval 56 #[l.val, (sval [32])] w fun t1 w2 =>
  K t1 w2
def quote_Line_ann : Ann := (.s .d (.s (.r [(1, .call rS)]) .d))
theorem quote_Line_calls {l : Sl} {K : (List UInt8) → World → Prop} {w : World} (h : quote_Line l K w) : callV Pr sval 21 #[l.val] w K :=
  calls_of Pr_plain Pr_mixed Pr_func21 quote_Line_ann rS (args := [l.val]) (by kernel_rfl) h

/- changeover/changeoverref06.Texts -/
def ref06_Texts (a : Sl) (b : Sl) (K : Bool → World → Prop) (w : World) : Prop :=
  ifB ((a.len : Int) != (b.len : Int))
  (K false w)
  (loop1 (0 : Int) (fun i1 k2 w3 =>
  ifB (decide (i1 < (a.len : Int)))
  (drewM (fun w4 =>
  opRd Pr (Instr.indexAt 30 a.val (.int .i64 i1)) pav (fun t5 =>
  opRd Pr (Instr.loadAt 9 (.pointer (some t5))) sval (fun t6 =>
  opRd Pr (Instr.indexAt 30 b.val (.int .i64 i1)) pav (fun t7 =>
  opRd Pr (Instr.loadAt 9 (.pointer (some t7))) sval (fun t8 =>
  ifB (!(strEq t6 t8))
  (K false w4)
  (k2 (i64 (i1 + 1)) w4)) w4) w4) w4) w4) w3)
  (K true w3)) w)
def ref06_Texts_ann : Ann := (.s .d (.s (.s .d (.c (.s .d .d) .d)) (.s (.s .d (.b (.l [(.s 5, (rI .i64))] (.s (.s .d (.c .d .d)) (.s (.b (.s (.r [(2, .rd rPA), (3, .rd rS), (6, .rd rPA), (7, .rd rS)]) (.c (.s .d .d) .d))) .d))))) (.s .d .d))))
theorem ref06_Texts_calls {a : Sl} {b : Sl} {K : Bool → World → Prop} {w : World} (h : ref06_Texts a b K w) : callV Pr Value.bool 22 #[a.val, b.val] w K :=
  calls_of Pr_plain Pr_mixed Pr_func22 ref06_Texts_ann rB (args := [a.val, b.val]) (by kernel_rfl) h

/- changeover/changeoverref13.Large -/
def ref13_Large (m : ApiMsg) (K : Bool → World → Prop) (w : World) : Prop :=
  newV (fun b1 w2 =>
  callV Pr Value.bool 57 #[m.Entries.val] w2 fun t3 w4 =>
  kp b1 w2 w4 <|
  ifB t3
  (K true w4)
  (ifB (decide ((m.Image.len : Int) > 300))
  (ifB (decide ((m.Image.len : Int) < 32760))
  (K true w4)
  (K (decide ((m.Image.len : Int) > 32780)) w4))
  (K (decide ((m.Image.len : Int) > 32780)) w4))) w
def ref13_Large_ann : Ann := (.s (.r [(0, .nl 1)]) (.s (.r [(2, .call rB)]) .d))
theorem ref13_Large_calls {m : ApiMsg} {K : Bool → World → Prop} {w : World} (h : ref13_Large m K w) : callV Pr Value.bool 23 #[(.agg ⟨m.cs⟩)] w K :=
  calls_of Pr_plain Pr_mixed Pr_func23 ref13_Large_ann rB (args := [(.agg ⟨m.cs⟩)]) (by kernel_rfl) h

/- changeover/changeoverlaw13.awake -/
def law13_awake (K : Bool → World → Prop) (w : World) : Prop :=
  callV Pr (tval2 Sl.val (Value.int .i64)) 58 #[(.agg ⟨[(.int .i64 9), (.int .i64 1), (.int .i64 2), (.int .i64 0), (.int .i64 0), (.int .i64 3), (.int .i64 0), (.int .i64 0), Sl.nil.val, Sl.nil.val]⟩)] w fun t1 w2 =>
  ifB (t1.2 == 0)
  (ifB ((t1.1.len : Int) == 9)
  (opRd Pr (Instr.indexAt 39 t1.1.val (.int .i64 0)) pav (fun t3 =>
  opRd Pr (Instr.loadAt 5 (.pointer (some t3))) (Value.int .u8) (fun t4 =>
  ifB (t4 == 9)
  (opRd Pr (Instr.indexAt 39 t1.1.val (.int .i64 5)) pav (fun t5 =>
  opRd Pr (Instr.loadAt 5 (.pointer (some t5))) (Value.int .u8) (fun t6 =>
  K (t6 == 3) w2) w2) w2)
  (K false w2)) w2) w2)
  (K false w2))
  (K false w2)
def law13_awake_ann : Ann := (.s .d (.s (.r [(1, .call (rT2 rSl (rI .i64)))]) (.s (.r [(9, .rd rPA), (10, .rd (rI .u8)), (15, .rd rPA), (16, .rd (rI .u8))]) .d)))
theorem law13_awake_calls {K : Bool → World → Prop} {w : World} (h : law13_awake K w) : callV Pr Value.bool 24 #[] w K :=
  calls_of Pr_plain Pr_mixed Pr_func24 law13_awake_ann rB (args := []) (by kernel_rfl) h

/- changeover/msgone.Check -/
def msgone_Check (m : ApiMsg) (K : Int → World → Prop) (w : World) : Prop :=
  newV (fun b1 w2 =>
  callV Pr (Value.int .i64) 59 #[(.int .i64 m.Kind)] w2 fun f3 w4 =>
  kp b1 w2 w4 <|
  join0 (fun (j5 : World → Prop) =>
  ifB (f3 == 0)
  (K 5 w4)
  (callV Pr Value.bool 60 #[(.agg ⟨[(.int .i64 m.Kind), (.int .i64 m.From), (.int .i64 m.To), (.int .i64 m.Ballot.Round), (.int .i64 m.Ballot.Node), (.int .i64 m.Index), (.int .i64 m.Commit), (.int .i64 m.Version), m.Entries.val, m.Image.val]⟩), (.int .i64 f3)] w4 fun t6 w7 =>
  kp b1 w4 w7 <|
  ifB (!t6)
  (K 6 w7)
  (ifB ((bAnd .i64 f3 16) != 0)
  (ifB (decide ((m.Entries.len : Int) > 256))
  (ifB (decide ((m.Entries.len : Int) > 256))
  (K 2 w7)
  (j5 w7))
  (ifB ((bAnd .i64 f3 32) != 0)
  (ifB (decide ((m.Image.len : Int) > 32768))
  (K 2 w7)
  (j5 w7))
  (j5 w7)))
  (ifB ((bAnd .i64 f3 32) != 0)
  (ifB (decide ((m.Image.len : Int) > 32768))
  (K 2 w7)
  (j5 w7))
  (j5 w7)))))
  (fun w8 =>
  join0 (fun (j9 : World → Prop) =>
  ifB ((bAnd .i64 f3 16) != 0)
  (callV Pr (Value.int .i64) 61 #[m.Entries.val] w8 fun e10 w11 =>
  kp b1 w8 w11 <|
  ifB (e10 != 0)
  (K e10 w11)
  (j9 w11))
  (j9 w8))
  (fun w12 =>
  callV Pr Value.bool 62 #[(.agg ⟨[(.int .i64 m.Kind), (.int .i64 m.From), (.int .i64 m.To), (.int .i64 m.Ballot.Round), (.int .i64 m.Ballot.Node), (.int .i64 m.Index), (.int .i64 m.Commit), (.int .i64 m.Version), m.Entries.val, m.Image.val]⟩), (.int .i64 f3)] w12 fun t13 w14 =>
  kp b1 w12 w14 <|
  ifB t13
  (K 3 w14)
  (ifB (m.Kind == 5)
  (callV Pr Value.bool 63 #[(.agg ⟨[(.int .i64 m.Kind), (.int .i64 m.From), (.int .i64 m.To), (.int .i64 m.Ballot.Round), (.int .i64 m.Ballot.Node), (.int .i64 m.Index), (.int .i64 m.Commit), (.int .i64 m.Version), m.Entries.val, m.Image.val]⟩)] w14 fun t15 w16 =>
  kp b1 w14 w16 <|
  ifB (!t15)
  (K 3 w16)
  (ifB (m.Kind == 11)
  (ifB ((m.Image.len : Int) == 0)
  (K 3 w16)
  (K 0 w16))
  (K 0 w16)))
  (ifB (m.Kind == 11)
  (ifB ((m.Image.len : Int) == 0)
  (K 3 w14)
  (K 0 w14))
  (K 0 w14)))))) w
def msgone_Check_ann : Ann := (.s (.r [(0, .nl 1)]) (.s (.r [(2, .call (rI .i64))]) (.sj [] (.b (.s .d (.c (.s .d .d) (.s (.r [(2, .call rB)]) (.c (.s .d .d) (.s (.s .d (.c .d .d)) (.c (.s .d .d) .d))))))) (.sj [] (.s .d (.c (.s (.r [(2, .call (rI .i64))]) (.s .d (.c (.s .d .d) .d))) .d)) (.s (.s (.r [(2, .call rB), (9, .call rB)]) (.c (.s .d .d) .d)) (.s .d .d))))))
theorem msgone_Check_calls {m : ApiMsg} {K : Int → World → Prop} {w : World} (h : msgone_Check m K w) : callV Pr (Value.int .i64) 25 #[(.agg ⟨m.cs⟩)] w K :=
  calls_of Pr_plain Pr_mixed Pr_func25 msgone_Check_ann (rI .i64) (args := [(.agg ⟨m.cs⟩)]) (by kernel_rfl) h

/- changeover/changeoverref13.Check -/
def ref13_Check (m : ApiMsg) (K : Int → World → Prop) (w : World) : Prop :=
  newV (fun b1 w2 =>
  callV Pr sval 64 #[(.int .i64 m.Kind)] w2 fun t3 w4 =>
  kp b1 w2 w4 <|
  ifB (strEq t3 [])
  (K 5 w4)
  (ifB (decide (m.From < 1))
  (K 6 w4)
  (ifB (decide (m.From > 9))
  (K 6 w4)
  (ifB (decide (m.To < 1))
  (K 6 w4)
  (ifB (decide (m.To > 9))
  (K 6 w4)
  (ifB (m.From == m.To)
  (K 6 w4)
  (join0 (fun (j5 : World → Prop) =>
  callV Pr Value.bool 65 #[(.int .i64 m.Kind), (.int .u8 98)] w4 fun t6 w7 =>
  kp b1 w4 w7 <|
  ifB t6
  (callV Pr Value.bool 66 #[(.agg ⟨[(.int .i64 m.Ballot.Round), (.int .i64 m.Ballot.Node)]⟩)] w7 fun t8 w9 =>
  kp b1 w7 w9 <|
  ifB (!t8)
  (K 6 w9)
  (callV Pr Value.bool 65 #[(.int .i64 m.Kind), (.int .u8 105)] w9 fun t10 w11 =>
  kp b1 w9 w11 <|
  ifB t10
  (ifB (decide (m.Index < 1))
  (K 6 w11)
  (ifB (decide (m.Index > 4294967296))
  (K 6 w11)
  (callV Pr Value.bool 65 #[(.int .i64 m.Kind), (.int .u8 99)] w11 fun t12 w13 =>
  kp b1 w11 w13 <|
  ifB t12
  (ifB (decide (m.Commit < 0))
  (K 6 w13)
  (ifB (decide (m.Commit > 4294967296))
  (K 6 w13)
  (callV Pr Value.bool 65 #[(.int .i64 m.Kind), (.int .u8 118)] w13 fun t14 w15 =>
  kp b1 w13 w15 <|
  ifB t14
  (ifB (m.Version != 1)
  (ifB (m.Version != 2)
  (K 6 w15)
  (j5 w15))
  (j5 w15))
  (j5 w15))))
  (callV Pr Value.bool 65 #[(.int .i64 m.Kind), (.int .u8 118)] w13 fun t16 w17 =>
  kp b1 w13 w17 <|
  ifB t16
  (ifB (m.Version != 1)
  (ifB (m.Version != 2)
  (K 6 w17)
  (j5 w17))
  (j5 w17))
  (j5 w17)))))
  (callV Pr Value.bool 65 #[(.int .i64 m.Kind), (.int .u8 99)] w11 fun t18 w19 =>
  kp b1 w11 w19 <|
  ifB t18
  (ifB (decide (m.Commit < 0))
  (K 6 w19)
  (ifB (decide (m.Commit > 4294967296))
  (K 6 w19)
  (callV Pr Value.bool 65 #[(.int .i64 m.Kind), (.int .u8 118)] w19 fun t20 w21 =>
  kp b1 w19 w21 <|
  ifB t20
  (ifB (m.Version != 1)
  (ifB (m.Version != 2)
  (K 6 w21)
  (j5 w21))
  (j5 w21))
  (j5 w21))))
  (callV Pr Value.bool 65 #[(.int .i64 m.Kind), (.int .u8 118)] w19 fun t22 w23 =>
  kp b1 w19 w23 <|
  ifB t22
  (ifB (m.Version != 1)
  (ifB (m.Version != 2)
  (K 6 w23)
  (j5 w23))
  (j5 w23))
  (j5 w23)))))
  (callV Pr Value.bool 65 #[(.int .i64 m.Kind), (.int .u8 105)] w7 fun t24 w25 =>
  kp b1 w7 w25 <|
  ifB t24
  (ifB (decide (m.Index < 1))
  (K 6 w25)
  (ifB (decide (m.Index > 4294967296))
  (K 6 w25)
  (callV Pr Value.bool 65 #[(.int .i64 m.Kind), (.int .u8 99)] w25 fun t26 w27 =>
  kp b1 w25 w27 <|
  ifB t26
  (ifB (decide (m.Commit < 0))
  (K 6 w27)
  (ifB (decide (m.Commit > 4294967296))
  (K 6 w27)
  (callV Pr Value.bool 65 #[(.int .i64 m.Kind), (.int .u8 118)] w27 fun t28 w29 =>
  kp b1 w27 w29 <|
  ifB t28
  (ifB (m.Version != 1)
  (ifB (m.Version != 2)
  (K 6 w29)
  (j5 w29))
  (j5 w29))
  (j5 w29))))
  (callV Pr Value.bool 65 #[(.int .i64 m.Kind), (.int .u8 118)] w27 fun t30 w31 =>
  kp b1 w27 w31 <|
  ifB t30
  (ifB (m.Version != 1)
  (ifB (m.Version != 2)
  (K 6 w31)
  (j5 w31))
  (j5 w31))
  (j5 w31)))))
  (callV Pr Value.bool 65 #[(.int .i64 m.Kind), (.int .u8 99)] w25 fun t32 w33 =>
  kp b1 w25 w33 <|
  ifB t32
  (ifB (decide (m.Commit < 0))
  (K 6 w33)
  (ifB (decide (m.Commit > 4294967296))
  (K 6 w33)
  (callV Pr Value.bool 65 #[(.int .i64 m.Kind), (.int .u8 118)] w33 fun t34 w35 =>
  kp b1 w33 w35 <|
  ifB t34
  (ifB (m.Version != 1)
  (ifB (m.Version != 2)
  (K 6 w35)
  (j5 w35))
  (j5 w35))
  (j5 w35))))
  (callV Pr Value.bool 65 #[(.int .i64 m.Kind), (.int .u8 118)] w33 fun t36 w37 =>
  kp b1 w33 w37 <|
  ifB t36
  (ifB (m.Version != 1)
  (ifB (m.Version != 2)
  (K 6 w37)
  (j5 w37))
  (j5 w37))
  (j5 w37)))))
  (fun w38 =>
  join0 (fun (j39 : World → Prop) =>
  callV Pr Value.bool 65 #[(.int .i64 m.Kind), (.int .u8 101)] w38 fun t40 w41 =>
  kp b1 w38 w41 <|
  ifB t40
  (ifB (decide ((m.Entries.len : Int) > 256))
  (K 2 w41)
  (callV Pr Value.bool 65 #[(.int .i64 m.Kind), (.int .u8 109)] w41 fun t42 w43 =>
  kp b1 w41 w43 <|
  ifB t42
  (ifB (decide ((m.Image.len : Int) > 32768))
  (K 2 w43)
  (j39 w43))
  (j39 w43)))
  (callV Pr Value.bool 65 #[(.int .i64 m.Kind), (.int .u8 109)] w41 fun t44 w45 =>
  kp b1 w41 w45 <|
  ifB t44
  (ifB (decide ((m.Image.len : Int) > 32768))
  (K 2 w45)
  (j39 w45))
  (j39 w45)))
  (fun w46 =>
  join0 (fun (j47 : World → Prop) =>
  callV Pr Value.bool 65 #[(.int .i64 m.Kind), (.int .u8 101)] w46 fun t48 w49 =>
  kp b1 w46 w49 <|
  ifB t48
  (callV Pr (Value.int .i64) 67 #[m.Entries.val] w49 fun e50 w51 =>
  kp b1 w49 w51 <|
  ifB (e50 != 0)
  (K e50 w51)
  (j47 w51))
  (j47 w49))
  (fun w52 =>
  join0 (fun (j53 : World → Prop) =>
  heldM (fun S55 w54 =>
  callV Pr Value.bool 65 #[(.int .i64 m.Kind), (.int .u8 98)] w54 fun t56 w57 =>
  kp b1 w54 w57 <|
  (S55 w57) ∧
  (ifB (!t56)
  (ifB (m.Ballot.Round != 0)
  (K 3 w57)
  (ifB (m.Ballot.Node != 0)
  (K 3 w57)
  (callV Pr Value.bool 65 #[(.int .i64 m.Kind), (.int .u8 105)] w57 fun t58 w59 =>
  kp b1 w57 w59 <|
  (S55 w59) ∧
  (ifB (!t58)
  (ifB (m.Index != 0)
  (K 3 w59)
  (callV Pr Value.bool 65 #[(.int .i64 m.Kind), (.int .u8 99)] w59 fun t60 w61 =>
  kp b1 w59 w61 <|
  (S55 w61) ∧
  (ifB (!t60)
  (ifB (m.Commit != 0)
  (K 3 w61)
  (callV Pr Value.bool 65 #[(.int .i64 m.Kind), (.int .u8 118)] w61 fun t62 w63 =>
  kp b1 w61 w63 <|
  (S55 w63) ∧
  (ifB (!t62)
  (ifB (m.Version != 0)
  (K 3 w63)
  (callV Pr Value.bool 65 #[(.int .i64 m.Kind), (.int .u8 101)] w63 fun t64 w65 =>
  kp b1 w63 w65 <|
  (S55 w65) ∧
  (ifB (!t64)
  (ifB (decide ((m.Entries.len : Int) > 0))
  (K 3 w65)
  (callV Pr Value.bool 65 #[(.int .i64 m.Kind), (.int .u8 109)] w65 fun t66 w67 =>
  kp b1 w65 w67 <|
  (S55 w67) ∧
  (ifB (!(t66 == (decide ((m.Image.len : Int) > 0))))
  (K 3 w67)
  (j53 w67))))
  (callV Pr Value.bool 65 #[(.int .i64 m.Kind), (.int .u8 109)] w65 fun t68 w69 =>
  kp b1 w65 w69 <|
  (S55 w69) ∧
  (ifB (!(t68 == (decide ((m.Image.len : Int) > 0))))
  (K 3 w69)
  (j53 w69))))))
  (callV Pr Value.bool 65 #[(.int .i64 m.Kind), (.int .u8 101)] w63 fun t70 w71 =>
  kp b1 w63 w71 <|
  (S55 w71) ∧
  (ifB (!t70)
  (ifB (decide ((m.Entries.len : Int) > 0))
  (K 3 w71)
  (callV Pr Value.bool 65 #[(.int .i64 m.Kind), (.int .u8 109)] w71 fun t72 w73 =>
  kp b1 w71 w73 <|
  (S55 w73) ∧
  (ifB (!(t72 == (decide ((m.Image.len : Int) > 0))))
  (K 3 w73)
  (j53 w73))))
  (callV Pr Value.bool 65 #[(.int .i64 m.Kind), (.int .u8 109)] w71 fun t74 w75 =>
  kp b1 w71 w75 <|
  (S55 w75) ∧
  (ifB (!(t74 == (decide ((m.Image.len : Int) > 0))))
  (K 3 w75)
  (j53 w75))))))))
  (callV Pr Value.bool 65 #[(.int .i64 m.Kind), (.int .u8 118)] w61 fun t76 w77 =>
  kp b1 w61 w77 <|
  (S55 w77) ∧
  (ifB (!t76)
  (ifB (m.Version != 0)
  (K 3 w77)
  (callV Pr Value.bool 65 #[(.int .i64 m.Kind), (.int .u8 101)] w77 fun t78 w79 =>
  kp b1 w77 w79 <|
  (S55 w79) ∧
  (ifB (!t78)
  (ifB (decide ((m.Entries.len : Int) > 0))
  (K 3 w79)
  (callV Pr Value.bool 65 #[(.int .i64 m.Kind), (.int .u8 109)] w79 fun t80 w81 =>
  kp b1 w79 w81 <|
  (S55 w81) ∧
  (ifB (!(t80 == (decide ((m.Image.len : Int) > 0))))
  (K 3 w81)
  (j53 w81))))
  (callV Pr Value.bool 65 #[(.int .i64 m.Kind), (.int .u8 109)] w79 fun t82 w83 =>
  kp b1 w79 w83 <|
  (S55 w83) ∧
  (ifB (!(t82 == (decide ((m.Image.len : Int) > 0))))
  (K 3 w83)
  (j53 w83))))))
  (callV Pr Value.bool 65 #[(.int .i64 m.Kind), (.int .u8 101)] w77 fun t84 w85 =>
  kp b1 w77 w85 <|
  (S55 w85) ∧
  (ifB (!t84)
  (ifB (decide ((m.Entries.len : Int) > 0))
  (K 3 w85)
  (callV Pr Value.bool 65 #[(.int .i64 m.Kind), (.int .u8 109)] w85 fun t86 w87 =>
  kp b1 w85 w87 <|
  (S55 w87) ∧
  (ifB (!(t86 == (decide ((m.Image.len : Int) > 0))))
  (K 3 w87)
  (j53 w87))))
  (callV Pr Value.bool 65 #[(.int .i64 m.Kind), (.int .u8 109)] w85 fun t88 w89 =>
  kp b1 w85 w89 <|
  (S55 w89) ∧
  (ifB (!(t88 == (decide ((m.Image.len : Int) > 0))))
  (K 3 w89)
  (j53 w89))))))))))
  (callV Pr Value.bool 65 #[(.int .i64 m.Kind), (.int .u8 99)] w59 fun t90 w91 =>
  kp b1 w59 w91 <|
  (S55 w91) ∧
  (ifB (!t90)
  (ifB (m.Commit != 0)
  (K 3 w91)
  (callV Pr Value.bool 65 #[(.int .i64 m.Kind), (.int .u8 118)] w91 fun t92 w93 =>
  kp b1 w91 w93 <|
  (S55 w93) ∧
  (ifB (!t92)
  (ifB (m.Version != 0)
  (K 3 w93)
  (callV Pr Value.bool 65 #[(.int .i64 m.Kind), (.int .u8 101)] w93 fun t94 w95 =>
  kp b1 w93 w95 <|
  (S55 w95) ∧
  (ifB (!t94)
  (ifB (decide ((m.Entries.len : Int) > 0))
  (K 3 w95)
  (callV Pr Value.bool 65 #[(.int .i64 m.Kind), (.int .u8 109)] w95 fun t96 w97 =>
  kp b1 w95 w97 <|
  (S55 w97) ∧
  (ifB (!(t96 == (decide ((m.Image.len : Int) > 0))))
  (K 3 w97)
  (j53 w97))))
  (callV Pr Value.bool 65 #[(.int .i64 m.Kind), (.int .u8 109)] w95 fun t98 w99 =>
  kp b1 w95 w99 <|
  (S55 w99) ∧
  (ifB (!(t98 == (decide ((m.Image.len : Int) > 0))))
  (K 3 w99)
  (j53 w99))))))
  (callV Pr Value.bool 65 #[(.int .i64 m.Kind), (.int .u8 101)] w93 fun t100 w101 =>
  kp b1 w93 w101 <|
  (S55 w101) ∧
  (ifB (!t100)
  (ifB (decide ((m.Entries.len : Int) > 0))
  (K 3 w101)
  (callV Pr Value.bool 65 #[(.int .i64 m.Kind), (.int .u8 109)] w101 fun t102 w103 =>
  kp b1 w101 w103 <|
  (S55 w103) ∧
  (ifB (!(t102 == (decide ((m.Image.len : Int) > 0))))
  (K 3 w103)
  (j53 w103))))
  (callV Pr Value.bool 65 #[(.int .i64 m.Kind), (.int .u8 109)] w101 fun t104 w105 =>
  kp b1 w101 w105 <|
  (S55 w105) ∧
  (ifB (!(t104 == (decide ((m.Image.len : Int) > 0))))
  (K 3 w105)
  (j53 w105))))))))
  (callV Pr Value.bool 65 #[(.int .i64 m.Kind), (.int .u8 118)] w91 fun t106 w107 =>
  kp b1 w91 w107 <|
  (S55 w107) ∧
  (ifB (!t106)
  (ifB (m.Version != 0)
  (K 3 w107)
  (callV Pr Value.bool 65 #[(.int .i64 m.Kind), (.int .u8 101)] w107 fun t108 w109 =>
  kp b1 w107 w109 <|
  (S55 w109) ∧
  (ifB (!t108)
  (ifB (decide ((m.Entries.len : Int) > 0))
  (K 3 w109)
  (callV Pr Value.bool 65 #[(.int .i64 m.Kind), (.int .u8 109)] w109 fun t110 w111 =>
  kp b1 w109 w111 <|
  (S55 w111) ∧
  (ifB (!(t110 == (decide ((m.Image.len : Int) > 0))))
  (K 3 w111)
  (j53 w111))))
  (callV Pr Value.bool 65 #[(.int .i64 m.Kind), (.int .u8 109)] w109 fun t112 w113 =>
  kp b1 w109 w113 <|
  (S55 w113) ∧
  (ifB (!(t112 == (decide ((m.Image.len : Int) > 0))))
  (K 3 w113)
  (j53 w113))))))
  (callV Pr Value.bool 65 #[(.int .i64 m.Kind), (.int .u8 101)] w107 fun t114 w115 =>
  kp b1 w107 w115 <|
  (S55 w115) ∧
  (ifB (!t114)
  (ifB (decide ((m.Entries.len : Int) > 0))
  (K 3 w115)
  (callV Pr Value.bool 65 #[(.int .i64 m.Kind), (.int .u8 109)] w115 fun t116 w117 =>
  kp b1 w115 w117 <|
  (S55 w117) ∧
  (ifB (!(t116 == (decide ((m.Image.len : Int) > 0))))
  (K 3 w117)
  (j53 w117))))
  (callV Pr Value.bool 65 #[(.int .i64 m.Kind), (.int .u8 109)] w115 fun t118 w119 =>
  kp b1 w115 w119 <|
  (S55 w119) ∧
  (ifB (!(t118 == (decide ((m.Image.len : Int) > 0))))
  (K 3 w119)
  (j53 w119)))))))))))))
  (callV Pr Value.bool 65 #[(.int .i64 m.Kind), (.int .u8 105)] w57 fun t120 w121 =>
  kp b1 w57 w121 <|
  (S55 w121) ∧
  (ifB (!t120)
  (ifB (m.Index != 0)
  (K 3 w121)
  (callV Pr Value.bool 65 #[(.int .i64 m.Kind), (.int .u8 99)] w121 fun t122 w123 =>
  kp b1 w121 w123 <|
  (S55 w123) ∧
  (ifB (!t122)
  (ifB (m.Commit != 0)
  (K 3 w123)
  (callV Pr Value.bool 65 #[(.int .i64 m.Kind), (.int .u8 118)] w123 fun t124 w125 =>
  kp b1 w123 w125 <|
  (S55 w125) ∧
  (ifB (!t124)
  (ifB (m.Version != 0)
  (K 3 w125)
  (callV Pr Value.bool 65 #[(.int .i64 m.Kind), (.int .u8 101)] w125 fun t126 w127 =>
  kp b1 w125 w127 <|
  (S55 w127) ∧
  (ifB (!t126)
  (ifB (decide ((m.Entries.len : Int) > 0))
  (K 3 w127)
  (callV Pr Value.bool 65 #[(.int .i64 m.Kind), (.int .u8 109)] w127 fun t128 w129 =>
  kp b1 w127 w129 <|
  (S55 w129) ∧
  (ifB (!(t128 == (decide ((m.Image.len : Int) > 0))))
  (K 3 w129)
  (j53 w129))))
  (callV Pr Value.bool 65 #[(.int .i64 m.Kind), (.int .u8 109)] w127 fun t130 w131 =>
  kp b1 w127 w131 <|
  (S55 w131) ∧
  (ifB (!(t130 == (decide ((m.Image.len : Int) > 0))))
  (K 3 w131)
  (j53 w131))))))
  (callV Pr Value.bool 65 #[(.int .i64 m.Kind), (.int .u8 101)] w125 fun t132 w133 =>
  kp b1 w125 w133 <|
  (S55 w133) ∧
  (ifB (!t132)
  (ifB (decide ((m.Entries.len : Int) > 0))
  (K 3 w133)
  (callV Pr Value.bool 65 #[(.int .i64 m.Kind), (.int .u8 109)] w133 fun t134 w135 =>
  kp b1 w133 w135 <|
  (S55 w135) ∧
  (ifB (!(t134 == (decide ((m.Image.len : Int) > 0))))
  (K 3 w135)
  (j53 w135))))
  (callV Pr Value.bool 65 #[(.int .i64 m.Kind), (.int .u8 109)] w133 fun t136 w137 =>
  kp b1 w133 w137 <|
  (S55 w137) ∧
  (ifB (!(t136 == (decide ((m.Image.len : Int) > 0))))
  (K 3 w137)
  (j53 w137))))))))
  (callV Pr Value.bool 65 #[(.int .i64 m.Kind), (.int .u8 118)] w123 fun t138 w139 =>
  kp b1 w123 w139 <|
  (S55 w139) ∧
  (ifB (!t138)
  (ifB (m.Version != 0)
  (K 3 w139)
  (callV Pr Value.bool 65 #[(.int .i64 m.Kind), (.int .u8 101)] w139 fun t140 w141 =>
  kp b1 w139 w141 <|
  (S55 w141) ∧
  (ifB (!t140)
  (ifB (decide ((m.Entries.len : Int) > 0))
  (K 3 w141)
  (callV Pr Value.bool 65 #[(.int .i64 m.Kind), (.int .u8 109)] w141 fun t142 w143 =>
  kp b1 w141 w143 <|
  (S55 w143) ∧
  (ifB (!(t142 == (decide ((m.Image.len : Int) > 0))))
  (K 3 w143)
  (j53 w143))))
  (callV Pr Value.bool 65 #[(.int .i64 m.Kind), (.int .u8 109)] w141 fun t144 w145 =>
  kp b1 w141 w145 <|
  (S55 w145) ∧
  (ifB (!(t144 == (decide ((m.Image.len : Int) > 0))))
  (K 3 w145)
  (j53 w145))))))
  (callV Pr Value.bool 65 #[(.int .i64 m.Kind), (.int .u8 101)] w139 fun t146 w147 =>
  kp b1 w139 w147 <|
  (S55 w147) ∧
  (ifB (!t146)
  (ifB (decide ((m.Entries.len : Int) > 0))
  (K 3 w147)
  (callV Pr Value.bool 65 #[(.int .i64 m.Kind), (.int .u8 109)] w147 fun t148 w149 =>
  kp b1 w147 w149 <|
  (S55 w149) ∧
  (ifB (!(t148 == (decide ((m.Image.len : Int) > 0))))
  (K 3 w149)
  (j53 w149))))
  (callV Pr Value.bool 65 #[(.int .i64 m.Kind), (.int .u8 109)] w147 fun t150 w151 =>
  kp b1 w147 w151 <|
  (S55 w151) ∧
  (ifB (!(t150 == (decide ((m.Image.len : Int) > 0))))
  (K 3 w151)
  (j53 w151))))))))))
  (callV Pr Value.bool 65 #[(.int .i64 m.Kind), (.int .u8 99)] w121 fun t152 w153 =>
  kp b1 w121 w153 <|
  (S55 w153) ∧
  (ifB (!t152)
  (ifB (m.Commit != 0)
  (K 3 w153)
  (callV Pr Value.bool 65 #[(.int .i64 m.Kind), (.int .u8 118)] w153 fun t154 w155 =>
  kp b1 w153 w155 <|
  (S55 w155) ∧
  (ifB (!t154)
  (ifB (m.Version != 0)
  (K 3 w155)
  (callV Pr Value.bool 65 #[(.int .i64 m.Kind), (.int .u8 101)] w155 fun t156 w157 =>
  kp b1 w155 w157 <|
  (S55 w157) ∧
  (ifB (!t156)
  (ifB (decide ((m.Entries.len : Int) > 0))
  (K 3 w157)
  (callV Pr Value.bool 65 #[(.int .i64 m.Kind), (.int .u8 109)] w157 fun t158 w159 =>
  kp b1 w157 w159 <|
  (S55 w159) ∧
  (ifB (!(t158 == (decide ((m.Image.len : Int) > 0))))
  (K 3 w159)
  (j53 w159))))
  (callV Pr Value.bool 65 #[(.int .i64 m.Kind), (.int .u8 109)] w157 fun t160 w161 =>
  kp b1 w157 w161 <|
  (S55 w161) ∧
  (ifB (!(t160 == (decide ((m.Image.len : Int) > 0))))
  (K 3 w161)
  (j53 w161))))))
  (callV Pr Value.bool 65 #[(.int .i64 m.Kind), (.int .u8 101)] w155 fun t162 w163 =>
  kp b1 w155 w163 <|
  (S55 w163) ∧
  (ifB (!t162)
  (ifB (decide ((m.Entries.len : Int) > 0))
  (K 3 w163)
  (callV Pr Value.bool 65 #[(.int .i64 m.Kind), (.int .u8 109)] w163 fun t164 w165 =>
  kp b1 w163 w165 <|
  (S55 w165) ∧
  (ifB (!(t164 == (decide ((m.Image.len : Int) > 0))))
  (K 3 w165)
  (j53 w165))))
  (callV Pr Value.bool 65 #[(.int .i64 m.Kind), (.int .u8 109)] w163 fun t166 w167 =>
  kp b1 w163 w167 <|
  (S55 w167) ∧
  (ifB (!(t166 == (decide ((m.Image.len : Int) > 0))))
  (K 3 w167)
  (j53 w167))))))))
  (callV Pr Value.bool 65 #[(.int .i64 m.Kind), (.int .u8 118)] w153 fun t168 w169 =>
  kp b1 w153 w169 <|
  (S55 w169) ∧
  (ifB (!t168)
  (ifB (m.Version != 0)
  (K 3 w169)
  (callV Pr Value.bool 65 #[(.int .i64 m.Kind), (.int .u8 101)] w169 fun t170 w171 =>
  kp b1 w169 w171 <|
  (S55 w171) ∧
  (ifB (!t170)
  (ifB (decide ((m.Entries.len : Int) > 0))
  (K 3 w171)
  (callV Pr Value.bool 65 #[(.int .i64 m.Kind), (.int .u8 109)] w171 fun t172 w173 =>
  kp b1 w171 w173 <|
  (S55 w173) ∧
  (ifB (!(t172 == (decide ((m.Image.len : Int) > 0))))
  (K 3 w173)
  (j53 w173))))
  (callV Pr Value.bool 65 #[(.int .i64 m.Kind), (.int .u8 109)] w171 fun t174 w175 =>
  kp b1 w171 w175 <|
  (S55 w175) ∧
  (ifB (!(t174 == (decide ((m.Image.len : Int) > 0))))
  (K 3 w175)
  (j53 w175))))))
  (callV Pr Value.bool 65 #[(.int .i64 m.Kind), (.int .u8 101)] w169 fun t176 w177 =>
  kp b1 w169 w177 <|
  (S55 w177) ∧
  (ifB (!t176)
  (ifB (decide ((m.Entries.len : Int) > 0))
  (K 3 w177)
  (callV Pr Value.bool 65 #[(.int .i64 m.Kind), (.int .u8 109)] w177 fun t178 w179 =>
  kp b1 w177 w179 <|
  (S55 w179) ∧
  (ifB (!(t178 == (decide ((m.Image.len : Int) > 0))))
  (K 3 w179)
  (j53 w179))))
  (callV Pr Value.bool 65 #[(.int .i64 m.Kind), (.int .u8 109)] w177 fun t180 w181 =>
  kp b1 w177 w181 <|
  (S55 w181) ∧
  (ifB (!(t180 == (decide ((m.Image.len : Int) > 0))))
  (K 3 w181)
  (j53 w181))))))))))))) w52)
  (fun w182 =>
  drewM (fun w183 =>
  ifB (m.Kind == 5)
  (ifB ((m.Entries.len : Int) != 1)
  (K 3 w183)
  (opRd Pr (Instr.indexAt 38 m.Entries.val (.int .i64 0)) pav (fun t184 =>
  opRd Pr (Instr.loadAt 37 (.pointer (some (t184.add 1)))) ApiBallot.val (fun t185 =>
  opRd Pr (binSem .neq 37 (.tmp 188) (.tmp 190) (.agg ⟨t185.cs⟩) (.agg ⟨[(.int .i64 m.Ballot.Round), (.int .i64 m.Ballot.Node)]⟩)) Value.bool (fun t186 =>
  ifB t186
  (K 3 w183)
  (K 0 w183)) w183) w183) w183))
  (K 0 w183)) w182))))))))))) w
def ref13_Check_ann : Ann := (.s (.r [(0, .nl 1)]) (.s .d (.s (.s (.r [(1, .call rS)]) (.c (.s .d .d) .d)) (.s (.s .d (.c (.s .d .d) .d)) (.sj [] (.s (.r [(1, .call rB), (5, .call rB), (10, .call rB), (24, .call rB), (38, .call rB)]) (.c (.s .d .d) .d)) (.sj [] (.s (.r [(1, .call rB), (10, .call rB)]) (.c (.s .d .d) .d)) (.sj [] (.s (.r [(1, .call rB)]) (.c (.s (.r [(2, .call (rI .i64))]) (.s .d (.c (.s .d .d) .d))) .d)) (.sj [] (.s (.h (.take 0 (.one 1 (.take 2 (.take 3 (.take 4 (.take 5 (.take 6 (.take 7 (.take 8 (.take 9 (.take 10 (.take 11 (.take 12 (.take 13 (.take 14 (.take 15 (.take 16 (.one 17 (.take 18 (.take 19 (.take 20 (.take 21 (.take 22 (.take 23 (.take 24 (.take 25 (.take 26 (.one 27 (.take 28 (.take 29 (.take 30 (.take 31 (.take 32 (.take 33 (.take 34 (.take 35 (.take 36 (.one 37 (.take 38 (.take 39 (.take 40 (.take 41 (.take 42 (.take 43 (.take 44 (.take 45 (.take 46 (.one 47 (.take 48 (.take 49 (.take 50 (.take 51 (.take 52 (.take 53 (.take 54 (.take 55 (.take 56 (.take 57 (.take 59 (.take 60 (.take 61 (.take 62 (.one 58 (.take 63 (.take 64 .done))))))))))))))))))))))))))))))))))))))))))))))))))))))))))))))))) [(1, .call rB), (17, .call rB), (27, .call rB), (37, .call rB), (47, .call rB), (58, .call rB)]) (.c (.s .d .d) .d)) (.s (.s (.r [(10, .rd rPA), (12, .rd rApiBallot), (15, .rd rB)]) (.c (.s .d .d) .d)) (.s .d .d))))))))))
theorem ref13_Check_calls {m : ApiMsg} {K : Int → World → Prop} {w : World} (h : ref13_Check m K w) : callV Pr (Value.int .i64) 26 #[(.agg ⟨m.cs⟩)] w K :=
  calls_of Pr_plain Pr_mixed Pr_func26 ref13_Check_ann (rI .i64) (args := [(.agg ⟨m.cs⟩)]) (by kernel_rfl) h

/- changeover/msgone.Same -/
def msgone_Same (a : ApiMsg) (b : ApiMsg) (K : Bool → World → Prop) (w : World) : Prop :=
  newV (fun b1 w2 =>
  newV (fun b3 w4 =>
  heldM (fun S6 w5 =>
  callV Pr aval 68 #[(.agg ⟨[(.int .i64 a.Kind), (.int .i64 a.From), (.int .i64 a.To), (.int .i64 a.Ballot.Round), (.int .i64 a.Ballot.Node), (.int .i64 a.Index), (.int .i64 a.Commit), (.int .i64 a.Version), a.Entries.val, a.Image.val]⟩)] w5 fun t7 w8 =>
  kp b3 w5 w8 <|
  kp b1 w5 w8 <|
  (S6 w8) ∧
  (callV Pr aval 68 #[(.agg ⟨[(.int .i64 b.Kind), (.int .i64 b.From), (.int .i64 b.To), (.int .i64 b.Ballot.Round), (.int .i64 b.Ballot.Node), (.int .i64 b.Index), (.int .i64 b.Commit), (.int .i64 b.Version), b.Entries.val, b.Image.val]⟩)] w8 fun t9 w10 =>
  kp b3 w8 w10 <|
  kp b1 w8 w10 <|
  (S6 w10) ∧
  (opH Pr S6 (binSem .eql 94 (.tmp 8) (.tmp 11) (.agg ⟨t7⟩) (.agg ⟨t9⟩)) Value.bool (fun t11 =>
  ifB t11
  (callV Pr Value.bool 69 #[a.Entries.val, b.Entries.val] w10 fun t12 w13 =>
  kp b3 w10 w13 <|
  kp b1 w10 w13 <|
  (S6 w13) ∧
  (ifB t12
  (callV Pr Value.bool 70 #[a.Image.val, b.Image.val] w13 fun t14 w15 =>
  kp b3 w13 w15 <|
  kp b1 w13 w15 <|
  (S6 w15) ∧
  (K t14 w15))
  (K false w13)))
  (K false w10))))) w4) w2) w
def msgone_Same_ann : Ann := (.s (.r [(0, .nl 2), (1, .nl 3)]) (.s .d (.s (.h (.take 0 (.take 1 (.take 3 (.take 4 (.one 2 (.one 5 (.take 6 (.take 7 (.take 8 (.take 9 (.take 10 (.take 11 (.one 12 (.take 13 (.take 14 (.take 15 (.take 16 (.take 17 (.take 18 (.one 19 (.take 20 (.take 21 .done)))))))))))))))))))))) [(2, .call rA), (5, .call rA), (6, .rd rB), (12, .call rB), (19, .call rB)]) .d)))
theorem msgone_Same_calls {a : ApiMsg} {b : ApiMsg} {K : Bool → World → Prop} {w : World} (h : msgone_Same a b K w) : callV Pr Value.bool 27 #[(.agg ⟨a.cs⟩), (.agg ⟨b.cs⟩)] w K :=
  calls_of Pr_plain Pr_mixed Pr_func27 msgone_Same_ann rB (args := [(.agg ⟨a.cs⟩), (.agg ⟨b.cs⟩)]) (by kernel_rfl) h

/- changeover/changeoverref13.Same -/
def ref13_Same (a : ApiMsg) (b : ApiMsg) (K : Bool → World → Prop) (w : World) : Prop :=
  newV (fun b1 w2 =>
  newV (fun b3 w4 =>
  ifB (a.Kind == b.Kind)
  (ifB (a.From == b.From)
  (ifB (a.To == b.To)
  (opRd Pr (binSem .eql 37 (.tmp 26) (.tmp 28) (.agg ⟨[(.int .i64 a.Ballot.Round), (.int .i64 a.Ballot.Node)]⟩) (.agg ⟨[(.int .i64 b.Ballot.Round), (.int .i64 b.Ballot.Node)]⟩)) Value.bool (fun t5 =>
  ifB t5
  (ifB (a.Index == b.Index)
  (ifB (a.Commit == b.Commit)
  (ifB (a.Version == b.Version)
  (callV Pr Value.bool 71 #[a.Entries.val, b.Entries.val] w4 fun t6 w7 =>
  kp b3 w4 w7 <|
  kp b1 w4 w7 <|
  ifB t6
  (callV Pr Value.bool 34 #[a.Image.val, b.Image.val] w7 fun t8 w9 =>
  kp b3 w7 w9 <|
  kp b1 w7 w9 <|
  K t8 w9)
  (K false w7))
  (K false w4))
  (K false w4))
  (K false w4))
  (K false w4)) w4)
  (K false w4))
  (K false w4))
  (K false w4)) w2) w
def ref13_Same_ann : Ann := (.s (.r [(0, .nl 2), (1, .nl 3)]) (.s (.r [(24, .rd rB), (52, .call rB), (59, .call rB)]) .d))
theorem ref13_Same_calls {a : ApiMsg} {b : ApiMsg} {K : Bool → World → Prop} {w : World} (h : ref13_Same a b K w) : callV Pr Value.bool 28 #[(.agg ⟨a.cs⟩), (.agg ⟨b.cs⟩)] w K :=
  calls_of Pr_plain Pr_mixed Pr_func28 ref13_Same_ann rB (args := [(.agg ⟨a.cs⟩), (.agg ⟨b.cs⟩)]) (by kernel_rfl) h

/- changeover/changeoverref25.Large -/
def ref25_Large (s : ApiState) (K : Bool → World → Prop) (w : World) : Prop :=
  newV (fun b1 w2 =>
  callV Pr Value.bool 72 #[s.Sessions.val] w2 fun t3 w4 =>
  kp b1 w2 w4 <|
  ifB t3
  (K true w4)
  (callV Pr Value.bool 73 #[s.Pairs.val] w4 fun t5 w6 =>
  kp b1 w4 w6 <|
  K t5 w6)) w
def ref25_Large_ann : Ann := (.s (.r [(0, .nl 1)]) (.s (.r [(2, .call rB), (6, .call rB)]) .d))
theorem ref25_Large_calls {s : ApiState} {K : Bool → World → Prop} {w : World} (h : ref25_Large s K w) : callV Pr Value.bool 29 #[(.agg ⟨s.cs⟩)] w K :=
  calls_of Pr_plain Pr_mixed Pr_func29 ref25_Large_ann rB (args := [(.agg ⟨s.cs⟩)]) (by kernel_rfl) h

/- changeover/changeoverlaw26.awake -/
def law26_awake (K : Bool → World → Prop) (w : World) : Prop :=
  callV Pr (tval2 Sl.val (Value.int .i64)) 31 #[(.agg ⟨[(.int .i64 1), Sl.nil.val, Sl.nil.val]⟩)] w fun t1 w2 =>
  ifB (t1.2 == 0)
  (ifB ((t1.1.len : Int) == 3)
  (opRd Pr (Instr.indexAt 39 t1.1.val (.int .i64 0)) pav (fun t3 =>
  opRd Pr (Instr.loadAt 5 (.pointer (some t3))) (Value.int .u8) (fun t4 =>
  K (t4 == 1) w2) w2) w2)
  (K false w2))
  (K false w2)
def law26_awake_ann : Ann := (.s .d (.s (.r [(1, .call (rT2 rSl (rI .i64)))]) (.s (.r [(9, .rd rPA), (10, .rd (rI .u8))]) .d)))
theorem law26_awake_calls {K : Bool → World → Prop} {w : World} (h : law26_awake K w) : callV Pr Value.bool 30 #[] w K :=
  calls_of Pr_plain Pr_mixed Pr_func30 law26_awake_ann rB (args := []) (by kernel_rfl) h

/- changeover/snapone.Encode -/
def snapone_Encode (s : ApiState) (K : (Sl × Int) → World → Prop) (w : World) : Prop :=
  newV (fun b1 w2 =>
  callV Pr (Value.int .i64) 74 #[(.agg ⟨[(.int .i64 s.Schema), s.Pairs.val, s.Sessions.val]⟩)] w2 fun e3 w4 =>
  kp b1 w2 w4 <|
  ifB (e3 != 0)
  (K (Sl.nil, e3) w4)
  (ifB (s.Schema != 1)
  (K (Sl.nil, 8) w4)
  (opTy Pr (Instr.box 102 (.agg ⟨[Sl.nil.val]⟩)) pav (fun w5 w6 =>
  kp b1 w4 w6 <|
  callV Pr uval 75 #[(.pointer (some w5)), (.int .i64 1)] w6 fun t7 w8 =>
  kp b1 w6 w8 <|
  callV Pr uval 75 #[(.pointer (some w5)), (.int .i64 (s.Pairs.len : Int))] w8 fun t9 w10 =>
  kp b1 w8 w10 <|
  loop1 (0 : Int) (fun t11 k12 w13 =>
  ifB (decide (t11 < (s.Pairs.len : Int)))
  (opRd Pr (Instr.indexAt 45 s.Pairs.val (.int .i64 t11)) pav (fun t14 =>
  opRd Pr (Instr.loadAt 105 (.pointer (some t14))) ApiPair.val (fun t15 =>
  newV (fun b16 w17 =>
  wrM b16 (fun w18 =>
  callV Pr uval 76 #[(.pointer (some w5)), (sval t15.Key)] w18 fun t19 w20 =>
  kp b16 w18 w20 <|
  kp b1 w18 w20 <|
  callV Pr uval 76 #[(.pointer (some w5)), (sval t15.Val)] w20 fun t21 w22 =>
  kp b16 w20 w22 <|
  kp b1 w20 w22 <|
  k12 (i64 (t11 + 1)) w22) w17) w13) w13) w13)
  (callV Pr uval 75 #[(.pointer (some w5)), (.int .i64 (s.Sessions.len : Int))] w13 fun t23 w24 =>
  kp b1 w13 w24 <|
  loop1 (0 : Int) (fun t25 k26 w27 =>
  ifB (decide (t25 < (s.Sessions.len : Int)))
  (opRd Pr (Instr.indexAt 46 s.Sessions.val (.int .i64 t25)) pav (fun t28 =>
  opRd Pr (Instr.loadAt 110 (.pointer (some t28))) ApiSession.val (fun t29 =>
  newV (fun b30 w31 =>
  wrM b30 (fun w32 =>
  callV Pr uval 77 #[(.pointer (some w5)), (.int .i64 1), (.agg ⟨[(.int .i64 t29.Last.Client), (.int .i64 t29.Last.Seq), (.int .i64 t29.Last.Err), (.bool t29.Last.Found), (sval t29.Last.Val), (.int .i64 t29.Last.Rev)]⟩)] w32 fun t33 w34 =>
  kp b30 w32 w34 <|
  kp b1 w32 w34 <|
  k26 (i64 (t25 + 1)) w34) w31) w27) w27) w27)
  (callV Pr Sl.val 78 #[(.pointer (some w5))] w27 fun t35 w36 =>
  kp b1 w27 w36 <|
  K (t35, 0) w36)) w24)) w10) w4))) w
def snapone_Encode_ann : Ann := (.s (.r [(0, .nl 1)]) (.s (.s (.r [(1, .call (rI .i64))]) (.s .d (.c (.s .d .d) .d))) (.s (.s .d (.c (.s .d .d) .d)) (.s (.r [(1, .ty rPA)]) (.s (.r [(1, .call rU)]) (.s (.r [(4, .call rU)]) (.s (.s .d (.b (.l [(.s 30, (rI .i64))] (.s .d (.s (.c .d .d) (.s (.b (.s (.r [(0, .rd rPA), (1, .rd rApiPair), (2, .nl 7), (3, .ls 7)]) (.s (.r [(3, .call rU)]) (.r [(3, .call rU)])))) .d)))))) (.s (.r [(4, .call rU)]) (.s (.s .d (.b (.l [(.s 51, (rI .i64))] (.s .d (.s (.c .d .d) (.s (.b (.s (.r [(0, .rd rPA), (1, .rd rApiSession), (2, .nl 9), (3, .ls 9)]) (.r [(3, .call rU)]))) .d)))))) (.s (.r [(1, .call rSl)]) .d))))))))))
theorem snapone_Encode_calls {s : ApiState} {K : (Sl × Int) → World → Prop} {w : World} (h : snapone_Encode s K w) : callV Pr (tval2 Sl.val (Value.int .i64)) 31 #[(.agg ⟨s.cs⟩)] w K :=
  calls_of Pr_plain Pr_mixed Pr_func31 snapone_Encode_ann (rT2 rSl (rI .i64)) (args := [(.agg ⟨s.cs⟩)]) (by kernel_rfl) h

/- changeover/changeoverref25.Check -/
def ref25_Check (s : ApiState) (K : Bool → World → Prop) (w : World) : Prop :=
  newV (fun b1 w2 =>
  ifB (decide (s.Schema < 1))
  (K false w2)
  (ifB (decide (s.Schema > 2))
  (K false w2)
  (callV Pr Value.bool 79 #[(.int .i64 s.Schema), s.Pairs.val] w2 fun t3 w4 =>
  kp b1 w2 w4 <|
  ifB (!t3)
  (K false w4)
  (callV Pr Value.bool 80 #[s.Sessions.val] w4 fun t5 w6 =>
  kp b1 w4 w6 <|
  ifB (!t5)
  (K false w6)
  (loop1 (0 : Int) (fun i7 k8 w9 =>
  ifB (decide (i7 < (s.Sessions.len : Int)))
  (ifB (s.Schema == 1)
  (opRd Pr (Instr.indexAt 46 s.Sessions.val (.int .i64 i7)) pav (fun t10 =>
  opRd Pr (Instr.loadAt 3 (.pointer (some ((t10.add 2).add 5)))) (Value.int .i64) (fun t11 =>
  ifB (t11 != 0)
  (K false w9)
  (k8 (i64 (i7 + 1)) w9)) w9) w9)
  (k8 (i64 (i7 + 1)) w9))
  (K true w9)) w6))))) w
def ref25_Check_ann : Ann := (.s (.r [(0, .nl 1)]) (.s (.s (.r [(13, .call rB), (19, .call rB)]) (.c (.s .d .d) .d)) (.s (.s .d (.b (.l [(.s 3, (rI .i64))] (.s (.s .d (.c .d .d)) (.s (.b (.s (.r [(7, .rd rPA), (10, .rd (rI .i64))]) (.c (.s .d .d) .d))) .d))))) (.s .d .d))))
theorem ref25_Check_calls {s : ApiState} {K : Bool → World → Prop} {w : World} (h : ref25_Check s K w) : callV Pr Value.bool 32 #[(.agg ⟨s.cs⟩)] w K :=
  calls_of Pr_plain Pr_mixed Pr_func32 ref25_Check_ann rB (args := [(.agg ⟨s.cs⟩)]) (by kernel_rfl) h

/- changeover/snapone.Decode -/
def snapone_Decode (b : Sl) (K : (ApiState × Int) → World → Prop) (w : World) : Prop :=
  newV (fun b1 w2 =>
  callV Pr Value.pointer 81 #[b.val] w2 fun t3 w4 =>
  kp b1 w2 w4 <|
  opTy Pr (Instr.alloc 114 true (.tuple #[])) pav (fun r5 w6 =>
  kp b1 w4 w6 <|
  opUn Pr (Instr.storeAt 114 (.pointer (some r5)) (.pointer t3)) (fun w7 =>
  kp b1 w6 w7 <|
  opRd Pr (Instr.loadAt 114 (.pointer (some r5))) Value.pointer (fun t8 =>
  callV Pr (Value.int .i64) 82 #[(.pointer t8), (.int .i64 2)] w7 fun schema9 w10 =>
  kp b1 w7 w10 <|
  opRd Pr (Instr.loadAt 114 (.pointer (some r5))) Value.pointer (fun t11 =>
  callV Pr (Value.int .i64) 83 #[(.pointer t11)] w10 fun e12 w13 =>
  kp b1 w10 w13 <|
  ifB (e12 != 0)
  (wrM b1 (fun w14 =>
  K ((ApiState.mk 0 Sl.nil Sl.nil), e12) w14) w13)
  (ifB (schema9 != 1)
  (wrM b1 (fun w15 =>
  K ((ApiState.mk 0 Sl.nil Sl.nil), 3) w15) w13)
  (newV (fun b16 w17 =>
  wrM b16 (fun w18 =>
  opRd Pr (Instr.loadAt 114 (.pointer (some r5))) Value.pointer (fun t19 =>
  callV Pr Sl.val 84 #[(.pointer t19), (.int .i64 64), (.func (.func 85) #[] #[(.pointer (some r5))])] w18 fun t20 w21 =>
  kp b16 w18 w21 <|
  kp b1 w18 w21 <|
  wrM b16 (fun w22 =>
  opRd Pr (Instr.loadAt 114 (.pointer (some r5))) Value.pointer (fun t23 =>
  callV Pr Sl.val 87 #[(.pointer t23), (.int .i64 8), (.func (.func 88) #[] #[(.pointer (some r5))])] w22 fun t24 w25 =>
  kp b16 w22 w25 <|
  kp b1 w22 w25 <|
  wrM b16 (fun w26 =>
  opRd Pr (Instr.loadAt 114 (.pointer (some r5))) Value.pointer (fun t27 =>
  callV Pr (Value.int .i64) 90 #[(.pointer t27)] w26 fun e28 w29 =>
  kp b16 w26 w29 <|
  kp b1 w26 w29 <|
  join1 (fun (j30 : Int → World → Prop) =>
  ifB (e28 == 0)
  (callV Pr (Value.int .i64) 74 #[(.agg ⟨[(.int .i64 schema9), t20.val, t24.val]⟩)] w29 fun e31 w32 =>
  kp b16 w29 w32 <|
  kp b1 w29 w32 <|
  j30 e31 w32)
  (j30 e28 w29))
  (fun e33 w34 =>
  ifB (e33 != 0)
  (wrM b1 (fun w35 =>
  K ((ApiState.mk 0 Sl.nil Sl.nil), e33) w35) w34)
  (wrM b1 (fun w36 =>
  K ((ApiState.mk schema9 t20 t24), 0) w36) w34))) w26) w25) w22) w21) w18) w17) w13))) w10) w7) w6) w4) w
def snapone_Decode_ann : Ann := (.s (.r [(0, .nl 2)]) (.s (.r [(1, .call rP), (2, .ty rPA), (3, .un)]) (.s (.r [(0, .rd rP), (1, .call (rI .i64))]) (.s (.s (.r [(0, .rd rP), (1, .call (rI .i64))]) (.s .d (.c (.s (.r [(2, .ls 2)]) .d) .d))) (.s (.s .d (.c (.s (.r [(1, .ls 2)]) .d) .d)) (.s (.r [(2, .nl 7), (3, .ls 7)]) (.s (.r [(0, .rd rP), (2, .call rSl), (4, .ls 7)]) (.s (.r [(0, .rd rP), (2, .call rSl), (4, .ls 7)]) (.s (.r [(0, .rd rP), (1, .call (rI .i64))]) (.sj [(.s 8, (rI .i64))] (.s .d (.c (.r [(1, .call (rI .i64))]) .d)) (.s (.s .d (.c (.s (.r [(2, .ls 2)]) .d) .d)) (.s (.r [(1, .ls 2)]) .d))))))))))))
theorem snapone_Decode_calls {b : Sl} {K : (ApiState × Int) → World → Prop} {w : World} (h : snapone_Decode b K w) : callV Pr (tval2 ApiState.val (Value.int .i64)) 33 #[b.val] w K :=
  calls_of Pr_plain Pr_mixed Pr_func33 snapone_Decode_ann (rT2 rApiState (rI .i64)) (args := [b.val]) (by kernel_rfl) h

/- changeover/changeoverref01.Same -/
def ref01_Same (a : Sl) (b : Sl) (K : Bool → World → Prop) (w : World) : Prop :=
  ifB ((a.len : Int) != (b.len : Int))
  (K false w)
  (loop1 (0 : Int) (fun i1 k2 w3 =>
  ifB (decide (i1 < (a.len : Int)))
  (drewM (fun w4 =>
  opRd Pr (Instr.indexAt 39 a.val (.int .i64 i1)) pav (fun t5 =>
  opRd Pr (Instr.loadAt 5 (.pointer (some t5))) (Value.int .u8) (fun t6 =>
  opRd Pr (Instr.indexAt 39 b.val (.int .i64 i1)) pav (fun t7 =>
  opRd Pr (Instr.loadAt 5 (.pointer (some t7))) (Value.int .u8) (fun t8 =>
  ifB (t6 != t8)
  (K false w4)
  (k2 (i64 (i1 + 1)) w4)) w4) w4) w4) w4) w3)
  (K true w3)) w)
def ref01_Same_ann : Ann := (.s .d (.s (.s .d (.c (.s .d .d) .d)) (.s (.s .d (.b (.l [(.s 5, (rI .i64))] (.s (.s .d (.c .d .d)) (.s (.b (.s (.r [(2, .rd rPA), (3, .rd (rI .u8)), (6, .rd rPA), (7, .rd (rI .u8))]) (.c (.s .d .d) .d))) .d))))) (.s .d .d))))
theorem ref01_Same_calls {a : Sl} {b : Sl} {K : Bool → World → Prop} {w : World} (h : ref01_Same a b K w) : callV Pr Value.bool 34 #[a.val, b.val] w K :=
  calls_of Pr_plain Pr_mixed Pr_func34 ref01_Same_ann rB (args := [a.val, b.val]) (by kernel_rfl) h

/- changeover/changeoverref26.Bytes -/
def ref26_Bytes (s : ApiState) (K : Sl → World → Prop) (w : World) : Prop :=
  newV (fun b1 w2 =>
  callV Pr Sl.val 91 #[(.int .i64 s.Schema)] w2 fun out3 w4 =>
  kp b1 w2 w4 <|
  callV Pr Sl.val 91 #[(.int .i64 (s.Pairs.len : Int))] w4 fun t5 w6 =>
  kp b1 w4 w6 <|
  opTy Pr (Builtin.append_ #[39, 39] 39 #[out3.val, t5.val]) Sl.val (fun out7 w8 =>
  kp b1 w6 w8 <|
  loop2 (out7 : Sl) (0 : Int) (fun out9 i10 k11 w12 =>
  ifB (decide (i10 < (s.Pairs.len : Int)))
  (opRd Pr (Instr.indexAt 45 s.Pairs.val (.int .i64 i10)) pav (fun t13 =>
  opRd Pr (Instr.loadAt 9 (.pointer (some (t13.add 0)))) sval (fun t14 =>
  callV Pr Sl.val 92 #[(sval t14)] w12 fun t15 w16 =>
  kp b1 w12 w16 <|
  opTy Pr (Builtin.append_ #[39, 39] 39 #[out9.val, t15.val]) Sl.val (fun out17 w18 =>
  kp b1 w16 w18 <|
  join1 (fun (j19 : Sl → World → Prop) =>
  ifB (s.Schema == 2)
  (opRd Pr (Instr.indexAt 45 s.Pairs.val (.int .i64 i10)) pav (fun t20 =>
  opRd Pr (Instr.loadAt 3 (.pointer (some (t20.add 2)))) (Value.int .i64) (fun t21 =>
  callV Pr Sl.val 91 #[(.int .i64 t21)] w18 fun t22 w23 =>
  kp b1 w18 w23 <|
  opTy Pr (Builtin.append_ #[39, 39] 39 #[out17.val, t22.val]) Sl.val (fun out24 w25 =>
  kp b1 w23 w25 <|
  j19 out24 w25) w23) w18) w18)
  (j19 out17 w18))
  (fun out26 w27 =>
  opRd Pr (Instr.indexAt 45 s.Pairs.val (.int .i64 i10)) pav (fun t28 =>
  opRd Pr (Instr.loadAt 9 (.pointer (some (t28.add 1)))) sval (fun t29 =>
  callV Pr Sl.val 92 #[(sval t29)] w27 fun t30 w31 =>
  kp b1 w27 w31 <|
  opTy Pr (Builtin.append_ #[39, 39] 39 #[out26.val, t30.val]) Sl.val (fun out32 w33 =>
  kp b1 w31 w33 <|
  k11 out32 (i64 (i10 + 1)) w33) w31) w27) w27)) w16) w12) w12)
  (callV Pr Sl.val 91 #[(.int .i64 (s.Sessions.len : Int))] w12 fun t34 w35 =>
  kp b1 w12 w35 <|
  opTy Pr (Builtin.append_ #[39, 39] 39 #[out9.val, t34.val]) Sl.val (fun out36 w37 =>
  kp b1 w35 w37 <|
  loop2 (out36 : Sl) (0 : Int) (fun out38 i39 k40 w41 =>
  ifB (decide (i39 < (s.Sessions.len : Int)))
  (heldM (fun S43 w42 =>
  opH Pr S43 (Instr.indexAt 46 s.Sessions.val (.int .i64 i39)) pav (fun t44 =>
  opH Pr S43 (Instr.loadAt 108 (.pointer (some (t44.add 2)))) ApiAnswer.val (fun t45 =>
  callV Pr Sl.val 93 #[(.int .i64 s.Schema), (.agg ⟨t45.cs⟩)] w42 fun t46 w47 =>
  kp b1 w42 w47 <|
  (S43 w47) ∧
  (opTy Pr (Builtin.append_ #[39, 39] 39 #[out38.val, t46.val]) Sl.val (fun out48 w49 =>
  kp b1 w47 w49 <|
  (S43 w49) ∧
  (k40 out48 (i64 (i39 + 1)) w49)) w47)))) w41)
  (K out38 w41)) w37) w35)) w8) w6) w
def ref26_Bytes_ann : Ann := (.s (.r [(0, .nl 1)]) (.s (.r [(2, .call rSl)]) (.s (.r [(4, .call rSl), (5, .ty rSl)]) (.s (.s .d (.b (.l [(.s 3, rSl), (.s 4, (rI .i64))] (.s (.s .d (.c .d .d)) (.s (.b (.s (.r [(4, .rd rPA), (6, .rd rS), (7, .call rSl), (8, .ty rSl)]) (.sj [(.s 3, rSl)] (.s .d (.c (.r [(4, .rd rPA), (6, .rd (rI .i64)), (7, .call rSl), (8, .ty rSl)]) .d)) (.r [(4, .rd rPA), (6, .rd rS), (7, .call rSl), (8, .ty rSl)])))) .d))))) (.s (.r [(4, .call rSl), (5, .ty rSl)]) (.s (.s .d (.b (.l [(.s 3, rSl), (.s 5, (rI .i64))] (.s (.s .d (.c .d .d)) (.s (.b (.h (.take 0 (.take 1 (.take 2 (.take 3 (.take 4 (.take 5 (.take 6 (.take 7 (.take 8 (.one 9 (.one 10 (.take 11 .done)))))))))))) [(6, .rd rPA), (8, .rd rApiAnswer), (9, .call rSl), (10, .ty rSl)])) .d))))) (.s .d .d)))))))
theorem ref26_Bytes_calls {s : ApiState} {K : Sl → World → Prop} {w : World} (h : ref26_Bytes s K w) : callV Pr Sl.val 35 #[(.agg ⟨s.cs⟩)] w K :=
  calls_of Pr_plain Pr_mixed Pr_func35 ref26_Bytes_ann rSl (args := [(.agg ⟨s.cs⟩)]) (by kernel_rfl) h

/- changeover/changeoverref25.Same -/
def ref25_Same (a : ApiState) (b : ApiState) (K : Bool → World → Prop) (w : World) : Prop :=
  newV (fun b1 w2 =>
  newV (fun b3 w4 =>
  ifB (a.Schema == b.Schema)
  (callV Pr Value.bool 94 #[a.Pairs.val, b.Pairs.val] w4 fun t5 w6 =>
  kp b3 w4 w6 <|
  kp b1 w4 w6 <|
  ifB t5
  (callV Pr Value.bool 95 #[a.Sessions.val, b.Sessions.val] w6 fun t7 w8 =>
  kp b3 w6 w8 <|
  kp b1 w6 w8 <|
  K t7 w8)
  (K false w6))
  (K false w4)) w2) w
def ref25_Same_ann : Ann := (.s (.r [(0, .nl 2), (1, .nl 3)]) (.s (.r [(10, .call rB), (17, .call rB)]) .d))
theorem ref25_Same_calls {a : ApiState} {b : ApiState} {K : Bool → World → Prop} {w : World} (h : ref25_Same a b K w) : callV Pr Value.bool 36 #[(.agg ⟨a.cs⟩), (.agg ⟨b.cs⟩)] w K :=
  calls_of Pr_plain Pr_mixed Pr_func36 ref25_Same_ann rB (args := [(.agg ⟨a.cs⟩), (.agg ⟨b.cs⟩)]) (by kernel_rfl) h

/- changeover/changeoverlaw27.awake -/
def law27_awake (K : Bool → World → Prop) (w : World) : Prop :=
  callV Pr (tval2 Sl.val (Value.int .i64)) 43 #[(.agg ⟨[(.int .i64 2), Sl.nil.val, Sl.nil.val]⟩)] w fun t1 w2 =>
  opTy Pr (Instr.buildSlice 39 3 #[(0, (.int .u8 1)), (1, (.int .u8 0)), (2, (.int .u8 0))]) Sl.val (fun t3 w4 =>
  callV Pr (tval2 Sl.val (Value.int .i64)) 40 #[t3.val] w4 fun t5 w6 =>
  ifB (t1.2 == 0)
  (ifB (t5.2 == 0)
  (ifB ((t1.1.len : Int) == 3)
  (callV Pr Value.bool 34 #[t1.1.val, t5.1.val] w6 fun t7 w8 =>
  K t7 w8)
  (K false w6))
  (K false w6))
  (K false w6)) w2
def law27_awake_ann : Ann := (.s .d (.s (.r [(1, .call (rT2 rSl (rI .i64)))]) (.s (.r [(0, .ty rSl), (1, .call (rT2 rSl (rI .i64)))]) (.s (.r [(14, .call rB)]) .d))))
theorem law27_awake_calls {K : Bool → World → Prop} {w : World} (h : law27_awake K w) : callV Pr Value.bool 37 #[] w K :=
  calls_of Pr_plain Pr_mixed Pr_func37 law27_awake_ann rB (args := []) (by kernel_rfl) h

/- changeover/snaptwo.Get -/
def snaptwo_Get (b : Sl) (K : (ApiState × Int) → World → Prop) (w : World) : Prop :=
  newV (fun b1 w2 =>
  callV Pr (tval3 Value.pointer (Value.int .i64) (Value.int .i64)) 96 #[b.val] w2 fun t3 w4 =>
  kp b1 w2 w4 <|
  ifB (t3.2.2 != 0)
  (wrM b1 (fun w5 =>
  K ((ApiState.mk 0 Sl.nil Sl.nil), t3.2.2) w5) w4)
  (ifB (t3.2.1 == 1)
  (callV Pr (tval2 ApiState.val (Value.int .i64)) 33 #[b.val] w4 fun t6 w7 =>
  kp b1 w4 w7 <|
  wrM b1 (fun w8 =>
  K ((ApiState.mk t6.1.Schema t6.1.Pairs t6.1.Sessions), t6.2) w8) w7)
  (callV Pr (tval2 ApiState.val (Value.int .i64)) 39 #[b.val] w4 fun t9 w10 =>
  kp b1 w4 w10 <|
  wrM b1 (fun w11 =>
  K ((ApiState.mk t9.1.Schema t9.1.Pairs t9.1.Sessions), t9.2) w11) w10))) w
def snaptwo_Get_ann : Ann := (.s (.r [(0, .nl 2)]) (.s (.r [(1, .call (rT3 rP (rI .i64) (rI .i64)))]) (.s (.b (.s .d (.c (.s (.r [(2, .ls 2)]) .d) (.s .d (.c (.s (.r [(1, .call (rT2 rApiState (rI .i64))), (4, .ls 2)]) .d) .d))))) (.s (.r [(1, .call (rT2 rApiState (rI .i64))), (4, .ls 2)]) .d))))
theorem snaptwo_Get_calls {b : Sl} {K : (ApiState × Int) → World → Prop} {w : World} (h : snaptwo_Get b K w) : callV Pr (tval2 ApiState.val (Value.int .i64)) 38 #[b.val] w K :=
  calls_of Pr_plain Pr_mixed Pr_func38 snaptwo_Get_ann (rT2 rApiState (rI .i64)) (args := [b.val]) (by kernel_rfl) h

/- changeover/snaptwo.Decode -/
def snaptwo_Decode (b : Sl) (K : (ApiState × Int) → World → Prop) (w : World) : Prop :=
  newV (fun b1 w2 =>
  callV Pr (tval3 Value.pointer (Value.int .i64) (Value.int .i64)) 96 #[b.val] w2 fun t3 w4 =>
  kp b1 w2 w4 <|
  opTy Pr (Instr.alloc 114 true (.tuple #[])) pav (fun r5 w6 =>
  kp b1 w4 w6 <|
  opUn Pr (Instr.storeAt 114 (.pointer (some r5)) (.pointer t3.1)) (fun w7 =>
  kp b1 w6 w7 <|
  ifB (t3.2.2 != 0)
  (wrM b1 (fun w8 =>
  K ((ApiState.mk 0 Sl.nil Sl.nil), t3.2.2) w8) w7)
  (ifB (t3.2.1 != 2)
  (wrM b1 (fun w9 =>
  K ((ApiState.mk 0 Sl.nil Sl.nil), 3) w9) w7)
  (opTy Pr (Instr.alloc 48 true (.tuple #[])) pav (fun s10 w11 =>
  kp b1 w7 w11 <|
  opUn Pr (Instr.storeAt 48 (.pointer (some s10)) (.agg ⟨[(.int .i64 t3.2.1), Sl.nil.val, Sl.nil.val]⟩)) (fun w12 =>
  kp b1 w11 w12 <|
  opRd Pr (Instr.loadAt 114 (.pointer (some r5))) Value.pointer (fun t13 =>
  callV Pr uval 97 #[(.pointer t13), (.int .i64 64), (.func (.func 98) #[] #[(.pointer (some r5)), (.pointer (some s10))])] w12 fun t14 w15 =>
  kp b1 w12 w15 <|
  opRd Pr (Instr.loadAt 114 (.pointer (some r5))) Value.pointer (fun t16 =>
  callV Pr uval 97 #[(.pointer t16), (.int .i64 8), (.func (.func 99) #[] #[(.pointer (some r5)), (.pointer (some s10))])] w15 fun t17 w18 =>
  kp b1 w15 w18 <|
  opRd Pr (Instr.loadAt 114 (.pointer (some r5))) Value.pointer (fun t19 =>
  callV Pr (Value.int .i64) 90 #[(.pointer t19)] w18 fun e20 w21 =>
  kp b1 w18 w21 <|
  join1 (fun (j22 : Int → World → Prop) =>
  ifB (e20 == 0)
  (opRd Pr (Instr.loadAt 48 (.pointer (some s10))) ApiState.val (fun t23 =>
  callV Pr (Value.int .i64) 74 #[(.agg ⟨t23.cs⟩)] w21 fun e24 w25 =>
  kp b1 w21 w25 <|
  j22 e24 w25) w21)
  (j22 e20 w21))
  (fun e26 w27 =>
  ifB (e26 != 0)
  (wrM b1 (fun w28 =>
  K ((ApiState.mk 0 Sl.nil Sl.nil), e26) w28) w27)
  (opRd Pr (Instr.loadAt 48 (.pointer (some s10))) ApiState.val (fun t29 =>
  wrM b1 (fun w30 =>
  K (t29, 0) w30) w27) w27))) w18) w15) w12) w11) w7))) w6) w4) w
def snaptwo_Decode_ann : Ann := (.s (.r [(0, .nl 2)]) (.s (.r [(1, .call (rT3 rP (rI .i64) (rI .i64))), (6, .ty rPA), (7, .un)]) (.s (.b (.s .d (.c (.s (.r [(2, .ls 2)]) .d) (.s .d (.c (.s (.r [(1, .ls 2)]) .d) .d))))) (.s (.r [(2, .ty rPA), (3, .un)]) (.s (.r [(0, .rd rP), (2, .call rU)]) (.s (.r [(0, .rd rP), (2, .call rU)]) (.s (.r [(0, .rd rP), (1, .call (rI .i64))]) (.sj [(.s 6, (rI .i64))] (.s .d (.c (.r [(0, .rd rApiState), (1, .call (rI .i64))]) .d)) (.s (.s .d (.c (.s (.r [(2, .ls 2)]) .d) .d)) (.s (.r [(0, .rd rApiState), (1, .ls 2)]) .d))))))))))
theorem snaptwo_Decode_calls {b : Sl} {K : (ApiState × Int) → World → Prop} {w : World} (h : snaptwo_Decode b K w) : callV Pr (tval2 ApiState.val (Value.int .i64)) 39 #[b.val] w K :=
  calls_of Pr_plain Pr_mixed Pr_func39 snaptwo_Decode_ann (rT2 rApiState (rI .i64)) (args := [b.val]) (by kernel_rfl) h

/- changeover/snaptwo.Migrate -/
def snaptwo_Migrate (b : Sl) (K : (Sl × Int) → World → Prop) (w : World) : Prop :=
  callV Pr (tval2 ApiState.val (Value.int .i64)) 33 #[b.val] w fun t1 w2 =>
  newV (fun b3 w4 =>
  wrM b3 (fun w5 =>
  ifB (t1.2 != 0)
  (K (Sl.nil, t1.2) w5)
  (callV Pr (tval2 ApiState.val (Value.int .i64)) 100 #[(.agg ⟨[(.int .i64 t1.1.Schema), t1.1.Pairs.val, t1.1.Sessions.val]⟩)] w5 fun t6 w7 =>
  kp b3 w5 w7 <|
  newV (fun b8 w9 =>
  wrM b8 (fun w10 =>
  ifB (t6.2 != 0)
  (K (Sl.nil, t6.2) w10)
  (callV Pr (tval2 Sl.val (Value.int .i64)) 43 #[(.agg ⟨[(.int .i64 t6.1.Schema), t6.1.Pairs.val, t6.1.Sessions.val]⟩)] w10 fun t11 w12 =>
  kp b8 w10 w12 <|
  kp b3 w10 w12 <|
  K (t11.1, t11.2) w12)) w9) w7)) w4) w2
def snaptwo_Migrate_ann : Ann := (.s .d (.s (.r [(1, .call (rT2 rApiState (rI .i64))), (5, .nl 4), (6, .ls 4)]) (.s (.s .d (.c (.s .d .d) .d)) (.s (.r [(1, .call (rT2 rApiState (rI .i64))), (5, .nl 6), (6, .ls 6)]) (.s (.s .d (.c (.s .d .d) .d)) (.s (.r [(1, .call (rT2 rSl (rI .i64)))]) .d))))))
theorem snaptwo_Migrate_calls {b : Sl} {K : (Sl × Int) → World → Prop} {w : World} (h : snaptwo_Migrate b K w) : callV Pr (tval2 Sl.val (Value.int .i64)) 40 #[b.val] w K :=
  calls_of Pr_plain Pr_mixed Pr_func40 snaptwo_Migrate_ann (rT2 rSl (rI .i64)) (args := [b.val]) (by kernel_rfl) h

/- changeover/changeoverref25.Revs -/
def ref25_Revs (s : ApiState) (schema : Int) (rev : Int) (K : ApiState → World → Prop) (w : World) : Prop :=
  newV (fun b1 w2 =>
  newV (fun b3 w4 =>
  newV (fun b5 w6 =>
  wrM b5 (fun w7 =>
  loop2 (0 : Int) ((ApiState.mk schema Sl.nil s.Sessions) : ApiState) (fun i8 out9 k10 w11 =>
  ifB (decide (i8 < (s.Pairs.len : Int)))
  (opRd Pr (Instr.indexAt 45 s.Pairs.val (.int .i64 i8)) pav (fun t12 =>
  opRd Pr (Instr.loadAt 105 (.pointer (some t12))) ApiPair.val (fun t13 =>
  newV (fun b14 w15 =>
  wrM b14 (fun w16 =>
  wrM b14 (fun w17 =>
  opTy Pr (Instr.buildSlice 45 1 #[(0, (.agg ⟨[(sval t13.Key), (sval t13.Val), (.int .i64 rev)]⟩))]) Sl.val (fun t18 w19 =>
  kp b14 w17 w19 <|
  kp b5 w17 w19 <|
  kp b3 w17 w19 <|
  kp b1 w17 w19 <|
  opTy Pr (Builtin.append_ #[45, 45] 45 #[out9.Pairs.val, t18.val]) Sl.val (fun t20 w21 =>
  kp b14 w19 w21 <|
  kp b5 w19 w21 <|
  kp b3 w19 w21 <|
  kp b1 w19 w21 <|
  wrM b5 (fun w22 =>
  k10 (i64 (i8 + 1)) (ApiState.mk out9.Schema t20 out9.Sessions) w22) w21) w19) w17) w16) w15) w11) w11) w11)
  (wrM b3 (fun w23 =>
  K out9 w23) w11)) w7) w6) w4) w2) w
def ref25_Revs_ann : Ann := (.s (.r [(0, .nl 3), (1, .nl 6)]) (.s (.r [(4, .nl 7), (5, .ls 7)]) (.s (.s .d (.b (.l [(.s 8, (rI .i64)), (.h 7, rApiState)] (.s (.s .d (.c .d .d)) (.s (.b (.s (.r [(3, .rd rPA), (4, .rd rApiPair), (5, .nl 9), (6, .ls 9)]) (.s (.r [(2, .ls 9)]) (.r [(3, .ty rSl), (4, .ty rSl), (6, .ls 7)])))) .d))))) (.s (.r [(1, .ls 6)]) .d))))
theorem ref25_Revs_calls {s : ApiState} {schema : Int} {rev : Int} {K : ApiState → World → Prop} {w : World} (h : ref25_Revs s schema rev K w) : callV Pr ApiState.val 41 #[(.agg ⟨s.cs⟩), (.int .i64 schema), (.int .i64 rev)] w K :=
  calls_of Pr_plain Pr_mixed Pr_func41 ref25_Revs_ann rApiState (args := [(.agg ⟨s.cs⟩), (.int .i64 schema), (.int .i64 rev)]) (by kernel_rfl) h

/- changeover/snaptwo.Put -/
def snaptwo_Put (s : ApiState) (K : (Sl × Int) → World → Prop) (w : World) : Prop :=
  newV (fun b1 w2 =>
  ifB (s.Schema == 1)
  (callV Pr (tval2 Sl.val (Value.int .i64)) 31 #[(.agg ⟨[(.int .i64 s.Schema), s.Pairs.val, s.Sessions.val]⟩)] w2 fun t3 w4 =>
  kp b1 w2 w4 <|
  K (t3.1, t3.2) w4)
  (callV Pr (tval2 Sl.val (Value.int .i64)) 43 #[(.agg ⟨[(.int .i64 s.Schema), s.Pairs.val, s.Sessions.val]⟩)] w2 fun t5 w6 =>
  kp b1 w2 w6 <|
  K (t5.1, t5.2) w6)) w
def snaptwo_Put_ann : Ann := (.s (.r [(0, .nl 1)]) (.s (.s .d (.c (.s (.r [(1, .call (rT2 rSl (rI .i64)))]) .d) .d)) (.s (.r [(1, .call (rT2 rSl (rI .i64)))]) .d)))
theorem snaptwo_Put_calls {s : ApiState} {K : (Sl × Int) → World → Prop} {w : World} (h : snaptwo_Put s K w) : callV Pr (tval2 Sl.val (Value.int .i64)) 42 #[(.agg ⟨s.cs⟩)] w K :=
  calls_of Pr_plain Pr_mixed Pr_func42 snaptwo_Put_ann (rT2 rSl (rI .i64)) (args := [(.agg ⟨s.cs⟩)]) (by kernel_rfl) h

/- changeover/snaptwo.Encode -/
def snaptwo_Encode (s : ApiState) (K : (Sl × Int) → World → Prop) (w : World) : Prop :=
  newV (fun b1 w2 =>
  callV Pr (Value.int .i64) 74 #[(.agg ⟨[(.int .i64 s.Schema), s.Pairs.val, s.Sessions.val]⟩)] w2 fun e3 w4 =>
  kp b1 w2 w4 <|
  ifB (e3 != 0)
  (K (Sl.nil, e3) w4)
  (ifB (s.Schema != 2)
  (K (Sl.nil, 8) w4)
  (opTy Pr (Instr.box 102 (.agg ⟨[Sl.nil.val]⟩)) pav (fun w5 w6 =>
  kp b1 w4 w6 <|
  callV Pr uval 75 #[(.pointer (some w5)), (.int .i64 2)] w6 fun t7 w8 =>
  kp b1 w6 w8 <|
  callV Pr uval 75 #[(.pointer (some w5)), (.int .i64 (s.Pairs.len : Int))] w8 fun t9 w10 =>
  kp b1 w8 w10 <|
  loop1 (0 : Int) (fun t11 k12 w13 =>
  ifB (decide (t11 < (s.Pairs.len : Int)))
  (opRd Pr (Instr.indexAt 45 s.Pairs.val (.int .i64 t11)) pav (fun t14 =>
  opRd Pr (Instr.loadAt 105 (.pointer (some t14))) ApiPair.val (fun t15 =>
  newV (fun b16 w17 =>
  wrM b16 (fun w18 =>
  callV Pr uval 76 #[(.pointer (some w5)), (sval t15.Key)] w18 fun t19 w20 =>
  kp b16 w18 w20 <|
  kp b1 w18 w20 <|
  callV Pr uval 75 #[(.pointer (some w5)), (.int .i64 t15.Rev)] w20 fun t21 w22 =>
  kp b16 w20 w22 <|
  kp b1 w20 w22 <|
  callV Pr uval 76 #[(.pointer (some w5)), (sval t15.Val)] w22 fun t23 w24 =>
  kp b16 w22 w24 <|
  kp b1 w22 w24 <|
  k12 (i64 (t11 + 1)) w24) w17) w13) w13) w13)
  (callV Pr uval 75 #[(.pointer (some w5)), (.int .i64 (s.Sessions.len : Int))] w13 fun t25 w26 =>
  kp b1 w13 w26 <|
  loop1 (0 : Int) (fun t27 k28 w29 =>
  ifB (decide (t27 < (s.Sessions.len : Int)))
  (opRd Pr (Instr.indexAt 46 s.Sessions.val (.int .i64 t27)) pav (fun t30 =>
  opRd Pr (Instr.loadAt 110 (.pointer (some t30))) ApiSession.val (fun t31 =>
  newV (fun b32 w33 =>
  wrM b32 (fun w34 =>
  callV Pr uval 77 #[(.pointer (some w5)), (.int .i64 2), (.agg ⟨[(.int .i64 t31.Last.Client), (.int .i64 t31.Last.Seq), (.int .i64 t31.Last.Err), (.bool t31.Last.Found), (sval t31.Last.Val), (.int .i64 t31.Last.Rev)]⟩)] w34 fun t35 w36 =>
  kp b32 w34 w36 <|
  kp b1 w34 w36 <|
  k28 (i64 (t27 + 1)) w36) w33) w29) w29) w29)
  (callV Pr Sl.val 78 #[(.pointer (some w5))] w29 fun t37 w38 =>
  kp b1 w29 w38 <|
  K (t37, 0) w38)) w26)) w10) w4))) w
def snaptwo_Encode_ann : Ann := (.s (.r [(0, .nl 1)]) (.s (.s (.r [(1, .call (rI .i64))]) (.s .d (.c (.s .d .d) .d))) (.s (.s .d (.c (.s .d .d) .d)) (.s (.r [(1, .ty rPA)]) (.s (.r [(1, .call rU)]) (.s (.r [(4, .call rU)]) (.s (.s .d (.b (.l [(.s 30, (rI .i64))] (.s .d (.s (.c .d .d) (.s (.b (.s (.r [(0, .rd rPA), (1, .rd rApiPair), (2, .nl 7), (3, .ls 7)]) (.s (.r [(3, .call rU)]) (.s (.r [(3, .call rU)]) (.r [(3, .call rU)]))))) .d)))))) (.s (.r [(4, .call rU)]) (.s (.s .d (.b (.l [(.s 55, (rI .i64))] (.s .d (.s (.c .d .d) (.s (.b (.s (.r [(0, .rd rPA), (1, .rd rApiSession), (2, .nl 9), (3, .ls 9)]) (.r [(3, .call rU)]))) .d)))))) (.s (.r [(1, .call rSl)]) .d))))))))))
theorem snaptwo_Encode_calls {s : ApiState} {K : (Sl × Int) → World → Prop} {w : World} (h : snaptwo_Encode s K w) : callV Pr (tval2 Sl.val (Value.int .i64)) 43 #[(.agg ⟨s.cs⟩)] w K :=
  calls_of Pr_plain Pr_mixed Pr_func43 snaptwo_Encode_ann (rT2 rSl (rI .i64)) (args := [(.agg ⟨s.cs⟩)]) (by kernel_rfl) h

/- changeover/msgone.Decode -/
def msgone_Decode (b : Sl) (K : (ApiMsg × Int) → World → Prop) (w : World) : Prop :=
  newV (fun b1 w2 =>
  callV Pr Value.pointer 81 #[b.val] w2 fun r3 w4 =>
  kp b1 w2 w4 <|
  callV Pr ApiMsg.val 101 #[(.pointer r3)] w4 fun t5 w6 =>
  kp b1 w4 w6 <|
  newV (fun b7 w8 =>
  wrM b7 (fun w9 =>
  callV Pr (Value.int .i64) 90 #[(.pointer r3)] w9 fun e10 w11 =>
  kp b7 w9 w11 <|
  kp b1 w9 w11 <|
  join1 (fun (j12 : Int → World → Prop) =>
  ifB (e10 == 0)
  (callV Pr (Value.int .i64) 25 #[(.agg ⟨[(.int .i64 t5.Kind), (.int .i64 t5.From), (.int .i64 t5.To), (.int .i64 t5.Ballot.Round), (.int .i64 t5.Ballot.Node), (.int .i64 t5.Index), (.int .i64 t5.Commit), (.int .i64 t5.Version), t5.Entries.val, t5.Image.val]⟩)] w11 fun e13 w14 =>
  kp b7 w11 w14 <|
  kp b1 w11 w14 <|
  j12 e13 w14)
  (j12 e10 w11))
  (fun e15 w16 =>
  join1 (fun (j17 : Int → World → Prop) =>
  ifB (e15 == 0)
  (callV Pr Value.bool 102 #[(.agg ⟨[(.int .i64 t5.Kind), (.int .i64 t5.From), (.int .i64 t5.To), (.int .i64 t5.Ballot.Round), (.int .i64 t5.Ballot.Node), (.int .i64 t5.Index), (.int .i64 t5.Commit), (.int .i64 t5.Version), t5.Entries.val, t5.Image.val]⟩)] w16 fun t18 w19 =>
  kp b7 w16 w19 <|
  kp b1 w16 w19 <|
  ifB (!t18)
  (j17 8 w19)
  (j17 e15 w19))
  (j17 e15 w16))
  (fun e20 w21 =>
  ifB (e20 != 0)
  (wrM b1 (fun w22 =>
  K ((ApiMsg.mk 0 0 0 (ApiBallot.mk 0 0) 0 0 0 Sl.nil Sl.nil), e20) w22) w21)
  (wrM b1 (fun w23 =>
  K (t5, 0) w23) w21)))) w8) w6) w
def msgone_Decode_ann : Ann := (.s (.r [(0, .nl 2)]) (.s (.r [(1, .call rP)]) (.s (.r [(1, .call rApiMsg), (2, .nl 5), (3, .ls 5)]) (.s (.r [(1, .call (rI .i64))]) (.sj [(.s 6, (rI .i64))] (.s .d (.c (.r [(1, .call (rI .i64))]) .d)) (.sj [(.s 6, (rI .i64))] (.s (.r [(4, .call rB)]) (.c .d .d)) (.s (.s .d (.c (.s (.r [(2, .ls 2)]) .d) .d)) (.s (.r [(1, .ls 2)]) .d))))))))
theorem msgone_Decode_calls {b : Sl} {K : (ApiMsg × Int) → World → Prop} {w : World} (h : msgone_Decode b K w) : callV Pr (tval2 ApiMsg.val (Value.int .i64)) 44 #[b.val] w K :=
  calls_of Pr_plain Pr_mixed Pr_func44 msgone_Decode_ann (rT2 rApiMsg (rI .i64)) (args := [b.val]) (by kernel_rfl) h

/- changeover/changeoverref13.Older -/
def ref13_Older (m : ApiMsg) (K : Int → World → Prop) (w : World) : Prop :=
  newV (fun b1 w2 =>
  callV Pr (Value.int .i64) 26 #[(.agg ⟨[(.int .i64 m.Kind), (.int .i64 m.From), (.int .i64 m.To), (.int .i64 m.Ballot.Round), (.int .i64 m.Ballot.Node), (.int .i64 m.Index), (.int .i64 m.Commit), (.int .i64 m.Version), m.Entries.val, m.Image.val]⟩)] w2 fun e3 w4 =>
  kp b1 w2 w4 <|
  ifB (e3 != 0)
  (K e3 w4)
  (ifB (m.Version == 2)
  (K 8 w4)
  (callV Pr Value.bool 103 #[(.int .i64 1), m.Entries.val] w4 fun t5 w6 =>
  kp b1 w4 w6 <|
  ifB (!t5)
  (K 8 w6)
  (K 0 w6)))) w
def ref13_Older_ann : Ann := (.s (.r [(0, .nl 1)]) (.s (.s (.r [(1, .call (rI .i64))]) (.s .d (.c (.s .d .d) .d))) (.s (.s (.r [(6, .call rB)]) (.c (.s .d .d) .d)) (.s .d .d))))
theorem ref13_Older_calls {m : ApiMsg} {K : Int → World → Prop} {w : World} (h : ref13_Older m K w) : callV Pr (Value.int .i64) 45 #[(.agg ⟨m.cs⟩)] w K :=
  calls_of Pr_plain Pr_mixed Pr_func45 ref13_Older_ann (rI .i64) (args := [(.agg ⟨m.cs⟩)]) (by kernel_rfl) h

/- changeover/changeoverref13.Bytes -/
def ref13_Bytes (m : ApiMsg) (K : Sl → World → Prop) (w : World) : Prop :=
  newV (fun b1 w2 =>
  opTy Pr (Instr.buildSlice 133 7 #[(0, (.int .i64 m.Kind)), (1, (.int .i64 m.From)), (2, (.int .i64 m.To)), (3, (.int .i64 m.Ballot.Round)), (4, (.int .i64 m.Ballot.Node)), (5, (.int .i64 m.Index)), (6, (.int .i64 m.Commit))]) Sl.val (fun l3 w4 =>
  kp b1 w2 w4 <|
  loop2 (Sl.nil : Sl) (0 : Int) (fun out5 i6 k7 w8 =>
  ifB (decide (i6 < (l3.len : Int)))
  (opRd Pr (Instr.indexAt 133 l3.val (.int .i64 i6)) pav (fun t9 =>
  opRd Pr (Instr.loadAt 3 (.pointer (some t9))) (Value.int .i64) (fun t10 =>
  callV Pr Sl.val 91 #[(.int .i64 t10)] w8 fun t11 w12 =>
  kp b1 w8 w12 <|
  opTy Pr (Builtin.append_ #[39, 39] 39 #[out5.val, t11.val]) Sl.val (fun out13 w14 =>
  kp b1 w12 w14 <|
  k7 out13 (i64 (i6 + 1)) w14) w12) w8) w8)
  (callV Pr Sl.val 104 #[(.int .i64 1), m.Entries.val] w8 fun t15 w16 =>
  kp b1 w8 w16 <|
  opTy Pr (Builtin.append_ #[39, 39] 39 #[out5.val, t15.val]) Sl.val (fun out17 w18 =>
  kp b1 w16 w18 <|
  callV Pr Sl.val 91 #[(.int .i64 (m.Image.len : Int))] w18 fun t19 w20 =>
  kp b1 w18 w20 <|
  opTy Pr (Builtin.append_ #[39, 39] 39 #[out17.val, t19.val]) Sl.val (fun out21 w22 =>
  kp b1 w20 w22 <|
  opTy Pr (Builtin.append_ #[39, 39] 39 #[out21.val, m.Image.val]) Sl.val (fun t23 w24 =>
  kp b1 w22 w24 <|
  K t23 w24) w22) w20) w16)) w4) w2) w
def ref13_Bytes_ann : Ann := (.s (.r [(0, .nl 1)]) (.s (.r [(16, .ty rSl)]) (.s .d (.s (.s .d (.b (.l [(.s 4, rSl), (.s 5, (rI .i64))] (.s (.s .d (.c .d .d)) (.s (.b (.r [(3, .rd rPA), (4, .rd (rI .i64)), (5, .call rSl), (6, .ty rSl)])) .d))))) (.s (.r [(3, .call rSl), (4, .ty rSl)]) (.s (.r [(4, .call rSl), (5, .ty rSl)]) (.s (.r [(3, .ty rSl)]) .d)))))))
theorem ref13_Bytes_calls {m : ApiMsg} {K : Sl → World → Prop} {w : World} (h : ref13_Bytes m K w) : callV Pr Sl.val 46 #[(.agg ⟨m.cs⟩)] w K :=
  calls_of Pr_plain Pr_mixed Pr_func46 ref13_Bytes_ann rSl (args := [(.agg ⟨m.cs⟩)]) (by kernel_rfl) h

/- (*strings.Builder).WriteByte -/
def strings_Builder_WriteByte (b : Option Addr) (c : Int) (K : Value → World → Prop) (w : World) : Prop :=
  callV Pr uval 105 #[(.pointer b)] w fun t1 w2 =>
  opRd Pr (nilSem (.pointer b)) pav (fun t3 =>
  opRd Pr (Instr.loadAt 39 (.pointer (some (t3.add 1)))) Sl.val (fun t4 =>
  opTy Pr (Instr.buildSlice 39 1 #[(0, (.int .u8 c))]) Sl.val (fun t5 w6 =>
  opTy Pr (Builtin.append_ #[39, 39] 39 #[t4.val, t5.val]) Sl.val (fun t7 w8 =>
  opRd Pr (nilSem (.pointer b)) pav (fun t9 =>
  opUn Pr (Instr.storeAt 39 (.pointer (some (t9.add 1))) t7.val) (fun w10 =>
  K .nilIface w10) w8) w8) w6) w2) w2) w2
def strings_Builder_WriteByte_ann : Ann := (.s .d (.s (.r [(1, .call rU)]) (.s (.r [(2, .rd rPA), (4, .rd rSl), (6, .ty rSl), (7, .ty rSl), (8, .rd rPA), (10, .un)]) (.s .d .d))))
theorem strings_Builder_WriteByte_calls {b : Option Addr} {c : Int} {K : Value → World → Prop} {w : World} (h : strings_Builder_WriteByte b c K w) : callV Pr vval 47 #[(.pointer b), (.int .u8 c)] w K :=
  calls_of Pr_plain Pr_mixed Pr_func47 strings_Builder_WriteByte_ann rV (args := [(.pointer b), (.int .u8 c)]) (by kernel_rfl) h

/- unicode/utf8.DecodeRuneInString -/
def unicode_utf8_DecodeRuneInString (s : List UInt8) (K : (Int × Int) → World → Prop) (w : World) : Prop :=
  ifB (!(strEq s []))
  (opRd Pr (Instr.index 9 (sval s) (.int .i64 0)) (Value.int .u8) (fun t1 =>
  ifB (decide (t1 < 128))
  (opRd Pr (Instr.index 9 (sval s) (.int .i64 0)) (Value.int .u8) (fun t2 =>
  K ((IntKind.i32.wrap t2), 1) w) w)
  (callV Pr (tval2 (Value.int .i32) (Value.int .i64)) 106 #[(sval s)] w fun t3 w4 =>
  K (t3.1, t3.2) w4)) w)
  (callV Pr (tval2 (Value.int .i32) (Value.int .i64)) 106 #[(sval s)] w fun t5 w6 =>
  K (t5.1, t5.2) w6)
def unicode_utf8_DecodeRuneInString_ann : Ann := (.s .d (.s (.s (.r [(4, .rd (rI .u8))]) (.c (.s (.r [(1, .rd (rI .u8))]) .d) (.r [(1, .call (rT2 (rI .i32) (rI .i64)))]))) .d))
theorem unicode_utf8_DecodeRuneInString_calls {s : List UInt8} {K : (Int × Int) → World → Prop} {w : World} (h : unicode_utf8_DecodeRuneInString s K w) : callV Pr (tval2 (Value.int .i32) (Value.int .i64)) 48 #[(sval s)] w K :=
  calls_of Pr_plain Pr_mixed Pr_func48 unicode_utf8_DecodeRuneInString_ann (rT2 (rI .i32) (rI .i64)) (args := [(sval s)]) (by kernel_rfl) h

/- (*strings.Builder).WriteString -/
def strings_Builder_WriteString (b : Option Addr) (s : List UInt8) (K : (Int × Value) → World → Prop) (w : World) : Prop :=
  callV Pr uval 105 #[(.pointer b)] w fun t1 w2 =>
  opRd Pr (nilSem (.pointer b)) pav (fun t3 =>
  opRd Pr (Instr.loadAt 39 (.pointer (some (t3.add 1)))) Sl.val (fun t4 =>
  opTy Pr (Builtin.append_ #[39, 9] 39 #[t4.val, (sval s)]) Sl.val (fun t5 w6 =>
  opRd Pr (nilSem (.pointer b)) pav (fun t7 =>
  opUn Pr (Instr.storeAt 39 (.pointer (some (t7.add 1))) t5.val) (fun w8 =>
  K (((s : List UInt8).length : Int), .nilIface) w8) w6) w6) w2) w2) w2
def strings_Builder_WriteString_ann : Ann := (.s .d (.s (.r [(1, .call rU)]) (.s (.r [(2, .rd rPA), (4, .rd rSl), (6, .ty rSl), (7, .rd rPA), (9, .un)]) (.s .d .d))))
theorem strings_Builder_WriteString_calls {b : Option Addr} {s : List UInt8} {K : (Int × Value) → World → Prop} {w : World} (h : strings_Builder_WriteString b s K w) : callV Pr (tval2 (Value.int .i64) vval) 49 #[(.pointer b), (sval s)] w K :=
  calls_of Pr_plain Pr_mixed Pr_func49 strings_Builder_WriteString_ann (rT2 (rI .i64) rV) (args := [(.pointer b), (sval s)]) (by kernel_rfl) h

/- changeover/quote.escape -/
def quote_escape (r : Int) (s : List UInt8) (K : (List UInt8) → World → Prop) (w : World) : Prop :=
  join1 (fun (j1 : Bool → World → Prop) =>
  ifB (r == 34)
  (j1 (r == 34) w)
  (j1 (r == 92) w))
  (fun t2 w3 =>
  ifB t2
  (opRd Pr (binSem .add 9 (.const (sval [92])) (.tmp 10) (sval [92]) (sval s)) sval (fun t4 =>
  K t4 w3) w3)
  (ifB (decide (r < 32))
  (ifB (decide (r < 32))
  (opRd Pr (Instr.index 9 (sval s) (.int .i64 0)) (Value.int .u8) (fun t5 =>
  callV Pr sval 107 #[(.int .u8 t5)] w3 fun t6 w7 =>
  K t6 w7) w3)
  (K s w3))
  (ifB (r == 127)
  (ifB (r == 127)
  (opRd Pr (Instr.index 9 (sval s) (.int .i64 0)) (Value.int .u8) (fun t8 =>
  callV Pr sval 107 #[(.int .u8 t8)] w3 fun t9 w10 =>
  K t9 w10) w3)
  (K s w3))
  (ifB (r == 65533)
  (ifB (((s : List UInt8).length : Int) == 1)
  (opRd Pr (Instr.index 9 (sval s) (.int .i64 0)) (Value.int .u8) (fun t11 =>
  callV Pr sval 107 #[(.int .u8 t11)] w3 fun t12 w13 =>
  K t12 w13) w3)
  (K s w3))
  (K s w3)))))
def quote_escape_ann : Ann := (.s .d (.s (.b (.sj [(.s 5, rB)] (.s .d (.c .d .d)) (.c (.s (.r [(1, .rd rS)]) .d) (.s (.s .d (.c .d (.s .d (.c .d .d)))) (.c (.s (.r [(1, .rd (rI .u8)), (2, .call rS)]) .d) .d))))) (.s .d .d)))
theorem quote_escape_calls {r : Int} {s : List UInt8} {K : (List UInt8) → World → Prop} {w : World} (h : quote_escape r s K w) : callV Pr sval 50 #[(.int .i32 r), (sval s)] w K :=
  calls_of Pr_plain Pr_mixed Pr_func50 quote_escape_ann rS (args := [(.int .i32 r), (sval s)]) (by kernel_rfl) h

/- (*strings.Builder).String -/
def strings_Builder_String (b : Option Addr) (K : (List UInt8) → World → Prop) (w : World) : Prop :=
  heldM (fun S2 w1 =>
  opH Pr S2 (nilSem (.pointer b)) pav (fun t3 =>
  opH Pr S2 (Instr.loadAt 39 (.pointer (some (t3.add 1)))) Sl.val (fun t4 =>
  opH Pr S2 (Builtin.unsafeSliceData_ #[39] 136 #[t4.val]) Value.pointer (fun t5 =>
  opH Pr S2 (nilSem (.pointer b)) pav (fun t6 =>
  opH Pr S2 (Instr.loadAt 39 (.pointer (some (t6.add 1)))) Sl.val (fun t7 =>
  opTy Pr (Builtin.unsafeString_ #[136, 3] 9 #[(.pointer t5), (.int .i64 (t7.len : Int))]) sval (fun t8 w9 =>
  (S2 w9) ∧
  (K t8 w9)) w1)))))) w
def strings_Builder_String_ann : Ann := (.s .d (.s (.h (.take 0 (.take 1 (.take 2 (.take 3 (.take 4 (.take 5 (.take 6 (.take 7 (.take 8 (.take 9 (.one 10 (.take 11 .done)))))))))))) [(1, .rd rPA), (3, .rd rSl), (4, .rd rP), (6, .rd rPA), (8, .rd rSl), (10, .ty rS)]) .d))
theorem strings_Builder_String_calls {b : Option Addr} {K : (List UInt8) → World → Prop} {w : World} (h : strings_Builder_String b K w) : callV Pr sval 51 #[(.pointer b)] w K :=
  calls_of Pr_plain Pr_mixed Pr_func51 strings_Builder_String_ann rS (args := [(.pointer b)]) (by kernel_rfl) h

/- changeover/quote.unescape -/
def quote_unescape (s : List UInt8) (K : (Int × Int) → World → Prop) (w : World) : Prop :=
  ifB (!(strEq s []))
  (opRd Pr (Instr.index 9 (sval s) (.int .i64 0)) (Value.int .u8) (fun t1 =>
  ifB (t1 == 34)
  (opRd Pr (Instr.index 9 (sval s) (.int .i64 0)) (Value.int .u8) (fun t2 =>
  K (t2, 1) w) w)
  (opRd Pr (Instr.index 9 (sval s) (.int .i64 0)) (Value.int .u8) (fun t3 =>
  ifB (t3 == 92)
  (opRd Pr (Instr.index 9 (sval s) (.int .i64 0)) (Value.int .u8) (fun t4 =>
  K (t4, 1) w) w)
  (ifB (decide (((s : List UInt8).length : Int) > 2))
  (opRd Pr (Instr.index 9 (sval s) (.int .i64 0)) (Value.int .u8) (fun t5 =>
  ifB (t5 == 120)
  (opRd Pr (Instr.index 9 (sval s) (.int .i64 1)) (Value.int .u8) (fun t6 =>
  callV Pr (Value.int .i64) 108 #[(.int .u8 t6)] w fun t7 w8 =>
  ifB (decide (t7 ≥ 0))
  (opRd Pr (Instr.index 9 (sval s) (.int .i64 2)) (Value.int .u8) (fun t9 =>
  callV Pr (Value.int .i64) 108 #[(.int .u8 t9)] w8 fun t10 w11 =>
  ifB (decide (t10 ≥ 0))
  (heldM (fun S13 w12 =>
  opH Pr S13 (Instr.index 9 (sval s) (.int .i64 1)) (Value.int .u8) (fun t14 =>
  opH Pr S13 (Instr.index 9 (sval s) (.int .i64 2)) (Value.int .u8) (fun t15 =>
  callV Pr (Value.int .i64) 108 #[(.int .u8 t14)] w12 fun t16 w17 =>
  (S13 w17) ∧
  (callV Pr (Value.int .i64) 108 #[(.int .u8 t15)] w17 fun t18 w19 =>
  (S13 w19) ∧
  (K ((IntKind.u8.wrap (bOr .i64 (shL .i64 t16 4) t18)), 3) w19))))) w11)
  (K (0, 0) w11)) w8)
  (K (0, 0) w8)) w)
  (K (0, 0) w)) w)
  (K (0, 0) w))) w)) w)
  (ifB (decide (((s : List UInt8).length : Int) > 2))
  (opRd Pr (Instr.index 9 (sval s) (.int .i64 0)) (Value.int .u8) (fun t20 =>
  ifB (t20 == 120)
  (opRd Pr (Instr.index 9 (sval s) (.int .i64 1)) (Value.int .u8) (fun t21 =>
  callV Pr (Value.int .i64) 108 #[(.int .u8 t21)] w fun t22 w23 =>
  ifB (decide (t22 ≥ 0))
  (opRd Pr (Instr.index 9 (sval s) (.int .i64 2)) (Value.int .u8) (fun t24 =>
  callV Pr (Value.int .i64) 108 #[(.int .u8 t24)] w23 fun t25 w26 =>
  ifB (decide (t25 ≥ 0))
  (heldM (fun S28 w27 =>
  opH Pr S28 (Instr.index 9 (sval s) (.int .i64 1)) (Value.int .u8) (fun t29 =>
  opH Pr S28 (Instr.index 9 (sval s) (.int .i64 2)) (Value.int .u8) (fun t30 =>
  callV Pr (Value.int .i64) 108 #[(.int .u8 t29)] w27 fun t31 w32 =>
  (S28 w32) ∧
  (callV Pr (Value.int .i64) 108 #[(.int .u8 t30)] w32 fun t33 w34 =>
  (S28 w34) ∧
  (K ((IntKind.u8.wrap (bOr .i64 (shL .i64 t31 4) t33)), 3) w34))))) w26)
  (K (0, 0) w26)) w23)
  (K (0, 0) w23)) w)
  (K (0, 0) w)) w)
  (K (0, 0) w))
def quote_unescape_ann : Ann := (.s .d (.s (.b (.s (.r [(4, .rd (rI .u8)), (8, .rd (rI .u8))]) (.c (.s (.r [(1, .rd (rI .u8))]) .d) (.s (.r [(5, .rd (rI .u8)), (10, .rd (rI .u8)), (11, .call (rI .i64)), (16, .rd (rI .u8)), (17, .call (rI .i64))]) (.c (.s (.h (.take 0 (.take 1 (.take 4 (.take 5 (.one 2 (.take 3 (.one 6 (.take 7 (.take 8 (.take 9 (.take 10 .done))))))))))) [(1, .rd (rI .u8)), (2, .call (rI .i64)), (5, .rd (rI .u8)), (6, .call (rI .i64))]) .d) .d))))) (.s .d .d)))
theorem quote_unescape_calls {s : List UInt8} {K : (Int × Int) → World → Prop} {w : World} (h : quote_unescape s K w) : callV Pr (tval2 (Value.int .u8) (Value.int .i64)) 52 #[(sval s)] w K :=
  calls_of Pr_plain Pr_mixed Pr_func52 quote_unescape_ann (rT2 (rI .u8) (rI .i64)) (args := [(sval s)]) (by kernel_rfl) h

/- changeover/changeoverref05.Size -/
def ref05_Size (s : List UInt8) (i : Int) (K : (Int × Int) → World → Prop) (w : World) : Prop :=
  opRd Pr (Instr.index 9 (sval s) (.int .i64 i)) (Value.int .u8) (fun t1 =>
  join3 (fun (j2 : Int → Int → Int → World → Prop) =>
  ifB (decide ((IntKind.i64.wrap t1) < 128))
  (K (1, (IntKind.i64.wrap t1)) w)
  (ifB (decide ((IntKind.i64.wrap t1) ≥ 194))
  (ifB (decide ((IntKind.i64.wrap t1) ≤ 223))
  (j2 2 128 (i64 ((IntKind.i64.wrap t1) - 192)) w)
  (ifB (decide ((IntKind.i64.wrap t1) ≥ 224))
  (ifB (decide ((IntKind.i64.wrap t1) ≤ 239))
  (j2 3 2048 (i64 ((IntKind.i64.wrap t1) - 224)) w)
  (ifB (decide ((IntKind.i64.wrap t1) ≥ 240))
  (ifB (decide ((IntKind.i64.wrap t1) ≤ 244))
  (j2 4 65536 (i64 ((IntKind.i64.wrap t1) - 240)) w)
  (K (0, 0) w))
  (K (0, 0) w)))
  (ifB (decide ((IntKind.i64.wrap t1) ≥ 240))
  (ifB (decide ((IntKind.i64.wrap t1) ≤ 244))
  (j2 4 65536 (i64 ((IntKind.i64.wrap t1) - 240)) w)
  (K (0, 0) w))
  (K (0, 0) w))))
  (ifB (decide ((IntKind.i64.wrap t1) ≥ 224))
  (ifB (decide ((IntKind.i64.wrap t1) ≤ 239))
  (j2 3 2048 (i64 ((IntKind.i64.wrap t1) - 224)) w)
  (ifB (decide ((IntKind.i64.wrap t1) ≥ 240))
  (ifB (decide ((IntKind.i64.wrap t1) ≤ 244))
  (j2 4 65536 (i64 ((IntKind.i64.wrap t1) - 240)) w)
  (K (0, 0) w))
  (K (0, 0) w)))
  (ifB (decide ((IntKind.i64.wrap t1) ≥ 240))
  (ifB (decide ((IntKind.i64.wrap t1) ≤ 244))
  (j2 4 65536 (i64 ((IntKind.i64.wrap t1) - 240)) w)
  (K (0, 0) w))
  (K (0, 0) w)))))
  (fun n3 low4 v5 w6 =>
  ifB (decide ((i64 (i + n3)) > ((s : List UInt8).length : Int)))
  (K (0, 0) w6)
  (loop2 (v5 : Int) (1 : Int) (fun v7 k8 k9 w10 =>
  ifB (decide (k8 < n3))
  (opRd Pr (Instr.index 9 (sval s) (.int .i64 (i64 (i + k8)))) (Value.int .u8) (fun t11 =>
  ifB (decide ((IntKind.i64.wrap t11) < 128))
  (K (0, 0) w10)
  (ifB (decide ((IntKind.i64.wrap t11) > 191))
  (K (0, 0) w10)
  (k9 (i64 ((i64 ((i64 (64 * v7)) + (IntKind.i64.wrap t11))) - 128)) (i64 (k8 + 1)) w10))) w10)
  (ifB (decide (v7 < low4))
  (K (0, 0) w10)
  (ifB (decide (v7 > 1114111))
  (K (0, 0) w10)
  (ifB (decide (v7 ≥ 55296))
  (ifB (decide (v7 ≤ 57343))
  (K (0, 0) w10)
  (K (n3, v7) w10))
  (K (n3, v7) w10))))) w6))) w
def ref05_Size_ann : Ann := (.s .d (.s (.r [(2, .rd (rI .u8))]) (.s .d (.sj [(.s 7, (rI .i64)), (.s 8, (rI .i64)), (.s 9, (rI .i64))] (.b (.s .d (.c (.s .d .d) (.s .d (.c .d (.s .d (.c .d (.s .d (.c .d (.s .d .d)))))))))) (.s (.s .d (.c (.s .d .d) .d)) (.s (.s .d (.b (.l [(.s 9, (rI .i64)), (.s 10, (rI .i64))] (.s (.s .d (.c .d .d)) (.s (.b (.s (.r [(4, .rd (rI .u8))]) (.s (.s .d (.c (.s .d .d) .d)) .d))) .d))))) (.s (.s .d (.c (.s .d .d) .d)) (.s .d .d))))))))
theorem ref05_Size_calls {s : List UInt8} {i : Int} {K : (Int × Int) → World → Prop} {w : World} (h : ref05_Size s i K w) : callV Pr (tval2 (Value.int .i64) (Value.int .i64)) 53 #[(sval s), (.int .i64 i)] w K :=
  calls_of Pr_plain Pr_mixed Pr_func53 ref05_Size_ann (rT2 (rI .i64) (rI .i64)) (args := [(sval s), (.int .i64 i)]) (by kernel_rfl) h

/- changeover/changeoverref06.value -/
def ref06_value (c : Int) (K : Int → World → Prop) (w : World) : Prop :=
  join0 (fun (j1 : World → Prop) =>
  ifB (decide (c ≥ 48))
  (ifB (decide (c ≤ 57))
  (K (i64 ((IntKind.i64.wrap c) - 48)) w)
  (j1 w))
  (j1 w))
  (fun w2 =>
  ifB (decide (c ≥ 97))
  (ifB (decide (c ≤ 102))
  (K (i64 ((i64 ((IntKind.i64.wrap c) - 97)) + 10)) w2)
  (K (-1) w2))
  (K (-1) w2))
def ref06_value_ann : Ann := (.s .d (.sj [] (.s .d (.c (.s .d .d) .d)) (.s (.s .d (.c (.s .d .d) .d)) (.s .d .d))))
theorem ref06_value_calls {c : Int} {K : Int → World → Prop} {w : World} (h : ref06_value c K w) : callV Pr (Value.int .i64) 54 #[(.int .u8 c)] w K :=
  calls_of Pr_plain Pr_mixed Pr_func54 ref06_value_ann (rI .i64) (args := [(.int .u8 c)]) (by kernel_rfl) h

/- changeover/quote.word -/
def quote_word (line : List UInt8) (K : ((List UInt8) × Bool) → World → Prop) (w : World) : Prop :=
  join0 (fun (j1 : World → Prop) =>
  ifB (!(strEq line []))
  (opRd Pr (Instr.index 9 (sval line) (.int .i64 0)) (Value.int .u8) (fun t2 =>
  ifB (t2 == 34)
  (callV Pr (Value.int .i64) 109 #[(sval line)] w fun n3 w4 =>
  opRd Pr (Instr.sliceAt 9 (sval line) none (some (.int .i64 n3)) none) sval (fun t5 =>
  callV Pr (tval2 sval (Value.int .i64)) 16 #[(sval t5)] w4 fun t6 w7 =>
  opRd Pr (Instr.sliceAt 9 (sval line) none (some (.int .i64 n3)) none) sval (fun t8 =>
  K (t8, (t6.2 == 0)) w7) w7) w4)
  (j1 w)) w)
  (j1 w))
  (fun w9 =>
  callV Pr (tval3 sval sval Value.bool) 110 #[(sval line), (sval [32])] w9 fun t10 w11 =>
  opTy Pr (convert 9 39 (sval t10.1)) Sl.val (fun t12 w13 =>
  loop1 (0 : Int) (fun t14 k15 w16 =>
  ifB (decide (t14 < (t12.len : Int)))
  (opRd Pr (Instr.indexAt 39 t12.val (.int .i64 t14)) pav (fun t17 =>
  opRd Pr (Instr.loadAt 5 (.pointer (some t17))) (Value.int .u8) (fun c18 =>
  ifB (decide (c18 < 32))
  (K ([], false) w16)
  (k15 (i64 (t14 + 1)) w16)) w16) w16)
  (K (t10.1, (!(strEq t10.1 []))) w16)) w13) w11)
def quote_word_ann : Ann := (.s .d (.sj [] (.s (.r [(4, .rd (rI .u8))]) (.c (.s (.r [(1, .call (rI .i64))]) (.s (.r [(2, .rd rS), (3, .call (rT2 rS (rI .i64)))]) (.s (.r [(2, .rd rS)]) .d))) .d)) (.s (.r [(1, .call (rT3 rS rS rB))]) (.s (.s (.r [(1, .ty rSl)]) (.b (.l [(.s 42, (rI .i64))] (.s .d (.s (.c .d .d) (.s (.b (.s (.r [(0, .rd rPA), (1, .rd (rI .u8))]) (.s .d (.c (.s .d .d) .d)))) .d)))))) (.s .d .d)))))
theorem quote_word_calls {line : List UInt8} {K : ((List UInt8) × Bool) → World → Prop} {w : World} (h : quote_word line K w) : callV Pr (tval2 sval Value.bool) 55 #[(sval line)] w K :=
  calls_of Pr_plain Pr_mixed Pr_func55 quote_word_ann (rT2 rS rB) (args := [(sval line)]) (by kernel_rfl) h

/- strings.Join -/
def strings_Join (elems : Sl) (sep : List UInt8) (K : (List UInt8) → World → Prop) (w : World) : Prop :=
  ifB ((elems.len : Int) == 0)
  (K [] w)
  (ifB ((elems.len : Int) == 1)
  (opRd Pr (Instr.indexAt 30 elems.val (.int .i64 0)) pav (fun t1 =>
  opRd Pr (Instr.loadAt 9 (.pointer (some t1))) sval (fun t2 =>
  K t2 w) w) w)
  (join1 (fun (j3 : Int → World → Prop) =>
  ifB (decide (((sep : List UInt8).length : Int) > 0))
  (opRd Pr (binSem .quo 3 (.const (.int .i64 9223372036854775807)) (.tmp 27) (.int .i64 9223372036854775807) (.int .i64 (i64 ((elems.len : Int) - 1)))) (Value.int .i64) (fun t4 =>
  ifB (decide (((sep : List UInt8).length : Int) ≥ t4))
  (False)
  (j3 (i64 (0 + (i64 (((sep : List UInt8).length : Int) * (i64 ((elems.len : Int) - 1)))))) w)) w)
  (j3 0 w))
  (fun n5 w6 =>
  loop2 (n5 : Int) (0 : Int) (fun n7 t8 k9 w10 =>
  ifB (decide (t8 < (elems.len : Int)))
  (opRd Pr (Instr.indexAt 30 elems.val (.int .i64 t8)) pav (fun t11 =>
  opRd Pr (Instr.loadAt 9 (.pointer (some t11))) sval (fun elem12 =>
  ifB (decide (((elem12 : List UInt8).length : Int) > (i64 (9223372036854775807 - n7))))
  (False)
  (k9 (i64 (n7 + ((elem12 : List UInt8).length : Int))) (i64 (t8 + 1)) w10)) w10) w10)
  (opTy Pr (Instr.alloc 66 true (.tuple #[])) pav (fun b13 w14 =>
  callV Pr uval 111 #[(.pointer (some b13)), (.int .i64 n7)] w14 fun t15 w16 =>
  opRd Pr (Instr.indexAt 30 elems.val (.int .i64 0)) pav (fun t17 =>
  opRd Pr (Instr.loadAt 9 (.pointer (some t17))) sval (fun t18 =>
  callV Pr (tval2 (Value.int .i64) vval) 49 #[(.pointer (some b13)), (sval t18)] w16 fun t19 w20 =>
  opRd Pr (Instr.sliceAt 30 elems.val (some (.int .i64 1)) none none) Sl.val (fun t21 =>
  loop1 (0 : Int) (fun t22 k23 w24 =>
  ifB (decide (t22 < (t21.len : Int)))
  (opRd Pr (Instr.indexAt 30 t21.val (.int .i64 t22)) pav (fun t25 =>
  opRd Pr (Instr.loadAt 9 (.pointer (some t25))) sval (fun s26 =>
  callV Pr (tval2 (Value.int .i64) vval) 49 #[(.pointer (some b13)), (sval sep)] w24 fun t27 w28 =>
  callV Pr (tval2 (Value.int .i64) vval) 49 #[(.pointer (some b13)), (sval s26)] w28 fun t29 w30 =>
  k23 (i64 (t22 + 1)) w30) w24) w24)
  (callV Pr sval 51 #[(.pointer (some b13))] w24 fun t31 w32 =>
  K t31 w32)) w20) w20) w16) w16) w10)) w6)))
def strings_Join_ann : Ann := (.s .d (.s (.s .d (.b (.s .d (.c (.s .d .d) (.s .d (.c (.s (.r [(1, .rd rPA), (2, .rd rS)]) .d) .d)))))) (.s .d (.sj [(.s 5, (rI .i64))] (.s .d (.c (.s (.s (.r [(5, .rd (rI .i64))]) (.c .d .d)) .d) .d)) (.s (.s .d (.b (.l [(.s 5, (rI .i64)), (.s 41, (rI .i64))] (.s .d (.s (.c .d .d) (.s (.b (.s (.r [(0, .rd rPA), (1, .rd rS)]) (.s (.s .d (.c .d .d)) .d))) .d)))))) (.s (.r [(0, .ty rPA)]) (.s (.r [(1, .call rU)]) (.s (.r [(1, .rd rPA), (2, .rd rS), (3, .call (rT2 (rI .i64) rV))]) (.s (.s (.r [(1, .rd rSl)]) (.b (.l [(.s 65, (rI .i64))] (.s .d (.s (.c .d .d) (.s (.b (.s (.r [(0, .rd rPA), (1, .rd rS)]) (.s (.r [(1, .call (rT2 (rI .i64) rV))]) (.r [(1, .call (rT2 (rI .i64) rV))])))) .d)))))) (.s (.r [(0, .call rS)]) .d))))))))))
theorem strings_Join_calls {elems : Sl} {sep : List UInt8} {K : (List UInt8) → World → Prop} {w : World} (h : strings_Join elems sep K w) : callV Pr sval 56 #[elems.val, (sval sep)] w K :=
  calls_of Pr_plain Pr_mixed Pr_func56 strings_Join_ann rS (args := [elems.val, (sval sep)]) (by kernel_rfl) h

/- changeover/changeoverref12.Large -/
def ref12_Large (l : Sl) (K : Bool → World → Prop) (w : World) : Prop :=
  loop1 (0 : Int) (fun i1 k2 w3 =>
  ifB (decide (i1 < (l.len : Int)))
  (ifB (decide (i1 < 40))
  (opRd Pr (Instr.indexAt 38 l.val (.int .i64 i1)) pav (fun t4 =>
  opRd Pr (Instr.loadAt 9 (.pointer (some ((t4.add 3).add 3)))) sval (fun t5 =>
  ifB (decide (((t5 : List UInt8).length : Int) > 200))
  (K true w3)
  (opRd Pr (Instr.indexAt 38 l.val (.int .i64 i1)) pav (fun t6 =>
  opRd Pr (Instr.loadAt 9 (.pointer (some ((t6.add 3).add 4)))) sval (fun t7 =>
  ifB (decide (((t7 : List UInt8).length : Int) > 200))
  (K true w3)
  (opRd Pr (Instr.indexAt 38 l.val (.int .i64 i1)) pav (fun t8 =>
  opRd Pr (Instr.loadAt 9 (.pointer (some ((t8.add 3).add 5)))) sval (fun t9 =>
  ifB (decide (((t9 : List UInt8).length : Int) > 200))
  (K true w3)
  (k2 (i64 (i1 + 1)) w3)) w3) w3)) w3) w3)) w3) w3)
  (K (decide ((l.len : Int) > 40)) w3))
  (K (decide ((l.len : Int) > 40)) w3)) w
def ref12_Large_ann : Ann := (.s .d (.s (.s .d (.b (.l [(.s 3, (rI .i64))] (.s (.s .d (.c .d .d)) (.s (.b (.s (.r [(2, .rd rPA), (5, .rd rS), (11, .rd rPA), (14, .rd rS), (21, .rd rPA), (24, .rd rS)]) (.c (.s .d .d) .d))) .d))))) (.s .d .d)))
theorem ref12_Large_calls {l : Sl} {K : Bool → World → Prop} {w : World} (h : ref12_Large l K w) : callV Pr Value.bool 57 #[l.val] w K :=
  calls_of Pr_plain Pr_mixed Pr_func57 ref12_Large_ann rB (args := [l.val]) (by kernel_rfl) h

/- changeover/msgone.Encode -/
def msgone_Encode (m : ApiMsg) (K : (Sl × Int) → World → Prop) (w : World) : Prop :=
  newV (fun b1 w2 =>
  callV Pr (Value.int .i64) 25 #[(.agg ⟨[(.int .i64 m.Kind), (.int .i64 m.From), (.int .i64 m.To), (.int .i64 m.Ballot.Round), (.int .i64 m.Ballot.Node), (.int .i64 m.Index), (.int .i64 m.Commit), (.int .i64 m.Version), m.Entries.val, m.Image.val]⟩)] w2 fun e3 w4 =>
  kp b1 w2 w4 <|
  ifB (e3 != 0)
  (K (Sl.nil, e3) w4)
  (callV Pr Value.bool 102 #[(.agg ⟨[(.int .i64 m.Kind), (.int .i64 m.From), (.int .i64 m.To), (.int .i64 m.Ballot.Round), (.int .i64 m.Ballot.Node), (.int .i64 m.Index), (.int .i64 m.Commit), (.int .i64 m.Version), m.Entries.val, m.Image.val]⟩)] w4 fun t5 w6 =>
  kp b1 w4 w6 <|
  ifB (!t5)
  (K (Sl.nil, 8) w6)
  (opTy Pr (Instr.box 102 (.agg ⟨[Sl.nil.val]⟩)) pav (fun w7 w8 =>
  kp b1 w6 w8 <|
  loop1 (0 : Int) (fun t9 k10 w11 =>
  ifB (decide (t9 < 7))
  (opRd Pr (Instr.index 141 (.agg ⟨[(.int .i64 m.Kind), (.int .i64 m.From), (.int .i64 m.To), (.int .i64 m.Ballot.Round), (.int .i64 m.Ballot.Node), (.int .i64 m.Index), (.int .i64 m.Commit)]⟩) (.int .i64 t9)) (Value.int .i64) (fun n12 =>
  callV Pr uval 75 #[(.pointer (some w7)), (.int .i64 n12)] w11 fun t13 w14 =>
  kp b1 w11 w14 <|
  k10 (i64 (t9 + 1)) w14) w11)
  (callV Pr uval 112 #[(.pointer (some w7)), (.int .i64 1), m.Entries.val] w11 fun t15 w16 =>
  kp b1 w11 w16 <|
  callV Pr uval 113 #[(.pointer (some w7)), m.Image.val] w16 fun t17 w18 =>
  kp b1 w16 w18 <|
  callV Pr Sl.val 78 #[(.pointer (some w7))] w18 fun t19 w20 =>
  kp b1 w18 w20 <|
  K (t19, 0) w20)) w8) w6))) w
def msgone_Encode_ann : Ann := (.s (.r [(0, .nl 1)]) (.s (.s (.r [(1, .call (rI .i64))]) (.s .d (.c (.s .d .d) .d))) (.s (.s (.r [(1, .call rB)]) (.c (.s .d .d) .d)) (.s (.r [(1, .ty rPA)]) (.s (.s .d (.b (.l [(.s 35, (rI .i64))] (.s .d (.s (.c .d .d) (.s (.b (.s (.r [(0, .rd (rI .i64))]) (.r [(2, .call rU)]))) .d)))))) (.s (.r [(3, .call rU)]) (.s (.r [(3, .call rU)]) (.s (.r [(1, .call rSl)]) .d))))))))
theorem msgone_Encode_calls {m : ApiMsg} {K : (Sl × Int) → World → Prop} {w : World} (h : msgone_Encode m K w) : callV Pr (tval2 Sl.val (Value.int .i64)) 58 #[(.agg ⟨m.cs⟩)] w K :=
  calls_of Pr_plain Pr_mixed Pr_func58 msgone_Encode_ann (rT2 rSl (rI .i64)) (args := [(.agg ⟨m.cs⟩)]) (by kernel_rfl) h

/- changeover/msgone.fields -/
def msgone_fields (kind : Int) (K : Int → World → Prop) (w : World) : Prop :=
  join1 (fun (j1 : Bool → World → Prop) =>
  ifB (kind == 1)
  (j1 (kind == 1) w)
  (j1 (kind == 2) w))
  (fun t2 w3 =>
  ifB t2
  (K 8 w3)
  (join1 (fun (j4 : Bool → World → Prop) =>
  ifB (kind == 3)
  (j4 (kind == 3) w3)
  (j4 (kind == 6) w3))
  (fun t5 w6 =>
  ifB t5
  (K 3 w6)
  (ifB (kind == 4)
  (K 23 w6)
  (ifB (kind == 5)
  (K 17 w6)
  (ifB (kind == 7)
  (K 1 w6)
  (ifB (kind == 8)
  (K 5 w6)
  (ifB (kind == 9)
  (K 2 w6)
  (ifB (kind == 10)
  (K 20 w6)
  (ifB (kind == 11)
  (K 32 w6)
  (K 0 w6)))))))))))
def msgone_fields_ann : Ann := (.s .d (.s (.s .d (.b (.sj [(.s 4, rB)] (.s .d (.c .d .d)) (.c (.s .d .d) (.sj [(.s 7, rB)] (.s .d (.c .d .d)) (.c (.s .d .d) (.s .d (.c (.s .d .d) (.s .d (.c (.s .d .d) (.s .d (.c (.s .d .d) (.s .d (.c (.s .d .d) (.s .d (.c (.s .d .d) (.s .d (.c (.s .d .d) (.s .d (.c (.s .d .d) .d)))))))))))))))))))) (.s .d .d)))
theorem msgone_fields_calls {kind : Int} {K : Int → World → Prop} {w : World} (h : msgone_fields kind K w) : callV Pr (Value.int .i64) 59 #[(.int .i64 kind)] w K :=
  calls_of Pr_plain Pr_mixed Pr_func59 msgone_fields_ann (rI .i64) (args := [(.int .i64 kind)]) (by kernel_rfl) h

/- changeover/msgone.ranges -/
def msgone_ranges (m : ApiMsg) (f : Int) (K : Bool → World → Prop) (w : World) : Prop :=
  newV (fun b1 w2 =>
  join0 (fun (j3 : World → Prop) =>
  join1 (fun (j4 : Bool → World → Prop) =>
  callV Pr Value.bool 114 #[(.int .i64 m.From)] w2 fun t5 w6 =>
  kp b1 w2 w6 <|
  ifB (!t5)
  (j4 (!t5) w6)
  (callV Pr Value.bool 114 #[(.int .i64 m.To)] w6 fun t7 w8 =>
  kp b1 w6 w8 <|
  ifB (!t7)
  (j4 (!t7) w8)
  (j4 (m.From == m.To) w8)))
  (fun t9 w10 =>
  ifB t9
  (K false w10)
  (ifB ((bAnd .i64 f 1) != 0)
  (callV Pr Value.bool 115 #[(.agg ⟨[(.int .i64 m.Ballot.Round), (.int .i64 m.Ballot.Node)]⟩)] w10 fun t11 w12 =>
  kp b1 w10 w12 <|
  ifB (!t11)
  (K false w12)
  (opRd Pr (binSem .eql 37 (.tmp 33) (.tmp 34) (.agg ⟨[(.int .i64 m.Ballot.Round), (.int .i64 m.Ballot.Node)]⟩) (.agg ⟨[(.int .i64 0), (.int .i64 0)]⟩)) Value.bool (fun t13 =>
  ifB t13
  (K false w12)
  (ifB ((bAnd .i64 f 2) != 0)
  (ifB (decide (m.Index < 1))
  (K false w12)
  (ifB (decide (m.Index > 4294967296))
  (K false w12)
  (ifB ((bAnd .i64 f 4) != 0)
  (ifB (decide (m.Commit < 0))
  (K false w12)
  (ifB (decide (m.Commit > 4294967296))
  (K false w12)
  (j3 w12)))
  (j3 w12))))
  (ifB ((bAnd .i64 f 4) != 0)
  (ifB (decide (m.Commit < 0))
  (K false w12)
  (ifB (decide (m.Commit > 4294967296))
  (K false w12)
  (j3 w12)))
  (j3 w12)))) w12))
  (ifB ((bAnd .i64 f 2) != 0)
  (ifB (decide (m.Index < 1))
  (K false w10)
  (ifB (decide (m.Index > 4294967296))
  (K false w10)
  (ifB ((bAnd .i64 f 4) != 0)
  (ifB (decide (m.Commit < 0))
  (K false w10)
  (ifB (decide (m.Commit > 4294967296))
  (K false w10)
  (j3 w10)))
  (j3 w10))))
  (ifB ((bAnd .i64 f 4) != 0)
  (ifB (decide (m.Commit < 0))
  (K false w10)
  (ifB (decide (m.Commit > 4294967296))
  (K false w10)
  (j3 w10)))
  (j3 w10))))))
  (fun w14 =>
  ifB ((bAnd .i64 f 8) == 0)
  (K true w14)
  (callV Pr Value.bool 116 #[(.int .i64 m.Version)] w14 fun t15 w16 =>
  kp b1 w14 w16 <|
  K t15 w16))) w
def msgone_ranges_ann : Ann := (.s (.r [(0, .nl 2)]) (.s .d (.sj [] (.b (.sj [(.s 6, rB)] (.s (.r [(3, .call rB)]) (.c .d (.s (.r [(3, .call rB)]) (.c .d .d)))) (.c (.s .d .d) (.s (.r [(6, .call rB), (12, .rd rB)]) (.c (.s .d .d) (.s .d (.c (.s .d .d) (.s .d (.c (.s .d .d) .d))))))))) (.s (.r [(6, .call rB)]) .d))))
theorem msgone_ranges_calls {m : ApiMsg} {f : Int} {K : Bool → World → Prop} {w : World} (h : msgone_ranges m f K w) : callV Pr Value.bool 60 #[(.agg ⟨m.cs⟩), (.int .i64 f)] w K :=
  calls_of Pr_plain Pr_mixed Pr_func60 msgone_ranges_ann rB (args := [(.agg ⟨m.cs⟩), (.int .i64 f)]) (by kernel_rfl) h

/- changeover/entry.Check -/
def entry_Check (l : Sl) (K : Int → World → Prop) (w : World) : Prop :=
  loop1 (0 : Int) (fun t1 k2 w3 =>
  ifB (decide (t1 < (l.len : Int)))
  (opRd Pr (Instr.indexAt 38 l.val (.int .i64 t1)) pav (fun t4 =>
  opRd Pr (Instr.loadAt 93 (.pointer (some t4))) ApiEntry.val (fun t5 =>
  newV (fun b6 w7 =>
  wrM b6 (fun w8 =>
  callV Pr (Value.int .i64) 117 #[(.agg ⟨[(.int .i64 t5.Index), (.int .i64 t5.Ballot.Round), (.int .i64 t5.Ballot.Node), (.int .i64 t5.Cmd.Kind), (.int .i64 t5.Cmd.Client), (.int .i64 t5.Cmd.Seq), (sval t5.Cmd.Key), (sval t5.Cmd.Val), (sval t5.Cmd.Old), (.int .i64 t5.Cmd.Node)]⟩)] w8 fun no9 w10 =>
  kp b6 w8 w10 <|
  ifB (no9 != 0)
  (K no9 w10)
  (drewM (fun w11 =>
  ifB (decide (t1 > 0))
  (opRd Pr (Instr.indexAt 38 l.val (.int .i64 (i64 (t1 - 1)))) pav (fun t12 =>
  opRd Pr (Instr.loadAt 3 (.pointer (some (t12.add 0)))) (Value.int .i64) (fun t13 =>
  ifB (decide (t5.Index ≤ t13))
  (K 12 w11)
  (k2 (i64 (t1 + 1)) w11)) w11) w11)
  (k2 (i64 (t1 + 1)) w11)) w10)) w7) w3) w3) w3)
  (K 0 w3)) w
def entry_Check_ann : Ann := (.s .d (.s (.s .d (.b (.l [(.s 8, (rI .i64))] (.s .d (.s (.c .d .d) (.s (.b (.s (.r [(1, .rd rPA), (2, .rd rApiEntry), (3, .nl 4), (5, .ls 4)]) (.s (.s (.r [(1, .call (rI .i64))]) (.s .d (.c (.s .d .d) .d))) (.s (.r [(8, .rd rPA), (10, .rd (rI .i64))]) (.c (.s .d .d) .d))))) .d)))))) (.s .d .d)))
theorem entry_Check_calls {l : Sl} {K : Int → World → Prop} {w : World} (h : entry_Check l K w) : callV Pr (Value.int .i64) 61 #[l.val] w K :=
  calls_of Pr_plain Pr_mixed Pr_func61 entry_Check_ann (rI .i64) (args := [l.val]) (by kernel_rfl) h

/- changeover/msgone.others -/
def msgone_others (m : ApiMsg) (f : Int) (K : Bool → World → Prop) (w : World) : Prop :=
  newV (fun b1 w2 =>
  join1 (fun (j3 : Bool → World → Prop) =>
  ifB ((bAnd .i64 f 1) == 0)
  (opRd Pr (binSem .neq 37 (.tmp 11) (.tmp 12) (.agg ⟨[(.int .i64 m.Ballot.Round), (.int .i64 m.Ballot.Node)]⟩) (.agg ⟨[(.int .i64 0), (.int .i64 0)]⟩)) Value.bool (fun t4 =>
  ifB t4
  (j3 t4 w2)
  (ifB ((bAnd .i64 f 2) == 0)
  (ifB (m.Index != 0)
  (j3 (m.Index != 0) w2)
  (ifB ((bAnd .i64 f 4) == 0)
  (j3 (m.Commit != 0) w2)
  (j3 false w2)))
  (ifB ((bAnd .i64 f 4) == 0)
  (j3 (m.Commit != 0) w2)
  (j3 false w2)))) w2)
  (ifB ((bAnd .i64 f 2) == 0)
  (ifB (m.Index != 0)
  (j3 (m.Index != 0) w2)
  (ifB ((bAnd .i64 f 4) == 0)
  (j3 (m.Commit != 0) w2)
  (j3 false w2)))
  (ifB ((bAnd .i64 f 4) == 0)
  (j3 (m.Commit != 0) w2)
  (j3 false w2))))
  (fun t5 w6 =>
  ifB t5
  (K true w6)
  (join1 (fun (j7 : Bool → World → Prop) =>
  ifB ((bAnd .i64 f 8) == 0)
  (ifB (m.Version != 0)
  (j7 (m.Version != 0) w6)
  (ifB ((bAnd .i64 f 16) == 0)
  (ifB (decide ((m.Entries.len : Int) > 0))
  (j7 (decide ((m.Entries.len : Int) > 0)) w6)
  (ifB ((bAnd .i64 f 32) == 0)
  (j7 (decide ((m.Image.len : Int) > 0)) w6)
  (j7 false w6)))
  (ifB ((bAnd .i64 f 32) == 0)
  (j7 (decide ((m.Image.len : Int) > 0)) w6)
  (j7 false w6))))
  (ifB ((bAnd .i64 f 16) == 0)
  (ifB (decide ((m.Entries.len : Int) > 0))
  (j7 (decide ((m.Entries.len : Int) > 0)) w6)
  (ifB ((bAnd .i64 f 32) == 0)
  (j7 (decide ((m.Image.len : Int) > 0)) w6)
  (j7 false w6)))
  (ifB ((bAnd .i64 f 32) == 0)
  (j7 (decide ((m.Image.len : Int) > 0)) w6)
  (j7 false w6))))
  (fun t8 w9 =>
  ifB t8
  (K true w9)
  (K false w9))))) w
def msgone_others_ann : Ann := (.s (.r [(0, .nl 2)]) (.s (.b (.sj [(.s 5, rB)] (.s (.r [(7, .rd rB)]) (.c .d (.s .d (.c .d .d)))) (.c (.s .d .d) (.sj [(.s 31, rB)] (.s .d (.c .d (.s .d (.c .d .d)))) (.c (.s .d .d) .d))))) (.s .d .d)))
theorem msgone_others_calls {m : ApiMsg} {f : Int} {K : Bool → World → Prop} {w : World} (h : msgone_others m f K w) : callV Pr Value.bool 62 #[(.agg ⟨m.cs⟩), (.int .i64 f)] w K :=
  calls_of Pr_plain Pr_mixed Pr_func62 msgone_others_ann rB (args := [(.agg ⟨m.cs⟩), (.int .i64 f)]) (by kernel_rfl) h

/- changeover/msgone.accept -/
def msgone_accept (m : ApiMsg) (K : Bool → World → Prop) (w : World) : Prop :=
  newV (fun b1 w2 =>
  drewM (fun w3 =>
  ifB ((m.Entries.len : Int) == 1)
  (opRd Pr (Instr.indexAt 38 m.Entries.val (.int .i64 0)) pav (fun t4 =>
  opRd Pr (Instr.loadAt 37 (.pointer (some (t4.add 1)))) ApiBallot.val (fun t5 =>
  opRd Pr (binSem .eql 37 (.tmp 12) (.tmp 14) (.agg ⟨t5.cs⟩) (.agg ⟨[(.int .i64 m.Ballot.Round), (.int .i64 m.Ballot.Node)]⟩)) Value.bool (fun t6 =>
  K t6 w3) w3) w3) w3)
  (K false w3)) w2) w
def msgone_accept_ann : Ann := (.s (.r [(0, .nl 1)]) (.s (.r [(7, .rd rPA), (9, .rd rApiBallot), (12, .rd rB)]) .d))
theorem msgone_accept_calls {m : ApiMsg} {K : Bool → World → Prop} {w : World} (h : msgone_accept m K w) : callV Pr Value.bool 63 #[(.agg ⟨m.cs⟩)] w K :=
  calls_of Pr_plain Pr_mixed Pr_func63 msgone_accept_ann rB (args := [(.agg ⟨m.cs⟩)]) (by kernel_rfl) h

/- changeover/changeoverref13.Letters -/
def ref13_Letters (kind : Int) (K : (List UInt8) → World → Prop) (w : World) : Prop :=
  opTy Pr (Instr.buildSlice 30 12 #[(0, (sval [])), (1, (sval [118])), (2, (sval [118])), (3, (sval [98, 105])), (4, (sval [98, 105, 99, 101])), (5, (sval [98, 101])), (6, (sval [98, 105])), (7, (sval [98])), (8, (sval [98, 99])), (9, (sval [105])), (10, (sval [99, 101])), (11, (sval [109]))]) Sl.val (fun l1 w2 =>
  ifB (decide (kind < 1))
  (K [] w2)
  (ifB (decide (kind > 11))
  (K [] w2)
  (opRd Pr (Instr.indexAt 30 l1.val (.int .i64 kind)) pav (fun t3 =>
  opRd Pr (Instr.loadAt 9 (.pointer (some t3))) sval (fun t4 =>
  K t4 w2) w2) w2))) w
def ref13_Letters_ann : Ann := (.s .d (.s (.r [(0, .ty rSl)]) (.s (.s .d (.c (.s .d .d) .d)) (.s (.r [(2, .rd rPA), (3, .rd rS)]) .d))))
theorem ref13_Letters_calls {kind : Int} {K : (List UInt8) → World → Prop} {w : World} (h : ref13_Letters kind K w) : callV Pr sval 64 #[(.int .i64 kind)] w K :=
  calls_of Pr_plain Pr_mixed Pr_func64 ref13_Letters_ann rS (args := [(.int .i64 kind)]) (by kernel_rfl) h

/- changeover/changeoverref13.Has -/
def ref13_Has (kind : Int) (c : Int) (K : Bool → World → Prop) (w : World) : Prop :=
  callV Pr sval 64 #[(.int .i64 kind)] w fun l1 w2 =>
  loop1 (0 : Int) (fun i3 k4 w5 =>
  ifB (decide (i3 < ((l1 : List UInt8).length : Int)))
  (opRd Pr (Instr.index 9 (sval l1) (.int .i64 i3)) (Value.int .u8) (fun t6 =>
  ifB (t6 == c)
  (K true w5)
  (k4 (i64 (i3 + 1)) w5)) w5)
  (K false w5)) w2
def ref13_Has_ann : Ann := (.s .d (.s (.r [(1, .call rS)]) (.s (.s .d (.b (.l [(.s 6, (rI .i64))] (.s (.s .d (.c .d .d)) (.s (.b (.s (.r [(2, .rd (rI .u8))]) (.c (.s .d .d) .d))) .d))))) (.s .d .d))))
theorem ref13_Has_calls {kind : Int} {c : Int} {K : Bool → World → Prop} {w : World} (h : ref13_Has kind c K w) : callV Pr Value.bool 65 #[(.int .i64 kind), (.int .u8 c)] w K :=
  calls_of Pr_plain Pr_mixed Pr_func65 ref13_Has_ann rB (args := [(.int .i64 kind), (.int .u8 c)]) (by kernel_rfl) h

/- changeover/changeoverref13.ballot -/
def ref13_ballot (b : ApiBallot) (K : Bool → World → Prop) (w : World) : Prop :=
  newV (fun b1 w2 =>
  callV Pr Value.bool 118 #[(.agg ⟨[(.int .i64 b.Round), (.int .i64 b.Node)]⟩)] w2 fun t3 w4 =>
  kp b1 w2 w4 <|
  ifB t3
  (K (decide (b.Round > 0)) w4)
  (K false w4)) w
def ref13_ballot_ann : Ann := (.s (.r [(0, .nl 1)]) (.s (.r [(1, .call rB)]) .d))
theorem ref13_ballot_calls {b : ApiBallot} {K : Bool → World → Prop} {w : World} (h : ref13_ballot b K w) : callV Pr Value.bool 66 #[(.agg ⟨b.cs⟩)] w K :=
  calls_of Pr_plain Pr_mixed Pr_func66 ref13_ballot_ann rB (args := [(.agg ⟨b.cs⟩)]) (by kernel_rfl) h

/- changeover/changeoverref12.Check -/
def ref12_Check (l : Sl) (K : Int → World → Prop) (w : World) : Prop :=
  loop1 (0 : Int) (fun i1 k2 w3 =>
  ifB (decide (i1 < (l.len : Int)))
  (opRd Pr (Instr.indexAt 38 l.val (.int .i64 i1)) pav (fun t4 =>
  opRd Pr (Instr.loadAt 3 (.pointer (some (t4.add 0)))) (Value.int .i64) (fun t5 =>
  ifB (decide (t5 < 1))
  (K 6 w3)
  (opRd Pr (Instr.indexAt 38 l.val (.int .i64 i1)) pav (fun t6 =>
  opRd Pr (Instr.loadAt 3 (.pointer (some (t6.add 0)))) (Value.int .i64) (fun t7 =>
  ifB (decide (t7 > 4294967296))
  (K 6 w3)
  (opRd Pr (Instr.indexAt 38 l.val (.int .i64 i1)) pav (fun t8 =>
  opRd Pr (Instr.loadAt 37 (.pointer (some (t8.add 1)))) ApiBallot.val (fun t9 =>
  callV Pr Value.bool 118 #[(.agg ⟨t9.cs⟩)] w3 fun t10 w11 =>
  ifB (!t10)
  (K 6 w11)
  (opRd Pr (Instr.indexAt 38 l.val (.int .i64 i1)) pav (fun t12 =>
  opRd Pr (Instr.loadAt 91 (.pointer (some (t12.add 3)))) ApiCmd.val (fun t13 =>
  callV Pr (Value.int .i64) 119 #[(.agg ⟨t13.cs⟩)] w11 fun e14 w15 =>
  ifB (e14 != 0)
  (K e14 w15)
  (drewM (fun w16 =>
  ifB (decide (i1 > 0))
  (opRd Pr (Instr.indexAt 38 l.val (.int .i64 i1)) pav (fun t17 =>
  opRd Pr (Instr.loadAt 3 (.pointer (some (t17.add 0)))) (Value.int .i64) (fun t18 =>
  opRd Pr (Instr.indexAt 38 l.val (.int .i64 (i64 (i1 - 1)))) pav (fun t19 =>
  opRd Pr (Instr.loadAt 3 (.pointer (some (t19.add 0)))) (Value.int .i64) (fun t20 =>
  ifB (decide (t18 ≤ t20))
  (K 12 w16)
  (k2 (i64 (i1 + 1)) w16)) w16) w16) w16) w16)
  (k2 (i64 (i1 + 1)) w16)) w15)) w11) w11)) w3) w3)) w3) w3)) w3) w3)
  (K 0 w3)) w
def ref12_Check_ann : Ann := (.s .d (.s (.s .d (.b (.l [(.s 3, (rI .i64))] (.s (.s .d (.c .d .d)) (.s (.b (.s (.s (.r [(2, .rd rPA), (4, .rd (rI .i64)), (9, .rd rPA), (11, .rd (rI .i64)), (17, .rd rPA), (19, .rd rApiBallot), (20, .call rB)]) (.c (.s .d .d) .d)) (.s (.s (.r [(2, .rd rPA), (4, .rd rApiCmd), (5, .call (rI .i64))]) (.s .d (.c (.s .d .d) .d))) (.s (.r [(5, .rd rPA), (7, .rd (rI .i64)), (11, .rd rPA), (13, .rd (rI .i64))]) (.c (.s .d .d) .d))))) .d))))) (.s .d .d)))
theorem ref12_Check_calls {l : Sl} {K : Int → World → Prop} {w : World} (h : ref12_Check l K w) : callV Pr (Value.int .i64) 67 #[l.val] w K :=
  calls_of Pr_plain Pr_mixed Pr_func67 ref12_Check_ann (rI .i64) (args := [l.val]) (by kernel_rfl) h

/- changeover/msgone.Same$1 -/
def msgone_Same_1 (m : ApiMsg) (K : (List Value) → World → Prop) (w : World) : Prop :=
  newV (fun b1 w2 =>
  newV (fun b3 w4 =>
  wrM b3 (fun w5 =>
  K [(.int .i64 m.Kind), (.int .i64 m.From), (.int .i64 m.To), (.int .i64 m.Ballot.Round), (.int .i64 m.Ballot.Node), (.int .i64 m.Index), (.int .i64 m.Commit), (.int .i64 m.Version)] w5) w4) w2) w
def msgone_Same_1_ann : Ann := (.s (.r [(0, .nl 1), (1, .nl 2)]) (.s (.r [(19, .ls 2)]) .d))
theorem msgone_Same_1_calls {m : ApiMsg} {K : (List Value) → World → Prop} {w : World} (h : msgone_Same_1 m K w) : callV Pr aval 68 #[(.agg ⟨m.cs⟩)] w K :=
  calls_of Pr_plain Pr_mixed Pr_func68 msgone_Same_1_ann rA (args := [(.agg ⟨m.cs⟩)]) (by kernel_rfl) h

/- slices.Equal[[]changeover/api.Entry,changeover/api.Entry] -/
def slices_Equal_api_Entry_api_Entry (s1 : Sl) (s2 : Sl) (K : Bool → World → Prop) (w : World) : Prop :=
  ifB ((s1.len : Int) != (s2.len : Int))
  (K false w)
  (loop1 (0 : Int) (fun t1 k2 w3 =>
  ifB (decide (t1 < (s1.len : Int)))
  (drewM (fun w4 =>
  opRd Pr (Instr.indexAt 38 s1.val (.int .i64 t1)) pav (fun t5 =>
  opRd Pr (Instr.loadAt 93 (.pointer (some t5))) ApiEntry.val (fun t6 =>
  opRd Pr (Instr.indexAt 38 s2.val (.int .i64 t1)) pav (fun t7 =>
  opRd Pr (Instr.loadAt 93 (.pointer (some t7))) ApiEntry.val (fun t8 =>
  opRd Pr (binSem .neq 93 (.tmp 19) (.tmp 23) (.agg ⟨t6.cs⟩) (.agg ⟨t8.cs⟩)) Value.bool (fun t9 =>
  ifB t9
  (K false w4)
  (k2 (i64 (t1 + 1)) w4)) w4) w4) w4) w4) w4) w3)
  (K true w3)) w)
def slices_Equal_api_Entry_api_Entry_ann : Ann := (.s .d (.s (.s .d (.c (.s .d .d) .d)) (.s (.s .d (.b (.l [(.s 13, (rI .i64))] (.s .d (.s (.c .d .d) (.s (.b (.s .d (.s (.r [(2, .rd rPA), (3, .rd rApiEntry), (6, .rd rPA), (7, .rd rApiEntry), (8, .rd rB)]) (.c (.s .d .d) .d)))) .d)))))) (.s .d .d))))
theorem slices_Equal_api_Entry_api_Entry_calls {s1 : Sl} {s2 : Sl} {K : Bool → World → Prop} {w : World} (h : slices_Equal_api_Entry_api_Entry s1 s2 K w) : callV Pr Value.bool 69 #[s1.val, s2.val] w K :=
  calls_of Pr_plain Pr_mixed Pr_func69 slices_Equal_api_Entry_api_Entry_ann rB (args := [s1.val, s2.val]) (by kernel_rfl) h

/- slices.Equal[[]byte,byte] -/
def slices_Equal_byte_byte (s1 : Sl) (s2 : Sl) (K : Bool → World → Prop) (w : World) : Prop :=
  ifB ((s1.len : Int) != (s2.len : Int))
  (K false w)
  (loop1 (0 : Int) (fun t1 k2 w3 =>
  ifB (decide (t1 < (s1.len : Int)))
  (drewM (fun w4 =>
  opRd Pr (Instr.indexAt 39 s1.val (.int .i64 t1)) pav (fun t5 =>
  opRd Pr (Instr.loadAt 5 (.pointer (some t5))) (Value.int .u8) (fun t6 =>
  opRd Pr (Instr.indexAt 39 s2.val (.int .i64 t1)) pav (fun t7 =>
  opRd Pr (Instr.loadAt 5 (.pointer (some t7))) (Value.int .u8) (fun t8 =>
  ifB (t6 != t8)
  (K false w4)
  (k2 (i64 (t1 + 1)) w4)) w4) w4) w4) w4) w3)
  (K true w3)) w)
def slices_Equal_byte_byte_ann : Ann := (.s .d (.s (.s .d (.c (.s .d .d) .d)) (.s (.s .d (.b (.l [(.s 13, (rI .i64))] (.s .d (.s (.c .d .d) (.s (.b (.s .d (.s (.r [(2, .rd rPA), (3, .rd (rI .u8)), (6, .rd rPA), (7, .rd (rI .u8))]) (.c (.s .d .d) .d)))) .d)))))) (.s .d .d))))
theorem slices_Equal_byte_byte_calls {s1 : Sl} {s2 : Sl} {K : Bool → World → Prop} {w : World} (h : slices_Equal_byte_byte s1 s2 K w) : callV Pr Value.bool 70 #[s1.val, s2.val] w K :=
  calls_of Pr_plain Pr_mixed Pr_func70 slices_Equal_byte_byte_ann rB (args := [s1.val, s2.val]) (by kernel_rfl) h

/- changeover/changeoverref12.Same -/
def ref12_Same (a : Sl) (b : Sl) (K : Bool → World → Prop) (w : World) : Prop :=
  ifB ((a.len : Int) != (b.len : Int))
  (K false w)
  (loop1 (0 : Int) (fun i1 k2 w3 =>
  ifB (decide (i1 < (a.len : Int)))
  (drewM (fun w4 =>
  opRd Pr (Instr.indexAt 38 a.val (.int .i64 i1)) pav (fun t5 =>
  opRd Pr (Instr.loadAt 93 (.pointer (some t5))) ApiEntry.val (fun t6 =>
  opRd Pr (Instr.indexAt 38 b.val (.int .i64 i1)) pav (fun t7 =>
  opRd Pr (Instr.loadAt 93 (.pointer (some t7))) ApiEntry.val (fun t8 =>
  opRd Pr (binSem .neq 93 (.tmp 20) (.tmp 24) (.agg ⟨t6.cs⟩) (.agg ⟨t8.cs⟩)) Value.bool (fun t9 =>
  ifB t9
  (K false w4)
  (k2 (i64 (i1 + 1)) w4)) w4) w4) w4) w4) w4) w3)
  (K true w3)) w)
def ref12_Same_ann : Ann := (.s .d (.s (.s .d (.c (.s .d .d) .d)) (.s (.s .d (.b (.l [(.s 5, (rI .i64))] (.s (.s .d (.c .d .d)) (.s (.b (.s (.r [(2, .rd rPA), (3, .rd rApiEntry), (6, .rd rPA), (7, .rd rApiEntry), (8, .rd rB)]) (.c (.s .d .d) .d))) .d))))) (.s .d .d))))
theorem ref12_Same_calls {a : Sl} {b : Sl} {K : Bool → World → Prop} {w : World} (h : ref12_Same a b K w) : callV Pr Value.bool 71 #[a.val, b.val] w K :=
  calls_of Pr_plain Pr_mixed Pr_func71 ref12_Same_ann rB (args := [a.val, b.val]) (by kernel_rfl) h

/- changeover/changeoverref22.Large -/
def ref22_Large (l : Sl) (K : Bool → World → Prop) (w : World) : Prop :=
  loop1 (0 : Int) (fun i1 k2 w3 =>
  ifB (decide (i1 < (l.len : Int)))
  (ifB (decide (i1 < 40))
  (opRd Pr (Instr.indexAt 46 l.val (.int .i64 i1)) pav (fun t4 =>
  opRd Pr (Instr.loadAt 9 (.pointer (some ((t4.add 2).add 4)))) sval (fun t5 =>
  ifB (decide (((t5 : List UInt8).length : Int) > 200))
  (K true w3)
  (k2 (i64 (i1 + 1)) w3)) w3) w3)
  (K (decide ((l.len : Int) > 40)) w3))
  (K (decide ((l.len : Int) > 40)) w3)) w
def ref22_Large_ann : Ann := (.s .d (.s (.s .d (.b (.l [(.s 3, (rI .i64))] (.s (.s .d (.c .d .d)) (.s (.b (.s (.r [(2, .rd rPA), (5, .rd rS)]) (.c (.s .d .d) .d))) .d))))) (.s .d .d)))
theorem ref22_Large_calls {l : Sl} {K : Bool → World → Prop} {w : World} (h : ref22_Large l K w) : callV Pr Value.bool 72 #[l.val] w K :=
  calls_of Pr_plain Pr_mixed Pr_func72 ref22_Large_ann rB (args := [l.val]) (by kernel_rfl) h

/- changeover/changeoverref23.Large -/
def ref23_Large (l : Sl) (K : Bool → World → Prop) (w : World) : Prop :=
  loop1 (0 : Int) (fun i1 k2 w3 =>
  ifB (decide (i1 < (l.len : Int)))
  (ifB (decide (i1 < 80))
  (opRd Pr (Instr.indexAt 45 l.val (.int .i64 i1)) pav (fun t4 =>
  opRd Pr (Instr.loadAt 9 (.pointer (some (t4.add 0)))) sval (fun t5 =>
  ifB (decide (((t5 : List UInt8).length : Int) > 200))
  (K true w3)
  (opRd Pr (Instr.indexAt 45 l.val (.int .i64 i1)) pav (fun t6 =>
  opRd Pr (Instr.loadAt 9 (.pointer (some (t6.add 1)))) sval (fun t7 =>
  ifB (decide (((t7 : List UInt8).length : Int) > 200))
  (K true w3)
  (k2 (i64 (i1 + 1)) w3)) w3) w3)) w3) w3)
  (K (decide ((l.len : Int) > 80)) w3))
  (K (decide ((l.len : Int) > 80)) w3)) w
def ref23_Large_ann : Ann := (.s .d (.s (.s .d (.b (.l [(.s 3, (rI .i64))] (.s (.s .d (.c .d .d)) (.s (.b (.s (.r [(2, .rd rPA), (4, .rd rS), (10, .rd rPA), (12, .rd rS)]) (.c (.s .d .d) .d))) .d))))) (.s .d .d)))
theorem ref23_Large_calls {l : Sl} {K : Bool → World → Prop} {w : World} (h : ref23_Large l K w) : callV Pr Value.bool 73 #[l.val] w K :=
  calls_of Pr_plain Pr_mixed Pr_func73 ref23_Large_ann rB (args := [l.val]) (by kernel_rfl) h

/- changeover/migr.Check -/
def migr_Check (s : ApiState) (K : Int → World → Prop) (w : World) : Prop :=
  newV (fun b1 w2 =>
  callV Pr (Value.int .i64) 120 #[s.Sessions.val] w2 fun e3 w4 =>
  kp b1 w2 w4 <|
  ifB (e3 != 0)
  (K e3 w4)
  (ifB (s.Schema == 1)
  (callV Pr Value.bool 121 #[s.Sessions.val, (.func (.func 122) #[] #[])] w4 fun t5 w6 =>
  kp b1 w4 w6 <|
  ifB t5
  (K 3 w6)
  (callV Pr (Value.int .i64) 123 #[s.Pairs.val] w6 fun t7 w8 =>
  kp b1 w6 w8 <|
  K t7 w8))
  (ifB (s.Schema == 2)
  (callV Pr (Value.int .i64) 124 #[s.Pairs.val] w4 fun t9 w10 =>
  kp b1 w4 w10 <|
  K t9 w10)
  (K 3 w4)))) w
def migr_Check_ann : Ann := (.s (.r [(0, .nl 1)]) (.s (.s (.r [(2, .call (rI .i64))]) (.s .d (.c (.s .d .d) .d))) (.s (.s .d (.b (.s .d (.c (.s (.s (.r [(2, .call rB)]) (.c (.s .d .d) .d)) (.s (.r [(2, .call (rI .i64))]) .d)) (.s .d (.c (.s (.r [(2, .call (rI .i64))]) .d) .d)))))) (.s .d .d))))
theorem migr_Check_calls {s : ApiState} {K : Int → World → Prop} {w : World} (h : migr_Check s K w) : callV Pr (Value.int .i64) 74 #[(.agg ⟨s.cs⟩)] w K :=
  calls_of Pr_plain Pr_mixed Pr_func74 migr_Check_ann (rI .i64) (args := [(.agg ⟨s.cs⟩)]) (by kernel_rfl) h

/- (*changeover/pack.Writer).Number -/
def pack_Writer_Number (w_ : Option Addr) (n : Int) (K : Unit → World → Prop) (w : World) : Prop :=
  opRd Pr (binSem .neq 100 (.tmp 4) (.const (.pointer none)) (.pointer w_) (.pointer none)) Value.bool (fun t1 =>
  ifB t1
  (opRd Pr (nilSem (.pointer w_)) pav (fun t2 =>
  opRd Pr (Instr.loadAt 39 (.pointer (some (t2.add 0)))) Sl.val (fun t3 =>
  callV Pr Sl.val 125 #[t3.val, (.int .i64 n)] w fun t4 w5 =>
  opRd Pr (nilSem (.pointer w_)) pav (fun t6 =>
  opUn Pr (Instr.storeAt 39 (.pointer (some (t6.add 0))) t4.val) (fun w7 =>
  K () w7) w5) w5) w) w)
  (K () w)) w
def pack_Writer_Number_ann : Ann := (.s (.r [(1, .rd rB)]) (.c (.r [(2, .rd rPA), (4, .rd rSl), (6, .call rSl), (7, .rd rPA), (9, .un)]) .d))
theorem pack_Writer_Number_calls {w_ : Option Addr} {n : Int} {K : Unit → World → Prop} {w : World} (h : pack_Writer_Number w_ n K w) : callV Pr uval 75 #[(.pointer w_), (.int .i64 n)] w K :=
  calls_of Pr_plain Pr_mixed Pr_func75 pack_Writer_Number_ann rU (args := [(.pointer w_), (.int .i64 n)]) (by kernel_rfl) h

/- (*changeover/pack.Writer).Text -/
def pack_Writer_Text (w_ : Option Addr) (s : List UInt8) (K : Unit → World → Prop) (w : World) : Prop :=
  opTy Pr (convert 9 39 (sval s)) Sl.val (fun t1 w2 =>
  callV Pr uval 113 #[(.pointer w_), t1.val] w2 fun t3 w4 =>
  K () w4) w
def pack_Writer_Text_ann : Ann := (.r [(2, .ty rSl), (3, .call rU)])
theorem pack_Writer_Text_calls {w_ : Option Addr} {s : List UInt8} {K : Unit → World → Prop} {w : World} (h : pack_Writer_Text w_ s K w) : callV Pr uval 76 #[(.pointer w_), (sval s)] w K :=
  calls_of Pr_plain Pr_mixed Pr_func76 pack_Writer_Text_ann rU (args := [(.pointer w_), (sval s)]) (by kernel_rfl) h

/- changeover/answer.Put -/
def answer_Put (w_ : Option Addr) (v : Int) (a : ApiAnswer) (K : Unit → World → Prop) (w : World) : Prop :=
  newV (fun b1 w2 =>
  loop1 (0 : Int) (fun t3 k4 w5 =>
  ifB (decide (t3 < 3))
  (opRd Pr (Instr.index 152 (.agg ⟨[(.int .i64 a.Client), (.int .i64 a.Seq), (.int .i64 a.Err)]⟩) (.int .i64 t3)) (Value.int .i64) (fun n6 =>
  callV Pr uval 75 #[(.pointer w_), (.int .i64 n6)] w5 fun t7 w8 =>
  kp b1 w5 w8 <|
  k4 (i64 (t3 + 1)) w8) w5)
  (callV Pr uval 126 #[(.pointer w_), (.bool a.Found)] w5 fun t9 w10 =>
  kp b1 w5 w10 <|
  callV Pr uval 76 #[(.pointer w_), (sval a.Val)] w10 fun t11 w12 =>
  kp b1 w10 w12 <|
  ifB (v != 1)
  (callV Pr uval 75 #[(.pointer w_), (.int .i64 a.Rev)] w12 fun t13 w14 =>
  kp b1 w12 w14 <|
  K () w14)
  (K () w12))) w2) w
def answer_Put_ann : Ann := (.s (.r [(0, .nl 5)]) (.s (.s .d (.b (.l [(.s 15, (rI .i64))] (.s .d (.s (.c .d .d) (.s (.b (.s (.r [(0, .rd (rI .i64))]) (.r [(2, .call rU)]))) .d)))))) (.s (.r [(3, .call rU)]) (.s (.r [(3, .call rU)]) (.s .d (.c (.r [(3, .call rU)]) .d))))))
theorem answer_Put_calls {w_ : Option Addr} {v : Int} {a : ApiAnswer} {K : Unit → World → Prop} {w : World} (h : answer_Put w_ v a K w) : callV Pr uval 77 #[(.pointer w_), (.int .i64 v), (.agg ⟨a.cs⟩)] w K :=
  calls_of Pr_plain Pr_mixed Pr_func77 answer_Put_ann rU (args := [(.pointer w_), (.int .i64 v), (.agg ⟨a.cs⟩)]) (by kernel_rfl) h

/- (*changeover/pack.Writer).Bytes -/
def pack_Writer_Bytes (w_ : Option Addr) (K : Sl → World → Prop) (w : World) : Prop :=
  opRd Pr (binSem .eql 100 (.tmp 3) (.const (.pointer none)) (.pointer w_) (.pointer none)) Value.bool (fun t1 =>
  ifB t1
  (K Sl.nil w)
  (opRd Pr (nilSem (.pointer w_)) pav (fun t2 =>
  opRd Pr (Instr.loadAt 39 (.pointer (some (t2.add 0)))) Sl.val (fun t3 =>
  callV Pr Sl.val 127 #[t3.val] w fun t4 w5 =>
  K t4 w5) w) w)) w
def pack_Writer_Bytes_ann : Ann := (.s .d (.s (.s (.r [(1, .rd rB)]) (.c (.s .d .d) .d)) (.s (.r [(1, .rd rPA), (3, .rd rSl), (4, .call rSl)]) .d)))
theorem pack_Writer_Bytes_calls {w_ : Option Addr} {K : Sl → World → Prop} {w : World} (h : pack_Writer_Bytes w_ K w) : callV Pr Sl.val 78 #[(.pointer w_)] w K :=
  calls_of Pr_plain Pr_mixed Pr_func78 pack_Writer_Bytes_ann rSl (args := [(.pointer w_)]) (by kernel_rfl) h

/- changeover/changeoverref23.Check -/
def ref23_Check (schema : Int) (l : Sl) (K : Bool → World → Prop) (w : World) : Prop :=
  loop1 (0 : Int) (fun i1 k2 w3 =>
  ifB (decide (i1 < (l.len : Int)))
  (opRd Pr (Instr.indexAt 45 l.val (.int .i64 i1)) pav (fun t4 =>
  opRd Pr (Instr.loadAt 9 (.pointer (some (t4.add 0)))) sval (fun t5 =>
  callV Pr Value.bool 128 #[(sval t5)] w3 fun t6 w7 =>
  ifB (!t6)
  (K false w7)
  (opRd Pr (Instr.indexAt 45 l.val (.int .i64 i1)) pav (fun t8 =>
  opRd Pr (Instr.loadAt 9 (.pointer (some (t8.add 1)))) sval (fun t9 =>
  callV Pr Value.bool 129 #[(sval t9)] w7 fun t10 w11 =>
  ifB (!t10)
  (K false w11)
  (ifB (schema == 1)
  (opRd Pr (Instr.indexAt 45 l.val (.int .i64 i1)) pav (fun t12 =>
  opRd Pr (Instr.loadAt 3 (.pointer (some (t12.add 2)))) (Value.int .i64) (fun t13 =>
  ifB (t13 != 0)
  (K false w11)
  (ifB (schema == 2)
  (opRd Pr (Instr.indexAt 45 l.val (.int .i64 i1)) pav (fun t14 =>
  opRd Pr (Instr.loadAt 3 (.pointer (some (t14.add 2)))) (Value.int .i64) (fun t15 =>
  ifB (decide (t15 < 1))
  (K false w11)
  (opRd Pr (Instr.indexAt 45 l.val (.int .i64 i1)) pav (fun t16 =>
  opRd Pr (Instr.loadAt 3 (.pointer (some (t16.add 2)))) (Value.int .i64) (fun t17 =>
  ifB (decide (t17 > 4294967296))
  (K false w11)
  (k2 (i64 (i1 + 1)) w11)) w11) w11)) w11) w11)
  (k2 (i64 (i1 + 1)) w11))) w11) w11)
  (ifB (schema == 2)
  (opRd Pr (Instr.indexAt 45 l.val (.int .i64 i1)) pav (fun t18 =>
  opRd Pr (Instr.loadAt 3 (.pointer (some (t18.add 2)))) (Value.int .i64) (fun t19 =>
  ifB (decide (t19 < 1))
  (K false w11)
  (opRd Pr (Instr.indexAt 45 l.val (.int .i64 i1)) pav (fun t20 =>
  opRd Pr (Instr.loadAt 3 (.pointer (some (t20.add 2)))) (Value.int .i64) (fun t21 =>
  ifB (decide (t21 > 4294967296))
  (K false w11)
  (k2 (i64 (i1 + 1)) w11)) w11) w11)) w11) w11)
  (k2 (i64 (i1 + 1)) w11)))) w7) w7)) w3) w3)
  (ifB (decide ((l.len : Int) ≤ 64))
  (callV Pr Value.bool 130 #[l.val] w3 fun t22 w23 =>
  K t22 w23)
  (K false w3))) w
def ref23_Check_ann : Ann := (.s .d (.s (.s .d (.b (.l [(.s 5, (rI .i64))] (.s (.s .d (.c .d .d)) (.s (.b (.s (.s (.r [(2, .rd rPA), (4, .rd rS), (5, .call rB), (10, .rd rPA), (12, .rd rS), (13, .call rB)]) (.c (.s .d .d) .d)) (.s (.r [(5, .rd rPA), (7, .rd (rI .i64)), (16, .rd rPA), (18, .rd (rI .i64)), (23, .rd rPA), (25, .rd (rI .i64))]) (.c (.s .d .d) .d)))) .d))))) (.s (.r [(5, .call rB)]) .d)))
theorem ref23_Check_calls {schema : Int} {l : Sl} {K : Bool → World → Prop} {w : World} (h : ref23_Check schema l K w) : callV Pr Value.bool 79 #[(.int .i64 schema), l.val] w K :=
  calls_of Pr_plain Pr_mixed Pr_func79 ref23_Check_ann rB (args := [(.int .i64 schema), l.val]) (by kernel_rfl) h

/- changeover/changeoverref22.Check -/
def ref22_Check (l : Sl) (K : Bool → World → Prop) (w : World) : Prop :=
  loop1 (0 : Int) (fun i1 k2 w3 =>
  ifB (decide (i1 < (l.len : Int)))
  (heldM (fun S5 w4 =>
  opH Pr S5 (Instr.indexAt 46 l.val (.int .i64 i1)) pav (fun t6 =>
  opH Pr S5 (Instr.loadAt 3 (.pointer (some ((t6.add 2).add 0)))) (Value.int .i64) (fun t7 =>
  opH Pr S5 (Instr.indexAt 46 l.val (.int .i64 i1)) pav (fun t8 =>
  opH Pr S5 (Instr.loadAt 3 (.pointer (some (t8.add 0)))) (Value.int .i64) (fun t9 =>
  ifB (t7 != t9)
  (K false w4)
  (opH Pr S5 (Instr.indexAt 46 l.val (.int .i64 i1)) pav (fun t10 =>
  opH Pr S5 (Instr.loadAt 3 (.pointer (some ((t10.add 2).add 1)))) (Value.int .i64) (fun t11 =>
  opH Pr S5 (Instr.indexAt 46 l.val (.int .i64 i1)) pav (fun t12 =>
  opH Pr S5 (Instr.loadAt 3 (.pointer (some (t12.add 1)))) (Value.int .i64) (fun t13 =>
  ifB (t11 != t13)
  (K false w4)
  (opH Pr S5 (Instr.indexAt 46 l.val (.int .i64 i1)) pav (fun t14 =>
  opH Pr S5 (Instr.loadAt 108 (.pointer (some (t14.add 2)))) ApiAnswer.val (fun t15 =>
  callV Pr (Value.int .i64) 131 #[(.agg ⟨t15.cs⟩)] w4 fun t16 w17 =>
  (S5 w17) ∧
  (ifB (t16 != 0)
  (K false w17)
  (k2 (i64 (i1 + 1)) w17))))))))))))))) w3)
  (callV Pr Value.bool 132 #[l.val] w3 fun t18 w19 =>
  K t18 w19)) w
def ref22_Check_ann : Ann := (.s .d (.s (.s .d (.b (.l [(.s 3, (rI .i64))] (.s (.s .d (.c .d .d)) (.s (.b (.s (.h (.take 0 (.take 1 (.take 2 (.take 3 (.take 4 (.take 5 (.take 6 (.take 7 (.take 8 (.take 9 (.take 10 (.take 11 (.take 12 (.take 13 (.take 14 (.take 15 (.take 16 (.take 17 (.take 18 (.take 19 (.take 20 (.take 21 (.take 22 (.take 23 (.take 24 (.take 25 (.take 26 (.take 27 (.take 28 (.take 29 (.take 30 (.take 31 (.one 32 (.take 33 (.take 34 .done))))))))))))))))))))))))))))))))))) [(2, .rd rPA), (5, .rd (rI .i64)), (8, .rd rPA), (10, .rd (rI .i64)), (15, .rd rPA), (18, .rd (rI .i64)), (21, .rd rPA), (23, .rd (rI .i64)), (29, .rd rPA), (31, .rd rApiAnswer), (32, .call (rI .i64))]) (.c (.s .d .d) .d))) .d))))) (.s (.r [(1, .call rB)]) .d)))
theorem ref22_Check_calls {l : Sl} {K : Bool → World → Prop} {w : World} (h : ref22_Check l K w) : callV Pr Value.bool 80 #[l.val] w K :=
  calls_of Pr_plain Pr_mixed Pr_func80 ref22_Check_ann rB (args := [l.val]) (by kernel_rfl) h

/- changeover/pack.NewReader -/
def pack_NewReader (b : Sl) (K : (Option Addr) → World → Prop) (w : World) : Prop :=
  callV Pr Sl.val 127 #[b.val] w fun t1 w2 =>
  opTy Pr (Instr.box 157 (.agg ⟨[t1.val, (.int .i64 0), (.int .i64 0)]⟩)) pav (fun t3 w4 =>
  K (some t3) w4) w2
def pack_NewReader_ann : Ann := (.s .d (.s (.r [(1, .call rSl), (3, .ty rPA)]) .d))
theorem pack_NewReader_calls {b : Sl} {K : (Option Addr) → World → Prop} {w : World} (h : pack_NewReader b K w) : callV Pr Value.pointer 81 #[b.val] w K :=
  calls_of Pr_plain Pr_mixed Pr_func81 pack_NewReader_ann rP (args := [b.val]) (by kernel_rfl) h

/- (*changeover/pack.Reader).Number -/
def pack_Reader_Number (r : Option Addr) (most : Int) (K : Int → World → Prop) (w : World) : Prop :=
  opTy Pr (Instr.box 114 (.pointer r)) pav (fun r1 w2 =>
  opTy Pr (Instr.box 3 (.int .i64 most)) pav (fun most3 w4 =>
  opRd Pr (Instr.loadAt 114 (.pointer (some r1))) Value.pointer (fun t5 =>
  callV Pr (Value.int .i64) 133 #[(.pointer t5), (.func (.func 134) #[] #[(.pointer (some r1)), (.pointer (some most3))])] w4 fun t6 w7 =>
  K t6 w7) w4) w2) w
def pack_Reader_Number_ann : Ann := (.s (.r [(0, .ty rPA), (1, .ty rPA)]) (.s (.r [(0, .rd rP), (2, .call (rI .i64))]) .d))
theorem pack_Reader_Number_calls {r : Option Addr} {most : Int} {K : Int → World → Prop} {w : World} (h : pack_Reader_Number r most K w) : callV Pr (Value.int .i64) 82 #[(.pointer r), (.int .i64 most)] w K :=
  calls_of Pr_plain Pr_mixed Pr_func82 pack_Reader_Number_ann (rI .i64) (args := [(.pointer r), (.int .i64 most)]) (by kernel_rfl) h

/- (*changeover/pack.Reader).Err -/
def pack_Reader_Err (r : Option Addr) (K : Int → World → Prop) (w : World) : Prop :=
  opRd Pr (binSem .eql 114 (.tmp 3) (.const (.pointer none)) (.pointer r) (.pointer none)) Value.bool (fun t1 =>
  ifB t1
  (K 1 w)
  (opRd Pr (nilSem (.pointer r)) pav (fun t2 =>
  opRd Pr (Instr.loadAt 24 (.pointer (some (t2.add 2)))) (Value.int .i64) (fun t3 =>
  K t3 w) w) w)) w
def pack_Reader_Err_ann : Ann := (.s .d (.s (.s (.r [(1, .rd rB)]) (.c (.s .d .d) .d)) (.s (.r [(1, .rd rPA), (3, .rd (rI .i64))]) .d)))
theorem pack_Reader_Err_calls {r : Option Addr} {K : Int → World → Prop} {w : World} (h : pack_Reader_Err r K w) : callV Pr (Value.int .i64) 83 #[(.pointer r)] w K :=
  calls_of Pr_plain Pr_mixed Pr_func83 pack_Reader_Err_ann (rI .i64) (args := [(.pointer r)]) (by kernel_rfl) h

/- changeover/snapone.Decode$1 -/
def snapone_Decode_1 (c_x0 : Addr) (K : ApiPair → World → Prop) (w : World) : Prop :=
  newV (fun b1 w2 =>
  opRd Pr (Instr.loadAt 114 (.pointer (some c_x0))) Value.pointer (fun t3 =>
  callV Pr sval 86 #[(.pointer t3), (.int .i64 1048576)] w2 fun key4 w5 =>
  kp b1 w2 w5 <|
  opRd Pr (Instr.loadAt 114 (.pointer (some c_x0))) Value.pointer (fun t6 =>
  callV Pr sval 86 #[(.pointer t6), (.int .i64 1048576)] w5 fun t7 w8 =>
  kp b1 w5 w8 <|
  wrM b1 (fun w9 =>
  K (ApiPair.mk key4 t7 0) w9) w8) w5) w2) w
def snapone_Decode_1_ann : Ann := (.s (.r [(0, .nl 1)]) (.s (.r [(0, .rd rP), (1, .call rS)]) (.s (.r [(1, .rd rP), (2, .call rS), (4, .ls 1)]) .d)))
theorem snapone_Decode_1_calls {c_x0 : Addr} {K : ApiPair → World → Prop} {w : World} (h : snapone_Decode_1 c_x0 K w) : callV Pr ApiPair.val 85 #[(.pointer (some c_x0))] w K :=
  calls_of Pr_plain Pr_mixed Pr_func85 snapone_Decode_1_ann rApiPair (args := [(.pointer (some c_x0))]) (by kernel_rfl) h

/- (*changeover/pack.Reader).Text -/
def pack_Reader_Text (r : Option Addr) (most : Int) (K : (List UInt8) → World → Prop) (w : World) : Prop :=
  callV Pr Sl.val 137 #[(.pointer r), (.int .i64 most)] w fun t1 w2 =>
  opRd Pr (convert 39 9 t1.val) sval (fun t3 =>
  K t3 w2) w2
def pack_Reader_Text_ann : Ann := (.s .d (.s (.r [(2, .call rSl), (3, .rd rS)]) .d))
theorem pack_Reader_Text_calls {r : Option Addr} {most : Int} {K : (List UInt8) → World → Prop} {w : World} (h : pack_Reader_Text r most K w) : callV Pr sval 86 #[(.pointer r), (.int .i64 most)] w K :=
  calls_of Pr_plain Pr_mixed Pr_func86 pack_Reader_Text_ann rS (args := [(.pointer r), (.int .i64 most)]) (by kernel_rfl) h

/- changeover/snapone.Decode$2 -/
def snapone_Decode_2 (c_x0 : Addr) (K : ApiSession → World → Prop) (w : World) : Prop :=
  newV (fun b1 w2 =>
  opRd Pr (Instr.loadAt 114 (.pointer (some c_x0))) Value.pointer (fun t3 =>
  callV Pr ApiAnswer.val 89 #[(.pointer t3), (.int .i64 1)] w2 fun t4 w5 =>
  kp b1 w2 w5 <|
  newV (fun b6 w7 =>
  wrM b6 (fun w8 =>
  wrM b1 (fun w9 =>
  K (ApiSession.mk t4.Client t4.Seq t4) w9) w8) w7) w5) w2) w
def snapone_Decode_2_ann : Ann := (.s (.r [(0, .nl 1)]) (.s (.r [(0, .rd rP), (1, .call rApiAnswer), (2, .nl 2), (3, .ls 2)]) (.s (.r [(6, .ls 1)]) .d)))
theorem snapone_Decode_2_calls {c_x0 : Addr} {K : ApiSession → World → Prop} {w : World} (h : snapone_Decode_2 c_x0 K w) : callV Pr ApiSession.val 88 #[(.pointer (some c_x0))] w K :=
  calls_of Pr_plain Pr_mixed Pr_func88 snapone_Decode_2_ann rApiSession (args := [(.pointer (some c_x0))]) (by kernel_rfl) h

/- changeover/answer.Get -/
def answer_Get (r : Option Addr) (v : Int) (K : ApiAnswer → World → Prop) (w : World) : Prop :=
  newV (fun b1 w2 =>
  newV (fun b3 w4 =>
  callV Pr (Value.int .i64) 82 #[(.pointer r), (.int .i64 9223372036854775807)] w4 fun t5 w6 =>
  kp b3 w4 w6 <|
  kp b1 w4 w6 <|
  wrM b3 (fun w7 =>
  callV Pr (Value.int .i64) 82 #[(.pointer r), (.int .i64 9223372036854775807)] w7 fun t8 w9 =>
  kp b3 w7 w9 <|
  kp b1 w7 w9 <|
  wrM b3 (fun w10 =>
  callV Pr (Value.int .i64) 82 #[(.pointer r), (.int .i64 9223372036854775807)] w10 fun t11 w12 =>
  kp b3 w10 w12 <|
  kp b1 w10 w12 <|
  wrM b3 (fun w13 =>
  callV Pr Value.bool 138 #[(.pointer r)] w13 fun t14 w15 =>
  kp b3 w13 w15 <|
  kp b1 w13 w15 <|
  wrM b3 (fun w16 =>
  callV Pr sval 86 #[(.pointer r), (.int .i64 1048576)] w16 fun t17 w18 =>
  kp b3 w16 w18 <|
  kp b1 w16 w18 <|
  wrM b3 (fun w19 =>
  ifB (v != 1)
  (callV Pr (Value.int .i64) 82 #[(.pointer r), (.int .i64 9223372036854775807)] w19 fun t20 w21 =>
  kp b3 w19 w21 <|
  kp b1 w19 w21 <|
  wrM b3 (fun w22 =>
  wrM b1 (fun w23 =>
  K (ApiAnswer.mk t5 t8 t11 t14 t17 t20) w23) w22) w21)
  (wrM b1 (fun w24 =>
  K (ApiAnswer.mk t5 t8 t11 t14 t17 0) w24) w19)) w18) w15) w12) w9) w6) w2) w
def answer_Get_ann : Ann := (.s (.r [(0, .nl 4)]) (.s (.r [(0, .nl 5)]) (.s (.r [(1, .call (rI .i64)), (3, .ls 5)]) (.s (.r [(1, .call (rI .i64)), (3, .ls 5)]) (.s (.r [(1, .call (rI .i64)), (3, .ls 5)]) (.s (.r [(1, .call rB), (3, .ls 5)]) (.s (.r [(1, .call rS), (3, .ls 5)]) (.s (.s .d (.c (.r [(1, .call (rI .i64)), (3, .ls 5)]) .d)) (.s (.r [(1, .ls 4)]) .d)))))))))
theorem answer_Get_calls {r : Option Addr} {v : Int} {K : ApiAnswer → World → Prop} {w : World} (h : answer_Get r v K w) : callV Pr ApiAnswer.val 89 #[(.pointer r), (.int .i64 v)] w K :=
  calls_of Pr_plain Pr_mixed Pr_func89 answer_Get_ann rApiAnswer (args := [(.pointer r), (.int .i64 v)]) (by kernel_rfl) h

/- (*changeover/pack.Reader).Done -/
def pack_Reader_Done (r : Option Addr) (K : Int → World → Prop) (w : World) : Prop :=
  callV Pr (Value.int .i64) 83 #[(.pointer r)] w fun e1 w2 =>
  ifB (e1 != 0)
  (K e1 w2)
  (callV Pr (Value.int .i64) 139 #[(.pointer r)] w2 fun t3 w4 =>
  ifB (decide (t3 > 0))
  (K 3 w4)
  (K 0 w4))
def pack_Reader_Done_ann : Ann := (.s .d (.s (.s (.r [(1, .call (rI .i64))]) (.s .d (.c (.s .d .d) .d))) (.s (.s (.r [(1, .call (rI .i64))]) (.c (.s .d .d) .d)) (.s .d .d))))
theorem pack_Reader_Done_calls {r : Option Addr} {K : Int → World → Prop} {w : World} (h : pack_Reader_Done r K w) : callV Pr (Value.int .i64) 90 #[(.pointer r)] w K :=
  calls_of Pr_plain Pr_mixed Pr_func90 pack_Reader_Done_ann (rI .i64) (args := [(.pointer r)]) (by kernel_rfl) h

/- changeover/changeoverref01.Bytes -/
def ref01_Bytes (n : Int) (K : Sl → World → Prop) (w : World) : Prop :=
  join1 (fun (j1 : Int → World → Prop) =>
  ifB (decide (n < 0))
  (j1 0 w)
  (j1 n w))
  (fun n2 w3 =>
  loop2 (n2 : Int) (Sl.nil : Sl) (fun n4 out5 k6 w7 =>
  ifB (decide (n4 > 127))
  (opTy Pr (Instr.buildSlice 39 1 #[(0, (.int .u8 (IntKind.u8.wrap (i64 (128 + (Int.tmod n4 128))))))]) Sl.val (fun t8 w9 =>
  opTy Pr (Builtin.append_ #[39, 39] 39 #[out5.val, t8.val]) Sl.val (fun out10 w11 =>
  k6 (IntKind.i64.wrap (Int.tdiv n4 128)) out10 w11) w9) w7)
  (opTy Pr (Instr.buildSlice 39 1 #[(0, (.int .u8 (IntKind.u8.wrap n4)))]) Sl.val (fun t12 w13 =>
  opTy Pr (Builtin.append_ #[39, 39] 39 #[out5.val, t12.val]) Sl.val (fun t14 w15 =>
  K t14 w15) w13) w7)) w3)
def ref01_Bytes_ann : Ann := (.s .d (.sj [(.s 0, (rI .i64))] (.s .d (.c .d .d)) (.s .d (.s (.b (.l [(.s 0, (rI .i64)), (.s 3, rSl)] (.s (.s .d (.c .d .d)) (.b (.s (.r [(5, .ty rSl), (6, .ty rSl)]) .d))))) (.s (.r [(3, .ty rSl), (4, .ty rSl)]) .d)))))
theorem ref01_Bytes_calls {n : Int} {K : Sl → World → Prop} {w : World} (h : ref01_Bytes n K w) : callV Pr Sl.val 91 #[(.int .i64 n)] w K :=
  calls_of Pr_plain Pr_mixed Pr_func91 ref01_Bytes_ann rSl (args := [(.int .i64 n)]) (by kernel_rfl) h

/- changeover/changeoverref04.Text -/
def ref04_Text (s : List UInt8) (K : Sl → World → Prop) (w : World) : Prop :=
  callV Pr Sl.val 91 #[(.int .i64 ((s : List UInt8).length : Int))] w fun t1 w2 =>
  opTy Pr (Builtin.append_ #[39, 9] 39 #[t1.val, (sval s)]) Sl.val (fun t3 w4 =>
  K t3 w4) w2
def ref04_Text_ann : Ann := (.s .d (.s (.r [(2, .call rSl), (4, .ty rSl)]) .d))
theorem ref04_Text_calls {s : List UInt8} {K : Sl → World → Prop} {w : World} (h : ref04_Text s K w) : callV Pr Sl.val 92 #[(sval s)] w K :=
  calls_of Pr_plain Pr_mixed Pr_func92 ref04_Text_ann rSl (args := [(sval s)]) (by kernel_rfl) h

/- changeover/changeoverref09.Bytes -/
def ref09_Bytes (v : Int) (a : ApiAnswer) (K : Sl → World → Prop) (w : World) : Prop :=
  newV (fun b1 w2 =>
  callV Pr Sl.val 91 #[(.int .i64 a.Client)] w2 fun out3 w4 =>
  kp b1 w2 w4 <|
  callV Pr Sl.val 91 #[(.int .i64 a.Seq)] w4 fun t5 w6 =>
  kp b1 w4 w6 <|
  opTy Pr (Builtin.append_ #[39, 39] 39 #[out3.val, t5.val]) Sl.val (fun out7 w8 =>
  kp b1 w6 w8 <|
  callV Pr Sl.val 91 #[(.int .i64 a.Err)] w8 fun t9 w10 =>
  kp b1 w8 w10 <|
  opTy Pr (Builtin.append_ #[39, 39] 39 #[out7.val, t9.val]) Sl.val (fun out11 w12 =>
  kp b1 w10 w12 <|
  callV Pr Sl.val 140 #[(.bool a.Found)] w12 fun t13 w14 =>
  kp b1 w12 w14 <|
  opTy Pr (Builtin.append_ #[39, 39] 39 #[out11.val, t13.val]) Sl.val (fun out15 w16 =>
  kp b1 w14 w16 <|
  callV Pr Sl.val 92 #[(sval a.Val)] w16 fun t17 w18 =>
  kp b1 w16 w18 <|
  opTy Pr (Builtin.append_ #[39, 39] 39 #[out15.val, t17.val]) Sl.val (fun out19 w20 =>
  kp b1 w18 w20 <|
  ifB (v == 2)
  (callV Pr Sl.val 91 #[(.int .i64 a.Rev)] w20 fun t21 w22 =>
  kp b1 w20 w22 <|
  opTy Pr (Builtin.append_ #[39, 39] 39 #[out19.val, t21.val]) Sl.val (fun out23 w24 =>
  kp b1 w22 w24 <|
  K out23 w24) w22)
  (K out19 w20)) w18) w14) w10) w6) w
def ref09_Bytes_ann : Ann := (.s (.r [(0, .nl 3)]) (.s (.r [(2, .call rSl)]) (.s (.r [(3, .call rSl), (4, .ty rSl)]) (.s (.r [(3, .call rSl), (4, .ty rSl)]) (.s (.r [(3, .call rSl), (4, .ty rSl)]) (.s (.r [(3, .call rSl), (4, .ty rSl)]) (.s (.s .d (.c (.r [(3, .call rSl), (4, .ty rSl)]) .d)) (.s .d .d))))))))
theorem ref09_Bytes_calls {v : Int} {a : ApiAnswer} {K : Sl → World → Prop} {w : World} (h : ref09_Bytes v a K w) : callV Pr Sl.val 93 #[(.int .i64 v), (.agg ⟨a.cs⟩)] w K :=
  calls_of Pr_plain Pr_mixed Pr_func93 ref09_Bytes_ann rSl (args := [(.int .i64 v), (.agg ⟨a.cs⟩)]) (by kernel_rfl) h

/- changeover/changeoverref23.Same -/
def ref23_Same (a : Sl) (b : Sl) (K : Bool → World → Prop) (w : World) : Prop :=
  ifB ((a.len : Int) != (b.len : Int))
  (K false w)
  (loop1 (0 : Int) (fun i1 k2 w3 =>
  ifB (decide (i1 < (a.len : Int)))
  (drewM (fun w4 =>
  opRd Pr (Instr.indexAt 45 a.val (.int .i64 i1)) pav (fun t5 =>
  opRd Pr (Instr.loadAt 105 (.pointer (some t5))) ApiPair.val (fun t6 =>
  opRd Pr (Instr.indexAt 45 b.val (.int .i64 i1)) pav (fun t7 =>
  opRd Pr (Instr.loadAt 105 (.pointer (some t7))) ApiPair.val (fun t8 =>
  opRd Pr (binSem .neq 105 (.tmp 20) (.tmp 24) (.agg ⟨t6.cs⟩) (.agg ⟨t8.cs⟩)) Value.bool (fun t9 =>
  ifB t9
  (K false w4)
  (k2 (i64 (i1 + 1)) w4)) w4) w4) w4) w4) w4) w3)
  (K true w3)) w)
def ref23_Same_ann : Ann := (.s .d (.s (.s .d (.c (.s .d .d) .d)) (.s (.s .d (.b (.l [(.s 5, (rI .i64))] (.s (.s .d (.c .d .d)) (.s (.b (.s (.r [(2, .rd rPA), (3, .rd rApiPair), (6, .rd rPA), (7, .rd rApiPair), (8, .rd rB)]) (.c (.s .d .d) .d))) .d))))) (.s .d .d))))
theorem ref23_Same_calls {a : Sl} {b : Sl} {K : Bool → World → Prop} {w : World} (h : ref23_Same a b K w) : callV Pr Value.bool 94 #[a.val, b.val] w K :=
  calls_of Pr_plain Pr_mixed Pr_func94 ref23_Same_ann rB (args := [a.val, b.val]) (by kernel_rfl) h

/- changeover/changeoverref22.Same -/
def ref22_Same (a : Sl) (b : Sl) (K : Bool → World → Prop) (w : World) : Prop :=
  ifB ((a.len : Int) != (b.len : Int))
  (K false w)
  (loop1 (0 : Int) (fun i1 k2 w3 =>
  ifB (decide (i1 < (a.len : Int)))
  (drewM (fun w4 =>
  opRd Pr (Instr.indexAt 46 a.val (.int .i64 i1)) pav (fun t5 =>
  opRd Pr (Instr.loadAt 110 (.pointer (some t5))) ApiSession.val (fun t6 =>
  opRd Pr (Instr.indexAt 46 b.val (.int .i64 i1)) pav (fun t7 =>
  opRd Pr (Instr.loadAt 110 (.pointer (some t7))) ApiSession.val (fun t8 =>
  opRd Pr (binSem .neq 110 (.tmp 20) (.tmp 24) (.agg ⟨t6.cs⟩) (.agg ⟨t8.cs⟩)) Value.bool (fun t9 =>
  ifB t9
  (K false w4)
  (k2 (i64 (i1 + 1)) w4)) w4) w4) w4) w4) w4) w3)
  (K true w3)) w)
def ref22_Same_ann : Ann := (.s .d (.s (.s .d (.c (.s .d .d) .d)) (.s (.s .d (.b (.l [(.s 5, (rI .i64))] (.s (.s .d (.c .d .d)) (.s (.b (.s (.r [(2, .rd rPA), (3, .rd rApiSession), (6, .rd rPA), (7, .rd rApiSession), (8, .rd rB)]) (.c (.s .d .d) .d))) .d))))) (.s .d .d))))
theorem ref22_Same_calls {a : Sl} {b : Sl} {K : Bool → World → Prop} {w : World} (h : ref22_Same a b K w) : callV Pr Value.bool 95 #[a.val, b.val] w K :=
  calls_of Pr_plain Pr_mixed Pr_func95 ref22_Same_ann rB (args := [a.val, b.val]) (by kernel_rfl) h

/- changeover/snaptwo.first -/
def snaptwo_first (b : Sl) (K : ((Option Addr) × Int × Int) → World → Prop) (w : World) : Prop :=
  callV Pr Value.pointer 81 #[b.val] w fun r1 w2 =>
  callV Pr (Value.int .i64) 82 #[(.pointer r1), (.int .i64 2)] w2 fun n3 w4 =>
  callV Pr (Value.int .i64) 83 #[(.pointer r1)] w4 fun t5 w6 =>
  K (r1, n3, t5) w6
def snaptwo_first_ann : Ann := (.s .d (.s (.r [(1, .call rP)]) (.s (.r [(1, .call (rI .i64))]) (.s (.r [(3, .call (rI .i64))]) .d))))
theorem snaptwo_first_calls {b : Sl} {K : ((Option Addr) × Int × Int) → World → Prop} {w : World} (h : snaptwo_first b K w) : callV Pr (tval3 Value.pointer (Value.int .i64) (Value.int .i64)) 96 #[b.val] w K :=
  calls_of Pr_plain Pr_mixed Pr_func96 snaptwo_first_ann (rT3 rP (rI .i64) (rI .i64)) (args := [b.val]) (by kernel_rfl) h

/- changeover/snaptwo.Decode$1 -/
def snaptwo_Decode_1 (c_x0 : Addr) (c_x1 : Addr) (K : Unit → World → Prop) (w : World) : Prop :=
  opRd Pr (Instr.loadAt 114 (.pointer (some c_x0))) Value.pointer (fun t1 =>
  callV Pr sval 86 #[(.pointer t1), (.int .i64 1048576)] w fun t2 w3 =>
  newV (fun b4 w5 =>
  wrM b4 (fun w6 =>
  opRd Pr (Instr.loadAt 114 (.pointer (some c_x0))) Value.pointer (fun t7 =>
  callV Pr (Value.int .i64) 82 #[(.pointer t7), (.int .i64 9223372036854775807)] w6 fun t8 w9 =>
  kp b4 w6 w9 <|
  wrM b4 (fun w10 =>
  opRd Pr (Instr.loadAt 114 (.pointer (some c_x0))) Value.pointer (fun t11 =>
  callV Pr sval 86 #[(.pointer t11), (.int .i64 1048576)] w10 fun t12 w13 =>
  kp b4 w10 w13 <|
  wrM b4 (fun w14 =>
  opRd Pr (Instr.loadAt 45 (.pointer (some (c_x1.add 1)))) Sl.val (fun t15 =>
  opTy Pr (Instr.buildSlice 45 1 #[(0, (.agg ⟨[(sval t2), (sval t12), (.int .i64 t8)]⟩))]) Sl.val (fun t16 w17 =>
  kp b4 w14 w17 <|
  opTy Pr (Builtin.append_ #[45, 45] 45 #[t15.val, t16.val]) Sl.val (fun t18 w19 =>
  kp b4 w17 w19 <|
  opUn Pr (Instr.storeAt 45 (.pointer (some (c_x1.add 1))) t18.val) (fun w20 =>
  kp b4 w19 w20 <|
  K () w20) w19) w17) w14) w14) w13) w10) w9) w6) w5) w3) w
def snaptwo_Decode_1_ann : Ann := (.s (.r [(0, .rd rP), (1, .call rS), (3, .nl 2), (4, .ls 2)]) (.s (.r [(0, .rd rP), (1, .call (rI .i64)), (3, .ls 2)]) (.s (.r [(0, .rd rP), (1, .call rS), (3, .ls 2)]) (.r [(1, .rd rSl), (3, .ty rSl), (4, .ty rSl), (6, .un)]))))
theorem snaptwo_Decode_1_calls {c_x0 : Addr} {c_x1 : Addr} {K : Unit → World → Prop} {w : World} (h : snaptwo_Decode_1 c_x0 c_x1 K w) : callV Pr uval 98 #[(.pointer (some c_x0)), (.pointer (some c_x1))] w K :=
  calls_of Pr_plain Pr_mixed Pr_func98 snaptwo_Decode_1_ann rU (args := [(.pointer (some c_x0)), (.pointer (some c_x1))]) (by kernel_rfl) h

/- changeover/snaptwo.Decode$2 -/
def snaptwo_Decode_2 (c_x0 : Addr) (c_x1 : Addr) (K : Unit → World → Prop) (w : World) : Prop :=
  opRd Pr (Instr.loadAt 114 (.pointer (some c_x0))) Value.pointer (fun t1 =>
  callV Pr ApiAnswer.val 89 #[(.pointer t1), (.int .i64 2)] w fun t2 w3 =>
  newV (fun b4 w5 =>
  wrM b4 (fun w6 =>
  opRd Pr (Instr.loadAt 46 (.pointer (some (c_x1.add 2)))) Sl.val (fun t7 =>
  opTy Pr (Instr.buildSlice 46 1 #[(0, (.agg ⟨[(.int .i64 t2.Client), (.int .i64 t2.Seq), (.int .i64 t2.Client), (.int .i64 t2.Seq), (.int .i64 t2.Err), (.bool t2.Found), (sval t2.Val), (.int .i64 t2.Rev)]⟩))]) Sl.val (fun t8 w9 =>
  kp b4 w6 w9 <|
  opTy Pr (Builtin.append_ #[46, 46] 46 #[t7.val, t8.val]) Sl.val (fun t10 w11 =>
  kp b4 w9 w11 <|
  opUn Pr (Instr.storeAt 46 (.pointer (some (c_x1.add 2))) t10.val) (fun w12 =>
  kp b4 w11 w12 <|
  K () w12) w11) w9) w6) w6) w5) w3) w
def snaptwo_Decode_2_ann : Ann := (.s (.r [(0, .rd rP), (1, .call rApiAnswer), (2, .nl 2), (3, .ls 2)]) (.r [(1, .rd rSl), (8, .ty rSl), (9, .ty rSl), (11, .un)]))
theorem snaptwo_Decode_2_calls {c_x0 : Addr} {c_x1 : Addr} {K : Unit → World → Prop} {w : World} (h : snaptwo_Decode_2 c_x0 c_x1 K w) : callV Pr uval 99 #[(.pointer (some c_x0)), (.pointer (some c_x1))] w K :=
  calls_of Pr_plain Pr_mixed Pr_func99 snaptwo_Decode_2_ann rU (args := [(.pointer (some c_x0)), (.pointer (some c_x1))]) (by kernel_rfl) h

/- changeover/migr.Up -/
def migr_Up (s : ApiState) (K : (ApiState × Int) → World → Prop) (w : World) : Prop :=
  newV (fun b1 w2 =>
  newV (fun b3 w4 =>
  callV Pr (Value.int .i64) 74 #[(.agg ⟨[(.int .i64 s.Schema), s.Pairs.val, s.Sessions.val]⟩)] w4 fun e5 w6 =>
  kp b3 w4 w6 <|
  kp b1 w4 w6 <|
  ifB (e5 != 0)
  (wrM b3 (fun w7 =>
  K ((ApiState.mk 0 Sl.nil Sl.nil), e5) w7) w6)
  (ifB (s.Schema == 2)
  (wrM b3 (fun w8 =>
  K ((ApiState.mk 0 Sl.nil Sl.nil), 12) w8) w6)
  (callV Pr ApiState.val 141 #[(.agg ⟨[(.int .i64 s.Schema), s.Pairs.val, s.Sessions.val]⟩)] w6 fun t9 w10 =>
  kp b3 w6 w10 <|
  kp b1 w6 w10 <|
  newV (fun b11 w12 =>
  wrM b11 (fun w13 =>
  wrM b11 (fun w14 =>
  loop1 (0 : Int) (fun t15 k16 w17 =>
  ifB (decide (t15 < (t9.Pairs.len : Int)))
  (opRd Pr (Instr.indexAt 45 t9.Pairs.val (.int .i64 t15)) pav (fun t18 =>
  opUn Pr (Instr.storeAt 3 (.pointer (some (t18.add 2))) (.int .i64 1)) (fun w19 =>
  kp b11 w17 w19 <|
  kp b3 w17 w19 <|
  kp b1 w17 w19 <|
  k16 (i64 (t15 + 1)) w19) w17) w17)
  (wrM b3 (fun w20 =>
  K ((ApiState.mk 2 t9.Pairs t9.Sessions), 0) w20) w17)) w14) w13) w12) w10))) w2) w
def migr_Up_ann : Ann := (.s (.r [(0, .nl 1), (1, .nl 2)]) (.s (.s (.r [(1, .call (rI .i64))]) (.s .d (.c (.s (.r [(2, .ls 2)]) .d) .d))) (.s (.s .d (.c (.s (.r [(1, .ls 2)]) .d) .d)) (.s (.r [(1, .call rApiState), (2, .nl 5), (3, .ls 5)]) (.s (.r [(1, .ls 5)]) (.s (.s .d (.b (.l [(.s 23, (rI .i64))] (.s .d (.s (.c .d .d) (.s (.b (.s .d (.r [(3, .rd rPA), (5, .un)]))) .d)))))) (.s (.r [(1, .ls 2)]) .d)))))))
theorem migr_Up_calls {s : ApiState} {K : (ApiState × Int) → World → Prop} {w : World} (h : migr_Up s K w) : callV Pr (tval2 ApiState.val (Value.int .i64)) 100 #[(.agg ⟨s.cs⟩)] w K :=
  calls_of Pr_plain Pr_mixed Pr_func100 migr_Up_ann (rT2 rApiState (rI .i64)) (args := [(.agg ⟨s.cs⟩)]) (by kernel_rfl) h

/- changeover/msgone.read -/
def msgone_read (r : Option Addr) (K : ApiMsg → World → Prop) (w : World) : Prop :=
  newV (fun b1 w2 =>
  opTy Pr (Instr.alloc 41 true (.tuple #[])) pav (fun m3 w4 =>
  kp b1 w2 w4 <|
  loop1 (0 : Int) (fun t5 k6 w7 =>
  ifB (decide (t5 < 7))
  (opRd Pr (Instr.index 163 (.agg ⟨[(.pointer (some (m3.add 0))), (.pointer (some (m3.add 1))), (.pointer (some (m3.add 2))), (.pointer (some ((m3.add 3).add 0))), (.pointer (some ((m3.add 3).add 1))), (.pointer (some (m3.add 5))), (.pointer (some (m3.add 6)))]⟩) (.int .i64 t5)) Value.pointer (fun to8 =>
  callV Pr (Value.int .i64) 82 #[(.pointer r), (.int .i64 9223372036854775807)] w7 fun t9 w10 =>
  kp b1 w7 w10 <|
  opRd Pr (nilSem (.pointer to8)) pav (fun t11 =>
  opUn Pr (Instr.storeAt 3 (.pointer (some t11)) (.int .i64 t9)) (fun w12 =>
  kp b1 w10 w12 <|
  k6 (i64 (t5 + 1)) w12) w10) w10) w7)
  (callV Pr Sl.val 142 #[(.pointer r), (.int .i64 1)] w7 fun t13 w14 =>
  kp b1 w7 w14 <|
  opUn Pr (Instr.storeAt 38 (.pointer (some (m3.add 8))) t13.val) (fun w15 =>
  kp b1 w14 w15 <|
  callV Pr Sl.val 137 #[(.pointer r), (.int .i64 32768)] w15 fun t16 w17 =>
  kp b1 w15 w17 <|
  opUn Pr (Instr.storeAt 39 (.pointer (some (m3.add 9))) t16.val) (fun w18 =>
  kp b1 w17 w18 <|
  opRd Pr (Instr.loadAt 3 (.pointer (some (m3.add 0)))) (Value.int .i64) (fun t19 =>
  callV Pr (Value.int .i64) 59 #[(.int .i64 t19)] w18 fun t20 w21 =>
  kp b1 w18 w21 <|
  ifB ((bAnd .i64 t20 8) != 0)
  (opUn Pr (Instr.storeAt 3 (.pointer (some (m3.add 7))) (.int .i64 1)) (fun w22 =>
  kp b1 w21 w22 <|
  opRd Pr (Instr.loadAt 41 (.pointer (some m3))) ApiMsg.val (fun t23 =>
  wrM b1 (fun w24 =>
  K t23 w24) w22) w22) w21)
  (opRd Pr (Instr.loadAt 41 (.pointer (some m3))) ApiMsg.val (fun t25 =>
  wrM b1 (fun w26 =>
  K t25 w26) w21) w21)) w18) w17) w14)) w4) w2) w
def msgone_read_ann : Ann := (.s (.r [(0, .nl 2)]) (.s (.r [(0, .ty rPA)]) (.s (.s .d (.b (.l [(.s 16, (rI .i64))] (.s .d (.s (.c .d .d) (.s (.b (.s (.r [(0, .rd rP)]) (.r [(2, .call (rI .i64)), (3, .rd rPA), (4, .un)]))) .d)))))) (.s (.r [(1, .call rSl), (3, .un)]) (.s (.r [(1, .call rSl), (3, .un)]) (.s (.s (.r [(1, .rd (rI .i64)), (2, .call (rI .i64))]) (.c (.r [(1, .un)]) .d)) (.s (.r [(0, .rd rApiMsg), (1, .ls 2)]) .d)))))))
theorem msgone_read_calls {r : Option Addr} {K : ApiMsg → World → Prop} {w : World} (h : msgone_read r K w) : callV Pr ApiMsg.val 101 #[(.pointer r)] w K :=
  calls_of Pr_plain Pr_mixed Pr_func101 msgone_read_ann rApiMsg (args := [(.pointer r)]) (by kernel_rfl) h

/- changeover/msgone.older -/
def msgone_older (m : ApiMsg) (K : Bool → World → Prop) (w : World) : Prop :=
  newV (fun b1 w2 =>
  callV Pr Value.bool 143 #[(.int .i64 1), m.Entries.val] w2 fun t3 w4 =>
  kp b1 w2 w4 <|
  ifB t3
  (K (decide (m.Version ≤ 1)) w4)
  (K false w4)) w
def msgone_older_ann : Ann := (.s (.r [(0, .nl 1)]) (.s (.r [(2, .call rB)]) .d))
theorem msgone_older_calls {m : ApiMsg} {K : Bool → World → Prop} {w : World} (h : msgone_older m K w) : callV Pr Value.bool 102 #[(.agg ⟨m.cs⟩)] w K :=
  calls_of Pr_plain Pr_mixed Pr_func102 msgone_older_ann rB (args := [(.agg ⟨m.cs⟩)]) (by kernel_rfl) h

/- changeover/changeoverref12.Has -/
def ref12_Has (v : Int) (l : Sl) (K : Bool → World → Prop) (w : World) : Prop :=
  loop1 (0 : Int) (fun i1 k2 w3 =>
  ifB (decide (i1 < (l.len : Int)))
  (opRd Pr (Instr.indexAt 38 l.val (.int .i64 i1)) pav (fun t4 =>
  opRd Pr (Instr.loadAt 3 (.pointer (some ((t4.add 3).add 0)))) (Value.int .i64) (fun t5 =>
  callV Pr Value.bool 144 #[(.int .i64 v), (.int .i64 t5)] w3 fun t6 w7 =>
  ifB (!t6)
  (K false w7)
  (k2 (i64 (i1 + 1)) w7)) w3) w3)
  (K true w3)) w
def ref12_Has_ann : Ann := (.s .d (.s (.s .d (.b (.l [(.s 5, (rI .i64))] (.s (.s .d (.c .d .d)) (.s (.b (.s (.r [(3, .rd rPA), (6, .rd (rI .i64)), (7, .call rB)]) (.c (.s .d .d) .d))) .d))))) (.s .d .d)))
theorem ref12_Has_calls {v : Int} {l : Sl} {K : Bool → World → Prop} {w : World} (h : ref12_Has v l K w) : callV Pr Value.bool 103 #[(.int .i64 v), l.val] w K :=
  calls_of Pr_plain Pr_mixed Pr_func103 ref12_Has_ann rB (args := [(.int .i64 v), l.val]) (by kernel_rfl) h

/- changeover/changeoverref12.Bytes -/
def ref12_Bytes (v : Int) (l : Sl) (K : Sl → World → Prop) (w : World) : Prop :=
  callV Pr Sl.val 91 #[(.int .i64 (l.len : Int))] w fun out1 w2 =>
  loop2 (out1 : Sl) (0 : Int) (fun out3 i4 k5 w6 =>
  ifB (decide (i4 < (l.len : Int)))
  (opRd Pr (Instr.indexAt 38 l.val (.int .i64 i4)) pav (fun t7 =>
  opRd Pr (Instr.loadAt 3 (.pointer (some (t7.add 0)))) (Value.int .i64) (fun t8 =>
  callV Pr Sl.val 91 #[(.int .i64 t8)] w6 fun t9 w10 =>
  opTy Pr (Builtin.append_ #[39, 39] 39 #[out3.val, t9.val]) Sl.val (fun out11 w12 =>
  opRd Pr (Instr.indexAt 38 l.val (.int .i64 i4)) pav (fun t13 =>
  opRd Pr (Instr.loadAt 3 (.pointer (some ((t13.add 1).add 0)))) (Value.int .i64) (fun t14 =>
  callV Pr Sl.val 91 #[(.int .i64 t14)] w12 fun t15 w16 =>
  opTy Pr (Builtin.append_ #[39, 39] 39 #[out11.val, t15.val]) Sl.val (fun out17 w18 =>
  opRd Pr (Instr.indexAt 38 l.val (.int .i64 i4)) pav (fun t19 =>
  opRd Pr (Instr.loadAt 3 (.pointer (some ((t19.add 1).add 1)))) (Value.int .i64) (fun t20 =>
  callV Pr Sl.val 91 #[(.int .i64 t20)] w18 fun t21 w22 =>
  opTy Pr (Builtin.append_ #[39, 39] 39 #[out17.val, t21.val]) Sl.val (fun out23 w24 =>
  opRd Pr (Instr.indexAt 38 l.val (.int .i64 i4)) pav (fun t25 =>
  opRd Pr (Instr.loadAt 91 (.pointer (some (t25.add 3)))) ApiCmd.val (fun t26 =>
  callV Pr Sl.val 145 #[(.int .i64 v), (.agg ⟨t26.cs⟩)] w24 fun t27 w28 =>
  opTy Pr (Builtin.append_ #[39, 39] 39 #[out23.val, t27.val]) Sl.val (fun out29 w30 =>
  k5 out29 (i64 (i4 + 1)) w30) w28) w24) w24) w22) w18) w18) w16) w12) w12) w10) w6) w6)
  (K out3 w6)) w2
def ref12_Bytes_ann : Ann := (.s .d (.s (.r [(2, .call rSl)]) (.s (.s .d (.b (.l [(.s 5, rSl), (.s 6, (rI .i64))] (.s (.s .d (.c .d .d)) (.s (.b (.s (.r [(3, .rd rPA), (5, .rd (rI .i64)), (6, .call rSl), (7, .ty rSl)]) (.s (.r [(3, .rd rPA), (6, .rd (rI .i64)), (7, .call rSl), (8, .ty rSl)]) (.s (.r [(3, .rd rPA), (6, .rd (rI .i64)), (7, .call rSl), (8, .ty rSl)]) (.r [(4, .rd rPA), (6, .rd rApiCmd), (7, .call rSl), (8, .ty rSl)]))))) .d))))) (.s .d .d))))
theorem ref12_Bytes_calls {v : Int} {l : Sl} {K : Sl → World → Prop} {w : World} (h : ref12_Bytes v l K w) : callV Pr Sl.val 104 #[(.int .i64 v), l.val] w K :=
  calls_of Pr_plain Pr_mixed Pr_func104 ref12_Bytes_ann rSl (args := [(.int .i64 v), l.val]) (by kernel_rfl) h

/- (*strings.Builder).copyCheck -/
def strings_Builder_copyCheck (b : Option Addr) (K : Unit → World → Prop) (w : World) : Prop :=
  opRd Pr (nilSem (.pointer b)) pav (fun t1 =>
  opRd Pr (Instr.loadAt 64 (.pointer (some (t1.add 0)))) Value.pointer (fun t2 =>
  opRd Pr (binSem .eql 64 (.tmp 5) (.const (.pointer none)) (.pointer t2) (.pointer none)) Value.bool (fun t3 =>
  ifB t3
  (opTy Pr (convert 64 167 (.pointer b)) Value.pointer (fun t4 w5 =>
  opEx Pr 146 #[(.pointer t4)] Value.pointer (fun t6 w7 =>
  opTy Pr (convert 167 64 (.pointer t6)) Value.pointer (fun t8 w9 =>
  opRd Pr (nilSem (.pointer b)) pav (fun t10 =>
  opUn Pr (Instr.storeAt 64 (.pointer (some (t10.add 0))) (.pointer t8)) (fun w11 =>
  K () w11) w9) w9) w7) w5) w)
  (opRd Pr (nilSem (.pointer b)) pav (fun t12 =>
  opRd Pr (Instr.loadAt 64 (.pointer (some (t12.add 0)))) Value.pointer (fun t13 =>
  opRd Pr (binSem .neq 64 (.tmp 17) (.tmp 18) (.pointer t13) (.pointer b)) Value.bool (fun t14 =>
  ifB t14
  (False)
  (K () w)) w) w) w)) w) w) w
def strings_Builder_copyCheck_ann : Ann := (.s (.r [(1, .rd rPA), (3, .rd rP), (4, .rd rB)]) (.c (.r [(2, .ty rP), (3, .ext rP), (4, .ty rP), (5, .rd rPA), (7, .un)]) (.s (.r [(1, .rd rPA), (3, .rd rP), (5, .rd rB)]) (.c .d .d))))
theorem strings_Builder_copyCheck_calls {b : Option Addr} {K : Unit → World → Prop} {w : World} (h : strings_Builder_copyCheck b K w) : callV Pr uval 105 #[(.pointer b)] w K :=
  calls_of Pr_plain Pr_mixed Pr_func105 strings_Builder_copyCheck_ann rU (args := [(.pointer b)]) (by kernel_rfl) h

/- unicode/utf8.decodeRuneInStringSlow -/
def unicode_utf8_decodeRuneInStringSlow (s : List UInt8) (K : (Int × Int) → World → Prop) (w : World) : Prop :=
  ifB (decide (((s : List UInt8).length : Int) < 1))
  (K (65533, 0) w)
  (opRd Pr (Instr.index 9 (sval s) (.int .i64 0)) (Value.int .u8) (fun s01 =>
  opRd Pr (Instr.indexAt 169 (.pointer (some g_unicode_utf8_first)) (.int .u8 s01)) pav (fun t2 =>
  opRd Pr (Instr.loadAt 5 (.pointer (some t2))) (Value.int .u8) (fun x3 =>
  ifB (decide (x3 ≥ 240))
  (opRd Pr (Instr.index 9 (sval s) (.int .i64 0)) (Value.int .u8) (fun t4 =>
  K ((bOr .i32 (bAndNot .i32 (IntKind.i32.wrap t4) (shR .i32 (shL .i32 (IntKind.i32.wrap x3) 31) 31)) (bAnd .i32 65533 (shR .i32 (shL .i32 (IntKind.i32.wrap x3) 31) 31))), 1) w) w)
  (opRd Pr (Instr.indexAt 172 (.pointer (some g_unicode_utf8_acceptRanges)) (.int .u8 (shR .u8 x3 4))) pav (fun t5 =>
  opRd Pr (Instr.loadAt 171 (.pointer (some t5))) Utf8AcceptRange.val (fun t6 =>
  newV (fun b7 w8 =>
  wrM b7 (fun w9 =>
  ifB (decide (((s : List UInt8).length : Int) < (IntKind.i64.wrap (bAnd .u8 x3 7))))
  (K (65533, 1) w9)
  (opRd Pr (Instr.index 9 (sval s) (.int .i64 1)) (Value.int .u8) (fun s110 =>
  ifB (decide (s110 < t6.lo))
  (K (65533, 1) w9)
  (ifB (decide (t6.hi < s110))
  (K (65533, 1) w9)
  (ifB (decide ((IntKind.i64.wrap (bAnd .u8 x3 7)) ≤ 2))
  (K ((bOr .i32 (shL .i32 (IntKind.i32.wrap (bAnd .u8 s01 31)) 6) (IntKind.i32.wrap (bAnd .u8 s110 63))), 2) w9)
  (opRd Pr (Instr.index 9 (sval s) (.int .i64 2)) (Value.int .u8) (fun s211 =>
  ifB (decide (s211 < 128))
  (K (65533, 1) w9)
  (ifB (decide ((191 : Int) < s211))
  (K (65533, 1) w9)
  (ifB (decide ((IntKind.i64.wrap (bAnd .u8 x3 7)) ≤ 3))
  (K ((bOr .i32 (bOr .i32 (shL .i32 (IntKind.i32.wrap (bAnd .u8 s01 15)) 12) (shL .i32 (IntKind.i32.wrap (bAnd .u8 s110 63)) 6)) (IntKind.i32.wrap (bAnd .u8 s211 63))), 3) w9)
  (opRd Pr (Instr.index 9 (sval s) (.int .i64 3)) (Value.int .u8) (fun s312 =>
  ifB (decide (s312 < 128))
  (K (65533, 1) w9)
  (ifB (decide ((191 : Int) < s312))
  (K (65533, 1) w9)
  (K ((bOr .i32 (bOr .i32 (bOr .i32 (shL .i32 (IntKind.i32.wrap (bAnd .u8 s01 7)) 18) (shL .i32 (IntKind.i32.wrap (bAnd .u8 s110 63)) 12)) (shL .i32 (IntKind.i32.wrap (bAnd .u8 s211 63)) 6)) (IntKind.i32.wrap (bAnd .u8 s312 63))), 4) w9))) w9)))) w9)))) w9)) w8) w) w) w)) w) w) w)
def unicode_utf8_decodeRuneInStringSlow_ann : Ann := (.s .d (.s .d (.s (.s .d (.c (.s .d .d) .d)) (.s (.r [(1, .rd (rI .u8))]) (.s (.r [(1, .rd rPA), (2, .rd (rI .u8))]) (.s (.s .d (.c (.s .d (.s (.r [(1, .rd (rI .u8))]) .d)) .d)) (.s .d (.s (.r [(2, .rd rPA), (3, .rd rUtf8AcceptRange), (4, .nl 9), (5, .ls 9)]) (.s (.s .d (.c (.s .d .d) .d)) (.s (.r [(1, .rd (rI .u8))]) (.s (.s .d (.c (.s .d .d) .d)) (.s (.s .d (.c (.s .d .d) .d)) (.s (.r [(1, .rd (rI .u8))]) (.s (.s .d (.c (.s .d .d) .d)) (.s (.s .d (.c (.s .d .d) .d)) (.s (.r [(1, .rd (rI .u8))]) (.s (.s .d (.c (.s .d .d) .d)) (.s .d .d))))))))))))))))))
theorem unicode_utf8_decodeRuneInStringSlow_calls {s : List UInt8} {K : (Int × Int) → World → Prop} {w : World} (h : unicode_utf8_decodeRuneInStringSlow s K w) : callV Pr (tval2 (Value.int .i32) (Value.int .i64)) 106 #[(sval s)] w K :=
  calls_of Pr_plain Pr_mixed Pr_func106 unicode_utf8_decodeRuneInStringSlow_ann (rT2 (rI .i32) (rI .i64)) (args := [(sval s)]) (by kernel_rfl) h

/- changeover/quote.byteAs -/
def quote_byteAs (c : Int) (K : (List UInt8) → World → Prop) (w : World) : Prop :=
  drewM (fun w1 =>
  opRd Pr (Instr.sliceAt 9 (sval cs16_37011) (some (.int .u8 (shR .u8 c 4))) (some (.int .u8 (IntKind.u8.wrap ((shR .u8 c 4) + 1)))) none) sval (fun t2 =>
  opRd Pr (binSem .add 9 (.const (sval [92, 120])) (.tmp 8) (sval [92, 120]) (sval t2)) sval (fun t3 =>
  opRd Pr (Instr.sliceAt 9 (sval cs16_37011) (some (.int .u8 (bAnd .u8 c 15))) (some (.int .u8 (IntKind.u8.wrap ((bAnd .u8 c 15) + 1)))) none) sval (fun t4 =>
  opRd Pr (binSem .add 9 (.tmp 9) (.tmp 15) (sval t3) (sval t4)) sval (fun t5 =>
  K t5 w1) w1) w1) w1) w1) w
def quote_byteAs_ann : Ann := (.s .d (.s (.r [(5, .rd rS), (6, .rd rS), (12, .rd rS), (13, .rd rS)]) .d))
theorem quote_byteAs_calls {c : Int} {K : (List UInt8) → World → Prop} {w : World} (h : quote_byteAs c K w) : callV Pr sval 107 #[(.int .u8 c)] w K :=
  calls_of Pr_plain Pr_mixed Pr_func107 quote_byteAs_ann rS (args := [(.int .u8 c)]) (by kernel_rfl) h

/- changeover/quote.digit -/
def quote_digit (c : Int) (K : Int → World → Prop) (w : World) : Prop :=
  callV Pr (Value.int .i64) 147 #[(sval cs16_37011), (.int .u8 c)] w fun t1 w2 =>
  K t1 w2
def quote_digit_ann : Ann := (.s .d (.s (.r [(1, .call (rI .i64))]) .d))
theorem quote_digit_calls {c : Int} {K : Int → World → Prop} {w : World} (h : quote_digit c K w) : callV Pr (Value.int .i64) 108 #[(.int .u8 c)] w K :=
  calls_of Pr_plain Pr_mixed Pr_func108 quote_digit_ann (rI .i64) (args := [(.int .u8 c)]) (by kernel_rfl) h

/- changeover/quote.quoted -/
def quote_quoted (line : List UInt8) (K : Int → World → Prop) (w : World) : Prop :=
  loop1 (1 : Int) (fun i1 k2 w3 =>
  ifB (decide (i1 < ((line : List UInt8).length : Int)))
  (opRd Pr (Instr.index 9 (sval line) (.int .i64 i1)) (Value.int .u8) (fun t4 =>
  ifB (t4 == 92)
  (k2 (i64 ((i64 (i1 + 1)) + 1)) w3)
  (ifB (t4 == 34)
  (K (i64 (i1 + 1)) w3)
  (k2 (i64 (i1 + 1)) w3))) w3)
  (K 0 w3)) w
def quote_quoted_ann : Ann := (.s .d (.s (.s .d (.b (.l [(.s 3, (rI .i64))] (.s (.s .d (.c .d .d)) (.s (.b (.s (.r [(2, .rd (rI .u8))]) (.b (.s .d (.c .d (.s .d (.c (.s .d .d) .d))))))) .d))))) (.s .d .d)))
theorem quote_quoted_calls {line : List UInt8} {K : Int → World → Prop} {w : World} (h : quote_quoted line K w) : callV Pr (Value.int .i64) 109 #[(sval line)] w K :=
  calls_of Pr_plain Pr_mixed Pr_func109 quote_quoted_ann (rI .i64) (args := [(sval line)]) (by kernel_rfl) h

/- strings.Cut -/
def strings_Cut (s : List UInt8) (sep : List UInt8) (K : ((List UInt8) × (List UInt8) × Bool) → World → Prop) (w : World) : Prop :=
  callV Pr (tval3 sval sval Value.bool) 148 #[(sval s), (sval sep)] w fun t1 w2 =>
  K (t1.1, t1.2.1, t1.2.2) w2
def strings_Cut_ann : Ann := (.s .d (.s (.r [(2, .call (rT3 rS rS rB))]) .d))
theorem strings_Cut_calls {s : List UInt8} {sep : List UInt8} {K : ((List UInt8) × (List UInt8) × Bool) → World → Prop} {w : World} (h : strings_Cut s sep K w) : callV Pr (tval3 sval sval Value.bool) 110 #[(sval s), (sval sep)] w K :=
  calls_of Pr_plain Pr_mixed Pr_func110 strings_Cut_ann (rT3 rS rS rB) (args := [(sval s), (sval sep)]) (by kernel_rfl) h

/- (*strings.Builder).Grow -/
def strings_Builder_Grow (b : Option Addr) (n : Int) (K : Unit → World → Prop) (w : World) : Prop :=
  callV Pr uval 105 #[(.pointer b)] w fun t1 w2 =>
  ifB (decide (n < 0))
  (False)
  (drewM (fun w3 =>
  opRd Pr (nilSem (.pointer b)) pav (fun t4 =>
  opRd Pr (Instr.loadAt 39 (.pointer (some (t4.add 1)))) Sl.val (fun t5 =>
  opRd Pr (nilSem (.pointer b)) pav (fun t6 =>
  opRd Pr (Instr.loadAt 39 (.pointer (some (t6.add 1)))) Sl.val (fun t7 =>
  ifB (decide ((i64 ((t5.cap : Int) - (t7.len : Int))) < n))
  (callV Pr uval 149 #[(.pointer b), (.int .i64 n)] w3 fun t8 w9 =>
  K () w9)
  (K () w3)) w3) w3) w3) w3) w2)
def strings_Builder_Grow_ann : Ann := (.s (.r [(1, .call rU)]) (.s (.s .d (.c .d .d)) (.s (.r [(1, .rd rPA), (3, .rd rSl), (6, .rd rPA), (8, .rd rSl)]) (.c (.r [(2, .call rU)]) .d))))
theorem strings_Builder_Grow_calls {b : Option Addr} {n : Int} {K : Unit → World → Prop} {w : World} (h : strings_Builder_Grow b n K w) : callV Pr uval 111 #[(.pointer b), (.int .i64 n)] w K :=
  calls_of Pr_plain Pr_mixed Pr_func111 strings_Builder_Grow_ann rU (args := [(.pointer b), (.int .i64 n)]) (by kernel_rfl) h

/- changeover/entry.Put -/
def entry_Put (w_ : Option Addr) (v : Int) (l : Sl) (K : Unit → World → Prop) (w : World) : Prop :=
  callV Pr uval 75 #[(.pointer w_), (.int .i64 (l.len : Int))] w fun t1 w2 =>
  loop1 (0 : Int) (fun t3 k4 w5 =>
  ifB (decide (t3 < (l.len : Int)))
  (opRd Pr (Instr.indexAt 38 l.val (.int .i64 t3)) pav (fun t6 =>
  opRd Pr (Instr.loadAt 93 (.pointer (some t6))) ApiEntry.val (fun t7 =>
  newV (fun b8 w9 =>
  wrM b8 (fun w10 =>
  callV Pr uval 75 #[(.pointer w_), (.int .i64 t7.Index)] w10 fun t11 w12 =>
  kp b8 w10 w12 <|
  callV Pr uval 75 #[(.pointer w_), (.int .i64 t7.Ballot.Round)] w12 fun t13 w14 =>
  kp b8 w12 w14 <|
  callV Pr uval 75 #[(.pointer w_), (.int .i64 t7.Ballot.Node)] w14 fun t15 w16 =>
  kp b8 w14 w16 <|
  callV Pr uval 150 #[(.pointer w_), (.int .i64 v), (.agg ⟨[(.int .i64 t7.Cmd.Kind), (.int .i64 t7.Cmd.Client), (.int .i64 t7.Cmd.Seq), (sval t7.Cmd.Key), (sval t7.Cmd.Val), (sval t7.Cmd.Old), (.int .i64 t7.Cmd.Node)]⟩)] w16 fun t17 w18 =>
  kp b8 w16 w18 <|
  k4 (i64 (t3 + 1)) w18) w9) w5) w5) w5)
  (K () w5)) w2
def entry_Put_ann : Ann := (.s (.r [(3, .call rU)]) (.s .d (.b (.l [(.s 14, (rI .i64))] (.s .d (.s (.c .d .d) (.s (.b (.s (.r [(0, .rd rPA), (1, .rd rApiEntry), (2, .nl 7), (3, .ls 7)]) (.s (.r [(3, .call rU)]) (.s (.r [(4, .call rU)]) (.s (.r [(4, .call rU)]) (.r [(4, .call rU)])))))) .d)))))))
theorem entry_Put_calls {w_ : Option Addr} {v : Int} {l : Sl} {K : Unit → World → Prop} {w : World} (h : entry_Put w_ v l K w) : callV Pr uval 112 #[(.pointer w_), (.int .i64 v), l.val] w K :=
  calls_of Pr_plain Pr_mixed Pr_func112 entry_Put_ann rU (args := [(.pointer w_), (.int .i64 v), l.val]) (by kernel_rfl) h

/- (*changeover/pack.Writer).Raw -/
def pack_Writer_Raw (w_ : Option Addr) (b : Sl) (K : Unit → World → Prop) (w : World) : Prop :=
  opRd Pr (binSem .neq 100 (.tmp 4) (.const (.pointer none)) (.pointer w_) (.pointer none)) Value.bool (fun t1 =>
  ifB t1
  (opRd Pr (nilSem (.pointer w_)) pav (fun t2 =>
  opRd Pr (Instr.loadAt 39 (.pointer (some (t2.add 0)))) Sl.val (fun t3 =>
  callV Pr Sl.val 125 #[t3.val, (.int .i64 (b.len : Int))] w fun t4 w5 =>
  opTy Pr (Builtin.append_ #[39, 39] 39 #[t4.val, b.val]) Sl.val (fun t6 w7 =>
  opRd Pr (nilSem (.pointer w_)) pav (fun t8 =>
  opUn Pr (Instr.storeAt 39 (.pointer (some (t8.add 0))) t6.val) (fun w9 =>
  K () w9) w7) w7) w5) w) w)
  (K () w)) w
def pack_Writer_Raw_ann : Ann := (.s (.r [(1, .rd rB)]) (.c (.r [(2, .rd rPA), (4, .rd rSl), (7, .call rSl), (9, .ty rSl), (10, .rd rPA), (12, .un)]) .d))
theorem pack_Writer_Raw_calls {w_ : Option Addr} {b : Sl} {K : Unit → World → Prop} {w : World} (h : pack_Writer_Raw w_ b K w) : callV Pr uval 113 #[(.pointer w_), b.val] w K :=
  calls_of Pr_plain Pr_mixed Pr_func113 pack_Writer_Raw_ann rU (args := [(.pointer w_), b.val]) (by kernel_rfl) h

/- changeover/msgone.ranges$1 -/
def msgone_ranges_1 (n : Int) (K : Bool → World → Prop) (w : World) : Prop :=
  ifB (decide (n ≥ 1))
  (K (decide (n ≤ 9)) w)
  (K false w)
def msgone_ranges_1_ann : Ann := (.s .d (.s .d .d))
theorem msgone_ranges_1_calls {n : Int} {K : Bool → World → Prop} {w : World} (h : msgone_ranges_1 n K w) : callV Pr Value.bool 114 #[(.int .i64 n)] w K :=
  calls_of Pr_plain Pr_mixed Pr_func114 msgone_ranges_1_ann rB (args := [(.int .i64 n)]) (by kernel_rfl) h

/- changeover/ballot.May -/
def ballot_May (b : ApiBallot) (K : Bool → World → Prop) (w : World) : Prop :=
  newV (fun b1 w2 =>
  opRd Pr (binSem .eql 37 (.tmp 3) (.tmp 4) (.agg ⟨[(.int .i64 b.Round), (.int .i64 b.Node)]⟩) (.agg ⟨[(.int .i64 0), (.int .i64 0)]⟩)) Value.bool (fun t3 =>
  ifB t3
  (K true w2)
  (ifB (decide (b.Round ≥ 1))
  (ifB (decide (b.Round ≤ 4294967296))
  (callV Pr Value.bool 151 #[(.int .i64 b.Node)] w2 fun t4 w5 =>
  kp b1 w2 w5 <|
  K t4 w5)
  (K false w2))
  (K false w2))) w2) w
def ballot_May_ann : Ann := (.s (.r [(0, .nl 1)]) (.s (.r [(2, .rd rB), (15, .call rB)]) .d))
theorem ballot_May_calls {b : ApiBallot} {K : Bool → World → Prop} {w : World} (h : ballot_May b K w) : callV Pr Value.bool 115 #[(.agg ⟨b.cs⟩)] w K :=
  calls_of Pr_plain Pr_mixed Pr_func115 ballot_May_ann rB (args := [(.agg ⟨b.cs⟩)]) (by kernel_rfl) h

/- changeover/vers.May -/
def vers_May (v : Int) (K : Bool → World → Prop) (w : World) : Prop :=
  ifB (v == 1)
  (K true w)
  (ifB (v == 2)
  (K true w)
  (K false w))
def vers_May_ann : Ann := (.s .d (.s (.s .d (.b (.s (.b (.b (.s (.s (.s .d (.c .d .d)) (.s .d (.c .d .d))) .d))) (.s (.s .d .d) .d)))) (.s .d .d)))
theorem vers_May_calls {v : Int} {K : Bool → World → Prop} {w : World} (h : vers_May v K w) : callV Pr Value.bool 116 #[(.int .i64 v)] w K :=
  calls_of Pr_plain Pr_mixed Pr_func116 vers_May_ann rB (args := [(.int .i64 v)]) (by kernel_rfl) h

/- changeover/entry.one -/
def entry_one (e : ApiEntry) (K : Int → World → Prop) (w : World) : Prop :=
  newV (fun b1 w2 =>
  ifB (decide (e.Index < 1))
  (K 6 w2)
  (ifB (decide (e.Index > 4294967296))
  (K 6 w2)
  (callV Pr Value.bool 115 #[(.agg ⟨[(.int .i64 e.Ballot.Round), (.int .i64 e.Ballot.Node)]⟩)] w2 fun t3 w4 =>
  kp b1 w2 w4 <|
  ifB (!t3)
  (K 6 w4)
  (callV Pr (Value.int .i64) 152 #[(.agg ⟨[(.int .i64 e.Cmd.Kind), (.int .i64 e.Cmd.Client), (.int .i64 e.Cmd.Seq), (sval e.Cmd.Key), (sval e.Cmd.Val), (sval e.Cmd.Old), (.int .i64 e.Cmd.Node)]⟩)] w4 fun t5 w6 =>
  kp b1 w4 w6 <|
  K t5 w6)))) w
def entry_one_ann : Ann := (.s (.r [(0, .nl 1)]) (.s (.s (.r [(11, .call rB)]) (.c (.s .d .d) .d)) (.s (.r [(2, .call (rI .i64))]) .d)))
theorem entry_one_calls {e : ApiEntry} {K : Int → World → Prop} {w : World} (h : entry_one e K w) : callV Pr (Value.int .i64) 117 #[(.agg ⟨e.cs⟩)] w K :=
  calls_of Pr_plain Pr_mixed Pr_func117 entry_one_ann (rI .i64) (args := [(.agg ⟨e.cs⟩)]) (by kernel_rfl) h

/- changeover/changeoverref10.May -/
def ref10_May (b : ApiBallot) (K : Bool → World → Prop) (w : World) : Prop :=
  newV (fun b1 w2 =>
  join0 (fun (j3 : World → Prop) =>
  ifB (b.Round == 0)
  (ifB (b.Node == 0)
  (K true w2)
  (j3 w2))
  (j3 w2))
  (fun w4 =>
  ifB (decide (b.Round ≥ 1))
  (ifB (decide (b.Round ≤ 4294967296))
  (ifB (decide (b.Node ≥ 1))
  (K (decide (b.Node ≤ 9)) w4)
  (K false w4))
  (K false w4))
  (K false w4))) w
def ref10_May_ann : Ann := (.s (.r [(0, .nl 1)]) (.sj [] (.s .d (.c (.s .d .d) .d)) (.s .d .d)))
theorem ref10_May_calls {b : ApiBallot} {K : Bool → World → Prop} {w : World} (h : ref10_May b K w) : callV Pr Value.bool 118 #[(.agg ⟨b.cs⟩)] w K :=
  calls_of Pr_plain Pr_mixed Pr_func118 ref10_May_ann rB (args := [(.agg ⟨b.cs⟩)]) (by kernel_rfl) h

/- changeover/changeoverref08.Check -/
def ref08_Check (c : ApiCmd) (K : Int → World → Prop) (w : World) : Prop :=
  newV (fun b1 w2 =>
  ifB (decide (c.Kind < 1))
  (K 5 w2)
  (ifB (decide (c.Kind > 8))
  (K 5 w2)
  (callV Pr Value.bool 153 #[(.int .i64 c.Kind)] w2 fun own3 w4 =>
  kp b1 w2 w4 <|
  join0 (fun (j5 : World → Prop) =>
  ifB own3
  (ifB (decide (c.Client < 1))
  (K 6 w4)
  (ifB (decide (c.Client > 8))
  (K 6 w4)
  (ifB (decide (c.Seq < 1))
  (K 6 w4)
  (ifB (decide (c.Seq > 4294967296))
  (K 6 w4)
  (callV Pr Value.bool 154 #[(.int .i64 c.Kind)] w4 fun t6 w7 =>
  kp b1 w4 w7 <|
  ifB t6
  (ifB (decide (c.Node < 1))
  (K 6 w7)
  (ifB (decide (c.Node > 9))
  (K 6 w7)
  (j5 w7)))
  (j5 w7))))))
  (callV Pr Value.bool 154 #[(.int .i64 c.Kind)] w4 fun t8 w9 =>
  kp b1 w4 w9 <|
  ifB t8
  (ifB (decide (c.Node < 1))
  (K 6 w9)
  (ifB (decide (c.Node > 9))
  (K 6 w9)
  (j5 w9)))
  (j5 w9)))
  (fun w10 =>
  ifB (c.Kind == 2)
  (join0 (fun (j11 : World → Prop) =>
  ifB own3
  (callV Pr Value.bool 128 #[(sval c.Key)] w10 fun t12 w13 =>
  kp b1 w10 w13 <|
  ifB (!t12)
  (K 7 w13)
  (callV Pr Value.bool 129 #[(sval c.Val)] w13 fun t14 w15 =>
  kp b1 w13 w15 <|
  ifB (!t14)
  (K 7 w15)
  (ifB (c.Kind == 5)
  (callV Pr Value.bool 129 #[(sval c.Old)] w15 fun t16 w17 =>
  kp b1 w15 w17 <|
  ifB (!t16)
  (K 7 w17)
  (j11 w17))
  (j11 w15))))
  (callV Pr Value.bool 129 #[(sval c.Val)] w10 fun t18 w19 =>
  kp b1 w10 w19 <|
  ifB (!t18)
  (K 7 w19)
  (ifB (c.Kind == 5)
  (callV Pr Value.bool 129 #[(sval c.Old)] w19 fun t20 w21 =>
  kp b1 w19 w21 <|
  ifB (!t20)
  (K 7 w21)
  (j11 w21))
  (j11 w19))))
  (fun w22 =>
  ifB (!own3)
  (ifB (c.Client != 0)
  (K 3 w22)
  (ifB (c.Seq != 0)
  (K 3 w22)
  (ifB (!(strEq c.Key []))
  (K 3 w22)
  (ifB (!true)
  (ifB (!(strEq c.Val []))
  (K 3 w22)
  (ifB (c.Kind != 5)
  (ifB (!(strEq c.Old []))
  (K 3 w22)
  (callV Pr Value.bool 154 #[(.int .i64 c.Kind)] w22 fun t23 w24 =>
  kp b1 w22 w24 <|
  ifB (!t23)
  (ifB (c.Node != 0)
  (K 3 w24)
  (K 0 w24))
  (K 0 w24)))
  (callV Pr Value.bool 154 #[(.int .i64 c.Kind)] w22 fun t25 w26 =>
  kp b1 w22 w26 <|
  ifB (!t25)
  (ifB (c.Node != 0)
  (K 3 w26)
  (K 0 w26))
  (K 0 w26))))
  (ifB (c.Kind != 5)
  (ifB (!(strEq c.Old []))
  (K 3 w22)
  (callV Pr Value.bool 154 #[(.int .i64 c.Kind)] w22 fun t27 w28 =>
  kp b1 w22 w28 <|
  ifB (!t27)
  (ifB (c.Node != 0)
  (K 3 w28)
  (K 0 w28))
  (K 0 w28)))
  (callV Pr Value.bool 154 #[(.int .i64 c.Kind)] w22 fun t29 w30 =>
  kp b1 w22 w30 <|
  ifB (!t29)
  (ifB (c.Node != 0)
  (K 3 w30)
  (K 0 w30))
  (K 0 w30)))))))
  (ifB (!true)
  (ifB (!(strEq c.Val []))
  (K 3 w22)
  (ifB (c.Kind != 5)
  (ifB (!(strEq c.Old []))
  (K 3 w22)
  (callV Pr Value.bool 154 #[(.int .i64 c.Kind)] w22 fun t31 w32 =>
  kp b1 w22 w32 <|
  ifB (!t31)
  (ifB (c.Node != 0)
  (K 3 w32)
  (K 0 w32))
  (K 0 w32)))
  (callV Pr Value.bool 154 #[(.int .i64 c.Kind)] w22 fun t33 w34 =>
  kp b1 w22 w34 <|
  ifB (!t33)
  (ifB (c.Node != 0)
  (K 3 w34)
  (K 0 w34))
  (K 0 w34))))
  (ifB (c.Kind != 5)
  (ifB (!(strEq c.Old []))
  (K 3 w22)
  (callV Pr Value.bool 154 #[(.int .i64 c.Kind)] w22 fun t35 w36 =>
  kp b1 w22 w36 <|
  ifB (!t35)
  (ifB (c.Node != 0)
  (K 3 w36)
  (K 0 w36))
  (K 0 w36)))
  (callV Pr Value.bool 154 #[(.int .i64 c.Kind)] w22 fun t37 w38 =>
  kp b1 w22 w38 <|
  ifB (!t37)
  (ifB (c.Node != 0)
  (K 3 w38)
  (K 0 w38))
  (K 0 w38))))))
  (join0 (fun (j39 : World → Prop) =>
  ifB own3
  (callV Pr Value.bool 128 #[(sval c.Key)] w10 fun t40 w41 =>
  kp b1 w10 w41 <|
  ifB (!t40)
  (K 7 w41)
  (ifB (c.Kind == 5)
  (callV Pr Value.bool 129 #[(sval c.Val)] w41 fun t42 w43 =>
  kp b1 w41 w43 <|
  ifB (!t42)
  (K 7 w43)
  (ifB (c.Kind == 5)
  (callV Pr Value.bool 129 #[(sval c.Old)] w43 fun t44 w45 =>
  kp b1 w43 w45 <|
  ifB (!t44)
  (K 7 w45)
  (j39 w45))
  (j39 w43)))
  (ifB (c.Kind == 5)
  (callV Pr Value.bool 129 #[(sval c.Old)] w41 fun t46 w47 =>
  kp b1 w41 w47 <|
  ifB (!t46)
  (K 7 w47)
  (j39 w47))
  (j39 w41))))
  (ifB (c.Kind == 5)
  (callV Pr Value.bool 129 #[(sval c.Val)] w10 fun t48 w49 =>
  kp b1 w10 w49 <|
  ifB (!t48)
  (K 7 w49)
  (ifB (c.Kind == 5)
  (callV Pr Value.bool 129 #[(sval c.Old)] w49 fun t50 w51 =>
  kp b1 w49 w51 <|
  ifB (!t50)
  (K 7 w51)
  (j39 w51))
  (j39 w49)))
  (ifB (c.Kind == 5)
  (callV Pr Value.bool 129 #[(sval c.Old)] w10 fun t52 w53 =>
  kp b1 w10 w53 <|
  ifB (!t52)
  (K 7 w53)
  (j39 w53))
  (j39 w10))))
  (fun w54 =>
  ifB (!own3)
  (ifB (c.Client != 0)
  (K 3 w54)
  (ifB (c.Seq != 0)
  (K 3 w54)
  (ifB (!(strEq c.Key []))
  (K 3 w54)
  (ifB (!(c.Kind == 5))
  (ifB (!(strEq c.Val []))
  (K 3 w54)
  (ifB (c.Kind != 5)
  (ifB (!(strEq c.Old []))
  (K 3 w54)
  (callV Pr Value.bool 154 #[(.int .i64 c.Kind)] w54 fun t55 w56 =>
  kp b1 w54 w56 <|
  ifB (!t55)
  (ifB (c.Node != 0)
  (K 3 w56)
  (K 0 w56))
  (K 0 w56)))
  (callV Pr Value.bool 154 #[(.int .i64 c.Kind)] w54 fun t57 w58 =>
  kp b1 w54 w58 <|
  ifB (!t57)
  (ifB (c.Node != 0)
  (K 3 w58)
  (K 0 w58))
  (K 0 w58))))
  (ifB (c.Kind != 5)
  (ifB (!(strEq c.Old []))
  (K 3 w54)
  (callV Pr Value.bool 154 #[(.int .i64 c.Kind)] w54 fun t59 w60 =>
  kp b1 w54 w60 <|
  ifB (!t59)
  (ifB (c.Node != 0)
  (K 3 w60)
  (K 0 w60))
  (K 0 w60)))
  (callV Pr Value.bool 154 #[(.int .i64 c.Kind)] w54 fun t61 w62 =>
  kp b1 w54 w62 <|
  ifB (!t61)
  (ifB (c.Node != 0)
  (K 3 w62)
  (K 0 w62))
  (K 0 w62)))))))
  (ifB (!(c.Kind == 5))
  (ifB (!(strEq c.Val []))
  (K 3 w54)
  (ifB (c.Kind != 5)
  (ifB (!(strEq c.Old []))
  (K 3 w54)
  (callV Pr Value.bool 154 #[(.int .i64 c.Kind)] w54 fun t63 w64 =>
  kp b1 w54 w64 <|
  ifB (!t63)
  (ifB (c.Node != 0)
  (K 3 w64)
  (K 0 w64))
  (K 0 w64)))
  (callV Pr Value.bool 154 #[(.int .i64 c.Kind)] w54 fun t65 w66 =>
  kp b1 w54 w66 <|
  ifB (!t65)
  (ifB (c.Node != 0)
  (K 3 w66)
  (K 0 w66))
  (K 0 w66))))
  (ifB (c.Kind != 5)
  (ifB (!(strEq c.Old []))
  (K 3 w54)
  (callV Pr Value.bool 154 #[(.int .i64 c.Kind)] w54 fun t67 w68 =>
  kp b1 w54 w68 <|
  ifB (!t67)
  (ifB (c.Node != 0)
  (K 3 w68)
  (K 0 w68))
  (K 0 w68)))
  (callV Pr Value.bool 154 #[(.int .i64 c.Kind)] w54 fun t69 w70 =>
  kp b1 w54 w70 <|
  ifB (!t69)
  (ifB (c.Node != 0)
  (K 3 w70)
  (K 0 w70))
  (K 0 w70)))))))))) w
def ref08_Check_ann : Ann := (.s (.r [(0, .nl 1)]) (.s (.s .d (.c (.s .d .d) .d)) (.s (.r [(2, .call rB)]) (.sj [] (.s (.r [(24, .call rB)]) (.c (.s .d .d) .d)) (.s .d (.sj [] (.s (.r [(4, .call rB), (12, .call rB), (23, .call rB)]) (.c (.s .d .d) .d)) (.s (.s (.r [(39, .call rB)]) (.c (.s .d .d) .d)) (.s .d .d))))))))
theorem ref08_Check_calls {c : ApiCmd} {K : Int → World → Prop} {w : World} (h : ref08_Check c K w) : callV Pr (Value.int .i64) 119 #[(.agg ⟨c.cs⟩)] w K :=
  calls_of Pr_plain Pr_mixed Pr_func119 ref08_Check_ann (rI .i64) (args := [(.agg ⟨c.cs⟩)]) (by kernel_rfl) h

/- changeover/sess.Check -/
def sess_Check (l : Sl) (K : Int → World → Prop) (w : World) : Prop :=
  loop1 (0 : Int) (fun t1 k2 w3 =>
  ifB (decide (t1 < (l.len : Int)))
  (opRd Pr (Instr.indexAt 46 l.val (.int .i64 t1)) pav (fun t4 =>
  opRd Pr (Instr.loadAt 110 (.pointer (some t4))) ApiSession.val (fun t5 =>
  newV (fun b6 w7 =>
  wrM b6 (fun w8 =>
  join0 (fun (j9 : World → Prop) =>
  drewM (fun w10 =>
  ifB (decide (t1 > 0))
  (opRd Pr (Instr.indexAt 46 l.val (.int .i64 (i64 (t1 - 1)))) pav (fun t11 =>
  opRd Pr (Instr.loadAt 3 (.pointer (some (t11.add 0)))) (Value.int .i64) (fun t12 =>
  ifB (decide (t5.Client ≤ t12))
  (K 3 w10)
  (j9 w10)) w10) w10)
  (j9 w10)) w8)
  (fun w13 =>
  ifB (t5.Last.Client != t5.Client)
  (K 3 w13)
  (ifB (t5.Last.Seq != t5.Seq)
  (K 3 w13)
  (callV Pr (Value.int .i64) 155 #[(.agg ⟨[(.int .i64 t5.Last.Client), (.int .i64 t5.Last.Seq), (.int .i64 t5.Last.Err), (.bool t5.Last.Found), (sval t5.Last.Val), (.int .i64 t5.Last.Rev)]⟩)] w13 fun t14 w15 =>
  kp b6 w13 w15 <|
  ifB (t14 != 0)
  (K 3 w15)
  (k2 (i64 (t1 + 1)) w15))))) w7) w3) w3) w3)
  (K 0 w3)) w
def sess_Check_ann : Ann := (.s .d (.s (.s .d (.b (.l [(.s 7, (rI .i64))] (.s .d (.s (.c .d .d) (.s (.b (.s (.r [(1, .rd rPA), (2, .rd rApiSession), (3, .nl 4), (5, .ls 4)]) (.sj [] (.s (.r [(8, .rd rPA), (10, .rd (rI .i64))]) (.c (.s .d .d) .d)) (.s (.r [(17, .call (rI .i64))]) (.c (.s .d .d) .d))))) .d)))))) (.s .d .d)))
theorem sess_Check_calls {l : Sl} {K : Int → World → Prop} {w : World} (h : sess_Check l K w) : callV Pr (Value.int .i64) 120 #[l.val] w K :=
  calls_of Pr_plain Pr_mixed Pr_func120 sess_Check_ann (rI .i64) (args := [l.val]) (by kernel_rfl) h

/- slices.ContainsFunc[[]changeover/api.Session,changeover/api.Session] -/
def slices_ContainsFunc_api_Session_api_Session (s : Sl) (f : Value) (K : Bool → World → Prop) (w : World) : Prop :=
  callV Pr (Value.int .i64) 156 #[s.val, f] w fun t1 w2 =>
  K (decide (t1 ≥ 0)) w2
def slices_ContainsFunc_api_Session_api_Session_ann : Ann := (.s .d (.s (.r [(2, .call (rI .i64))]) .d))
theorem slices_ContainsFunc_api_Session_api_Session_calls {s : Sl} {f : Value} {K : Bool → World → Prop} {w : World} (h : slices_ContainsFunc_api_Session_api_Session s f K w) : callV Pr Value.bool 121 #[s.val, f] w K :=
  calls_of Pr_plain Pr_mixed Pr_func121 slices_ContainsFunc_api_Session_api_Session_ann rB (args := [s.val, f]) (by kernel_rfl) h

/- changeover/migr.Check$1 -/
def migr_Check_1 (x : ApiSession) (K : Bool → World → Prop) (w : World) : Prop :=
  newV (fun b1 w2 =>
  K (x.Last.Rev != 0) w2) w
def migr_Check_1_ann : Ann := (.s (.r [(0, .nl 1)]) (.s .d .d))
theorem migr_Check_1_calls {x : ApiSession} {K : Bool → World → Prop} {w : World} (h : migr_Check_1 x K w) : callV Pr Value.bool 122 #[(.agg ⟨x.cs⟩)] w K :=
  calls_of Pr_plain Pr_mixed Pr_func122 migr_Check_1_ann rB (args := [(.agg ⟨x.cs⟩)]) (by kernel_rfl) h

/- changeover/kvone.Check -/
def kvone_Check (l : Sl) (K : Int → World → Prop) (w : World) : Prop :=
  ifB (decide ((l.len : Int) > 64))
  (K 3 w)
  (loop1 (0 : Int) (fun t1 k2 w3 =>
  ifB (decide (t1 < (l.len : Int)))
  (opRd Pr (Instr.indexAt 45 l.val (.int .i64 t1)) pav (fun t4 =>
  opRd Pr (Instr.loadAt 105 (.pointer (some t4))) ApiPair.val (fun t5 =>
  newV (fun b6 w7 =>
  wrM b6 (fun w8 =>
  heldM (fun S10 w9 =>
  ifB (decide (t1 > 0))
  (opH Pr S10 (Instr.indexAt 45 l.val (.int .i64 (i64 (t1 - 1)))) pav (fun t11 =>
  opH Pr S10 (Instr.loadAt 9 (.pointer (some (t11.add 0)))) sval (fun t12 =>
  ifB ((strLt t5.Key t12) || (strEq t5.Key t12))
  (K 3 w9)
  (callV Pr Value.bool 157 #[(sval t5.Key)] w9 fun t13 w14 =>
  kp b6 w9 w14 <|
  (S10 w14) ∧
  (ifB (!t13)
  (K 3 w14)
  (callV Pr Value.bool 158 #[(sval t5.Val)] w14 fun t15 w16 =>
  kp b6 w14 w16 <|
  (S10 w16) ∧
  (ifB (!t15)
  (K 3 w16)
  (ifB (t5.Rev != 0)
  (K 3 w16)
  (k2 (i64 (t1 + 1)) w16)))))))))
  (callV Pr Value.bool 157 #[(sval t5.Key)] w9 fun t17 w18 =>
  kp b6 w9 w18 <|
  (S10 w18) ∧
  (ifB (!t17)
  (K 3 w18)
  (callV Pr Value.bool 158 #[(sval t5.Val)] w18 fun t19 w20 =>
  kp b6 w18 w20 <|
  (S10 w20) ∧
  (ifB (!t19)
  (K 3 w20)
  (ifB (t5.Rev != 0)
  (K 3 w20)
  (k2 (i64 (t1 + 1)) w20))))))) w8) w7) w3) w3) w3)
  (K 0 w3)) w)
def kvone_Check_ann : Ann := (.s .d (.s (.s .d (.c (.s .d .d) .d)) (.s (.s .d (.b (.l [(.s 10, (rI .i64))] (.s .d (.s (.c .d .d) (.s (.b (.s (.r [(1, .rd rPA), (2, .rd rApiPair), (3, .nl 4), (5, .ls 4)]) (.s (.h (.take 0 (.take 1 (.take 2 (.take 3 (.take 4 (.take 5 (.take 6 (.take 7 (.take 8 (.take 9 (.take 10 (.take 11 (.take 12 (.take 13 (.take 14 (.take 15 (.one 16 (.take 17 (.take 18 (.take 19 (.take 20 (.take 21 (.one 22 (.take 23 (.take 24 (.take 25 (.take 26 (.take 27 (.take 28 (.take 29 .done)))))))))))))))))))))))))))))) [(8, .rd rPA), (10, .rd rS), (16, .call rB), (22, .call rB)]) (.c (.s .d .d) .d)))) .d)))))) (.s .d .d))))
theorem kvone_Check_calls {l : Sl} {K : Int → World → Prop} {w : World} (h : kvone_Check l K w) : callV Pr (Value.int .i64) 123 #[l.val] w K :=
  calls_of Pr_plain Pr_mixed Pr_func123 kvone_Check_ann (rI .i64) (args := [l.val]) (by kernel_rfl) h

/- changeover/kvtwo.Check -/
def kvtwo_Check (l : Sl) (K : Int → World → Prop) (w : World) : Prop :=
  callV Pr Value.bool 160 #[l.val, (.func (.func 159) #[] #[])] w fun t1 w2 =>
  ifB t1
  (K 3 w2)
  (callV Pr Sl.val 161 #[l.val] w2 fun t3 w4 =>
  callV Pr (Value.int .i64) 123 #[t3.val] w4 fun t5 w6 =>
  K t5 w6)
def kvtwo_Check_ann : Ann := (.s .d (.s .d (.s (.s (.r [(2, .call rB)]) (.c (.s .d .d) .d)) (.s (.r [(1, .call rSl), (2, .call (rI .i64))]) .d))))
theorem kvtwo_Check_calls {l : Sl} {K : Int → World → Prop} {w : World} (h : kvtwo_Check l K w) : callV Pr (Value.int .i64) 124 #[l.val] w K :=
  calls_of Pr_plain Pr_mixed Pr_func124 kvtwo_Check_ann (rI .i64) (args := [l.val]) (by kernel_rfl) h

/- changeover/varint.Put -/
def varint_Put (b : Sl) (n : Int) (K : Sl → World → Prop) (w : World) : Prop :=
  callV Pr Sl.val 127 #[b.val] w fun out1 w2 =>
  loop2 ((imax n 0) : Int) (out1 : Sl) (fun n3 out4 k5 w6 =>
  ifB (decide (n3 ≥ 128))
  (opTy Pr (Instr.buildSlice 39 1 #[(0, (.int .u8 (bOr .u8 (IntKind.u8.wrap n3) 128)))]) Sl.val (fun t7 w8 =>
  opTy Pr (Builtin.append_ #[39, 39] 39 #[out4.val, t7.val]) Sl.val (fun out9 w10 =>
  k5 (shR .i64 n3 7) out9 w10) w8) w6)
  (opTy Pr (Instr.buildSlice 39 1 #[(0, (.int .u8 (IntKind.u8.wrap n3)))]) Sl.val (fun t11 w12 =>
  opTy Pr (Builtin.append_ #[39, 39] 39 #[out4.val, t11.val]) Sl.val (fun t13 w14 =>
  K t13 w14) w12) w6)) w2
def varint_Put_ann : Ann := (.s .d (.s (.r [(1, .call rSl)]) (.s (.s .d (.b (.l [(.s 1, (rI .i64)), (.s 5, rSl)] (.s (.s .d (.c .d .d)) (.s (.b (.r [(4, .ty rSl), (5, .ty rSl)])) .d))))) (.s (.r [(3, .ty rSl), (4, .ty rSl)]) .d))))
theorem varint_Put_calls {b : Sl} {n : Int} {K : Sl → World → Prop} {w : World} (h : varint_Put b n K w) : callV Pr Sl.val 125 #[b.val, (.int .i64 n)] w K :=
  calls_of Pr_plain Pr_mixed Pr_func125 varint_Put_ann rSl (args := [b.val, (.int .i64 n)]) (by kernel_rfl) h

/- (*changeover/pack.Writer).Flag -/
def pack_Writer_Flag (w_ : Option Addr) (is : Bool) (K : Unit → World → Prop) (w : World) : Prop :=
  ifB is
  (callV Pr uval 75 #[(.pointer w_), (.int .i64 1)] w fun t1 w2 =>
  K () w2)
  (callV Pr uval 75 #[(.pointer w_), (.int .i64 0)] w fun t3 w4 =>
  K () w4)
def pack_Writer_Flag_ann : Ann := (.s .d (.s (.s .d (.c .d .d)) (.r [(2, .call rU)])))
theorem pack_Writer_Flag_calls {w_ : Option Addr} {is : Bool} {K : Unit → World → Prop} {w : World} (h : pack_Writer_Flag w_ is K w) : callV Pr uval 126 #[(.pointer w_), (.bool is)] w K :=
  calls_of Pr_plain Pr_mixed Pr_func126 pack_Writer_Flag_ann rU (args := [(.pointer w_), (.bool is)]) (by kernel_rfl) h

/- slices.Clone[[]byte,byte] -/
def slices_Clone_byte_byte (s : Sl) (K : Sl → World → Prop) (w : World) : Prop :=
  opRd Pr (binSem .eql 39 (.tmp 3) (.const Sl.nil.val) s.val Sl.nil.val) Value.bool (fun t1 =>
  ifB t1
  (K Sl.nil w)
  (opTy Pr (Instr.buildSlice 39 0 #[]) Sl.val (fun t2 w3 =>
  opTy Pr (Builtin.append_ #[39, 39] 39 #[t2.val, s.val]) Sl.val (fun t4 w5 =>
  K t4 w5) w3) w)) w
def slices_Clone_byte_byte_ann : Ann := (.s .d (.s (.s (.r [(1, .rd rB)]) (.c (.s .d .d) .d)) (.s (.r [(0, .ty rSl), (2, .ty rSl)]) .d)))
theorem slices_Clone_byte_byte_calls {s : Sl} {K : Sl → World → Prop} {w : World} (h : slices_Clone_byte_byte s K w) : callV Pr Sl.val 127 #[s.val] w K :=
  calls_of Pr_plain Pr_mixed Pr_func127 slices_Clone_byte_byte_ann rSl (args := [s.val]) (by kernel_rfl) h

/- changeover/changeoverref05.Key -/
def ref05_Key (s : List UInt8) (K : Bool → World → Prop) (w : World) : Prop :=
  ifB (decide (((s : List UInt8).length : Int) < 1))
  (K false w)
  (ifB (decide (((s : List UInt8).length : Int) > 24))
  (K false w)
  (loop1 (0 : Int) (fun i1 k2 w3 =>
  ifB (decide (i1 < ((s : List UInt8).length : Int)))
  (callV Pr (tval2 (Value.int .i64) (Value.int .i64)) 53 #[(sval s), (.int .i64 i1)] w3 fun t4 w5 =>
  ifB (t4.1 == 0)
  (K false w5)
  (callV Pr Value.bool 162 #[(.int .i64 t4.2)] w5 fun t6 w7 =>
  ifB (!t6)
  (K false w7)
  (k2 (i64 (i1 + t4.1)) w7)))
  (K true w3)) w))
def ref05_Key_ann : Ann := (.s .d (.s (.s .d (.c (.s .d .d) .d)) (.s .d (.s (.b (.l [(.s 3, (rI .i64))] (.s (.s .d (.c .d .d)) (.b (.s (.r [(2, .call (rT2 (rI .i64) (rI .i64)))]) (.s (.s (.r [(4, .call rB)]) (.c (.s .d .d) .d)) .d)))))) (.s .d .d)))))
theorem ref05_Key_calls {s : List UInt8} {K : Bool → World → Prop} {w : World} (h : ref05_Key s K w) : callV Pr Value.bool 128 #[(sval s)] w K :=
  calls_of Pr_plain Pr_mixed Pr_func128 ref05_Key_ann rB (args := [(sval s)]) (by kernel_rfl) h

/- changeover/changeoverref05.Val -/
def ref05_Val (s : List UInt8) (K : Bool → World → Prop) (w : World) : Prop :=
  ifB (decide (((s : List UInt8).length : Int) > 48))
  (K false w)
  (callV Pr (Value.int .i64) 163 #[(sval s)] w fun t1 w2 =>
  ifB (decide (t1 ≥ 0))
  (K false w2)
  (loop1 (0 : Int) (fun i3 k4 w5 =>
  ifB (decide (i3 < ((s : List UInt8).length : Int)))
  (opRd Pr (Instr.index 9 (sval s) (.int .i64 i3)) (Value.int .u8) (fun t6 =>
  ifB (decide (t6 < 32))
  (K false w5)
  (opRd Pr (Instr.index 9 (sval s) (.int .i64 i3)) (Value.int .u8) (fun t7 =>
  ifB (t7 == 127)
  (K false w5)
  (k4 (i64 (i3 + 1)) w5)) w5)) w5)
  (K true w5)) w2))
def ref05_Val_ann : Ann := (.s .d (.s (.s (.r [(5, .call (rI .i64))]) (.c (.s .d .d) .d)) (.s (.s .d (.b (.l [(.s 3, (rI .i64))] (.s (.s .d (.c .d .d)) (.s (.b (.s (.r [(2, .rd (rI .u8)), (7, .rd (rI .u8))]) (.c (.s .d .d) .d))) .d))))) (.s .d .d))))
theorem ref05_Val_calls {s : List UInt8} {K : Bool → World → Prop} {w : World} (h : ref05_Val s K w) : callV Pr Value.bool 129 #[(sval s)] w K :=
  calls_of Pr_plain Pr_mixed Pr_func129 ref05_Val_ann rB (args := [(sval s)]) (by kernel_rfl) h

/- changeover/changeoverref23.Rise -/
def ref23_Rise (l : Sl) (K : Bool → World → Prop) (w : World) : Prop :=
  loop1 (1 : Int) (fun i1 k2 w3 =>
  ifB (decide (i1 < (l.len : Int)))
  (drewM (fun w4 =>
  opRd Pr (Instr.indexAt 45 l.val (.int .i64 i1)) pav (fun t5 =>
  opRd Pr (Instr.loadAt 9 (.pointer (some (t5.add 0)))) sval (fun t6 =>
  opRd Pr (Instr.indexAt 45 l.val (.int .i64 (i64 (i1 - 1)))) pav (fun t7 =>
  opRd Pr (Instr.loadAt 9 (.pointer (some (t7.add 0)))) sval (fun t8 =>
  ifB ((strLt t6 t8) || (strEq t6 t8))
  (K false w4)
  (k2 (i64 (i1 + 1)) w4)) w4) w4) w4) w4) w3)
  (K true w3)) w
def ref23_Rise_ann : Ann := (.s .d (.s (.s .d (.b (.l [(.s 3, (rI .i64))] (.s (.s .d (.c .d .d)) (.s (.b (.s (.r [(2, .rd rPA), (4, .rd rS), (8, .rd rPA), (10, .rd rS)]) (.c (.s .d .d) .d))) .d))))) (.s .d .d)))
theorem ref23_Rise_calls {l : Sl} {K : Bool → World → Prop} {w : World} (h : ref23_Rise l K w) : callV Pr Value.bool 130 #[l.val] w K :=
  calls_of Pr_plain Pr_mixed Pr_func130 ref23_Rise_ann rB (args := [l.val]) (by kernel_rfl) h

/- changeover/changeoverref09.Check -/
def ref09_Check (a : ApiAnswer) (K : Int → World → Prop) (w : World) : Prop :=
  newV (fun b1 w2 =>
  ifB (decide (a.Client < 1))
  (K 6 w2)
  (ifB (decide (a.Client > 8))
  (K 6 w2)
  (ifB (decide (a.Seq < 1))
  (K 6 w2)
  (ifB (decide (a.Seq > 4294967296))
  (K 6 w2)
  (ifB (decide (a.Err < 0))
  (K 6 w2)
  (ifB (decide (a.Err > 17))
  (K 6 w2)
  (ifB (decide (a.Rev < 0))
  (K 6 w2)
  (ifB (decide (a.Rev > 4294967296))
  (K 6 w2)
  (callV Pr Value.bool 129 #[(sval a.Val)] w2 fun t3 w4 =>
  kp b1 w2 w4 <|
  ifB (!t3)
  (K 7 w4)
  (K 0 w4)))))))))) w
def ref09_Check_ann : Ann := (.s (.r [(0, .nl 1)]) (.s (.s .d (.c (.s .d .d) .d)) (.s (.s (.r [(2, .call rB)]) (.c (.s .d .d) .d)) (.s .d .d))))
theorem ref09_Check_calls {a : ApiAnswer} {K : Int → World → Prop} {w : World} (h : ref09_Check a K w) : callV Pr (Value.int .i64) 131 #[(.agg ⟨a.cs⟩)] w K :=
  calls_of Pr_plain Pr_mixed Pr_func131 ref09_Check_ann (rI .i64) (args := [(.agg ⟨a.cs⟩)]) (by kernel_rfl) h

/- changeover/changeoverref22.Rise -/
def ref22_Rise (l : Sl) (K : Bool → World → Prop) (w : World) : Prop :=
  loop1 (1 : Int) (fun i1 k2 w3 =>
  ifB (decide (i1 < (l.len : Int)))
  (drewM (fun w4 =>
  opRd Pr (Instr.indexAt 46 l.val (.int .i64 i1)) pav (fun t5 =>
  opRd Pr (Instr.loadAt 3 (.pointer (some (t5.add 0)))) (Value.int .i64) (fun t6 =>
  opRd Pr (Instr.indexAt 46 l.val (.int .i64 (i64 (i1 - 1)))) pav (fun t7 =>
  opRd Pr (Instr.loadAt 3 (.pointer (some (t7.add 0)))) (Value.int .i64) (fun t8 =>
  ifB (decide (t6 ≤ t8))
  (K false w4)
  (k2 (i64 (i1 + 1)) w4)) w4) w4) w4) w4) w3)
  (K true w3)) w
def ref22_Rise_ann : Ann := (.s .d (.s (.s .d (.b (.l [(.s 3, (rI .i64))] (.s (.s .d (.c .d .d)) (.s (.b (.s (.r [(2, .rd rPA), (4, .rd (rI .i64)), (8, .rd rPA), (10, .rd (rI .i64))]) (.c (.s .d .d) .d))) .d))))) (.s .d .d)))
theorem ref22_Rise_calls {l : Sl} {K : Bool → World → Prop} {w : World} (h : ref22_Rise l K w) : callV Pr Value.bool 132 #[l.val] w K :=
  calls_of Pr_plain Pr_mixed Pr_func132 ref22_Rise_ann rB (args := [l.val]) (by kernel_rfl) h

/- (*changeover/pack.Reader).Number$1 -/
def pack_Reader_Number_1 (c_x0 : Addr) (c_x1 : Addr) (K : Int → World → Prop) (w : World) : Prop :=
  opRd Pr (Instr.loadAt 114 (.pointer (some c_x0))) Value.pointer (fun t1 =>
  opRd Pr (Instr.loadAt 3 (.pointer (some c_x1))) (Value.int .i64) (fun t2 =>
  callV Pr (Value.int .i64) 135 #[(.pointer t1), (.int .i64 t2)] w fun t3 w4 =>
  K t3 w4) w) w
def pack_Reader_Number_1_ann : Ann := (.s .d (.s (.r [(0, .rd rP), (1, .rd (rI .i64)), (2, .call (rI .i64))]) .d))
theorem pack_Reader_Number_1_calls {c_x0 : Addr} {c_x1 : Addr} {K : Int → World → Prop} {w : World} (h : pack_Reader_Number_1 c_x0 c_x1 K w) : callV Pr (Value.int .i64) 134 #[(.pointer (some c_x0)), (.pointer (some c_x1))] w K :=
  calls_of Pr_plain Pr_mixed Pr_func134 pack_Reader_Number_1_ann (rI .i64) (args := [(.pointer (some c_x0)), (.pointer (some c_x1))]) (by kernel_rfl) h

/- (*changeover/pack.Reader).limited -/
def pack_Reader_limited (r : Option Addr) (most : Int) (K : Int → World → Prop) (w : World) : Prop :=
  heldM (fun S2 w1 =>
  opH Pr S2 (nilSem (.pointer r)) pav (fun t3 =>
  opH Pr S2 (Instr.loadAt 39 (.pointer (some (t3.add 0)))) Sl.val (fun t4 =>
  opH Pr S2 (nilSem (.pointer r)) pav (fun t5 =>
  opH Pr S2 (Instr.loadAt 3 (.pointer (some (t5.add 1)))) (Value.int .i64) (fun t6 =>
  callV Pr (tval3 (Value.int .i64) (Value.int .i64) (Value.int .i64)) 164 #[t4.val, (.int .i64 t6)] w1 fun t7 w8 =>
  (S2 w8) ∧
  (ifB (t7.2.2 != 0)
  (callV Pr uval 165 #[(.pointer r), (.int .i64 t7.2.2)] w8 fun t9 w10 =>
  opRd Pr (nilSem (.pointer r)) pav (fun t11 =>
  opUn Pr (Instr.storeAt 3 (.pointer (some (t11.add 1))) (.int .i64 t7.2.1)) (fun w12 =>
  K t7.1 w12) w10) w10)
  (ifB (decide (t7.1 > most))
  (callV Pr uval 165 #[(.pointer r), (.int .i64 2)] w8 fun t13 w14 =>
  opRd Pr (nilSem (.pointer r)) pav (fun t15 =>
  opUn Pr (Instr.storeAt 3 (.pointer (some (t15.add 1))) (.int .i64 t7.2.1)) (fun w16 =>
  K t7.1 w16) w14) w14)
  (opRd Pr (nilSem (.pointer r)) pav (fun t17 =>
  opUn Pr (Instr.storeAt 3 (.pointer (some (t17.add 1))) (.int .i64 t7.2.1)) (fun w18 =>
  K t7.1 w18) w8) w8)))))))) w
def pack_Reader_limited_ann : Ann := (.s .d (.s (.h (.take 0 (.take 1 (.take 2 (.take 3 (.take 4 (.take 5 (.take 6 (.take 7 (.one 8 (.take 9 (.take 10 (.take 11 (.take 12 (.take 13 (.take 14 (.take 15 .done)))))))))))))))) [(1, .rd rPA), (3, .rd rSl), (5, .rd rPA), (7, .rd (rI .i64)), (8, .call (rT3 (rI .i64) (rI .i64) (rI .i64)))]) (.s (.b (.s .d (.c (.r [(2, .call rU)]) (.s .d (.c (.r [(1, .call rU)]) .d))))) (.s (.r [(2, .rd rPA), (4, .un)]) (.s .d .d)))))
theorem pack_Reader_limited_calls {r : Option Addr} {most : Int} {K : Int → World → Prop} {w : World} (h : pack_Reader_limited r most K w) : callV Pr (Value.int .i64) 135 #[(.pointer r), (.int .i64 most)] w K :=
  calls_of Pr_plain Pr_mixed Pr_func135 pack_Reader_limited_ann (rI .i64) (args := [(.pointer r), (.int .i64 most)]) (by kernel_rfl) h

/- (*changeover/pack.Reader).Count -/
def pack_Reader_Count (r : Option Addr) (most : Int) (K : Int → World → Prop) (w : World) : Prop :=
  opTy Pr (Instr.box 114 (.pointer r)) pav (fun r1 w2 =>
  opTy Pr (Instr.box 3 (.int .i64 most)) pav (fun most3 w4 =>
  opRd Pr (Instr.loadAt 114 (.pointer (some r1))) Value.pointer (fun t5 =>
  callV Pr (Value.int .i64) 133 #[(.pointer t5), (.func (.func 166) #[] #[(.pointer (some r1)), (.pointer (some most3))])] w4 fun t6 w7 =>
  K t6 w7) w4) w2) w
def pack_Reader_Count_ann : Ann := (.s (.r [(0, .ty rPA), (1, .ty rPA)]) (.s (.r [(0, .rd rP), (2, .call (rI .i64))]) .d))
theorem pack_Reader_Count_calls {r : Option Addr} {most : Int} {K : Int → World → Prop} {w : World} (h : pack_Reader_Count r most K w) : callV Pr (Value.int .i64) 136 #[(.pointer r), (.int .i64 most)] w K :=
  calls_of Pr_plain Pr_mixed Pr_func136 pack_Reader_Count_ann (rI .i64) (args := [(.pointer r), (.int .i64 most)]) (by kernel_rfl) h

/- (*changeover/pack.Reader).Raw -/
def pack_Reader_Raw (r : Option Addr) (most : Int) (K : Sl → World → Prop) (w : World) : Prop :=
  opTy Pr (Instr.box 114 (.pointer r)) pav (fun r1 w2 =>
  opTy Pr (Instr.box 3 (.int .i64 most)) pav (fun most3 w4 =>
  opRd Pr (Instr.loadAt 114 (.pointer (some r1))) Value.pointer (fun t5 =>
  callV Pr Sl.val 168 #[(.pointer t5), (.func (.func 169) #[] #[(.pointer (some r1)), (.pointer (some most3))])] w4 fun t6 w7 =>
  K t6 w7) w4) w2) w
def pack_Reader_Raw_ann : Ann := (.s (.r [(0, .ty rPA), (1, .ty rPA)]) (.s (.r [(0, .rd rP), (2, .call rSl)]) .d))
theorem pack_Reader_Raw_calls {r : Option Addr} {most : Int} {K : Sl → World → Prop} {w : World} (h : pack_Reader_Raw r most K w) : callV Pr Sl.val 137 #[(.pointer r), (.int .i64 most)] w K :=
  calls_of Pr_plain Pr_mixed Pr_func137 pack_Reader_Raw_ann rSl (args := [(.pointer r), (.int .i64 most)]) (by kernel_rfl) h

/- (*changeover/pack.Reader).Flag -/
def pack_Reader_Flag (r : Option Addr) (K : Bool → World → Prop) (w : World) : Prop :=
  opRd Pr (binSem .eql 114 (.tmp 4) (.const (.pointer none)) (.pointer r) (.pointer none)) Value.bool (fun t1 =>
  ifB t1
  (K false w)
  (callV Pr Value.bool 172 #[(.pointer r), (.func (.func 171) #[(.pointer r)] #[])] w fun t2 w3 =>
  K t2 w3)) w
def pack_Reader_Flag_ann : Ann := (.s .d (.s (.s (.r [(1, .rd rB)]) (.c (.s .d .d) .d)) (.s .d (.s (.r [(2, .call rB)]) .d))))
theorem pack_Reader_Flag_calls {r : Option Addr} {K : Bool → World → Prop} {w : World} (h : pack_Reader_Flag r K w) : callV Pr Value.bool 138 #[(.pointer r)] w K :=
  calls_of Pr_plain Pr_mixed Pr_func138 pack_Reader_Flag_ann rB (args := [(.pointer r)]) (by kernel_rfl) h

/- (*changeover/pack.Reader).left -/
def pack_Reader_left (r : Option Addr) (K : Int → World → Prop) (w : World) : Prop :=
  drewM (fun w1 =>
  opRd Pr (nilSem (.pointer r)) pav (fun t2 =>
  opRd Pr (Instr.loadAt 39 (.pointer (some (t2.add 0)))) Sl.val (fun t3 =>
  opRd Pr (nilSem (.pointer r)) pav (fun t4 =>
  opRd Pr (Instr.loadAt 3 (.pointer (some (t4.add 1)))) (Value.int .i64) (fun t5 =>
  K (i64 ((t3.len : Int) - t5)) w1) w1) w1) w1) w1) w
def pack_Reader_left_ann : Ann := (.s .d (.s (.r [(1, .rd rPA), (3, .rd rSl), (6, .rd rPA), (8, .rd (rI .i64))]) .d))
theorem pack_Reader_left_calls {r : Option Addr} {K : Int → World → Prop} {w : World} (h : pack_Reader_left r K w) : callV Pr (Value.int .i64) 139 #[(.pointer r)] w K :=
  calls_of Pr_plain Pr_mixed Pr_func139 pack_Reader_left_ann (rI .i64) (args := [(.pointer r)]) (by kernel_rfl) h

/- changeover/changeoverref04.Flag -/
def ref04_Flag (is : Bool) (K : Sl → World → Prop) (w : World) : Prop :=
  ifB is
  (opTy Pr (Instr.buildSlice 39 1 #[(0, (.int .u8 1))]) Sl.val (fun t1 w2 =>
  K t1 w2) w)
  (opTy Pr (Instr.buildSlice 39 1 #[(0, (.int .u8 0))]) Sl.val (fun t3 w4 =>
  K t3 w4) w)
def ref04_Flag_ann : Ann := (.s .d (.s (.s .d (.c (.s (.r [(0, .ty rSl)]) .d) .d)) (.s (.r [(0, .ty rSl)]) .d)))
theorem ref04_Flag_calls {is : Bool} {K : Sl → World → Prop} {w : World} (h : ref04_Flag is K w) : callV Pr Sl.val 140 #[(.bool is)] w K :=
  calls_of Pr_plain Pr_mixed Pr_func140 ref04_Flag_ann rSl (args := [(.bool is)]) (by kernel_rfl) h

/- changeover/migr.Clone -/
def migr_Clone (s : ApiState) (K : ApiState → World → Prop) (w : World) : Prop :=
  newV (fun b1 w2 =>
  newV (fun b3 w4 =>
  opTy Pr (Instr.makeSlice 45 (.int .i64 (s.Pairs.len : Int)) (.int .i64 (s.Pairs.len : Int))) Sl.val (fun pairs5 w6 =>
  kp b3 w4 w6 <|
  kp b1 w4 w6 <|
  opTy Pr (Builtin.copy_ #[45, 45] 3 #[pairs5.val, s.Pairs.val]) (Value.int .i64) (fun t7 w8 =>
  kp b3 w6 w8 <|
  kp b1 w6 w8 <|
  opTy Pr (Instr.makeSlice 46 (.int .i64 (s.Sessions.len : Int)) (.int .i64 (s.Sessions.len : Int))) Sl.val (fun sessions9 w10 =>
  kp b3 w8 w10 <|
  kp b1 w8 w10 <|
  opTy Pr (Builtin.copy_ #[46, 46] 3 #[sessions9.val, s.Sessions.val]) (Value.int .i64) (fun t11 w12 =>
  kp b3 w10 w12 <|
  kp b1 w10 w12 <|
  wrM b3 (fun w13 =>
  K (ApiState.mk s.Schema pairs5 sessions9) w13) w12) w10) w8) w6) w4) w2) w
def migr_Clone_ann : Ann := (.s (.r [(0, .nl 1), (1, .nl 2)]) (.s (.r [(3, .ty rSl)]) (.s (.r [(3, .ty (rI .i64))]) (.s (.r [(3, .ty rSl)]) (.s (.r [(3, .ty (rI .i64))]) (.s (.r [(5, .ls 2)]) .d))))))
theorem migr_Clone_calls {s : ApiState} {K : ApiState → World → Prop} {w : World} (h : migr_Clone s K w) : callV Pr ApiState.val 141 #[(.agg ⟨s.cs⟩)] w K :=
  calls_of Pr_plain Pr_mixed Pr_func141 migr_Clone_ann rApiState (args := [(.agg ⟨s.cs⟩)]) (by kernel_rfl) h

/- changeover/entry.Get -/
def entry_Get (r : Option Addr) (v : Int) (K : Sl → World → Prop) (w : World) : Prop :=
  callV Pr (Value.int .i64) 136 #[(.pointer r), (.int .i64 256)] w fun t1 w2 =>
  loop2 (Sl.nil : Sl) (0 : Int) (fun out3 t4 k5 w6 =>
  ifB (decide (t4 < t1))
  (callV Pr (Value.int .i64) 82 #[(.pointer r), (.int .i64 9223372036854775807)] w6 fun t7 w8 =>
  newV (fun b9 w10 =>
  wrM b9 (fun w11 =>
  callV Pr (Value.int .i64) 82 #[(.pointer r), (.int .i64 9223372036854775807)] w11 fun t12 w13 =>
  kp b9 w11 w13 <|
  wrM b9 (fun w14 =>
  callV Pr (Value.int .i64) 82 #[(.pointer r), (.int .i64 9223372036854775807)] w14 fun t15 w16 =>
  kp b9 w14 w16 <|
  wrM b9 (fun w17 =>
  callV Pr ApiCmd.val 173 #[(.pointer r), (.int .i64 v)] w17 fun t18 w19 =>
  kp b9 w17 w19 <|
  wrM b9 (fun w20 =>
  opTy Pr (Instr.buildSlice 38 1 #[(0, (.agg ⟨[(.int .i64 t7), (.int .i64 t12), (.int .i64 t15), (.int .i64 t18.Kind), (.int .i64 t18.Client), (.int .i64 t18.Seq), (sval t18.Key), (sval t18.Val), (sval t18.Old), (.int .i64 t18.Node)]⟩))]) Sl.val (fun t21 w22 =>
  kp b9 w20 w22 <|
  opTy Pr (Builtin.append_ #[38, 38] 38 #[out3.val, t21.val]) Sl.val (fun out23 w24 =>
  kp b9 w22 w24 <|
  k5 out23 (i64 (t4 + 1)) w24) w22) w20) w19) w16) w13) w10) w8)
  (K out3 w6)) w2
def entry_Get_ann : Ann := (.s .d (.s .d (.s (.s (.r [(1, .call (rI .i64))]) (.b (.l [(.s 5, rSl), (.s 9, (rI .i64))] (.s .d (.s (.c .d .d) (.s (.b (.s (.r [(1, .call (rI .i64)), (3, .nl 6), (4, .ls 6)]) (.s (.r [(1, .call (rI .i64)), (4, .ls 6)]) (.s (.r [(1, .call (rI .i64)), (4, .ls 6)]) (.s (.r [(2, .call rApiCmd), (4, .ls 6)]) (.r [(2, .ty rSl), (3, .ty rSl)])))))) .d)))))) (.s .d .d))))
theorem entry_Get_calls {r : Option Addr} {v : Int} {K : Sl → World → Prop} {w : World} (h : entry_Get r v K w) : callV Pr Sl.val 142 #[(.pointer r), (.int .i64 v)] w K :=
  calls_of Pr_plain Pr_mixed Pr_func142 entry_Get_ann rSl (args := [(.pointer r), (.int .i64 v)]) (by kernel_rfl) h

/- changeover/entry.Has -/
def entry_Has (v : Int) (l : Sl) (K : Bool → World → Prop) (w : World) : Prop :=
  opTy Pr (Instr.box 3 (.int .i64 v)) pav (fun v1 w2 =>
  callV Pr Value.bool 174 #[l.val, (.func (.func 175) #[] #[(.pointer (some v1))])] w2 fun t3 w4 =>
  K (!t3) w4) w
def entry_Has_ann : Ann := (.s (.r [(0, .ty rPA)]) (.s (.r [(2, .call rB)]) .d))
theorem entry_Has_calls {v : Int} {l : Sl} {K : Bool → World → Prop} {w : World} (h : entry_Has v l K w) : callV Pr Value.bool 143 #[(.int .i64 v), l.val] w K :=
  calls_of Pr_plain Pr_mixed Pr_func143 entry_Has_ann rB (args := [(.int .i64 v), l.val]) (by kernel_rfl) h

/- changeover/changeoverref07.Has -/
def ref07_Has (v : Int) (kind : Int) (K : Bool → World → Prop) (w : World) : Prop :=
  ifB (decide (kind < 1))
  (K false w)
  (ifB (decide (kind > 8))
  (K false w)
  (ifB (v == 2)
  (K true w)
  (ifB (v == 1)
  (K (kind != 5) w)
  (K false w))))
def ref07_Has_ann : Ann := (.s .d (.s (.s .d (.c (.s .d .d) .d)) (.s .d .d)))
theorem ref07_Has_calls {v : Int} {kind : Int} {K : Bool → World → Prop} {w : World} (h : ref07_Has v kind K w) : callV Pr Value.bool 144 #[(.int .i64 v), (.int .i64 kind)] w K :=
  calls_of Pr_plain Pr_mixed Pr_func144 ref07_Has_ann rB (args := [(.int .i64 v), (.int .i64 kind)]) (by kernel_rfl) h

/- changeover/changeoverref08.Bytes -/
def ref08_Bytes (v : Int) (c : ApiCmd) (K : Sl → World → Prop) (w : World) : Prop :=
  newV (fun b1 w2 =>
  callV Pr Sl.val 91 #[(.int .i64 c.Kind)] w2 fun out3 w4 =>
  kp b1 w2 w4 <|
  join1 (fun (j5 : Sl → World → Prop) =>
  ifB (v == 1)
  (callV Pr Sl.val 91 #[(.int .i64 c.Client)] w4 fun t6 w7 =>
  kp b1 w4 w7 <|
  opTy Pr (Builtin.append_ #[39, 39] 39 #[out3.val, t6.val]) Sl.val (fun out8 w9 =>
  kp b1 w7 w9 <|
  callV Pr Sl.val 91 #[(.int .i64 c.Seq)] w9 fun t10 w11 =>
  kp b1 w9 w11 <|
  opTy Pr (Builtin.append_ #[39, 39] 39 #[out8.val, t10.val]) Sl.val (fun out12 w13 =>
  kp b1 w11 w13 <|
  callV Pr Sl.val 92 #[(sval c.Key)] w13 fun t14 w15 =>
  kp b1 w13 w15 <|
  opTy Pr (Builtin.append_ #[39, 39] 39 #[out12.val, t14.val]) Sl.val (fun out16 w17 =>
  kp b1 w15 w17 <|
  j5 out16 w17) w15) w11) w7)
  (callV Pr Value.bool 153 #[(.int .i64 c.Kind)] w4 fun t18 w19 =>
  kp b1 w4 w19 <|
  ifB t18
  (callV Pr Sl.val 91 #[(.int .i64 c.Client)] w19 fun t20 w21 =>
  kp b1 w19 w21 <|
  opTy Pr (Builtin.append_ #[39, 39] 39 #[out3.val, t20.val]) Sl.val (fun out22 w23 =>
  kp b1 w21 w23 <|
  callV Pr Sl.val 91 #[(.int .i64 c.Seq)] w23 fun t24 w25 =>
  kp b1 w23 w25 <|
  opTy Pr (Builtin.append_ #[39, 39] 39 #[out22.val, t24.val]) Sl.val (fun out26 w27 =>
  kp b1 w25 w27 <|
  callV Pr Sl.val 92 #[(sval c.Key)] w27 fun t28 w29 =>
  kp b1 w27 w29 <|
  opTy Pr (Builtin.append_ #[39, 39] 39 #[out26.val, t28.val]) Sl.val (fun out30 w31 =>
  kp b1 w29 w31 <|
  j5 out30 w31) w29) w25) w21)
  (j5 out3 w19)))
  (fun out32 w33 =>
  join1 (fun (j34 : Sl → World → Prop) =>
  ifB (!(v == 1))
  (ifB (c.Kind == 5)
  (callV Pr Sl.val 92 #[(sval c.Old)] w33 fun t35 w36 =>
  kp b1 w33 w36 <|
  opTy Pr (Builtin.append_ #[39, 39] 39 #[out32.val, t35.val]) Sl.val (fun out37 w38 =>
  kp b1 w36 w38 <|
  j34 out37 w38) w36)
  (j34 out32 w33))
  (j34 out32 w33))
  (fun out39 w40 =>
  join1 (fun (j41 : Sl → World → Prop) =>
  ifB (v == 1)
  (callV Pr Sl.val 92 #[(sval c.Val)] w40 fun t42 w43 =>
  kp b1 w40 w43 <|
  opTy Pr (Builtin.append_ #[39, 39] 39 #[out39.val, t42.val]) Sl.val (fun out44 w45 =>
  kp b1 w43 w45 <|
  j41 out44 w45) w43)
  (ifB (c.Kind == 2)
  (callV Pr Sl.val 92 #[(sval c.Val)] w40 fun t46 w47 =>
  kp b1 w40 w47 <|
  opTy Pr (Builtin.append_ #[39, 39] 39 #[out39.val, t46.val]) Sl.val (fun out48 w49 =>
  kp b1 w47 w49 <|
  j41 out48 w49) w47)
  (ifB (c.Kind == 5)
  (callV Pr Sl.val 92 #[(sval c.Val)] w40 fun t50 w51 =>
  kp b1 w40 w51 <|
  opTy Pr (Builtin.append_ #[39, 39] 39 #[out39.val, t50.val]) Sl.val (fun out52 w53 =>
  kp b1 w51 w53 <|
  j41 out52 w53) w51)
  (j41 out39 w40))))
  (fun out54 w55 =>
  ifB (v == 1)
  (callV Pr Sl.val 91 #[(.int .i64 c.Node)] w55 fun t56 w57 =>
  kp b1 w55 w57 <|
  opTy Pr (Builtin.append_ #[39, 39] 39 #[out54.val, t56.val]) Sl.val (fun out58 w59 =>
  kp b1 w57 w59 <|
  K out58 w59) w57)
  (callV Pr Value.bool 154 #[(.int .i64 c.Kind)] w55 fun t60 w61 =>
  kp b1 w55 w61 <|
  ifB t60
  (callV Pr Sl.val 91 #[(.int .i64 c.Node)] w61 fun t62 w63 =>
  kp b1 w61 w63 <|
  opTy Pr (Builtin.append_ #[39, 39] 39 #[out54.val, t62.val]) Sl.val (fun out64 w65 =>
  kp b1 w63 w65 <|
  K out64 w65) w63)
  (K out54 w61)))))) w
def ref08_Bytes_ann : Ann := (.s (.r [(0, .nl 3)]) (.s (.r [(2, .call rSl)]) (.s .d (.sj [(.s 5, rSl)] (.s (.r [(4, .call rB)]) (.c (.s (.r [(3, .call rSl), (4, .ty rSl)]) (.s (.r [(3, .call rSl), (4, .ty rSl)]) (.r [(3, .call rSl), (4, .ty rSl)]))) .d)) (.sj [(.s 5, rSl)] (.s .d (.c (.r [(3, .call rSl), (4, .ty rSl)]) .d)) (.sj [(.s 5, rSl)] (.s .d (.c (.r [(3, .call rSl), (4, .ty rSl)]) .d)) (.s (.s (.r [(4, .call rB)]) (.c (.r [(3, .call rSl), (4, .ty rSl)]) .d)) (.s .d .d))))))))
theorem ref08_Bytes_calls {v : Int} {c : ApiCmd} {K : Sl → World → Prop} {w : World} (h : ref08_Bytes v c K w) : callV Pr Sl.val 145 #[(.int .i64 v), (.agg ⟨c.cs⟩)] w K :=
  calls_of Pr_plain Pr_mixed Pr_func145 ref08_Bytes_ann rSl (args := [(.int .i64 v), (.agg ⟨c.cs⟩)]) (by kernel_rfl) h

/- strings.IndexByte -/
def strings_IndexByte (s : List UInt8) (c : Int) (K : Int → World → Prop) (w : World) : Prop :=
  callV Pr (Value.int .i64) 177 #[(sval s), (.int .u8 c)] w fun t1 w2 =>
  K t1 w2
def strings_IndexByte_ann : Ann := (.s .d (.s (.r [(2, .call (rI .i64))]) .d))
theorem strings_IndexByte_calls {s : List UInt8} {c : Int} {K : Int → World → Prop} {w : World} (h : strings_IndexByte s c K w) : callV Pr (Value.int .i64) 147 #[(sval s), (.int .u8 c)] w K :=
  calls_of Pr_plain Pr_mixed Pr_func147 strings_IndexByte_ann (rI .i64) (args := [(sval s), (.int .u8 c)]) (by kernel_rfl) h

end Go.Chg
