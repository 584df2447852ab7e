/-
  Functions of the program, told by a program of ours (gen.py), each held by the kernel to what is to be shown of its code.
-/
import Derived.Test.YthofeajlmgecmaaGreatDoorTy
set_option maxRecDepth 100000
set_option linter.unusedVariables false
namespace Go.Chg
open Go.Vc

/- changeover/changeoverlaw39.ImageDecodes -/
def law39_ImageDecodes (v : Int) (b : Sl) (K : Bool → World → Prop) (w : World) : Prop :=
  ifB (decide ((b.len : Int) > 3000))
  (callV Pr Value.bool 8 #[] w fun t1 w2 =>
  K t1 w2)
  (callV Pr (tval2 ApiImage.val (Value.int .i64)) 9 #[(.int .i64 v), b.val] w fun t3 w4 =>
  newV (fun b5 w6 =>
  wrM b5 (fun w7 =>
  ifB (decide (v < 1))
  (ifB (t3.2 == 8)
  (callV Pr Value.bool 10 #[(.agg ⟨[(.int .i64 t3.1.Index), (.int .i64 t3.1.Active), t3.1.Confs.val, (.int .i64 t3.1.State.Schema), t3.1.State.Pairs.val, t3.1.State.Sessions.val]⟩), (.agg ⟨[(.int .i64 0), (.int .i64 0), Sl.nil.val, (.int .i64 0), Sl.nil.val, Sl.nil.val]⟩)] w7 fun t8 w9 =>
  kp b5 w7 w9 <|
  ifB t8
  (callV Pr Value.bool 8 #[] w9 fun t10 w11 =>
  kp b5 w9 w11 <|
  K t10 w11)
  (K false w9))
  (K false w7))
  (ifB (decide (v > 2))
  (ifB (t3.2 == 8)
  (callV Pr Value.bool 10 #[(.agg ⟨[(.int .i64 t3.1.Index), (.int .i64 t3.1.Active), t3.1.Confs.val, (.int .i64 t3.1.State.Schema), t3.1.State.Pairs.val, t3.1.State.Sessions.val]⟩), (.agg ⟨[(.int .i64 0), (.int .i64 0), Sl.nil.val, (.int .i64 0), Sl.nil.val, Sl.nil.val]⟩)] w7 fun t12 w13 =>
  kp b5 w7 w13 <|
  ifB t12
  (callV Pr Value.bool 8 #[] w13 fun t14 w15 =>
  kp b5 w13 w15 <|
  K t14 w15)
  (K false w13))
  (K false w7))
  (ifB (t3.2 != 0)
  (callV Pr Value.bool 10 #[(.agg ⟨[(.int .i64 t3.1.Index), (.int .i64 t3.1.Active), t3.1.Confs.val, (.int .i64 t3.1.State.Schema), t3.1.State.Pairs.val, t3.1.State.Sessions.val]⟩), (.agg ⟨[(.int .i64 0), (.int .i64 0), Sl.nil.val, (.int .i64 0), Sl.nil.val, Sl.nil.val]⟩)] w7 fun t16 w17 =>
  kp b5 w7 w17 <|
  ifB t16
  (callV Pr Value.bool 8 #[] w17 fun t18 w19 =>
  kp b5 w17 w19 <|
  K t18 w19)
  (K false w17))
  (heldM (fun S21 w20 =>
  callV Pr Value.bool 11 #[(.agg ⟨[(.int .i64 t3.1.Index), (.int .i64 t3.1.Active), t3.1.Confs.val, (.int .i64 t3.1.State.Schema), t3.1.State.Pairs.val, t3.1.State.Sessions.val]⟩)] w20 fun t22 w23 =>
  kp b5 w20 w23 <|
  (S21 w23) ∧
  (ifB t22
  (ifB (decide (t3.1.State.Schema ≤ v))
  (callV Pr Sl.val 13 #[(.agg ⟨[(.int .i64 t3.1.Index), (.int .i64 t3.1.Active), t3.1.Confs.val, (.int .i64 t3.1.State.Schema), t3.1.State.Pairs.val, t3.1.State.Sessions.val]⟩)] w23 fun t24 w25 =>
  kp b5 w23 w25 <|
  (S21 w25) ∧
  (callV Pr Value.bool 12 #[t24.val, b.val] w25 fun t26 w27 =>
  kp b5 w25 w27 <|
  (S21 w27) ∧
  (ifB t26
  (callV Pr (Value.int .i64) 14 #[b.val] w27 fun t28 w29 =>
  kp b5 w27 w29 <|
  (S21 w29) ∧
  (ifB (t28 == t3.1.State.Schema)
  (callV Pr Value.bool 8 #[] w29 fun t30 w31 =>
  kp b5 w29 w31 <|
  (S21 w31) ∧
  (K t30 w31))
  (K false w29)))
  (K false w27))))
  (K false w23))
  (K false w23))) w7)))) w6) w4)
def law39_ImageDecodes_ann : Ann := (.s .d (.s (.s .d (.c (.s (.r [(0, .call rB)]) .d) .d)) (.s (.r [(2, .call (rT2 rApiImage (rI .i64))), (6, .nl 5), (7, .ls 5)]) (.s (.s .d (.c (.s (.r [(5, .call rB), (8, .call rB)]) .d) .d)) (.s (.s .d (.c (.s (.r [(2, .call rB), (4, .call rB)]) .d) .d)) (.s (.h (.take 0 (.one 1 (.take 2 (.take 3 (.take 4 (.take 5 (.take 6 (.take 7 (.take 8 (.take 9 (.take 10 (.take 12 (.one 11 (.one 13 (.take 14 (.take 15 (.take 16 (.take 18 (.take 19 (.take 20 (.one 17 (.take 21 (.take 22 (.take 23 (.one 24 (.take 25 (.take 26 .done))))))))))))))))))))))))))) [(1, .call rB), (11, .call rSl), (13, .call rB), (17, .call (rI .i64)), (24, .call rB)]) .d))))))
theorem law39_ImageDecodes_calls {v : Int} {b : Sl} {K : Bool → World → Prop} {w : World} (h : law39_ImageDecodes v b K w) : callV Pr Value.bool 3 #[(.int .i64 v), b.val] w K :=
  calls_of Pr_plain Pr_mixed Pr_func3 law39_ImageDecodes_ann rB (args := [(.int .i64 v), b.val]) (by kernel_rfl) h

/- changeover/changeoverlaw39.awake -/
def law39_awake (K : Bool → World → Prop) (w : World) : Prop :=
  opTy Pr (Instr.buildSlice 73 1 #[(0, (.int .i64 1))]) Sl.val (fun t1 w2 =>
  opTy Pr (Instr.buildSlice 24 1 #[(0, (.agg ⟨[(.int .i64 1), t1.val]⟩))]) Sl.val (fun t3 w4 =>
  callV Pr (tval2 Sl.val (Value.int .i64)) 33 #[(.agg ⟨[(.int .i64 0), (.int .i64 0), t3.val, (.int .i64 1), Sl.nil.val, Sl.nil.val]⟩)] w4 fun t5 w6 =>
  ifB (t5.2 == 0)
  (ifB ((t5.1.len : Int) == 10)
  (opRd Pr (Instr.indexAt 22 t5.1.val (.int .i64 0)) pav (fun t7 =>
  opRd Pr (Instr.loadAt 5 (.pointer (some t7))) (Value.int .u8) (fun t8 =>
  ifB (t8 == 1)
  (opRd Pr (Instr.indexAt 22 t5.1.val (.int .i64 6)) pav (fun t9 =>
  opRd Pr (Instr.loadAt 5 (.pointer (some t9))) (Value.int .u8) (fun t10 =>
  ifB (t10 == 3)
  (callV Pr (Value.int .i64) 14 #[t5.1.val] w6 fun t11 w12 =>
  K (t11 == 1) w12)
  (K false w6)) w6) w6)
  (K false w6)) w6) w6)
  (K false w6))
  (K false w6)) w2) w
def law39_awake_ann : Ann := (.s .d (.s (.r [(0, .ty rSl), (2, .ty rSl), (5, .call (rT2 rSl (rI .i64)))]) (.s (.r [(9, .rd rPA), (10, .rd (rI .u8)), (15, .rd rPA), (16, .rd (rI .u8)), (21, .call (rI .i64))]) .d)))
theorem law39_awake_calls {K : Bool → World → Prop} {w : World} (h : law39_awake K w) : callV Pr Value.bool 8 #[] w K :=
  calls_of Pr_plain Pr_mixed Pr_func8 law39_awake_ann rB (args := []) (by kernel_rfl) h

/- changeover/image.Decode -/
def image_Decode (v : Int) (b : Sl) (K : (ApiImage × Int) → World → Prop) (w : World) : Prop :=
  newV (fun b1 w2 =>
  callV Pr Value.bool 35 #[(.int .i64 v)] w2 fun t3 w4 =>
  kp b1 w2 w4 <|
  ifB (!t3)
  (callV Pr (tval2 ApiImage.val (Value.int .i64)) 34 #[(.int .i64 8)] w4 fun t5 w6 =>
  kp b1 w4 w6 <|
  wrM b1 (fun w7 =>
  K ((ApiImage.mk t5.1.Index t5.1.Active t5.1.Confs (ApiState.mk t5.1.State.Schema t5.1.State.Pairs t5.1.State.Sessions)), t5.2) w7) w6)
  (ifB (decide ((b.len : Int) > 32768))
  (callV Pr (tval2 ApiImage.val (Value.int .i64)) 34 #[(.int .i64 2)] w4 fun t8 w9 =>
  kp b1 w4 w9 <|
  wrM b1 (fun w10 =>
  K ((ApiImage.mk t8.1.Index t8.1.Active t8.1.Confs (ApiState.mk t8.1.State.Schema t8.1.State.Pairs t8.1.State.Sessions)), t8.2) w10) w9)
  (callV Pr Value.pointer 36 #[b.val] w4 fun r11 w12 =>
  kp b1 w4 w12 <|
  callV Pr (Value.int .i64) 37 #[(.pointer r11), (.int .i64 2)] w12 fun format13 w14 =>
  kp b1 w12 w14 <|
  callV Pr (Value.int .i64) 38 #[(.pointer r11)] w14 fun e15 w16 =>
  kp b1 w14 w16 <|
  ifB (e15 != 0)
  (callV Pr (tval2 ApiImage.val (Value.int .i64)) 34 #[(.int .i64 e15)] w16 fun t17 w18 =>
  kp b1 w16 w18 <|
  wrM b1 (fun w19 =>
  K ((ApiImage.mk t17.1.Index t17.1.Active t17.1.Confs (ApiState.mk t17.1.State.Schema t17.1.State.Pairs t17.1.State.Sessions)), t17.2) w19) w18)
  (ifB (format13 == 0)
  (callV Pr (tval2 ApiImage.val (Value.int .i64)) 34 #[(.int .i64 3)] w16 fun t20 w21 =>
  kp b1 w16 w21 <|
  wrM b1 (fun w22 =>
  K ((ApiImage.mk t20.1.Index t20.1.Active t20.1.Confs (ApiState.mk t20.1.State.Schema t20.1.State.Pairs t20.1.State.Sessions)), t20.2) w22) w21)
  (ifB (decide (format13 > v))
  (callV Pr (tval2 ApiImage.val (Value.int .i64)) 34 #[(.int .i64 8)] w16 fun t23 w24 =>
  kp b1 w16 w24 <|
  wrM b1 (fun w25 =>
  K ((ApiImage.mk t23.1.Index t23.1.Active t23.1.Confs (ApiState.mk t23.1.State.Schema t23.1.State.Pairs t23.1.State.Sessions)), t23.2) w25) w24)
  (callV Pr (tval2 ApiImage.val (Value.int .i64)) 39 #[(.pointer r11), (.int .i64 format13)] w16 fun t26 w27 =>
  kp b1 w16 w27 <|
  newV (fun b28 w29 =>
  wrM b28 (fun w30 =>
  ifB (t26.2 != 0)
  (callV Pr (tval2 ApiImage.val (Value.int .i64)) 34 #[(.int .i64 t26.2)] w30 fun t31 w32 =>
  kp b28 w30 w32 <|
  kp b1 w30 w32 <|
  wrM b1 (fun w33 =>
  K ((ApiImage.mk t31.1.Index t31.1.Active t31.1.Confs (ApiState.mk t31.1.State.Schema t31.1.State.Pairs t31.1.State.Sessions)), t31.2) w33) w32)
  (wrM b1 (fun w34 =>
  K ((ApiImage.mk t26.1.Index t26.1.Active t26.1.Confs (ApiState.mk t26.1.State.Schema t26.1.State.Pairs t26.1.State.Sessions)), 0) w34) w30)) w29) w27)))))) w
def image_Decode_ann : Ann := (.s (.r [(0, .nl 4)]) (.s .d (.s (.b (.s (.r [(1, .call rB)]) (.c (.s (.r [(1, .call (rT2 rApiImage (rI .i64))), (4, .ls 4)]) .d) (.s .d (.c (.s (.r [(1, .call (rT2 rApiImage (rI .i64))), (4, .ls 4)]) .d) .d))))) (.s (.r [(1, .call rP)]) (.s (.r [(1, .call (rI .i64))]) (.s (.s (.r [(1, .call (rI .i64))]) (.b (.s .d (.c (.s (.r [(2, .call (rT2 rApiImage (rI .i64))), (5, .ls 4)]) .d) (.s .d (.c (.s (.r [(1, .call (rT2 rApiImage (rI .i64))), (4, .ls 4)]) .d) (.s .d (.c (.s (.r [(1, .call (rT2 rApiImage (rI .i64))), (4, .ls 4)]) .d) .d)))))))) (.s (.r [(2, .call (rT2 rApiImage (rI .i64))), (6, .nl 10), (7, .ls 10)]) (.s (.s .d (.c (.s (.r [(2, .call (rT2 rApiImage (rI .i64))), (5, .ls 4)]) .d) .d)) (.s (.r [(1, .ls 4)]) .d)))))))))
theorem image_Decode_calls {v : Int} {b : Sl} {K : (ApiImage × Int) → World → Prop} {w : World} (h : image_Decode v b K w) : callV Pr (tval2 ApiImage.val (Value.int .i64)) 9 #[(.int .i64 v), b.val] w K :=
  calls_of Pr_plain Pr_mixed Pr_func9 image_Decode_ann (rT2 rApiImage (rI .i64)) (args := [(.int .i64 v), b.val]) (by kernel_rfl) h

/- changeover/changeoverref30.Same -/
def ref30_Same (a : ApiImage) (b : ApiImage) (K : Bool → World → Prop) (w : World) : Prop :=
  newV (fun b1 w2 =>
  newV (fun b3 w4 =>
  ifB (a.Index == b.Index)
  (ifB (a.Active == b.Active)
  (callV Pr Value.bool 40 #[a.Confs.val, b.Confs.val] w4 fun t5 w6 =>
  kp b3 w4 w6 <|
  kp b1 w4 w6 <|
  ifB t5
  (callV Pr Value.bool 41 #[(.agg ⟨[(.int .i64 a.State.Schema), a.State.Pairs.val, a.State.Sessions.val]⟩), (.agg ⟨[(.int .i64 b.State.Schema), b.State.Pairs.val, b.State.Sessions.val]⟩)] w6 fun t7 w8 =>
  kp b3 w6 w8 <|
  kp b1 w6 w8 <|
  K t7 w8)
  (K false w6))
  (K false w4))
  (K false w4)) w2) w
def ref30_Same_ann : Ann := (.s (.r [(0, .nl 2), (1, .nl 3)]) (.s (.r [(17, .call rB), (24, .call rB)]) .d))
theorem ref30_Same_calls {a : ApiImage} {b : ApiImage} {K : Bool → World → Prop} {w : World} (h : ref30_Same a b K w) : callV Pr Value.bool 10 #[(.agg ⟨a.cs⟩), (.agg ⟨b.cs⟩)] w K :=
  calls_of Pr_plain Pr_mixed Pr_func10 ref30_Same_ann rB (args := [(.agg ⟨a.cs⟩), (.agg ⟨b.cs⟩)]) (by kernel_rfl) h

/- changeover/changeoverref39.May -/
def ref39_May (m : ApiImage) (K : Bool → World → Prop) (w : World) : Prop :=
  newV (fun b1 w2 =>
  callV Pr Value.bool 42 #[(.agg ⟨[(.int .i64 m.Index), (.int .i64 m.Active), m.Confs.val, (.int .i64 m.State.Schema), m.State.Pairs.val, m.State.Sessions.val]⟩)] w2 fun t3 w4 =>
  kp b1 w2 w4 <|
  ifB t3
  (K (decide ((m.Confs.len : Int) ≤ 64)) w4)
  (K false w4)) w
def ref39_May_ann : Ann := (.s (.r [(0, .nl 1)]) (.s (.r [(1, .call rB)]) .d))
theorem ref39_May_calls {m : ApiImage} {K : Bool → World → Prop} {w : World} (h : ref39_May m K w) : callV Pr Value.bool 11 #[(.agg ⟨m.cs⟩)] w K :=
  calls_of Pr_plain Pr_mixed Pr_func11 ref39_May_ann rB (args := [(.agg ⟨m.cs⟩)]) (by kernel_rfl) h

/- changeover/changeoverref01.Same -/
def ref01_Same (a : Sl) (b : Sl) (K : Bool → World → Prop) (w : World) : Prop :=
  ifB ((a.len : Int) != (b.len : Int))
  (K false w)
  (loop1 (0 : Int) (fun i1 k2 w3 =>
  ifB (decide (i1 < (a.len : Int)))
  (drewM (fun w4 =>
  opRd Pr (Instr.indexAt 22 a.val (.int .i64 i1)) pav (fun t5 =>
  opRd Pr (Instr.loadAt 5 (.pointer (some t5))) (Value.int .u8) (fun t6 =>
  opRd Pr (Instr.indexAt 22 b.val (.int .i64 i1)) pav (fun t7 =>
  opRd Pr (Instr.loadAt 5 (.pointer (some t7))) (Value.int .u8) (fun t8 =>
  ifB (t6 != t8)
  (K false w4)
  (k2 (i64 (i1 + 1)) w4)) w4) w4) w4) w4) w3)
  (K true w3)) w)
def ref01_Same_ann : Ann := (.s .d (.s (.s .d (.c (.s .d .d) .d)) (.s (.s .d (.b (.l [(.s 5, (rI .i64))] (.s (.s .d (.c .d .d)) (.s (.b (.s (.r [(2, .rd rPA), (3, .rd (rI .u8)), (6, .rd rPA), (7, .rd (rI .u8))]) (.c (.s .d .d) .d))) .d))))) (.s .d .d))))
theorem ref01_Same_calls {a : Sl} {b : Sl} {K : Bool → World → Prop} {w : World} (h : ref01_Same a b K w) : callV Pr Value.bool 12 #[a.val, b.val] w K :=
  calls_of Pr_plain Pr_mixed Pr_func12 ref01_Same_ann rB (args := [a.val, b.val]) (by kernel_rfl) h

/- changeover/changeoverref39.Bytes -/
def ref39_Bytes (m : ApiImage) (K : Sl → World → Prop) (w : World) : Prop :=
  newV (fun b1 w2 =>
  callV Pr Sl.val 43 #[(.int .i64 m.State.Schema)] w2 fun out3 w4 =>
  kp b1 w2 w4 <|
  callV Pr Sl.val 43 #[(.int .i64 m.Index)] w4 fun t5 w6 =>
  kp b1 w4 w6 <|
  opTy Pr (Builtin.append_ #[22, 22] 22 #[out3.val, t5.val]) Sl.val (fun out7 w8 =>
  kp b1 w6 w8 <|
  join1 (fun (j9 : Sl → World → Prop) =>
  ifB (m.State.Schema == 2)
  (callV Pr Sl.val 43 #[(.int .i64 m.Active)] w8 fun t10 w11 =>
  kp b1 w8 w11 <|
  opTy Pr (Builtin.append_ #[22, 22] 22 #[out7.val, t10.val]) Sl.val (fun out12 w13 =>
  kp b1 w11 w13 <|
  j9 out12 w13) w11)
  (j9 out7 w8))
  (fun out14 w15 =>
  callV Pr Sl.val 43 #[(.int .i64 (m.Confs.len : Int))] w15 fun t16 w17 =>
  kp b1 w15 w17 <|
  opTy Pr (Builtin.append_ #[22, 22] 22 #[out14.val, t16.val]) Sl.val (fun out18 w19 =>
  kp b1 w17 w19 <|
  loop2 (out18 : Sl) (0 : Int) (fun out20 i21 k22 w23 =>
  ifB (decide (i21 < (m.Confs.len : Int)))
  (opRd Pr (Instr.indexAt 24 m.Confs.val (.int .i64 i21)) pav (fun t24 =>
  opRd Pr (Instr.loadAt 3 (.pointer (some (t24.add 0)))) (Value.int .i64) (fun t25 =>
  callV Pr Sl.val 43 #[(.int .i64 t25)] w23 fun t26 w27 =>
  kp b1 w23 w27 <|
  opTy Pr (Builtin.append_ #[22, 22] 22 #[out20.val, t26.val]) Sl.val (fun out28 w29 =>
  kp b1 w27 w29 <|
  opRd Pr (Instr.indexAt 24 m.Confs.val (.int .i64 i21)) pav (fun t30 =>
  opRd Pr (Instr.loadAt 73 (.pointer (some (t30.add 1)))) Sl.val (fun t31 =>
  callV Pr Sl.val 43 #[(.int .i64 (t31.len : Int))] w29 fun t32 w33 =>
  kp b1 w29 w33 <|
  opTy Pr (Builtin.append_ #[22, 22] 22 #[out28.val, t32.val]) Sl.val (fun out34 w35 =>
  kp b1 w33 w35 <|
  loop2 (out34 : Sl) (0 : Int) (fun out36 k37 k38 w39 =>
  opRd Pr (Instr.indexAt 24 m.Confs.val (.int .i64 i21)) pav (fun t40 =>
  opRd Pr (Instr.loadAt 73 (.pointer (some (t40.add 1)))) Sl.val (fun t41 =>
  ifB (decide (k37 < (t41.len : Int)))
  (opRd Pr (Instr.indexAt 24 m.Confs.val (.int .i64 i21)) pav (fun t42 =>
  opRd Pr (Instr.loadAt 73 (.pointer (some (t42.add 1)))) Sl.val (fun t43 =>
  opRd Pr (Instr.indexAt 73 t43.val (.int .i64 k37)) pav (fun t44 =>
  opRd Pr (Instr.loadAt 3 (.pointer (some t44))) (Value.int .i64) (fun t45 =>
  callV Pr Sl.val 43 #[(.int .i64 t45)] w39 fun t46 w47 =>
  kp b1 w39 w47 <|
  opTy Pr (Builtin.append_ #[22, 22] 22 #[out36.val, t46.val]) Sl.val (fun out48 w49 =>
  kp b1 w47 w49 <|
  k38 out48 (i64 (k37 + 1)) w49) w47) w39) w39) w39) w39)
  (k22 out36 (i64 (i21 + 1)) w39)) w39) w39) w35) w33) w29) w29) w27) w23) w23)
  (callV Pr Sl.val 44 #[(.agg ⟨[(.int .i64 m.State.Schema), m.State.Pairs.val, m.State.Sessions.val]⟩)] w23 fun s50 w51 =>
  kp b1 w23 w51 <|
  callV Pr Sl.val 43 #[(.int .i64 (s50.len : Int))] w51 fun t52 w53 =>
  kp b1 w51 w53 <|
  opTy Pr (Builtin.append_ #[22, 22] 22 #[out20.val, t52.val]) Sl.val (fun out54 w55 =>
  kp b1 w53 w55 <|
  opTy Pr (Builtin.append_ #[22, 22] 22 #[out54.val, s50.val]) Sl.val (fun t56 w57 =>
  kp b1 w55 w57 <|
  K t56 w57) w55) w53)) w19) w17)) w6) w
def ref39_Bytes_ann : Ann := (.s (.r [(0, .nl 1)]) (.s (.r [(3, .call rSl)]) (.s (.r [(3, .call rSl), (4, .ty rSl)]) (.sj [(.s 3, rSl)] (.s .d (.c (.r [(3, .call rSl), (4, .ty rSl)]) .d)) (.s (.r [(4, .call rSl), (5, .ty rSl)]) (.s (.s .d (.b (.l [(.s 3, rSl), (.s 4, (rI .i64))] (.s (.s .d (.c .d .d)) (.s (.b (.s (.r [(4, .rd rPA), (6, .rd (rI .i64)), (7, .call rSl), (8, .ty rSl)]) (.s (.r [(4, .rd rPA), (6, .rd rSl), (8, .call rSl), (9, .ty rSl)]) (.s .d (.b (.l [(.s 3, rSl), (.s 5, (rI .i64))] (.s (.s (.r [(4, .rd rPA), (6, .rd rSl)]) (.c .d .d)) (.s (.b (.r [(4, .rd rPA), (6, .rd rSl), (8, .rd rPA), (9, .rd (rI .i64)), (10, .call rSl), (11, .ty rSl)])) .d)))))))) .d))))) (.s (.r [(2, .call rSl)]) (.s (.r [(3, .call rSl), (4, .ty rSl)]) (.s (.r [(2, .ty rSl)]) .d)))))))))
theorem ref39_Bytes_calls {m : ApiImage} {K : Sl → World → Prop} {w : World} (h : ref39_Bytes m K w) : callV Pr Sl.val 13 #[(.agg ⟨m.cs⟩)] w K :=
  calls_of Pr_plain Pr_mixed Pr_func13 ref39_Bytes_ann rSl (args := [(.agg ⟨m.cs⟩)]) (by kernel_rfl) h

/- changeover/image.Format -/
def image_Format (b : Sl) (K : Int → World → Prop) (w : World) : Prop :=
  callV Pr Value.pointer 36 #[b.val] w fun r1 w2 =>
  callV Pr (Value.int .i64) 37 #[(.pointer r1), (.int .i64 2)] w2 fun t3 w4 =>
  K t3 w4
def image_Format_ann : Ann := (.s .d (.s (.r [(1, .call rP)]) (.s (.r [(1, .call (rI .i64))]) .d)))
theorem image_Format_calls {b : Sl} {K : Int → World → Prop} {w : World} (h : image_Format b K w) : callV Pr (Value.int .i64) 14 #[b.val] w K :=
  calls_of Pr_plain Pr_mixed Pr_func14 image_Format_ann (rI .i64) (args := [b.val]) (by kernel_rfl) h

/- changeover/image.Encode -/
def image_Encode (m : ApiImage) (K : (Sl × Int) → World → Prop) (w : World) : Prop :=
  newV (fun b1 w2 =>
  callV Pr (Value.int .i64) 68 #[(.agg ⟨[(.int .i64 m.Index), (.int .i64 m.Active), m.Confs.val, (.int .i64 m.State.Schema), m.State.Pairs.val, m.State.Sessions.val]⟩)] w2 fun t3 w4 =>
  kp b1 w2 w4 <|
  ifB (t3 != 0)
  (K (Sl.nil, 3) w4)
  (ifB (decide ((m.Confs.len : Int) > 64))
  (K (Sl.nil, 3) w4)
  (callV Pr (tval2 Sl.val (Value.int .i64)) 69 #[(.agg ⟨[(.int .i64 m.State.Schema), m.State.Pairs.val, m.State.Sessions.val]⟩)] w4 fun t5 w6 =>
  kp b1 w4 w6 <|
  opTy Pr (Instr.box 113 (.agg ⟨[Sl.nil.val]⟩)) pav (fun w7 w8 =>
  kp b1 w6 w8 <|
  callV Pr uval 70 #[(.pointer (some w7)), (.int .i64 m.State.Schema)] w8 fun t9 w10 =>
  kp b1 w8 w10 <|
  callV Pr uval 70 #[(.pointer (some w7)), (.int .i64 m.Index)] w10 fun t11 w12 =>
  kp b1 w10 w12 <|
  join0 (fun (j13 : World → Prop) =>
  ifB (m.State.Schema == 2)
  (callV Pr uval 70 #[(.pointer (some w7)), (.int .i64 m.Active)] w12 fun t14 w15 =>
  kp b1 w12 w15 <|
  j13 w15)
  (j13 w12))
  (fun w16 =>
  callV Pr uval 70 #[(.pointer (some w7)), (.int .i64 (m.Confs.len : Int))] w16 fun t17 w18 =>
  kp b1 w16 w18 <|
  loop1 (0 : Int) (fun t19 k20 w21 =>
  ifB (decide (t19 < (m.Confs.len : Int)))
  (opRd Pr (Instr.indexAt 24 m.Confs.val (.int .i64 t19)) pav (fun t22 =>
  opRd Pr (Instr.loadAt 75 (.pointer (some t22))) ApiConf.val (fun t23 =>
  newV (fun b24 w25 =>
  wrM b24 (fun w26 =>
  callV Pr uval 70 #[(.pointer (some w7)), (.int .i64 t23.From)] w26 fun t27 w28 =>
  kp b24 w26 w28 <|
  kp b1 w26 w28 <|
  callV Pr uval 70 #[(.pointer (some w7)), (.int .i64 (t23.Members.len : Int))] w28 fun t29 w30 =>
  kp b24 w28 w30 <|
  kp b1 w28 w30 <|
  loop1 (0 : Int) (fun t31 k32 w33 =>
  ifB (decide (t31 < (t23.Members.len : Int)))
  (opRd Pr (Instr.indexAt 73 t23.Members.val (.int .i64 t31)) pav (fun t34 =>
  opRd Pr (Instr.loadAt 3 (.pointer (some t34))) (Value.int .i64) (fun n35 =>
  callV Pr uval 70 #[(.pointer (some w7)), (.int .i64 n35)] w33 fun t36 w37 =>
  kp b24 w33 w37 <|
  kp b1 w33 w37 <|
  k32 (i64 (t31 + 1)) w37) w33) w33)
  (k20 (i64 (t19 + 1)) w33)) w30) w25) w21) w21) w21)
  (callV Pr uval 71 #[(.pointer (some w7)), t5.1.val] w21 fun t38 w39 =>
  kp b1 w21 w39 <|
  callV Pr Sl.val 72 #[(.pointer (some w7))] w39 fun b40 w41 =>
  kp b1 w39 w41 <|
  ifB (decide ((b40.len : Int) > 32768))
  (K (Sl.nil, 2) w41)
  (K (b40, 0) w41))) w18)) w6))) w
def image_Encode_ann : Ann := (.s (.r [(0, .nl 1)]) (.s (.s (.r [(1, .call (rI .i64))]) (.c (.s .d .d) .d)) (.s (.r [(2, .call (rT2 rSl (rI .i64)))]) (.s (.r [(1, .ty rPA)]) (.s .d (.s (.r [(4, .call rU)]) (.s (.r [(3, .call rU)]) (.sj [] (.s .d (.c (.r [(3, .call rU)]) .d)) (.s (.r [(4, .call rU)]) (.s (.s .d (.b (.l [(.s 57, (rI .i64))] (.s .d (.s (.c .d .d) (.s (.b (.s (.r [(0, .rd rPA), (1, .rd rApiConf), (2, .nl 9), (3, .ls 9)]) (.s (.r [(3, .call rU)]) (.s (.r [(4, .call rU)]) (.s .d (.b (.l [(.s 73, (rI .i64))] (.s .d (.s (.c .d .d) (.s (.b (.s (.r [(0, .rd rPA), (1, .rd (rI .i64))]) (.r [(2, .call rU)]))) .d)))))))))) .d)))))) (.s (.r [(2, .call rU)]) (.s (.r [(1, .call rSl)]) (.s (.s .d (.c (.s .d .d) .d)) (.s .d .d))))))))))))))
theorem image_Encode_calls {m : ApiImage} {K : (Sl × Int) → World → Prop} {w : World} (h : image_Encode m K w) : callV Pr (tval2 Sl.val (Value.int .i64)) 33 #[(.agg ⟨m.cs⟩)] w K :=
  calls_of Pr_plain Pr_mixed Pr_func33 image_Encode_ann (rT2 rSl (rI .i64)) (args := [(.agg ⟨m.cs⟩)]) (by kernel_rfl) h

/- changeover/image.Decode$1 -/
def image_Decode_1 (e : Int) (K : (ApiImage × Int) → World → Prop) (w : World) : Prop :=
  newV (fun b1 w2 =>
  wrM b1 (fun w3 =>
  K ((ApiImage.mk 0 0 Sl.nil (ApiState.mk 0 Sl.nil Sl.nil)), e) w3) w2) w
def image_Decode_1_ann : Ann := (.s (.r [(0, .nl 2)]) (.s (.r [(2, .ls 2)]) .d))
theorem image_Decode_1_calls {e : Int} {K : (ApiImage × Int) → World → Prop} {w : World} (h : image_Decode_1 e K w) : callV Pr (tval2 ApiImage.val (Value.int .i64)) 34 #[(.int .i64 e)] w K :=
  calls_of Pr_plain Pr_mixed Pr_func34 image_Decode_1_ann (rT2 rApiImage (rI .i64)) (args := [(.int .i64 e)]) (by kernel_rfl) h

/- changeover/vers.May -/
def vers_May (v : Int) (K : Bool → World → Prop) (w : World) : Prop :=
  ifB (v == 1)
  (K true w)
  (ifB (v == 2)
  (K true w)
  (K false w))
def vers_May_ann : Ann := (.s .d (.s (.s .d (.b (.s (.b (.b (.s (.s (.s .d (.c .d .d)) (.s .d (.c .d .d))) .d))) (.s (.s .d .d) .d)))) (.s .d .d)))
theorem vers_May_calls {v : Int} {K : Bool → World → Prop} {w : World} (h : vers_May v K w) : callV Pr Value.bool 35 #[(.int .i64 v)] w K :=
  calls_of Pr_plain Pr_mixed Pr_func35 vers_May_ann rB (args := [(.int .i64 v)]) (by kernel_rfl) h

/- changeover/pack.NewReader -/
def pack_NewReader (b : Sl) (K : (Option Addr) → World → Prop) (w : World) : Prop :=
  callV Pr Sl.val 73 #[b.val] w fun t1 w2 =>
  opTy Pr (Instr.box 118 (.agg ⟨[t1.val, (.int .i64 0), (.int .i64 0)]⟩)) pav (fun t3 w4 =>
  K (some t3) w4) w2
def pack_NewReader_ann : Ann := (.s .d (.s (.r [(1, .call rSl), (3, .ty rPA)]) .d))
theorem pack_NewReader_calls {b : Sl} {K : (Option Addr) → World → Prop} {w : World} (h : pack_NewReader b K w) : callV Pr Value.pointer 36 #[b.val] w K :=
  calls_of Pr_plain Pr_mixed Pr_func36 pack_NewReader_ann rP (args := [b.val]) (by kernel_rfl) h

/- (*changeover/pack.Reader).Number -/
def pack_Reader_Number (r : Option Addr) (most : Int) (K : Int → World → Prop) (w : World) : Prop :=
  opTy Pr (Instr.box 78 (.pointer r)) pav (fun r1 w2 =>
  opTy Pr (Instr.box 3 (.int .i64 most)) pav (fun most3 w4 =>
  opRd Pr (Instr.loadAt 78 (.pointer (some r1))) Value.pointer (fun t5 =>
  callV Pr (Value.int .i64) 74 #[(.pointer t5), (.func (.func 75) #[] #[(.pointer (some r1)), (.pointer (some most3))])] w4 fun t6 w7 =>
  K t6 w7) w4) w2) w
def pack_Reader_Number_ann : Ann := (.s (.r [(0, .ty rPA), (1, .ty rPA)]) (.s (.r [(0, .rd rP), (2, .call (rI .i64))]) .d))
theorem pack_Reader_Number_calls {r : Option Addr} {most : Int} {K : Int → World → Prop} {w : World} (h : pack_Reader_Number r most K w) : callV Pr (Value.int .i64) 37 #[(.pointer r), (.int .i64 most)] w K :=
  calls_of Pr_plain Pr_mixed Pr_func37 pack_Reader_Number_ann (rI .i64) (args := [(.pointer r), (.int .i64 most)]) (by kernel_rfl) h

/- (*changeover/pack.Reader).Err -/
def pack_Reader_Err (r : Option Addr) (K : Int → World → Prop) (w : World) : Prop :=
  opRd Pr (binSem .eql 78 (.tmp 3) (.const (.pointer none)) (.pointer r) (.pointer none)) Value.bool (fun t1 =>
  ifB t1
  (K 1 w)
  (opRd Pr (nilSem (.pointer r)) pav (fun t2 =>
  opRd Pr (Instr.loadAt 31 (.pointer (some (t2.add 2)))) (Value.int .i64) (fun t3 =>
  K t3 w) w) w)) w
def pack_Reader_Err_ann : Ann := (.s .d (.s (.s (.r [(1, .rd rB)]) (.c (.s .d .d) .d)) (.s (.r [(1, .rd rPA), (3, .rd (rI .i64))]) .d)))
theorem pack_Reader_Err_calls {r : Option Addr} {K : Int → World → Prop} {w : World} (h : pack_Reader_Err r K w) : callV Pr (Value.int .i64) 38 #[(.pointer r)] w K :=
  calls_of Pr_plain Pr_mixed Pr_func38 pack_Reader_Err_ann (rI .i64) (args := [(.pointer r)]) (by kernel_rfl) h

/- changeover/image.read -/
def image_read (r : Option Addr) (format : Int) (K : (ApiImage × Int) → World → Prop) (w : World) : Prop :=
  newV (fun b1 w2 =>
  callV Pr (Value.int .i64) 37 #[(.pointer r), (.int .i64 9223372036854775807)] w2 fun t3 w4 =>
  kp b1 w2 w4 <|
  newV (fun b5 w6 =>
  wrM b5 (fun w7 =>
  join1 (fun (j8 : ApiImage → World → Prop) =>
  ifB (format == 2)
  (callV Pr (Value.int .i64) 37 #[(.pointer r), (.int .i64 9223372036854775807)] w7 fun t9 w10 =>
  kp b5 w7 w10 <|
  kp b1 w7 w10 <|
  wrM b5 (fun w11 =>
  j8 (ApiImage.mk t3 t9 Sl.nil (ApiState.mk 0 Sl.nil Sl.nil)) w11) w10)
  (j8 (ApiImage.mk t3 0 Sl.nil (ApiState.mk 0 Sl.nil Sl.nil)) w7))
  (fun m12 w13 =>
  callV Pr Sl.val 77 #[(.pointer r)] w13 fun t14 w15 =>
  kp b5 w13 w15 <|
  kp b1 w13 w15 <|
  wrM b5 (fun w16 =>
  callV Pr Sl.val 78 #[(.pointer r), (.int .i64 32768)] w16 fun b17 w18 =>
  kp b5 w16 w18 <|
  kp b1 w16 w18 <|
  callV Pr (Value.int .i64) 79 #[(.pointer r)] w18 fun e19 w20 =>
  kp b5 w18 w20 <|
  kp b1 w18 w20 <|
  ifB (e19 != 0)
  (wrM b1 (fun w21 =>
  K ((ApiImage.mk m12.Index m12.Active t14 m12.State), e19) w21) w20)
  (callV Pr (tval2 ApiState.val (Value.int .i64)) 80 #[b17.val] w20 fun t22 w23 =>
  kp b5 w20 w23 <|
  kp b1 w20 w23 <|
  newV (fun b24 w25 =>
  wrM b24 (fun w26 =>
  ifB (t22.2 != 0)
  (wrM b1 (fun w27 =>
  K ((ApiImage.mk m12.Index m12.Active t14 m12.State), t22.2) w27) w26)
  (wrM b5 (fun w28 =>
  ifB (t22.1.Schema != format)
  (wrM b1 (fun w29 =>
  K ((ApiImage.mk m12.Index m12.Active t14 (ApiState.mk t22.1.Schema t22.1.Pairs t22.1.Sessions)), 3) w29) w28)
  (callV Pr (Value.int .i64) 68 #[(.agg ⟨[(.int .i64 m12.Index), (.int .i64 m12.Active), t14.val, (.int .i64 t22.1.Schema), t22.1.Pairs.val, t22.1.Sessions.val]⟩)] w28 fun t30 w31 =>
  kp b24 w28 w31 <|
  kp b5 w28 w31 <|
  kp b1 w28 w31 <|
  ifB (t30 != 0)
  (wrM b1 (fun w32 =>
  K ((ApiImage.mk m12.Index m12.Active t14 (ApiState.mk t22.1.Schema t22.1.Pairs t22.1.Sessions)), 3) w32) w31)
  (wrM b1 (fun w33 =>
  K ((ApiImage.mk m12.Index m12.Active t14 (ApiState.mk t22.1.Schema t22.1.Pairs t22.1.Sessions)), 0) w33) w31))) w26)) w25) w23)) w15)) w6) w4) w
def image_read_ann : Ann := (.s (.r [(0, .nl 4)]) (.s (.r [(1, .call (rI .i64)), (3, .nl 6), (4, .ls 6)]) (.sj [(.h 6, rApiImage)] (.s .d (.c (.r [(1, .call (rI .i64)), (3, .ls 6)]) .d)) (.s (.r [(1, .call rSl), (3, .ls 6)]) (.s (.r [(1, .call rSl)]) (.s (.s (.r [(1, .call (rI .i64))]) (.s .d (.c (.s (.r [(2, .ls 4)]) .d) .d))) (.s (.r [(1, .call (rT2 rApiState (rI .i64))), (5, .nl 9), (6, .ls 9)]) (.s (.s .d (.c (.s (.r [(2, .ls 4)]) .d) .d)) (.s (.r [(2, .ls 6)]) (.s (.s (.r [(6, .call (rI .i64))]) (.c (.s (.r [(1, .ls 4)]) .d) .d)) (.s (.r [(1, .ls 4)]) .d)))))))))))
theorem image_read_calls {r : Option Addr} {format : Int} {K : (ApiImage × Int) → World → Prop} {w : World} (h : image_read r format K w) : callV Pr (tval2 ApiImage.val (Value.int .i64)) 39 #[(.pointer r), (.int .i64 format)] w K :=
  calls_of Pr_plain Pr_mixed Pr_func39 image_read_ann (rT2 rApiImage (rI .i64)) (args := [(.pointer r), (.int .i64 format)]) (by kernel_rfl) h

/- changeover/changeoverref11.Same -/
def ref11_Same (a : Sl) (b : Sl) (K : Bool → World → Prop) (w : World) : Prop :=
  ifB ((a.len : Int) != (b.len : Int))
  (K false w)
  (loop1 (0 : Int) (fun i1 k2 w3 =>
  ifB (decide (i1 < (a.len : Int)))
  (heldM (fun S5 w4 =>
  opH Pr S5 (Instr.indexAt 24 a.val (.int .i64 i1)) pav (fun t6 =>
  opH Pr S5 (Instr.loadAt 3 (.pointer (some (t6.add 0)))) (Value.int .i64) (fun t7 =>
  opH Pr S5 (Instr.indexAt 24 b.val (.int .i64 i1)) pav (fun t8 =>
  opH Pr S5 (Instr.loadAt 3 (.pointer (some (t8.add 0)))) (Value.int .i64) (fun t9 =>
  ifB (t7 != t9)
  (K false w4)
  (opH Pr S5 (Instr.indexAt 24 a.val (.int .i64 i1)) pav (fun t10 =>
  opH Pr S5 (Instr.loadAt 73 (.pointer (some (t10.add 1)))) Sl.val (fun t11 =>
  opH Pr S5 (Instr.indexAt 24 b.val (.int .i64 i1)) pav (fun t12 =>
  opH Pr S5 (Instr.loadAt 73 (.pointer (some (t12.add 1)))) Sl.val (fun t13 =>
  callV Pr Value.bool 81 #[t11.val, t13.val] w4 fun t14 w15 =>
  (S5 w15) ∧
  (ifB (!t14)
  (K false w15)
  (k2 (i64 (i1 + 1)) w15)))))))))))) w3)
  (K true w3)) w)
def ref11_Same_ann : Ann := (.s .d (.s (.s .d (.c (.s .d .d) .d)) (.s (.s .d (.b (.l [(.s 5, (rI .i64))] (.s (.s .d (.c .d .d)) (.s (.b (.s (.h (.take 0 (.take 1 (.take 2 (.take 3 (.take 4 (.take 5 (.take 6 (.take 7 (.take 8 (.take 9 (.take 10 (.take 11 (.take 12 (.take 13 (.take 14 (.take 15 (.take 16 (.take 17 (.take 18 (.take 19 (.take 20 (.take 21 (.one 22 (.take 23 (.take 24 .done))))))))))))))))))))))))) [(2, .rd rPA), (4, .rd (rI .i64)), (7, .rd rPA), (9, .rd (rI .i64)), (14, .rd rPA), (16, .rd rSl), (19, .rd rPA), (21, .rd rSl), (22, .call rB)]) (.c (.s .d .d) .d))) .d))))) (.s .d .d))))
theorem ref11_Same_calls {a : Sl} {b : Sl} {K : Bool → World → Prop} {w : World} (h : ref11_Same a b K w) : callV Pr Value.bool 40 #[a.val, b.val] w K :=
  calls_of Pr_plain Pr_mixed Pr_func40 ref11_Same_ann rB (args := [a.val, b.val]) (by kernel_rfl) h

/- changeover/changeoverref25.Same -/
def ref25_Same (a : ApiState) (b : ApiState) (K : Bool → World → Prop) (w : World) : Prop :=
  newV (fun b1 w2 =>
  newV (fun b3 w4 =>
  ifB (a.Schema == b.Schema)
  (callV Pr Value.bool 82 #[a.Pairs.val, b.Pairs.val] w4 fun t5 w6 =>
  kp b3 w4 w6 <|
  kp b1 w4 w6 <|
  ifB t5
  (callV Pr Value.bool 83 #[a.Sessions.val, b.Sessions.val] w6 fun t7 w8 =>
  kp b3 w6 w8 <|
  kp b1 w6 w8 <|
  K t7 w8)
  (K false w6))
  (K false w4)) w2) w
def ref25_Same_ann : Ann := (.s (.r [(0, .nl 2), (1, .nl 3)]) (.s (.r [(10, .call rB), (17, .call rB)]) .d))
theorem ref25_Same_calls {a : ApiState} {b : ApiState} {K : Bool → World → Prop} {w : World} (h : ref25_Same a b K w) : callV Pr Value.bool 41 #[(.agg ⟨a.cs⟩), (.agg ⟨b.cs⟩)] w K :=
  calls_of Pr_plain Pr_mixed Pr_func41 ref25_Same_ann rB (args := [(.agg ⟨a.cs⟩), (.agg ⟨b.cs⟩)]) (by kernel_rfl) h

/- changeover/changeoverref30.Check -/
def ref30_Check (m : ApiImage) (K : Bool → World → Prop) (w : World) : Prop :=
  newV (fun b1 w2 =>
  ifB (decide (m.Index < 0))
  (K false w2)
  (ifB (decide (m.Index > 4294967296))
  (K false w2)
  (ifB (decide (m.Active < 0))
  (K false w2)
  (ifB (decide (m.Active > m.Index))
  (K false w2)
  (callV Pr Value.bool 84 #[m.Confs.val] w2 fun t3 w4 =>
  kp b1 w2 w4 <|
  ifB (!t3)
  (K false w4)
  (callV Pr Value.bool 85 #[(.agg ⟨[(.int .i64 m.State.Schema), m.State.Pairs.val, m.State.Sessions.val]⟩)] w4 fun t5 w6 =>
  kp b1 w4 w6 <|
  ifB (!t5)
  (K false w6)
  (K ((m.State.Schema == 2) == (decide (m.Active > 0))) w6))))))) w
def ref30_Check_ann : Ann := (.s (.r [(0, .nl 1)]) (.s (.s (.r [(23, .call rB), (29, .call rB)]) (.c (.s .d .d) .d)) (.s .d .d)))
theorem ref30_Check_calls {m : ApiImage} {K : Bool → World → Prop} {w : World} (h : ref30_Check m K w) : callV Pr Value.bool 42 #[(.agg ⟨m.cs⟩)] w K :=
  calls_of Pr_plain Pr_mixed Pr_func42 ref30_Check_ann rB (args := [(.agg ⟨m.cs⟩)]) (by kernel_rfl) h

/- changeover/changeoverref01.Bytes -/
def ref01_Bytes (n : Int) (K : Sl → World → Prop) (w : World) : Prop :=
  join1 (fun (j1 : Int → World → Prop) =>
  ifB (decide (n < 0))
  (j1 0 w)
  (j1 n w))
  (fun n2 w3 =>
  loop2 (n2 : Int) (Sl.nil : Sl) (fun n4 out5 k6 w7 =>
  ifB (decide (n4 > 127))
  (opTy Pr (Instr.buildSlice 22 1 #[(0, (.int .u8 (IntKind.u8.wrap (i64 (128 + (Int.tmod n4 128))))))]) Sl.val (fun t8 w9 =>
  opTy Pr (Builtin.append_ #[22, 22] 22 #[out5.val, t8.val]) Sl.val (fun out10 w11 =>
  k6 (IntKind.i64.wrap (Int.tdiv n4 128)) out10 w11) w9) w7)
  (opTy Pr (Instr.buildSlice 22 1 #[(0, (.int .u8 (IntKind.u8.wrap n4)))]) Sl.val (fun t12 w13 =>
  opTy Pr (Builtin.append_ #[22, 22] 22 #[out5.val, t12.val]) Sl.val (fun t14 w15 =>
  K t14 w15) w13) w7)) w3)
def ref01_Bytes_ann : Ann := (.s .d (.sj [(.s 0, (rI .i64))] (.s .d (.c .d .d)) (.s .d (.s (.b (.l [(.s 0, (rI .i64)), (.s 3, rSl)] (.s (.s .d (.c .d .d)) (.b (.s (.r [(5, .ty rSl), (6, .ty rSl)]) .d))))) (.s (.r [(3, .ty rSl), (4, .ty rSl)]) .d)))))
theorem ref01_Bytes_calls {n : Int} {K : Sl → World → Prop} {w : World} (h : ref01_Bytes n K w) : callV Pr Sl.val 43 #[(.int .i64 n)] w K :=
  calls_of Pr_plain Pr_mixed Pr_func43 ref01_Bytes_ann rSl (args := [(.int .i64 n)]) (by kernel_rfl) h

/- changeover/changeoverref26.Bytes -/
def ref26_Bytes (s : ApiState) (K : Sl → World → Prop) (w : World) : Prop :=
  newV (fun b1 w2 =>
  callV Pr Sl.val 43 #[(.int .i64 s.Schema)] w2 fun out3 w4 =>
  kp b1 w2 w4 <|
  callV Pr Sl.val 43 #[(.int .i64 (s.Pairs.len : Int))] w4 fun t5 w6 =>
  kp b1 w4 w6 <|
  opTy Pr (Builtin.append_ #[22, 22] 22 #[out3.val, t5.val]) Sl.val (fun out7 w8 =>
  kp b1 w6 w8 <|
  loop2 (out7 : Sl) (0 : Int) (fun out9 i10 k11 w12 =>
  ifB (decide (i10 < (s.Pairs.len : Int)))
  (opRd Pr (Instr.indexAt 25 s.Pairs.val (.int .i64 i10)) pav (fun t13 =>
  opRd Pr (Instr.loadAt 9 (.pointer (some (t13.add 0)))) sval (fun t14 =>
  callV Pr Sl.val 86 #[(sval t14)] w12 fun t15 w16 =>
  kp b1 w12 w16 <|
  opTy Pr (Builtin.append_ #[22, 22] 22 #[out9.val, t15.val]) Sl.val (fun out17 w18 =>
  kp b1 w16 w18 <|
  join1 (fun (j19 : Sl → World → Prop) =>
  ifB (s.Schema == 2)
  (opRd Pr (Instr.indexAt 25 s.Pairs.val (.int .i64 i10)) pav (fun t20 =>
  opRd Pr (Instr.loadAt 3 (.pointer (some (t20.add 2)))) (Value.int .i64) (fun t21 =>
  callV Pr Sl.val 43 #[(.int .i64 t21)] w18 fun t22 w23 =>
  kp b1 w18 w23 <|
  opTy Pr (Builtin.append_ #[22, 22] 22 #[out17.val, t22.val]) Sl.val (fun out24 w25 =>
  kp b1 w23 w25 <|
  j19 out24 w25) w23) w18) w18)
  (j19 out17 w18))
  (fun out26 w27 =>
  opRd Pr (Instr.indexAt 25 s.Pairs.val (.int .i64 i10)) pav (fun t28 =>
  opRd Pr (Instr.loadAt 9 (.pointer (some (t28.add 1)))) sval (fun t29 =>
  callV Pr Sl.val 86 #[(sval t29)] w27 fun t30 w31 =>
  kp b1 w27 w31 <|
  opTy Pr (Builtin.append_ #[22, 22] 22 #[out26.val, t30.val]) Sl.val (fun out32 w33 =>
  kp b1 w31 w33 <|
  k11 out32 (i64 (i10 + 1)) w33) w31) w27) w27)) w16) w12) w12)
  (callV Pr Sl.val 43 #[(.int .i64 (s.Sessions.len : Int))] w12 fun t34 w35 =>
  kp b1 w12 w35 <|
  opTy Pr (Builtin.append_ #[22, 22] 22 #[out9.val, t34.val]) Sl.val (fun out36 w37 =>
  kp b1 w35 w37 <|
  loop2 (out36 : Sl) (0 : Int) (fun out38 i39 k40 w41 =>
  ifB (decide (i39 < (s.Sessions.len : Int)))
  (heldM (fun S43 w42 =>
  opH Pr S43 (Instr.indexAt 26 s.Sessions.val (.int .i64 i39)) pav (fun t44 =>
  opH Pr S43 (Instr.loadAt 134 (.pointer (some (t44.add 2)))) ApiAnswer.val (fun t45 =>
  callV Pr Sl.val 87 #[(.int .i64 s.Schema), (.agg ⟨t45.cs⟩)] w42 fun t46 w47 =>
  kp b1 w42 w47 <|
  (S43 w47) ∧
  (opTy Pr (Builtin.append_ #[22, 22] 22 #[out38.val, t46.val]) Sl.val (fun out48 w49 =>
  kp b1 w47 w49 <|
  (S43 w49) ∧
  (k40 out48 (i64 (i39 + 1)) w49)) w47)))) w41)
  (K out38 w41)) w37) w35)) w8) w6) w
def ref26_Bytes_ann : Ann := (.s (.r [(0, .nl 1)]) (.s (.r [(2, .call rSl)]) (.s (.r [(4, .call rSl), (5, .ty rSl)]) (.s (.s .d (.b (.l [(.s 3, rSl), (.s 4, (rI .i64))] (.s (.s .d (.c .d .d)) (.s (.b (.s (.r [(4, .rd rPA), (6, .rd rS), (7, .call rSl), (8, .ty rSl)]) (.sj [(.s 3, rSl)] (.s .d (.c (.r [(4, .rd rPA), (6, .rd (rI .i64)), (7, .call rSl), (8, .ty rSl)]) .d)) (.r [(4, .rd rPA), (6, .rd rS), (7, .call rSl), (8, .ty rSl)])))) .d))))) (.s (.r [(4, .call rSl), (5, .ty rSl)]) (.s (.s .d (.b (.l [(.s 3, rSl), (.s 5, (rI .i64))] (.s (.s .d (.c .d .d)) (.s (.b (.h (.take 0 (.take 1 (.take 2 (.take 3 (.take 4 (.take 5 (.take 6 (.take 7 (.take 8 (.one 9 (.one 10 (.take 11 .done)))))))))))) [(6, .rd rPA), (8, .rd rApiAnswer), (9, .call rSl), (10, .ty rSl)])) .d))))) (.s .d .d)))))))
theorem ref26_Bytes_calls {s : ApiState} {K : Sl → World → Prop} {w : World} (h : ref26_Bytes s K w) : callV Pr Sl.val 44 #[(.agg ⟨s.cs⟩)] w K :=
  calls_of Pr_plain Pr_mixed Pr_func44 ref26_Bytes_ann rSl (args := [(.agg ⟨s.cs⟩)]) (by kernel_rfl) h

/- changeover/window.Check -/
def window_Check (m : ApiImage) (K : Int → World → Prop) (w : World) : Prop :=
  newV (fun b1 w2 =>
  ifB (decide (m.Index < 0))
  (K 3 w2)
  (ifB (decide (m.Index > 4294967296))
  (K 3 w2)
  (ifB (decide (m.Active < 0))
  (K 3 w2)
  (ifB (decide (m.Active > m.Index))
  (K 3 w2)
  (callV Pr (Value.int .i64) 110 #[m.Confs.val] w2 fun e3 w4 =>
  kp b1 w2 w4 <|
  ifB (e3 != 0)
  (K e3 w4)
  (callV Pr (Value.int .i64) 111 #[(.agg ⟨[(.int .i64 m.State.Schema), m.State.Pairs.val, m.State.Sessions.val]⟩)] w4 fun e5 w6 =>
  kp b1 w4 w6 <|
  ifB (e5 != 0)
  (K e5 w6)
  (heldM (fun S8 w7 =>
  callV Pr (Value.int .i64) 112 #[(.int .i64 m.Active)] w7 fun t9 w10 =>
  kp b1 w7 w10 <|
  (S8 w10) ∧
  (ifB (m.State.Schema != t9)
  (K 3 w10)
  (K 0 w10))) w6))))))) w
def window_Check_ann : Ann := (.s (.r [(0, .nl 1)]) (.s (.s .d (.c (.s .d .d) .d)) (.s (.s (.r [(2, .call (rI .i64))]) (.s .d (.c (.s .d .d) .d))) (.s (.s (.r [(2, .call (rI .i64))]) (.s .d (.c (.s .d .d) .d))) (.s (.s (.h (.take 0 (.take 1 (.take 2 (.take 3 (.take 4 (.one 5 (.take 6 .done))))))) [(5, .call (rI .i64))]) (.c (.s .d .d) .d)) (.s .d .d))))))
theorem window_Check_calls {m : ApiImage} {K : Int → World → Prop} {w : World} (h : window_Check m K w) : callV Pr (Value.int .i64) 68 #[(.agg ⟨m.cs⟩)] w K :=
  calls_of Pr_plain Pr_mixed Pr_func68 window_Check_ann (rI .i64) (args := [(.agg ⟨m.cs⟩)]) (by kernel_rfl) h

/- changeover/snaptwo.Put -/
def snaptwo_Put (s : ApiState) (K : (Sl × Int) → World → Prop) (w : World) : Prop :=
  newV (fun b1 w2 =>
  ifB (s.Schema == 1)
  (callV Pr (tval2 Sl.val (Value.int .i64)) 113 #[(.agg ⟨[(.int .i64 s.Schema), s.Pairs.val, s.Sessions.val]⟩)] w2 fun t3 w4 =>
  kp b1 w2 w4 <|
  K (t3.1, t3.2) w4)
  (callV Pr (tval2 Sl.val (Value.int .i64)) 114 #[(.agg ⟨[(.int .i64 s.Schema), s.Pairs.val, s.Sessions.val]⟩)] w2 fun t5 w6 =>
  kp b1 w2 w6 <|
  K (t5.1, t5.2) w6)) w
def snaptwo_Put_ann : Ann := (.s (.r [(0, .nl 1)]) (.s (.s .d (.c (.s (.r [(1, .call (rT2 rSl (rI .i64)))]) .d) .d)) (.s (.r [(1, .call (rT2 rSl (rI .i64)))]) .d)))
theorem snaptwo_Put_calls {s : ApiState} {K : (Sl × Int) → World → Prop} {w : World} (h : snaptwo_Put s K w) : callV Pr (tval2 Sl.val (Value.int .i64)) 69 #[(.agg ⟨s.cs⟩)] w K :=
  calls_of Pr_plain Pr_mixed Pr_func69 snaptwo_Put_ann (rT2 rSl (rI .i64)) (args := [(.agg ⟨s.cs⟩)]) (by kernel_rfl) h

/- (*changeover/pack.Writer).Number -/
def pack_Writer_Number (w_ : Option Addr) (n : Int) (K : Unit → World → Prop) (w : World) : Prop :=
  opRd Pr (binSem .neq 111 (.tmp 4) (.const (.pointer none)) (.pointer w_) (.pointer none)) Value.bool (fun t1 =>
  ifB t1
  (opRd Pr (nilSem (.pointer w_)) pav (fun t2 =>
  opRd Pr (Instr.loadAt 22 (.pointer (some (t2.add 0)))) Sl.val (fun t3 =>
  callV Pr Sl.val 92 #[t3.val, (.int .i64 n)] w fun t4 w5 =>
  opRd Pr (nilSem (.pointer w_)) pav (fun t6 =>
  opUn Pr (Instr.storeAt 22 (.pointer (some (t6.add 0))) t4.val) (fun w7 =>
  K () w7) w5) w5) w) w)
  (K () w)) w
def pack_Writer_Number_ann : Ann := (.s (.r [(1, .rd rB)]) (.c (.r [(2, .rd rPA), (4, .rd rSl), (6, .call rSl), (7, .rd rPA), (9, .un)]) .d))
theorem pack_Writer_Number_calls {w_ : Option Addr} {n : Int} {K : Unit → World → Prop} {w : World} (h : pack_Writer_Number w_ n K w) : callV Pr uval 70 #[(.pointer w_), (.int .i64 n)] w K :=
  calls_of Pr_plain Pr_mixed Pr_func70 pack_Writer_Number_ann rU (args := [(.pointer w_), (.int .i64 n)]) (by kernel_rfl) h

/- (*changeover/pack.Writer).Raw -/
def pack_Writer_Raw (w_ : Option Addr) (b : Sl) (K : Unit → World → Prop) (w : World) : Prop :=
  opRd Pr (binSem .neq 111 (.tmp 4) (.const (.pointer none)) (.pointer w_) (.pointer none)) Value.bool (fun t1 =>
  ifB t1
  (opRd Pr (nilSem (.pointer w_)) pav (fun t2 =>
  opRd Pr (Instr.loadAt 22 (.pointer (some (t2.add 0)))) Sl.val (fun t3 =>
  callV Pr Sl.val 92 #[t3.val, (.int .i64 (b.len : Int))] w fun t4 w5 =>
  opTy Pr (Builtin.append_ #[22, 22] 22 #[t4.val, b.val]) Sl.val (fun t6 w7 =>
  opRd Pr (nilSem (.pointer w_)) pav (fun t8 =>
  opUn Pr (Instr.storeAt 22 (.pointer (some (t8.add 0))) t6.val) (fun w9 =>
  K () w9) w7) w7) w5) w) w)
  (K () w)) w
def pack_Writer_Raw_ann : Ann := (.s (.r [(1, .rd rB)]) (.c (.r [(2, .rd rPA), (4, .rd rSl), (7, .call rSl), (9, .ty rSl), (10, .rd rPA), (12, .un)]) .d))
theorem pack_Writer_Raw_calls {w_ : Option Addr} {b : Sl} {K : Unit → World → Prop} {w : World} (h : pack_Writer_Raw w_ b K w) : callV Pr uval 71 #[(.pointer w_), b.val] w K :=
  calls_of Pr_plain Pr_mixed Pr_func71 pack_Writer_Raw_ann rU (args := [(.pointer w_), b.val]) (by kernel_rfl) h

/- (*changeover/pack.Writer).Bytes -/
def pack_Writer_Bytes (w_ : Option Addr) (K : Sl → World → Prop) (w : World) : Prop :=
  opRd Pr (binSem .eql 111 (.tmp 3) (.const (.pointer none)) (.pointer w_) (.pointer none)) Value.bool (fun t1 =>
  ifB t1
  (K Sl.nil w)
  (opRd Pr (nilSem (.pointer w_)) pav (fun t2 =>
  opRd Pr (Instr.loadAt 22 (.pointer (some (t2.add 0)))) Sl.val (fun t3 =>
  callV Pr Sl.val 73 #[t3.val] w fun t4 w5 =>
  K t4 w5) w) w)) w
def pack_Writer_Bytes_ann : Ann := (.s .d (.s (.s (.r [(1, .rd rB)]) (.c (.s .d .d) .d)) (.s (.r [(1, .rd rPA), (3, .rd rSl), (4, .call rSl)]) .d)))
theorem pack_Writer_Bytes_calls {w_ : Option Addr} {K : Sl → World → Prop} {w : World} (h : pack_Writer_Bytes w_ K w) : callV Pr Sl.val 72 #[(.pointer w_)] w K :=
  calls_of Pr_plain Pr_mixed Pr_func72 pack_Writer_Bytes_ann rSl (args := [(.pointer w_)]) (by kernel_rfl) h

/- slices.Clone[[]byte,byte] -/
def slices_Clone_byte_byte (s : Sl) (K : Sl → World → Prop) (w : World) : Prop :=
  opRd Pr (binSem .eql 22 (.tmp 3) (.const Sl.nil.val) s.val Sl.nil.val) Value.bool (fun t1 =>
  ifB t1
  (K Sl.nil w)
  (opTy Pr (Instr.buildSlice 22 0 #[]) Sl.val (fun t2 w3 =>
  opTy Pr (Builtin.append_ #[22, 22] 22 #[t2.val, s.val]) Sl.val (fun t4 w5 =>
  K t4 w5) w3) w)) w
def slices_Clone_byte_byte_ann : Ann := (.s .d (.s (.s (.r [(1, .rd rB)]) (.c (.s .d .d) .d)) (.s (.r [(0, .ty rSl), (2, .ty rSl)]) .d)))
theorem slices_Clone_byte_byte_calls {s : Sl} {K : Sl → World → Prop} {w : World} (h : slices_Clone_byte_byte s K w) : callV Pr Sl.val 73 #[s.val] w K :=
  calls_of Pr_plain Pr_mixed Pr_func73 slices_Clone_byte_byte_ann rSl (args := [s.val]) (by kernel_rfl) h

/- (*changeover/pack.Reader).Number$1 -/
def pack_Reader_Number_1 (c_x0 : Addr) (c_x1 : Addr) (K : Int → World → Prop) (w : World) : Prop :=
  opRd Pr (Instr.loadAt 78 (.pointer (some c_x0))) Value.pointer (fun t1 =>
  opRd Pr (Instr.loadAt 3 (.pointer (some c_x1))) (Value.int .i64) (fun t2 =>
  callV Pr (Value.int .i64) 76 #[(.pointer t1), (.int .i64 t2)] w fun t3 w4 =>
  K t3 w4) w) w
def pack_Reader_Number_1_ann : Ann := (.s .d (.s (.r [(0, .rd rP), (1, .rd (rI .i64)), (2, .call (rI .i64))]) .d))
theorem pack_Reader_Number_1_calls {c_x0 : Addr} {c_x1 : Addr} {K : Int → World → Prop} {w : World} (h : pack_Reader_Number_1 c_x0 c_x1 K w) : callV Pr (Value.int .i64) 75 #[(.pointer (some c_x0)), (.pointer (some c_x1))] w K :=
  calls_of Pr_plain Pr_mixed Pr_func75 pack_Reader_Number_1_ann (rI .i64) (args := [(.pointer (some c_x0)), (.pointer (some c_x1))]) (by kernel_rfl) h

/- (*changeover/pack.Reader).limited -/
def pack_Reader_limited (r : Option Addr) (most : Int) (K : Int → World → Prop) (w : World) : Prop :=
  heldM (fun S2 w1 =>
  opH Pr S2 (nilSem (.pointer r)) pav (fun t3 =>
  opH Pr S2 (Instr.loadAt 22 (.pointer (some (t3.add 0)))) Sl.val (fun t4 =>
  opH Pr S2 (nilSem (.pointer r)) pav (fun t5 =>
  opH Pr S2 (Instr.loadAt 3 (.pointer (some (t5.add 1)))) (Value.int .i64) (fun t6 =>
  callV Pr (tval3 (Value.int .i64) (Value.int .i64) (Value.int .i64)) 94 #[t4.val, (.int .i64 t6)] w1 fun t7 w8 =>
  (S2 w8) ∧
  (ifB (t7.2.2 != 0)
  (callV Pr uval 115 #[(.pointer r), (.int .i64 t7.2.2)] w8 fun t9 w10 =>
  opRd Pr (nilSem (.pointer r)) pav (fun t11 =>
  opUn Pr (Instr.storeAt 3 (.pointer (some (t11.add 1))) (.int .i64 t7.2.1)) (fun w12 =>
  K t7.1 w12) w10) w10)
  (ifB (decide (t7.1 > most))
  (callV Pr uval 115 #[(.pointer r), (.int .i64 2)] w8 fun t13 w14 =>
  opRd Pr (nilSem (.pointer r)) pav (fun t15 =>
  opUn Pr (Instr.storeAt 3 (.pointer (some (t15.add 1))) (.int .i64 t7.2.1)) (fun w16 =>
  K t7.1 w16) w14) w14)
  (opRd Pr (nilSem (.pointer r)) pav (fun t17 =>
  opUn Pr (Instr.storeAt 3 (.pointer (some (t17.add 1))) (.int .i64 t7.2.1)) (fun w18 =>
  K t7.1 w18) w8) w8)))))))) w
def pack_Reader_limited_ann : Ann := (.s .d (.s (.h (.take 0 (.take 1 (.take 2 (.take 3 (.take 4 (.take 5 (.take 6 (.take 7 (.one 8 (.take 9 (.take 10 (.take 11 (.take 12 (.take 13 (.take 14 (.take 15 .done)))))))))))))))) [(1, .rd rPA), (3, .rd rSl), (5, .rd rPA), (7, .rd (rI .i64)), (8, .call (rT3 (rI .i64) (rI .i64) (rI .i64)))]) (.s (.b (.s .d (.c (.r [(2, .call rU)]) (.s .d (.c (.r [(1, .call rU)]) .d))))) (.s (.r [(2, .rd rPA), (4, .un)]) (.s .d .d)))))
theorem pack_Reader_limited_calls {r : Option Addr} {most : Int} {K : Int → World → Prop} {w : World} (h : pack_Reader_limited r most K w) : callV Pr (Value.int .i64) 76 #[(.pointer r), (.int .i64 most)] w K :=
  calls_of Pr_plain Pr_mixed Pr_func76 pack_Reader_limited_ann (rI .i64) (args := [(.pointer r), (.int .i64 most)]) (by kernel_rfl) h

/- changeover/image.confs -/
def image_confs (r : Option Addr) (K : Sl → World → Prop) (w : World) : Prop :=
  callV Pr (Value.int .i64) 116 #[(.pointer r), (.int .i64 64)] w fun t1 w2 =>
  loop2 (Sl.nil : Sl) (0 : Int) (fun out3 t4 k5 w6 =>
  ifB (decide (t4 < t1))
  (callV Pr (Value.int .i64) 37 #[(.pointer r), (.int .i64 9223372036854775807)] w6 fun t7 w8 =>
  newV (fun b9 w10 =>
  wrM b9 (fun w11 =>
  callV Pr (Value.int .i64) 116 #[(.pointer r), (.int .i64 9)] w11 fun t12 w13 =>
  kp b9 w11 w13 <|
  loop2 (0 : Int) ((ApiConf.mk t7 Sl.nil) : ApiConf) (fun t14 c15 k16 w17 =>
  ifB (decide (t14 < t12))
  (heldM (fun S19 w18 =>
  ((S19 w18) ∧
  (callV Pr (Value.int .i64) 37 #[(.pointer r), (.int .i64 9223372036854775807)] w18 fun t20 w21 =>
  kp b9 w18 w21 <|
  (S19 w21) ∧
  (opTy Pr (Instr.buildSlice 73 1 #[(0, (.int .i64 t20))]) Sl.val (fun t22 w23 =>
  kp b9 w21 w23 <|
  (S19 w23) ∧
  (opTy Pr (Builtin.append_ #[73, 73] 73 #[c15.Members.val, t22.val]) Sl.val (fun t24 w25 =>
  kp b9 w23 w25 <|
  (S19 w25) ∧
  (wrM b9 (fun w26 =>
  (S19 w26) ∧
  (k16 (i64 (t14 + 1)) (ApiConf.mk c15.From t24) w26)) w25)) w23)) w21))) ∧
  (callV Pr (Value.int .i64) 37 #[(.pointer r), (.int .i64 9223372036854775807)] w18 fun t27 w28 =>
  kp b9 w18 w28 <|
  (S19 w28) ∧
  (((S19 w28) ∧
  (opTy Pr (Instr.buildSlice 73 1 #[(0, (.int .i64 t27))]) Sl.val (fun t29 w30 =>
  kp b9 w28 w30 <|
  (S19 w30) ∧
  (opTy Pr (Builtin.append_ #[73, 73] 73 #[c15.Members.val, t29.val]) Sl.val (fun t31 w32 =>
  kp b9 w30 w32 <|
  (S19 w32) ∧
  (wrM b9 (fun w33 =>
  (S19 w33) ∧
  (k16 (i64 (t14 + 1)) (ApiConf.mk c15.From t31) w33)) w32)) w30)) w28)) ∧
  (opTy Pr (Instr.buildSlice 73 1 #[(0, (.int .i64 t27))]) Sl.val (fun t34 w35 =>
  kp b9 w28 w35 <|
  (S19 w35) ∧
  ((S19 w35) ∧
  (opTy Pr (Builtin.append_ #[73, 73] 73 #[c15.Members.val, t34.val]) Sl.val (fun t36 w37 =>
  kp b9 w35 w37 <|
  (S19 w37) ∧
  (wrM b9 (fun w38 =>
  (S19 w38) ∧
  (k16 (i64 (t14 + 1)) (ApiConf.mk c15.From t36) w38)) w37)) w35))) w28)))) w17)
  (opTy Pr (Instr.buildSlice 24 1 #[(0, (.agg ⟨[(.int .i64 c15.From), c15.Members.val]⟩))]) Sl.val (fun t39 w40 =>
  kp b9 w17 w40 <|
  opTy Pr (Builtin.append_ #[24, 24] 24 #[out3.val, t39.val]) Sl.val (fun out41 w42 =>
  kp b9 w40 w42 <|
  k5 out41 (i64 (t4 + 1)) w42) w40) w17)) w13) w10) w8)
  (K out3 w6)) w2
def image_confs_ann : Ann := (.s .d (.s .d (.s .d (.s (.s (.r [(1, .call (rI .i64))]) (.b (.l [(.s 3, rSl), (.s 10, (rI .i64))] (.s .d (.s (.c .d .d) (.s (.b (.s (.r [(1, .call (rI .i64)), (3, .nl 5), (4, .ls 5)]) (.s (.s (.r [(1, .call (rI .i64))]) (.b (.l [(.s 17, (rI .i64)), (.h 5, rApiConf)] (.s .d (.s (.c .d .d) (.s (.b (.h (.take 0 (.take 2 (.two 1 (.one 3 (.one 4 (.one 5 (.take 6 (.one 7 .done))))) 3 (.two 1 (.one 4 (.one 5 (.take 6 (.one 7 .done)))) 4 (.one 1 (.one 5 (.take 6 (.one 7 .done)))))))) [(3, .call (rI .i64)), (4, .ty rSl), (5, .ty rSl), (7, .ls 5)])) .d)))))) (.r [(2, .ty rSl), (3, .ty rSl)])))) .d)))))) (.s .d .d)))))
theorem image_confs_calls {r : Option Addr} {K : Sl → World → Prop} {w : World} (h : image_confs r K w) : callV Pr Sl.val 77 #[(.pointer r)] w K :=
  calls_of Pr_plain Pr_mixed Pr_func77 image_confs_ann rSl (args := [(.pointer r)]) (by kernel_rfl) h

/- (*changeover/pack.Reader).Raw -/
def pack_Reader_Raw (r : Option Addr) (most : Int) (K : Sl → World → Prop) (w : World) : Prop :=
  opTy Pr (Instr.box 78 (.pointer r)) pav (fun r1 w2 =>
  opTy Pr (Instr.box 3 (.int .i64 most)) pav (fun most3 w4 =>
  opRd Pr (Instr.loadAt 78 (.pointer (some r1))) Value.pointer (fun t5 =>
  callV Pr Sl.val 117 #[(.pointer t5), (.func (.func 118) #[] #[(.pointer (some r1)), (.pointer (some most3))])] w4 fun t6 w7 =>
  K t6 w7) w4) w2) w
def pack_Reader_Raw_ann : Ann := (.s (.r [(0, .ty rPA), (1, .ty rPA)]) (.s (.r [(0, .rd rP), (2, .call rSl)]) .d))
theorem pack_Reader_Raw_calls {r : Option Addr} {most : Int} {K : Sl → World → Prop} {w : World} (h : pack_Reader_Raw r most K w) : callV Pr Sl.val 78 #[(.pointer r), (.int .i64 most)] w K :=
  calls_of Pr_plain Pr_mixed Pr_func78 pack_Reader_Raw_ann rSl (args := [(.pointer r), (.int .i64 most)]) (by kernel_rfl) h

/- (*changeover/pack.Reader).Done -/
def pack_Reader_Done (r : Option Addr) (K : Int → World → Prop) (w : World) : Prop :=
  callV Pr (Value.int .i64) 38 #[(.pointer r)] w fun e1 w2 =>
  ifB (e1 != 0)
  (K e1 w2)
  (callV Pr (Value.int .i64) 120 #[(.pointer r)] w2 fun t3 w4 =>
  ifB (decide (t3 > 0))
  (K 3 w4)
  (K 0 w4))
def pack_Reader_Done_ann : Ann := (.s .d (.s (.s (.r [(1, .call (rI .i64))]) (.s .d (.c (.s .d .d) .d))) (.s (.s (.r [(1, .call (rI .i64))]) (.c (.s .d .d) .d)) (.s .d .d))))
theorem pack_Reader_Done_calls {r : Option Addr} {K : Int → World → Prop} {w : World} (h : pack_Reader_Done r K w) : callV Pr (Value.int .i64) 79 #[(.pointer r)] w K :=
  calls_of Pr_plain Pr_mixed Pr_func79 pack_Reader_Done_ann (rI .i64) (args := [(.pointer r)]) (by kernel_rfl) h

/- changeover/snaptwo.Get -/
def snaptwo_Get (b : Sl) (K : (ApiState × Int) → World → Prop) (w : World) : Prop :=
  newV (fun b1 w2 =>
  callV Pr (tval3 Value.pointer (Value.int .i64) (Value.int .i64)) 121 #[b.val] w2 fun t3 w4 =>
  kp b1 w2 w4 <|
  ifB (t3.2.2 != 0)
  (wrM b1 (fun w5 =>
  K ((ApiState.mk 0 Sl.nil Sl.nil), t3.2.2) w5) w4)
  (ifB (t3.2.1 == 1)
  (callV Pr (tval2 ApiState.val (Value.int .i64)) 122 #[b.val] w4 fun t6 w7 =>
  kp b1 w4 w7 <|
  wrM b1 (fun w8 =>
  K ((ApiState.mk t6.1.Schema t6.1.Pairs t6.1.Sessions), t6.2) w8) w7)
  (callV Pr (tval2 ApiState.val (Value.int .i64)) 123 #[b.val] w4 fun t9 w10 =>
  kp b1 w4 w10 <|
  wrM b1 (fun w11 =>
  K ((ApiState.mk t9.1.Schema t9.1.Pairs t9.1.Sessions), t9.2) w11) w10))) w
def snaptwo_Get_ann : Ann := (.s (.r [(0, .nl 2)]) (.s (.r [(1, .call (rT3 rP (rI .i64) (rI .i64)))]) (.s (.b (.s .d (.c (.s (.r [(2, .ls 2)]) .d) (.s .d (.c (.s (.r [(1, .call (rT2 rApiState (rI .i64))), (4, .ls 2)]) .d) .d))))) (.s (.r [(1, .call (rT2 rApiState (rI .i64))), (4, .ls 2)]) .d))))
theorem snaptwo_Get_calls {b : Sl} {K : (ApiState × Int) → World → Prop} {w : World} (h : snaptwo_Get b K w) : callV Pr (tval2 ApiState.val (Value.int .i64)) 80 #[b.val] w K :=
  calls_of Pr_plain Pr_mixed Pr_func80 snaptwo_Get_ann (rT2 rApiState (rI .i64)) (args := [b.val]) (by kernel_rfl) h

/- changeover/changeoverref01.Ints -/
def ref01_Ints (a : Sl) (b : Sl) (K : Bool → World → Prop) (w : World) : Prop :=
  ifB ((a.len : Int) != (b.len : Int))
  (K false w)
  (loop1 (0 : Int) (fun i1 k2 w3 =>
  ifB (decide (i1 < (a.len : Int)))
  (drewM (fun w4 =>
  opRd Pr (Instr.indexAt 73 a.val (.int .i64 i1)) pav (fun t5 =>
  opRd Pr (Instr.loadAt 3 (.pointer (some t5))) (Value.int .i64) (fun t6 =>
  opRd Pr (Instr.indexAt 73 b.val (.int .i64 i1)) pav (fun t7 =>
  opRd Pr (Instr.loadAt 3 (.pointer (some t7))) (Value.int .i64) (fun t8 =>
  ifB (t6 != t8)
  (K false w4)
  (k2 (i64 (i1 + 1)) w4)) w4) w4) w4) w4) w3)
  (K true w3)) w)
def ref01_Ints_ann : Ann := (.s .d (.s (.s .d (.c (.s .d .d) .d)) (.s (.s .d (.b (.l [(.s 5, (rI .i64))] (.s (.s .d (.c .d .d)) (.s (.b (.s (.r [(2, .rd rPA), (3, .rd (rI .i64)), (6, .rd rPA), (7, .rd (rI .i64))]) (.c (.s .d .d) .d))) .d))))) (.s .d .d))))
theorem ref01_Ints_calls {a : Sl} {b : Sl} {K : Bool → World → Prop} {w : World} (h : ref01_Ints a b K w) : callV Pr Value.bool 81 #[a.val, b.val] w K :=
  calls_of Pr_plain Pr_mixed Pr_func81 ref01_Ints_ann rB (args := [a.val, b.val]) (by kernel_rfl) h

/- changeover/changeoverref23.Same -/
def ref23_Same (a : Sl) (b : Sl) (K : Bool → World → Prop) (w : World) : Prop :=
  ifB ((a.len : Int) != (b.len : Int))
  (K false w)
  (loop1 (0 : Int) (fun i1 k2 w3 =>
  ifB (decide (i1 < (a.len : Int)))
  (drewM (fun w4 =>
  opRd Pr (Instr.indexAt 25 a.val (.int .i64 i1)) pav (fun t5 =>
  opRd Pr (Instr.loadAt 131 (.pointer (some t5))) ApiPair.val (fun t6 =>
  opRd Pr (Instr.indexAt 25 b.val (.int .i64 i1)) pav (fun t7 =>
  opRd Pr (Instr.loadAt 131 (.pointer (some t7))) ApiPair.val (fun t8 =>
  opRd Pr (binSem .neq 131 (.tmp 20) (.tmp 24) (.agg ⟨t6.cs⟩) (.agg ⟨t8.cs⟩)) Value.bool (fun t9 =>
  ifB t9
  (K false w4)
  (k2 (i64 (i1 + 1)) w4)) w4) w4) w4) w4) w4) w3)
  (K true w3)) w)
def ref23_Same_ann : Ann := (.s .d (.s (.s .d (.c (.s .d .d) .d)) (.s (.s .d (.b (.l [(.s 5, (rI .i64))] (.s (.s .d (.c .d .d)) (.s (.b (.s (.r [(2, .rd rPA), (3, .rd rApiPair), (6, .rd rPA), (7, .rd rApiPair), (8, .rd rB)]) (.c (.s .d .d) .d))) .d))))) (.s .d .d))))
theorem ref23_Same_calls {a : Sl} {b : Sl} {K : Bool → World → Prop} {w : World} (h : ref23_Same a b K w) : callV Pr Value.bool 82 #[a.val, b.val] w K :=
  calls_of Pr_plain Pr_mixed Pr_func82 ref23_Same_ann rB (args := [a.val, b.val]) (by kernel_rfl) h

/- changeover/changeoverref22.Same -/
def ref22_Same (a : Sl) (b : Sl) (K : Bool → World → Prop) (w : World) : Prop :=
  ifB ((a.len : Int) != (b.len : Int))
  (K false w)
  (loop1 (0 : Int) (fun i1 k2 w3 =>
  ifB (decide (i1 < (a.len : Int)))
  (drewM (fun w4 =>
  opRd Pr (Instr.indexAt 26 a.val (.int .i64 i1)) pav (fun t5 =>
  opRd Pr (Instr.loadAt 136 (.pointer (some t5))) ApiSession.val (fun t6 =>
  opRd Pr (Instr.indexAt 26 b.val (.int .i64 i1)) pav (fun t7 =>
  opRd Pr (Instr.loadAt 136 (.pointer (some t7))) ApiSession.val (fun t8 =>
  opRd Pr (binSem .neq 136 (.tmp 20) (.tmp 24) (.agg ⟨t6.cs⟩) (.agg ⟨t8.cs⟩)) Value.bool (fun t9 =>
  ifB t9
  (K false w4)
  (k2 (i64 (i1 + 1)) w4)) w4) w4) w4) w4) w4) w3)
  (K true w3)) w)
def ref22_Same_ann : Ann := (.s .d (.s (.s .d (.c (.s .d .d) .d)) (.s (.s .d (.b (.l [(.s 5, (rI .i64))] (.s (.s .d (.c .d .d)) (.s (.b (.s (.r [(2, .rd rPA), (3, .rd rApiSession), (6, .rd rPA), (7, .rd rApiSession), (8, .rd rB)]) (.c (.s .d .d) .d))) .d))))) (.s .d .d))))
theorem ref22_Same_calls {a : Sl} {b : Sl} {K : Bool → World → Prop} {w : World} (h : ref22_Same a b K w) : callV Pr Value.bool 83 #[a.val, b.val] w K :=
  calls_of Pr_plain Pr_mixed Pr_func83 ref22_Same_ann rB (args := [a.val, b.val]) (by kernel_rfl) h

/- changeover/changeoverref11.Check -/
def ref11_Check (l : Sl) (K : Bool → World → Prop) (w : World) : Prop :=
  ifB ((l.len : Int) == 0)
  (K false w)
  (opRd Pr (Instr.indexAt 24 l.val (.int .i64 0)) pav (fun t1 =>
  opRd Pr (Instr.loadAt 3 (.pointer (some (t1.add 0)))) (Value.int .i64) (fun t2 =>
  ifB (t2 != 1)
  (K false w)
  (loop1 (0 : Int) (fun i3 k4 w5 =>
  ifB (decide (i3 < (l.len : Int)))
  (opRd Pr (Instr.indexAt 24 l.val (.int .i64 i3)) pav (fun t6 =>
  opRd Pr (Instr.loadAt 73 (.pointer (some (t6.add 1)))) Sl.val (fun m7 =>
  join0 (fun (j8 : World → Prop) =>
  drewM (fun w9 =>
  ifB ((m7.len : Int) == 0)
  (K false w9)
  (opRd Pr (Instr.indexAt 24 l.val (.int .i64 i3)) pav (fun t10 =>
  opRd Pr (Instr.loadAt 3 (.pointer (some (t10.add 0)))) (Value.int .i64) (fun t11 =>
  ifB (decide (t11 > 4294967296))
  (K false w9)
  (ifB (decide (i3 > 0))
  (opRd Pr (Instr.indexAt 24 l.val (.int .i64 i3)) pav (fun t12 =>
  opRd Pr (Instr.loadAt 3 (.pointer (some (t12.add 0)))) (Value.int .i64) (fun t13 =>
  opRd Pr (Instr.indexAt 24 l.val (.int .i64 (i64 (i3 - 1)))) pav (fun t14 =>
  opRd Pr (Instr.loadAt 3 (.pointer (some (t14.add 0)))) (Value.int .i64) (fun t15 =>
  ifB (decide (t13 ≤ t15))
  (K false w9)
  (j8 w9)) w9) w9) w9) w9)
  (j8 w9))) w9) w9)) w5)
  (fun w16 =>
  loop1 (0 : Int) (fun k17 k18 w19 =>
  ifB (decide (k17 < (m7.len : Int)))
  (drewM (fun w20 =>
  opRd Pr (Instr.indexAt 73 m7.val (.int .i64 k17)) pav (fun t21 =>
  opRd Pr (Instr.loadAt 3 (.pointer (some t21))) (Value.int .i64) (fun t22 =>
  ifB (decide (t22 < 1))
  (K false w20)
  (opRd Pr (Instr.indexAt 73 m7.val (.int .i64 k17)) pav (fun t23 =>
  opRd Pr (Instr.loadAt 3 (.pointer (some t23))) (Value.int .i64) (fun t24 =>
  ifB (decide (t24 > 9))
  (K false w20)
  (ifB (decide (k17 > 0))
  (opRd Pr (Instr.indexAt 73 m7.val (.int .i64 k17)) pav (fun t25 =>
  opRd Pr (Instr.loadAt 3 (.pointer (some t25))) (Value.int .i64) (fun t26 =>
  opRd Pr (Instr.indexAt 73 m7.val (.int .i64 (i64 (k17 - 1)))) pav (fun t27 =>
  opRd Pr (Instr.loadAt 3 (.pointer (some t27))) (Value.int .i64) (fun t28 =>
  ifB (decide (t26 ≤ t28))
  (K false w20)
  (k18 (i64 (k17 + 1)) w20)) w20) w20) w20) w20)
  (k18 (i64 (k17 + 1)) w20))) w20) w20)) w20) w20) w19)
  (k4 (i64 (i3 + 1)) w19)) w16)) w5) w5)
  (K true w5)) w)) w) w)
def ref11_Check_ann : Ann := (.s .d (.s (.s (.r [(5, .rd rPA), (7, .rd (rI .i64))]) (.c (.s .d .d) .d)) (.s (.s .d (.b (.l [(.s 3, (rI .i64))] (.s (.s .d (.c .d .d)) (.s (.b (.s (.r [(2, .rd rPA), (4, .rd rSl)]) (.sj [] (.s (.r [(6, .rd rPA), (8, .rd (rI .i64)), (17, .rd rPA), (19, .rd (rI .i64)), (23, .rd rPA), (25, .rd (rI .i64))]) (.c (.s .d .d) .d)) (.s .d (.b (.l [(.s 5, (rI .i64))] (.s (.s .d (.c .d .d)) (.s (.b (.s (.r [(2, .rd rPA), (3, .rd (rI .i64)), (8, .rd rPA), (9, .rd (rI .i64)), (18, .rd rPA), (19, .rd (rI .i64)), (23, .rd rPA), (24, .rd (rI .i64))]) (.c (.s .d .d) .d))) .d)))))))) .d))))) (.s .d .d))))
theorem ref11_Check_calls {l : Sl} {K : Bool → World → Prop} {w : World} (h : ref11_Check l K w) : callV Pr Value.bool 84 #[l.val] w K :=
  calls_of Pr_plain Pr_mixed Pr_func84 ref11_Check_ann rB (args := [l.val]) (by kernel_rfl) h

/- changeover/changeoverref25.Check -/
def ref25_Check (s : ApiState) (K : Bool → World → Prop) (w : World) : Prop :=
  newV (fun b1 w2 =>
  ifB (decide (s.Schema < 1))
  (K false w2)
  (ifB (decide (s.Schema > 2))
  (K false w2)
  (callV Pr Value.bool 124 #[(.int .i64 s.Schema), s.Pairs.val] w2 fun t3 w4 =>
  kp b1 w2 w4 <|
  ifB (!t3)
  (K false w4)
  (callV Pr Value.bool 125 #[s.Sessions.val] w4 fun t5 w6 =>
  kp b1 w4 w6 <|
  ifB (!t5)
  (K false w6)
  (loop1 (0 : Int) (fun i7 k8 w9 =>
  ifB (decide (i7 < (s.Sessions.len : Int)))
  (ifB (s.Schema == 1)
  (opRd Pr (Instr.indexAt 26 s.Sessions.val (.int .i64 i7)) pav (fun t10 =>
  opRd Pr (Instr.loadAt 3 (.pointer (some ((t10.add 2).add 5)))) (Value.int .i64) (fun t11 =>
  ifB (t11 != 0)
  (K false w9)
  (k8 (i64 (i7 + 1)) w9)) w9) w9)
  (k8 (i64 (i7 + 1)) w9))
  (K true w9)) w6))))) w
def ref25_Check_ann : Ann := (.s (.r [(0, .nl 1)]) (.s (.s (.r [(13, .call rB), (19, .call rB)]) (.c (.s .d .d) .d)) (.s (.s .d (.b (.l [(.s 3, (rI .i64))] (.s (.s .d (.c .d .d)) (.s (.b (.s (.r [(7, .rd rPA), (10, .rd (rI .i64))]) (.c (.s .d .d) .d))) .d))))) (.s .d .d))))
theorem ref25_Check_calls {s : ApiState} {K : Bool → World → Prop} {w : World} (h : ref25_Check s K w) : callV Pr Value.bool 85 #[(.agg ⟨s.cs⟩)] w K :=
  calls_of Pr_plain Pr_mixed Pr_func85 ref25_Check_ann rB (args := [(.agg ⟨s.cs⟩)]) (by kernel_rfl) h

/- changeover/changeoverref04.Text -/
def ref04_Text (s : List UInt8) (K : Sl → World → Prop) (w : World) : Prop :=
  callV Pr Sl.val 43 #[(.int .i64 ((s : List UInt8).length : Int))] w fun t1 w2 =>
  opTy Pr (Builtin.append_ #[22, 9] 22 #[t1.val, (sval s)]) Sl.val (fun t3 w4 =>
  K t3 w4) w2
def ref04_Text_ann : Ann := (.s .d (.s (.r [(2, .call rSl), (4, .ty rSl)]) .d))
theorem ref04_Text_calls {s : List UInt8} {K : Sl → World → Prop} {w : World} (h : ref04_Text s K w) : callV Pr Sl.val 86 #[(sval s)] w K :=
  calls_of Pr_plain Pr_mixed Pr_func86 ref04_Text_ann rSl (args := [(sval s)]) (by kernel_rfl) h

/- changeover/changeoverref09.Bytes -/
def ref09_Bytes (v : Int) (a : ApiAnswer) (K : Sl → World → Prop) (w : World) : Prop :=
  newV (fun b1 w2 =>
  callV Pr Sl.val 43 #[(.int .i64 a.Client)] w2 fun out3 w4 =>
  kp b1 w2 w4 <|
  callV Pr Sl.val 43 #[(.int .i64 a.Seq)] w4 fun t5 w6 =>
  kp b1 w4 w6 <|
  opTy Pr (Builtin.append_ #[22, 22] 22 #[out3.val, t5.val]) Sl.val (fun out7 w8 =>
  kp b1 w6 w8 <|
  callV Pr Sl.val 43 #[(.int .i64 a.Err)] w8 fun t9 w10 =>
  kp b1 w8 w10 <|
  opTy Pr (Builtin.append_ #[22, 22] 22 #[out7.val, t9.val]) Sl.val (fun out11 w12 =>
  kp b1 w10 w12 <|
  callV Pr Sl.val 126 #[(.bool a.Found)] w12 fun t13 w14 =>
  kp b1 w12 w14 <|
  opTy Pr (Builtin.append_ #[22, 22] 22 #[out11.val, t13.val]) Sl.val (fun out15 w16 =>
  kp b1 w14 w16 <|
  callV Pr Sl.val 86 #[(sval a.Val)] w16 fun t17 w18 =>
  kp b1 w16 w18 <|
  opTy Pr (Builtin.append_ #[22, 22] 22 #[out15.val, t17.val]) Sl.val (fun out19 w20 =>
  kp b1 w18 w20 <|
  ifB (v == 2)
  (callV Pr Sl.val 43 #[(.int .i64 a.Rev)] w20 fun t21 w22 =>
  kp b1 w20 w22 <|
  opTy Pr (Builtin.append_ #[22, 22] 22 #[out19.val, t21.val]) Sl.val (fun out23 w24 =>
  kp b1 w22 w24 <|
  K out23 w24) w22)
  (K out19 w20)) w18) w14) w10) w6) w
def ref09_Bytes_ann : Ann := (.s (.r [(0, .nl 3)]) (.s (.r [(2, .call rSl)]) (.s (.r [(3, .call rSl), (4, .ty rSl)]) (.s (.r [(3, .call rSl), (4, .ty rSl)]) (.s (.r [(3, .call rSl), (4, .ty rSl)]) (.s (.r [(3, .call rSl), (4, .ty rSl)]) (.s (.s .d (.c (.r [(3, .call rSl), (4, .ty rSl)]) .d)) (.s .d .d))))))))
theorem ref09_Bytes_calls {v : Int} {a : ApiAnswer} {K : Sl → World → Prop} {w : World} (h : ref09_Bytes v a K w) : callV Pr Sl.val 87 #[(.int .i64 v), (.agg ⟨a.cs⟩)] w K :=
  calls_of Pr_plain Pr_mixed Pr_func87 ref09_Bytes_ann rSl (args := [(.int .i64 v), (.agg ⟨a.cs⟩)]) (by kernel_rfl) h

/- changeover/varint.Put -/
def varint_Put (b : Sl) (n : Int) (K : Sl → World → Prop) (w : World) : Prop :=
  callV Pr Sl.val 73 #[b.val] w fun out1 w2 =>
  loop2 ((imax n 0) : Int) (out1 : Sl) (fun n3 out4 k5 w6 =>
  ifB (decide (n3 ≥ 128))
  (opTy Pr (Instr.buildSlice 22 1 #[(0, (.int .u8 (bOr .u8 (IntKind.u8.wrap n3) 128)))]) Sl.val (fun t7 w8 =>
  opTy Pr (Builtin.append_ #[22, 22] 22 #[out4.val, t7.val]) Sl.val (fun out9 w10 =>
  k5 (shR .i64 n3 7) out9 w10) w8) w6)
  (opTy Pr (Instr.buildSlice 22 1 #[(0, (.int .u8 (IntKind.u8.wrap n3)))]) Sl.val (fun t11 w12 =>
  opTy Pr (Builtin.append_ #[22, 22] 22 #[out4.val, t11.val]) Sl.val (fun t13 w14 =>
  K t13 w14) w12) w6)) w2
def varint_Put_ann : Ann := (.s .d (.s (.r [(1, .call rSl)]) (.s (.s .d (.b (.l [(.s 1, (rI .i64)), (.s 5, rSl)] (.s (.s .d (.c .d .d)) (.s (.b (.r [(4, .ty rSl), (5, .ty rSl)])) .d))))) (.s (.r [(3, .ty rSl), (4, .ty rSl)]) .d))))
theorem varint_Put_calls {b : Sl} {n : Int} {K : Sl → World → Prop} {w : World} (h : varint_Put b n K w) : callV Pr Sl.val 92 #[b.val, (.int .i64 n)] w K :=
  calls_of Pr_plain Pr_mixed Pr_func92 varint_Put_ann rSl (args := [b.val, (.int .i64 n)]) (by kernel_rfl) h

/- changeover/varint.Get -/
def varint_Get (b : Sl) (at_ : Int) (K : (Int × Int × Int) → World → Prop) (w : World) : Prop :=
  ifB (decide (at_ < 0))
  (K (0, 0, 6) w)
  (ifB (decide (at_ > (b.len : Int)))
  (K (0, 0, 6) w)
  (join2 (fun (j1 : Int → Int → World → Prop) =>
  loop2 (0 : Int) (at_ : Int) (fun n2 i3 k4 w5 =>
  ifB (decide (i3 < (b.len : Int)))
  (opRd Pr (Instr.indexAt 22 b.val (.int .i64 i3)) pav (fun t6 =>
  opRd Pr (Instr.loadAt 5 (.pointer (some t6))) (Value.int .u8) (fun c7 =>
  join0 (fun (j8 : World → Prop) =>
  ifB (c7 == 0)
  (ifB (decide (i3 > at_))
  (ifB (decide (i3 > at_))
  (K (0, 0, 3) w5)
  (j8 w5))
  (ifB (decide ((i64 (7 * (i64 (i3 - at_)))) > 56))
  (ifB (decide ((i64 (7 * (i64 (i3 - at_)))) > 56))
  (K (0, 0, 3) w5)
  (j8 w5))
  (ifB (decide (n2 > 9223372036854775807))
  (K (0, 0, 3) w5)
  (j8 w5))))
  (ifB (decide ((i64 (7 * (i64 (i3 - at_)))) > 56))
  (ifB (decide ((i64 (7 * (i64 (i3 - at_)))) > 56))
  (K (0, 0, 3) w5)
  (j8 w5))
  (ifB (decide (n2 > 9223372036854775807))
  (K (0, 0, 3) w5)
  (j8 w5))))
  (fun w9 =>
  opRd Pr (binSem .shl 167 (.tmp 49) (.tmp 50) (.int .u64 (IntKind.u64.wrap (bAnd .u8 c7 127))) (.int .i64 (i64 (7 * (i64 (i3 - at_)))))) (Value.int .u64) (fun t10 =>
  ifB (decide (c7 < 128))
  (j1 (bOr .u64 n2 t10) i3 w9)
  (k4 (bOr .u64 n2 t10) (i64 (i3 + 1)) w9)) w9)) w5) w5)
  (j1 n2 i3 w5)) w)
  (fun n11 i12 w13 =>
  ifB (i12 == (b.len : Int))
  (K (0, 0, 1) w13)
  (K ((IntKind.i64.wrap n11), (i64 (i12 + 1)), 0) w13))))
def varint_Get_ann : Ann := (.s .d (.b (.s (.s .d (.c (.s .d .d) .d)) (.s .d (.s .d (.s .d (.sj [(.s 7, (rI .u64)), (.s 8, (rI .i64))] (.b (.l [(.s 7, (rI .u64)), (.s 8, (rI .i64))] (.s (.s .d (.c .d .d)) (.s (.b (.s (.r [(2, .rd rPA), (3, .rd (rI .u8))]) (.sj [] (.b (.s (.s .d (.c .d (.s .d (.c .d .d)))) (.c (.s .d .d) .d))) (.s (.r [(5, .rd (rI .u64))]) (.s .d (.c .d .d)))))) .d)))) (.s (.s .d (.c (.s .d .d) .d)) (.s .d .d)))))))))
theorem varint_Get_calls {b : Sl} {at_ : Int} {K : (Int × Int × Int) → World → Prop} {w : World} (h : varint_Get b at_ K w) : callV Pr (tval3 (Value.int .i64) (Value.int .i64) (Value.int .i64)) 94 #[b.val, (.int .i64 at_)] w K :=
  calls_of Pr_plain Pr_mixed Pr_func94 varint_Get_ann (rT3 (rI .i64) (rI .i64) (rI .i64)) (args := [b.val, (.int .i64 at_)]) (by kernel_rfl) h

/- changeover/conf.Check -/
def conf_Check (l : Sl) (K : Int → World → Prop) (w : World) : Prop :=
  ifB ((l.len : Int) == 0)
  (K 3 w)
  (opRd Pr (Instr.indexAt 24 l.val (.int .i64 0)) pav (fun t1 =>
  opRd Pr (Instr.loadAt 3 (.pointer (some (t1.add 0)))) (Value.int .i64) (fun t2 =>
  ifB (t2 != 1)
  (K 3 w)
  (loop1 (0 : Int) (fun t3 k4 w5 =>
  ifB (decide (t3 < (l.len : Int)))
  (opRd Pr (Instr.indexAt 24 l.val (.int .i64 t3)) pav (fun t6 =>
  opRd Pr (Instr.loadAt 75 (.pointer (some t6))) ApiConf.val (fun t7 =>
  newV (fun b8 w9 =>
  wrM b8 (fun w10 =>
  heldM (fun S12 w11 =>
  callV Pr Value.bool 142 #[t7.Members.val] w11 fun t13 w14 =>
  kp b8 w11 w14 <|
  (S12 w14) ∧
  (ifB (!t13)
  (K 3 w14)
  (ifB (decide (t7.From > 4294967296))
  (K 3 w14)
  (ifB (decide (t3 > 0))
  (opH Pr S12 (Instr.indexAt 24 l.val (.int .i64 (i64 (t3 - 1)))) pav (fun t15 =>
  opH Pr S12 (Instr.loadAt 3 (.pointer (some (t15.add 0)))) (Value.int .i64) (fun t16 =>
  ifB (decide (t7.From ≤ t16))
  (K 3 w14)
  (k4 (i64 (t3 + 1)) w14))))
  (k4 (i64 (t3 + 1)) w14))))) w10) w9) w5) w5) w5)
  (K 0 w5)) w)) w) w)
def conf_Check_ann : Ann := (.s .d (.s (.s (.r [(5, .rd rPA), (7, .rd (rI .i64))]) (.c (.s .d .d) .d)) (.s (.s .d (.b (.l [(.s 17, (rI .i64))] (.s .d (.s (.c .d .d) (.s (.b (.s (.r [(1, .rd rPA), (2, .rd rApiConf), (3, .nl 4), (5, .ls 4)]) (.s (.h (.take 0 (.take 1 (.one 2 (.take 3 (.take 4 (.take 5 (.take 6 (.take 7 (.take 8 (.take 9 (.take 10 (.take 11 (.take 12 (.take 13 (.take 14 (.take 15 (.take 16 (.take 17 (.take 18 (.take 19 (.take 20 (.take 21 (.take 22 (.take 23 .done)))))))))))))))))))))))) [(2, .call rB), (18, .rd rPA), (20, .rd (rI .i64))]) (.c (.s .d .d) .d)))) .d)))))) (.s .d .d))))
theorem conf_Check_calls {l : Sl} {K : Int → World → Prop} {w : World} (h : conf_Check l K w) : callV Pr (Value.int .i64) 110 #[l.val] w K :=
  calls_of Pr_plain Pr_mixed Pr_func110 conf_Check_ann (rI .i64) (args := [l.val]) (by kernel_rfl) h

/- changeover/migr.Check -/
def migr_Check (s : ApiState) (K : Int → World → Prop) (w : World) : Prop :=
  newV (fun b1 w2 =>
  callV Pr (Value.int .i64) 143 #[s.Sessions.val] w2 fun e3 w4 =>
  kp b1 w2 w4 <|
  ifB (e3 != 0)
  (K e3 w4)
  (ifB (s.Schema == 1)
  (callV Pr Value.bool 144 #[s.Sessions.val, (.func (.func 145) #[] #[])] w4 fun t5 w6 =>
  kp b1 w4 w6 <|
  ifB t5
  (K 3 w6)
  (callV Pr (Value.int .i64) 146 #[s.Pairs.val] w6 fun t7 w8 =>
  kp b1 w6 w8 <|
  K t7 w8))
  (ifB (s.Schema == 2)
  (callV Pr (Value.int .i64) 147 #[s.Pairs.val] w4 fun t9 w10 =>
  kp b1 w4 w10 <|
  K t9 w10)
  (K 3 w4)))) w
def migr_Check_ann : Ann := (.s (.r [(0, .nl 1)]) (.s (.s (.r [(2, .call (rI .i64))]) (.s .d (.c (.s .d .d) .d))) (.s (.s .d (.b (.s .d (.c (.s (.s (.r [(2, .call rB)]) (.c (.s .d .d) .d)) (.s (.r [(2, .call (rI .i64))]) .d)) (.s .d (.c (.s (.r [(2, .call (rI .i64))]) .d) .d)))))) (.s .d .d))))
theorem migr_Check_calls {s : ApiState} {K : Int → World → Prop} {w : World} (h : migr_Check s K w) : callV Pr (Value.int .i64) 111 #[(.agg ⟨s.cs⟩)] w K :=
  calls_of Pr_plain Pr_mixed Pr_func111 migr_Check_ann (rI .i64) (args := [(.agg ⟨s.cs⟩)]) (by kernel_rfl) h

/- changeover/vers.Format -/
def vers_Format (active : Int) (K : Int → World → Prop) (w : World) : Prop :=
  ifB (decide (active > 0))
  (K 2 w)
  (K 1 w)
def vers_Format_ann : Ann := (.s .d (.s (.s .d (.c (.s .d .d) .d)) (.s .d .d)))
theorem vers_Format_calls {active : Int} {K : Int → World → Prop} {w : World} (h : vers_Format active K w) : callV Pr (Value.int .i64) 112 #[(.int .i64 active)] w K :=
  calls_of Pr_plain Pr_mixed Pr_func112 vers_Format_ann (rI .i64) (args := [(.int .i64 active)]) (by kernel_rfl) h

/- changeover/snapone.Encode -/
def snapone_Encode (s : ApiState) (K : (Sl × Int) → World → Prop) (w : World) : Prop :=
  newV (fun b1 w2 =>
  callV Pr (Value.int .i64) 111 #[(.agg ⟨[(.int .i64 s.Schema), s.Pairs.val, s.Sessions.val]⟩)] w2 fun e3 w4 =>
  kp b1 w2 w4 <|
  ifB (e3 != 0)
  (K (Sl.nil, e3) w4)
  (ifB (s.Schema != 1)
  (K (Sl.nil, 8) w4)
  (opTy Pr (Instr.box 113 (.agg ⟨[Sl.nil.val]⟩)) pav (fun w5 w6 =>
  kp b1 w4 w6 <|
  callV Pr uval 70 #[(.pointer (some w5)), (.int .i64 1)] w6 fun t7 w8 =>
  kp b1 w6 w8 <|
  callV Pr uval 70 #[(.pointer (some w5)), (.int .i64 (s.Pairs.len : Int))] w8 fun t9 w10 =>
  kp b1 w8 w10 <|
  loop1 (0 : Int) (fun t11 k12 w13 =>
  ifB (decide (t11 < (s.Pairs.len : Int)))
  (opRd Pr (Instr.indexAt 25 s.Pairs.val (.int .i64 t11)) pav (fun t14 =>
  opRd Pr (Instr.loadAt 131 (.pointer (some t14))) ApiPair.val (fun t15 =>
  newV (fun b16 w17 =>
  wrM b16 (fun w18 =>
  callV Pr uval 148 #[(.pointer (some w5)), (sval t15.Key)] w18 fun t19 w20 =>
  kp b16 w18 w20 <|
  kp b1 w18 w20 <|
  callV Pr uval 148 #[(.pointer (some w5)), (sval t15.Val)] w20 fun t21 w22 =>
  kp b16 w20 w22 <|
  kp b1 w20 w22 <|
  k12 (i64 (t11 + 1)) w22) w17) w13) w13) w13)
  (callV Pr uval 70 #[(.pointer (some w5)), (.int .i64 (s.Sessions.len : Int))] w13 fun t23 w24 =>
  kp b1 w13 w24 <|
  loop1 (0 : Int) (fun t25 k26 w27 =>
  ifB (decide (t25 < (s.Sessions.len : Int)))
  (opRd Pr (Instr.indexAt 26 s.Sessions.val (.int .i64 t25)) pav (fun t28 =>
  opRd Pr (Instr.loadAt 136 (.pointer (some t28))) ApiSession.val (fun t29 =>
  newV (fun b30 w31 =>
  wrM b30 (fun w32 =>
  callV Pr uval 149 #[(.pointer (some w5)), (.int .i64 1), (.agg ⟨[(.int .i64 t29.Last.Client), (.int .i64 t29.Last.Seq), (.int .i64 t29.Last.Err), (.bool t29.Last.Found), (sval t29.Last.Val), (.int .i64 t29.Last.Rev)]⟩)] w32 fun t33 w34 =>
  kp b30 w32 w34 <|
  kp b1 w32 w34 <|
  k26 (i64 (t25 + 1)) w34) w31) w27) w27) w27)
  (callV Pr Sl.val 72 #[(.pointer (some w5))] w27 fun t35 w36 =>
  kp b1 w27 w36 <|
  K (t35, 0) w36)) w24)) w10) w4))) w
def snapone_Encode_ann : Ann := (.s (.r [(0, .nl 1)]) (.s (.s (.r [(1, .call (rI .i64))]) (.s .d (.c (.s .d .d) .d))) (.s (.s .d (.c (.s .d .d) .d)) (.s (.r [(1, .ty rPA)]) (.s (.r [(1, .call rU)]) (.s (.r [(4, .call rU)]) (.s (.s .d (.b (.l [(.s 30, (rI .i64))] (.s .d (.s (.c .d .d) (.s (.b (.s (.r [(0, .rd rPA), (1, .rd rApiPair), (2, .nl 7), (3, .ls 7)]) (.s (.r [(3, .call rU)]) (.r [(3, .call rU)])))) .d)))))) (.s (.r [(4, .call rU)]) (.s (.s .d (.b (.l [(.s 51, (rI .i64))] (.s .d (.s (.c .d .d) (.s (.b (.s (.r [(0, .rd rPA), (1, .rd rApiSession), (2, .nl 9), (3, .ls 9)]) (.r [(3, .call rU)]))) .d)))))) (.s (.r [(1, .call rSl)]) .d))))))))))
theorem snapone_Encode_calls {s : ApiState} {K : (Sl × Int) → World → Prop} {w : World} (h : snapone_Encode s K w) : callV Pr (tval2 Sl.val (Value.int .i64)) 113 #[(.agg ⟨s.cs⟩)] w K :=
  calls_of Pr_plain Pr_mixed Pr_func113 snapone_Encode_ann (rT2 rSl (rI .i64)) (args := [(.agg ⟨s.cs⟩)]) (by kernel_rfl) h

/- changeover/snaptwo.Encode -/
def snaptwo_Encode (s : ApiState) (K : (Sl × Int) → World → Prop) (w : World) : Prop :=
  newV (fun b1 w2 =>
  callV Pr (Value.int .i64) 111 #[(.agg ⟨[(.int .i64 s.Schema), s.Pairs.val, s.Sessions.val]⟩)] w2 fun e3 w4 =>
  kp b1 w2 w4 <|
  ifB (e3 != 0)
  (K (Sl.nil, e3) w4)
  (ifB (s.Schema != 2)
  (K (Sl.nil, 8) w4)
  (opTy Pr (Instr.box 113 (.agg ⟨[Sl.nil.val]⟩)) pav (fun w5 w6 =>
  kp b1 w4 w6 <|
  callV Pr uval 70 #[(.pointer (some w5)), (.int .i64 2)] w6 fun t7 w8 =>
  kp b1 w6 w8 <|
  callV Pr uval 70 #[(.pointer (some w5)), (.int .i64 (s.Pairs.len : Int))] w8 fun t9 w10 =>
  kp b1 w8 w10 <|
  loop1 (0 : Int) (fun t11 k12 w13 =>
  ifB (decide (t11 < (s.Pairs.len : Int)))
  (opRd Pr (Instr.indexAt 25 s.Pairs.val (.int .i64 t11)) pav (fun t14 =>
  opRd Pr (Instr.loadAt 131 (.pointer (some t14))) ApiPair.val (fun t15 =>
  newV (fun b16 w17 =>
  wrM b16 (fun w18 =>
  callV Pr uval 148 #[(.pointer (some w5)), (sval t15.Key)] w18 fun t19 w20 =>
  kp b16 w18 w20 <|
  kp b1 w18 w20 <|
  callV Pr uval 70 #[(.pointer (some w5)), (.int .i64 t15.Rev)] w20 fun t21 w22 =>
  kp b16 w20 w22 <|
  kp b1 w20 w22 <|
  callV Pr uval 148 #[(.pointer (some w5)), (sval t15.Val)] w22 fun t23 w24 =>
  kp b16 w22 w24 <|
  kp b1 w22 w24 <|
  k12 (i64 (t11 + 1)) w24) w17) w13) w13) w13)
  (callV Pr uval 70 #[(.pointer (some w5)), (.int .i64 (s.Sessions.len : Int))] w13 fun t25 w26 =>
  kp b1 w13 w26 <|
  loop1 (0 : Int) (fun t27 k28 w29 =>
  ifB (decide (t27 < (s.Sessions.len : Int)))
  (opRd Pr (Instr.indexAt 26 s.Sessions.val (.int .i64 t27)) pav (fun t30 =>
  opRd Pr (Instr.loadAt 136 (.pointer (some t30))) ApiSession.val (fun t31 =>
  newV (fun b32 w33 =>
  wrM b32 (fun w34 =>
  callV Pr uval 149 #[(.pointer (some w5)), (.int .i64 2), (.agg ⟨[(.int .i64 t31.Last.Client), (.int .i64 t31.Last.Seq), (.int .i64 t31.Last.Err), (.bool t31.Last.Found), (sval t31.Last.Val), (.int .i64 t31.Last.Rev)]⟩)] w34 fun t35 w36 =>
  kp b32 w34 w36 <|
  kp b1 w34 w36 <|
  k28 (i64 (t27 + 1)) w36) w33) w29) w29) w29)
  (callV Pr Sl.val 72 #[(.pointer (some w5))] w29 fun t37 w38 =>
  kp b1 w29 w38 <|
  K (t37, 0) w38)) w26)) w10) w4))) w
def snaptwo_Encode_ann : Ann := (.s (.r [(0, .nl 1)]) (.s (.s (.r [(1, .call (rI .i64))]) (.s .d (.c (.s .d .d) .d))) (.s (.s .d (.c (.s .d .d) .d)) (.s (.r [(1, .ty rPA)]) (.s (.r [(1, .call rU)]) (.s (.r [(4, .call rU)]) (.s (.s .d (.b (.l [(.s 30, (rI .i64))] (.s .d (.s (.c .d .d) (.s (.b (.s (.r [(0, .rd rPA), (1, .rd rApiPair), (2, .nl 7), (3, .ls 7)]) (.s (.r [(3, .call rU)]) (.s (.r [(3, .call rU)]) (.r [(3, .call rU)]))))) .d)))))) (.s (.r [(4, .call rU)]) (.s (.s .d (.b (.l [(.s 55, (rI .i64))] (.s .d (.s (.c .d .d) (.s (.b (.s (.r [(0, .rd rPA), (1, .rd rApiSession), (2, .nl 9), (3, .ls 9)]) (.r [(3, .call rU)]))) .d)))))) (.s (.r [(1, .call rSl)]) .d))))))))))
theorem snaptwo_Encode_calls {s : ApiState} {K : (Sl × Int) → World → Prop} {w : World} (h : snaptwo_Encode s K w) : callV Pr (tval2 Sl.val (Value.int .i64)) 114 #[(.agg ⟨s.cs⟩)] w K :=
  calls_of Pr_plain Pr_mixed Pr_func114 snaptwo_Encode_ann (rT2 rSl (rI .i64)) (args := [(.agg ⟨s.cs⟩)]) (by kernel_rfl) h

/- (*changeover/pack.Reader).fail -/
def pack_Reader_fail (r : Option Addr) (e : Int) (K : Unit → World → Prop) (w : World) : Prop :=
  opRd Pr (nilSem (.pointer r)) pav (fun t1 =>
  opUn Pr (Instr.storeAt 31 (.pointer (some (t1.add 2))) (.int .i64 e)) (fun w2 =>
  K () w2) w) w
def pack_Reader_fail_ann : Ann := (.r [(2, .rd rPA), (4, .un)])
theorem pack_Reader_fail_calls {r : Option Addr} {e : Int} {K : Unit → World → Prop} {w : World} (h : pack_Reader_fail r e K w) : callV Pr uval 115 #[(.pointer r), (.int .i64 e)] w K :=
  calls_of Pr_plain Pr_mixed Pr_func115 pack_Reader_fail_ann rU (args := [(.pointer r), (.int .i64 e)]) (by kernel_rfl) h

/- (*changeover/pack.Reader).Count -/
def pack_Reader_Count (r : Option Addr) (most : Int) (K : Int → World → Prop) (w : World) : Prop :=
  opTy Pr (Instr.box 78 (.pointer r)) pav (fun r1 w2 =>
  opTy Pr (Instr.box 3 (.int .i64 most)) pav (fun most3 w4 =>
  opRd Pr (Instr.loadAt 78 (.pointer (some r1))) Value.pointer (fun t5 =>
  callV Pr (Value.int .i64) 74 #[(.pointer t5), (.func (.func 150) #[] #[(.pointer (some r1)), (.pointer (some most3))])] w4 fun t6 w7 =>
  K t6 w7) w4) w2) w
def pack_Reader_Count_ann : Ann := (.s (.r [(0, .ty rPA), (1, .ty rPA)]) (.s (.r [(0, .rd rP), (2, .call (rI .i64))]) .d))
theorem pack_Reader_Count_calls {r : Option Addr} {most : Int} {K : Int → World → Prop} {w : World} (h : pack_Reader_Count r most K w) : callV Pr (Value.int .i64) 116 #[(.pointer r), (.int .i64 most)] w K :=
  calls_of Pr_plain Pr_mixed Pr_func116 pack_Reader_Count_ann (rI .i64) (args := [(.pointer r), (.int .i64 most)]) (by kernel_rfl) h

/- (*changeover/pack.Reader).Raw$1 -/
def pack_Reader_Raw_1 (c_x0 : Addr) (c_x1 : Addr) (K : Sl → World → Prop) (w : World) : Prop :=
  opRd Pr (Instr.loadAt 78 (.pointer (some c_x0))) Value.pointer (fun t1 =>
  opRd Pr (Instr.loadAt 3 (.pointer (some c_x1))) (Value.int .i64) (fun t2 =>
  callV Pr Sl.val 119 #[(.pointer t1), (.int .i64 t2)] w fun t3 w4 =>
  K t3 w4) w) w
def pack_Reader_Raw_1_ann : Ann := (.s .d (.s (.r [(0, .rd rP), (1, .rd (rI .i64)), (2, .call rSl)]) .d))
theorem pack_Reader_Raw_1_calls {c_x0 : Addr} {c_x1 : Addr} {K : Sl → World → Prop} {w : World} (h : pack_Reader_Raw_1 c_x0 c_x1 K w) : callV Pr Sl.val 118 #[(.pointer (some c_x0)), (.pointer (some c_x1))] w K :=
  calls_of Pr_plain Pr_mixed Pr_func118 pack_Reader_Raw_1_ann rSl (args := [(.pointer (some c_x0)), (.pointer (some c_x1))]) (by kernel_rfl) h

/- (*changeover/pack.Reader).raw -/
def pack_Reader_raw (r : Option Addr) (most : Int) (K : Sl → World → Prop) (w : World) : Prop :=
  callV Pr (Value.int .i64) 151 #[(.pointer r), (.int .i64 most)] w fun n1 w2 =>
  opRd Pr (nilSem (.pointer r)) pav (fun t3 =>
  opRd Pr (Instr.loadAt 31 (.pointer (some (t3.add 2)))) (Value.int .i64) (fun t4 =>
  ifB (t4 != 0)
  (K Sl.nil w2)
  (opRd Pr (nilSem (.pointer r)) pav (fun t5 =>
  opRd Pr (Instr.loadAt 3 (.pointer (some (t5.add 1)))) (Value.int .i64) (fun t6 =>
  opRd Pr (nilSem (.pointer r)) pav (fun t7 =>
  opUn Pr (Instr.storeAt 3 (.pointer (some (t7.add 1))) (.int .i64 (i64 (t6 + n1)))) (fun w8 =>
  heldM (fun S10 w9 =>
  opH Pr S10 (nilSem (.pointer r)) pav (fun t11 =>
  opH Pr S10 (Instr.loadAt 22 (.pointer (some (t11.add 0)))) Sl.val (fun t12 =>
  opH Pr S10 (nilSem (.pointer r)) pav (fun t13 =>
  opH Pr S10 (Instr.loadAt 3 (.pointer (some (t13.add 1)))) (Value.int .i64) (fun t14 =>
  opH Pr S10 (nilSem (.pointer r)) pav (fun t15 =>
  opH Pr S10 (Instr.loadAt 3 (.pointer (some (t15.add 1)))) (Value.int .i64) (fun t16 =>
  opH Pr S10 (Instr.sliceAt 22 t12.val (some (.int .i64 (i64 (t14 - n1)))) (some (.int .i64 t16)) none) Sl.val (fun t17 =>
  callV Pr Sl.val 73 #[t17.val] w9 fun t18 w19 =>
  (S10 w19) ∧
  (K t18 w19))))))))) w8) w2) w2) w2) w2)) w2) w2
def pack_Reader_raw_ann : Ann := (.s .d (.s (.r [(2, .call (rI .i64))]) (.s (.s (.r [(1, .rd rPA), (3, .rd (rI .i64))]) (.c (.s .d .d) .d)) (.s (.r [(1, .rd rPA), (3, .rd (rI .i64)), (6, .rd rPA), (8, .un)]) (.s (.h (.take 0 (.take 1 (.take 2 (.take 3 (.take 4 (.take 5 (.take 6 (.take 7 (.take 8 (.take 9 (.take 10 (.take 11 (.take 12 (.take 13 (.take 14 (.one 15 (.take 16 .done))))))))))))))))) [(1, .rd rPA), (3, .rd rSl), (5, .rd rPA), (7, .rd (rI .i64)), (11, .rd rPA), (13, .rd (rI .i64)), (14, .rd rSl), (15, .call rSl)]) .d)))))
theorem pack_Reader_raw_calls {r : Option Addr} {most : Int} {K : Sl → World → Prop} {w : World} (h : pack_Reader_raw r most K w) : callV Pr Sl.val 119 #[(.pointer r), (.int .i64 most)] w K :=
  calls_of Pr_plain Pr_mixed Pr_func119 pack_Reader_raw_ann rSl (args := [(.pointer r), (.int .i64 most)]) (by kernel_rfl) h

/- (*changeover/pack.Reader).left -/
def pack_Reader_left (r : Option Addr) (K : Int → World → Prop) (w : World) : Prop :=
  drewM (fun w1 =>
  opRd Pr (nilSem (.pointer r)) pav (fun t2 =>
  opRd Pr (Instr.loadAt 22 (.pointer (some (t2.add 0)))) Sl.val (fun t3 =>
  opRd Pr (nilSem (.pointer r)) pav (fun t4 =>
  opRd Pr (Instr.loadAt 3 (.pointer (some (t4.add 1)))) (Value.int .i64) (fun t5 =>
  K (i64 ((t3.len : Int) - t5)) w1) w1) w1) w1) w1) w
def pack_Reader_left_ann : Ann := (.s .d (.s (.r [(1, .rd rPA), (3, .rd rSl), (6, .rd rPA), (8, .rd (rI .i64))]) .d))
theorem pack_Reader_left_calls {r : Option Addr} {K : Int → World → Prop} {w : World} (h : pack_Reader_left r K w) : callV Pr (Value.int .i64) 120 #[(.pointer r)] w K :=
  calls_of Pr_plain Pr_mixed Pr_func120 pack_Reader_left_ann (rI .i64) (args := [(.pointer r)]) (by kernel_rfl) h

/- changeover/snaptwo.first -/
def snaptwo_first (b : Sl) (K : ((Option Addr) × Int × Int) → World → Prop) (w : World) : Prop :=
  callV Pr Value.pointer 36 #[b.val] w fun r1 w2 =>
  callV Pr (Value.int .i64) 37 #[(.pointer r1), (.int .i64 2)] w2 fun n3 w4 =>
  callV Pr (Value.int .i64) 38 #[(.pointer r1)] w4 fun t5 w6 =>
  K (r1, n3, t5) w6
def snaptwo_first_ann : Ann := (.s .d (.s (.r [(1, .call rP)]) (.s (.r [(1, .call (rI .i64))]) (.s (.r [(3, .call (rI .i64))]) .d))))
theorem snaptwo_first_calls {b : Sl} {K : ((Option Addr) × Int × Int) → World → Prop} {w : World} (h : snaptwo_first b K w) : callV Pr (tval3 Value.pointer (Value.int .i64) (Value.int .i64)) 121 #[b.val] w K :=
  calls_of Pr_plain Pr_mixed Pr_func121 snaptwo_first_ann (rT3 rP (rI .i64) (rI .i64)) (args := [b.val]) (by kernel_rfl) h

/- changeover/snapone.Decode -/
def snapone_Decode (b : Sl) (K : (ApiState × Int) → World → Prop) (w : World) : Prop :=
  newV (fun b1 w2 =>
  callV Pr Value.pointer 36 #[b.val] w2 fun t3 w4 =>
  kp b1 w2 w4 <|
  opTy Pr (Instr.alloc 78 true (.tuple #[])) pav (fun r5 w6 =>
  kp b1 w4 w6 <|
  opUn Pr (Instr.storeAt 78 (.pointer (some r5)) (.pointer t3)) (fun w7 =>
  kp b1 w6 w7 <|
  opRd Pr (Instr.loadAt 78 (.pointer (some r5))) Value.pointer (fun t8 =>
  callV Pr (Value.int .i64) 37 #[(.pointer t8), (.int .i64 2)] w7 fun schema9 w10 =>
  kp b1 w7 w10 <|
  opRd Pr (Instr.loadAt 78 (.pointer (some r5))) Value.pointer (fun t11 =>
  callV Pr (Value.int .i64) 38 #[(.pointer t11)] w10 fun e12 w13 =>
  kp b1 w10 w13 <|
  ifB (e12 != 0)
  (wrM b1 (fun w14 =>
  K ((ApiState.mk 0 Sl.nil Sl.nil), e12) w14) w13)
  (ifB (schema9 != 1)
  (wrM b1 (fun w15 =>
  K ((ApiState.mk 0 Sl.nil Sl.nil), 3) w15) w13)
  (newV (fun b16 w17 =>
  wrM b16 (fun w18 =>
  opRd Pr (Instr.loadAt 78 (.pointer (some r5))) Value.pointer (fun t19 =>
  callV Pr Sl.val 152 #[(.pointer t19), (.int .i64 64), (.func (.func 153) #[] #[(.pointer (some r5))])] w18 fun t20 w21 =>
  kp b16 w18 w21 <|
  kp b1 w18 w21 <|
  wrM b16 (fun w22 =>
  opRd Pr (Instr.loadAt 78 (.pointer (some r5))) Value.pointer (fun t23 =>
  callV Pr Sl.val 155 #[(.pointer t23), (.int .i64 8), (.func (.func 156) #[] #[(.pointer (some r5))])] w22 fun t24 w25 =>
  kp b16 w22 w25 <|
  kp b1 w22 w25 <|
  wrM b16 (fun w26 =>
  opRd Pr (Instr.loadAt 78 (.pointer (some r5))) Value.pointer (fun t27 =>
  callV Pr (Value.int .i64) 79 #[(.pointer t27)] w26 fun e28 w29 =>
  kp b16 w26 w29 <|
  kp b1 w26 w29 <|
  join1 (fun (j30 : Int → World → Prop) =>
  ifB (e28 == 0)
  (callV Pr (Value.int .i64) 111 #[(.agg ⟨[(.int .i64 schema9), t20.val, t24.val]⟩)] w29 fun e31 w32 =>
  kp b16 w29 w32 <|
  kp b1 w29 w32 <|
  j30 e31 w32)
  (j30 e28 w29))
  (fun e33 w34 =>
  ifB (e33 != 0)
  (wrM b1 (fun w35 =>
  K ((ApiState.mk 0 Sl.nil Sl.nil), e33) w35) w34)
  (wrM b1 (fun w36 =>
  K ((ApiState.mk schema9 t20 t24), 0) w36) w34))) w26) w25) w22) w21) w18) w17) w13))) w10) w7) w6) w4) w
def snapone_Decode_ann : Ann := (.s (.r [(0, .nl 2)]) (.s (.r [(1, .call rP), (2, .ty rPA), (3, .un)]) (.s (.r [(0, .rd rP), (1, .call (rI .i64))]) (.s (.s (.r [(0, .rd rP), (1, .call (rI .i64))]) (.s .d (.c (.s (.r [(2, .ls 2)]) .d) .d))) (.s (.s .d (.c (.s (.r [(1, .ls 2)]) .d) .d)) (.s (.r [(2, .nl 7), (3, .ls 7)]) (.s (.r [(0, .rd rP), (2, .call rSl), (4, .ls 7)]) (.s (.r [(0, .rd rP), (2, .call rSl), (4, .ls 7)]) (.s (.r [(0, .rd rP), (1, .call (rI .i64))]) (.sj [(.s 8, (rI .i64))] (.s .d (.c (.r [(1, .call (rI .i64))]) .d)) (.s (.s .d (.c (.s (.r [(2, .ls 2)]) .d) .d)) (.s (.r [(1, .ls 2)]) .d))))))))))))
theorem snapone_Decode_calls {b : Sl} {K : (ApiState × Int) → World → Prop} {w : World} (h : snapone_Decode b K w) : callV Pr (tval2 ApiState.val (Value.int .i64)) 122 #[b.val] w K :=
  calls_of Pr_plain Pr_mixed Pr_func122 snapone_Decode_ann (rT2 rApiState (rI .i64)) (args := [b.val]) (by kernel_rfl) h

/- changeover/snaptwo.Decode -/
def snaptwo_Decode (b : Sl) (K : (ApiState × Int) → World → Prop) (w : World) : Prop :=
  newV (fun b1 w2 =>
  callV Pr (tval3 Value.pointer (Value.int .i64) (Value.int .i64)) 121 #[b.val] w2 fun t3 w4 =>
  kp b1 w2 w4 <|
  opTy Pr (Instr.alloc 78 true (.tuple #[])) pav (fun r5 w6 =>
  kp b1 w4 w6 <|
  opUn Pr (Instr.storeAt 78 (.pointer (some r5)) (.pointer t3.1)) (fun w7 =>
  kp b1 w6 w7 <|
  ifB (t3.2.2 != 0)
  (wrM b1 (fun w8 =>
  K ((ApiState.mk 0 Sl.nil Sl.nil), t3.2.2) w8) w7)
  (ifB (t3.2.1 != 2)
  (wrM b1 (fun w9 =>
  K ((ApiState.mk 0 Sl.nil Sl.nil), 3) w9) w7)
  (opTy Pr (Instr.alloc 28 true (.tuple #[])) pav (fun s10 w11 =>
  kp b1 w7 w11 <|
  opUn Pr (Instr.storeAt 28 (.pointer (some s10)) (.agg ⟨[(.int .i64 t3.2.1), Sl.nil.val, Sl.nil.val]⟩)) (fun w12 =>
  kp b1 w11 w12 <|
  opRd Pr (Instr.loadAt 78 (.pointer (some r5))) Value.pointer (fun t13 =>
  callV Pr uval 158 #[(.pointer t13), (.int .i64 64), (.func (.func 159) #[] #[(.pointer (some r5)), (.pointer (some s10))])] w12 fun t14 w15 =>
  kp b1 w12 w15 <|
  opRd Pr (Instr.loadAt 78 (.pointer (some r5))) Value.pointer (fun t16 =>
  callV Pr uval 158 #[(.pointer t16), (.int .i64 8), (.func (.func 160) #[] #[(.pointer (some r5)), (.pointer (some s10))])] w15 fun t17 w18 =>
  kp b1 w15 w18 <|
  opRd Pr (Instr.loadAt 78 (.pointer (some r5))) Value.pointer (fun t19 =>
  callV Pr (Value.int .i64) 79 #[(.pointer t19)] w18 fun e20 w21 =>
  kp b1 w18 w21 <|
  join1 (fun (j22 : Int → World → Prop) =>
  ifB (e20 == 0)
  (opRd Pr (Instr.loadAt 28 (.pointer (some s10))) ApiState.val (fun t23 =>
  callV Pr (Value.int .i64) 111 #[(.agg ⟨t23.cs⟩)] w21 fun e24 w25 =>
  kp b1 w21 w25 <|
  j22 e24 w25) w21)
  (j22 e20 w21))
  (fun e26 w27 =>
  ifB (e26 != 0)
  (wrM b1 (fun w28 =>
  K ((ApiState.mk 0 Sl.nil Sl.nil), e26) w28) w27)
  (opRd Pr (Instr.loadAt 28 (.pointer (some s10))) ApiState.val (fun t29 =>
  wrM b1 (fun w30 =>
  K (t29, 0) w30) w27) w27))) w18) w15) w12) w11) w7))) w6) w4) w
def snaptwo_Decode_ann : Ann := (.s (.r [(0, .nl 2)]) (.s (.r [(1, .call (rT3 rP (rI .i64) (rI .i64))), (6, .ty rPA), (7, .un)]) (.s (.b (.s .d (.c (.s (.r [(2, .ls 2)]) .d) (.s .d (.c (.s (.r [(1, .ls 2)]) .d) .d))))) (.s (.r [(2, .ty rPA), (3, .un)]) (.s (.r [(0, .rd rP), (2, .call rU)]) (.s (.r [(0, .rd rP), (2, .call rU)]) (.s (.r [(0, .rd rP), (1, .call (rI .i64))]) (.sj [(.s 6, (rI .i64))] (.s .d (.c (.r [(0, .rd rApiState), (1, .call (rI .i64))]) .d)) (.s (.s .d (.c (.s (.r [(2, .ls 2)]) .d) .d)) (.s (.r [(0, .rd rApiState), (1, .ls 2)]) .d))))))))))
theorem snaptwo_Decode_calls {b : Sl} {K : (ApiState × Int) → World → Prop} {w : World} (h : snaptwo_Decode b K w) : callV Pr (tval2 ApiState.val (Value.int .i64)) 123 #[b.val] w K :=
  calls_of Pr_plain Pr_mixed Pr_func123 snaptwo_Decode_ann (rT2 rApiState (rI .i64)) (args := [b.val]) (by kernel_rfl) h

/- changeover/changeoverref23.Check -/
def ref23_Check (schema : Int) (l : Sl) (K : Bool → World → Prop) (w : World) : Prop :=
  loop1 (0 : Int) (fun i1 k2 w3 =>
  ifB (decide (i1 < (l.len : Int)))
  (opRd Pr (Instr.indexAt 25 l.val (.int .i64 i1)) pav (fun t4 =>
  opRd Pr (Instr.loadAt 9 (.pointer (some (t4.add 0)))) sval (fun t5 =>
  callV Pr Value.bool 140 #[(sval t5)] w3 fun t6 w7 =>
  ifB (!t6)
  (K false w7)
  (opRd Pr (Instr.indexAt 25 l.val (.int .i64 i1)) pav (fun t8 =>
  opRd Pr (Instr.loadAt 9 (.pointer (some (t8.add 1)))) sval (fun t9 =>
  callV Pr Value.bool 141 #[(sval t9)] w7 fun t10 w11 =>
  ifB (!t10)
  (K false w11)
  (ifB (schema == 1)
  (opRd Pr (Instr.indexAt 25 l.val (.int .i64 i1)) pav (fun t12 =>
  opRd Pr (Instr.loadAt 3 (.pointer (some (t12.add 2)))) (Value.int .i64) (fun t13 =>
  ifB (t13 != 0)
  (K false w11)
  (ifB (schema == 2)
  (opRd Pr (Instr.indexAt 25 l.val (.int .i64 i1)) pav (fun t14 =>
  opRd Pr (Instr.loadAt 3 (.pointer (some (t14.add 2)))) (Value.int .i64) (fun t15 =>
  ifB (decide (t15 < 1))
  (K false w11)
  (opRd Pr (Instr.indexAt 25 l.val (.int .i64 i1)) pav (fun t16 =>
  opRd Pr (Instr.loadAt 3 (.pointer (some (t16.add 2)))) (Value.int .i64) (fun t17 =>
  ifB (decide (t17 > 4294967296))
  (K false w11)
  (k2 (i64 (i1 + 1)) w11)) w11) w11)) w11) w11)
  (k2 (i64 (i1 + 1)) w11))) w11) w11)
  (ifB (schema == 2)
  (opRd Pr (Instr.indexAt 25 l.val (.int .i64 i1)) pav (fun t18 =>
  opRd Pr (Instr.loadAt 3 (.pointer (some (t18.add 2)))) (Value.int .i64) (fun t19 =>
  ifB (decide (t19 < 1))
  (K false w11)
  (opRd Pr (Instr.indexAt 25 l.val (.int .i64 i1)) pav (fun t20 =>
  opRd Pr (Instr.loadAt 3 (.pointer (some (t20.add 2)))) (Value.int .i64) (fun t21 =>
  ifB (decide (t21 > 4294967296))
  (K false w11)
  (k2 (i64 (i1 + 1)) w11)) w11) w11)) w11) w11)
  (k2 (i64 (i1 + 1)) w11)))) w7) w7)) w3) w3)
  (ifB (decide ((l.len : Int) ≤ 64))
  (callV Pr Value.bool 161 #[l.val] w3 fun t22 w23 =>
  K t22 w23)
  (K false w3))) w
def ref23_Check_ann : Ann := (.s .d (.s (.s .d (.b (.l [(.s 5, (rI .i64))] (.s (.s .d (.c .d .d)) (.s (.b (.s (.s (.r [(2, .rd rPA), (4, .rd rS), (5, .call rB), (10, .rd rPA), (12, .rd rS), (13, .call rB)]) (.c (.s .d .d) .d)) (.s (.r [(5, .rd rPA), (7, .rd (rI .i64)), (16, .rd rPA), (18, .rd (rI .i64)), (23, .rd rPA), (25, .rd (rI .i64))]) (.c (.s .d .d) .d)))) .d))))) (.s (.r [(5, .call rB)]) .d)))
theorem ref23_Check_calls {schema : Int} {l : Sl} {K : Bool → World → Prop} {w : World} (h : ref23_Check schema l K w) : callV Pr Value.bool 124 #[(.int .i64 schema), l.val] w K :=
  calls_of Pr_plain Pr_mixed Pr_func124 ref23_Check_ann rB (args := [(.int .i64 schema), l.val]) (by kernel_rfl) h

/- changeover/changeoverref22.Check -/
def ref22_Check (l : Sl) (K : Bool → World → Prop) (w : World) : Prop :=
  loop1 (0 : Int) (fun i1 k2 w3 =>
  ifB (decide (i1 < (l.len : Int)))
  (heldM (fun S5 w4 =>
  opH Pr S5 (Instr.indexAt 26 l.val (.int .i64 i1)) pav (fun t6 =>
  opH Pr S5 (Instr.loadAt 3 (.pointer (some ((t6.add 2).add 0)))) (Value.int .i64) (fun t7 =>
  opH Pr S5 (Instr.indexAt 26 l.val (.int .i64 i1)) pav (fun t8 =>
  opH Pr S5 (Instr.loadAt 3 (.pointer (some (t8.add 0)))) (Value.int .i64) (fun t9 =>
  ifB (t7 != t9)
  (K false w4)
  (opH Pr S5 (Instr.indexAt 26 l.val (.int .i64 i1)) pav (fun t10 =>
  opH Pr S5 (Instr.loadAt 3 (.pointer (some ((t10.add 2).add 1)))) (Value.int .i64) (fun t11 =>
  opH Pr S5 (Instr.indexAt 26 l.val (.int .i64 i1)) pav (fun t12 =>
  opH Pr S5 (Instr.loadAt 3 (.pointer (some (t12.add 1)))) (Value.int .i64) (fun t13 =>
  ifB (t11 != t13)
  (K false w4)
  (opH Pr S5 (Instr.indexAt 26 l.val (.int .i64 i1)) pav (fun t14 =>
  opH Pr S5 (Instr.loadAt 134 (.pointer (some (t14.add 2)))) ApiAnswer.val (fun t15 =>
  callV Pr (Value.int .i64) 162 #[(.agg ⟨t15.cs⟩)] w4 fun t16 w17 =>
  (S5 w17) ∧
  (ifB (t16 != 0)
  (K false w17)
  (k2 (i64 (i1 + 1)) w17))))))))))))))) w3)
  (callV Pr Value.bool 163 #[l.val] w3 fun t18 w19 =>
  K t18 w19)) w
def ref22_Check_ann : Ann := (.s .d (.s (.s .d (.b (.l [(.s 3, (rI .i64))] (.s (.s .d (.c .d .d)) (.s (.b (.s (.h (.take 0 (.take 1 (.take 2 (.take 3 (.take 4 (.take 5 (.take 6 (.take 7 (.take 8 (.take 9 (.take 10 (.take 11 (.take 12 (.take 13 (.take 14 (.take 15 (.take 16 (.take 17 (.take 18 (.take 19 (.take 20 (.take 21 (.take 22 (.take 23 (.take 24 (.take 25 (.take 26 (.take 27 (.take 28 (.take 29 (.take 30 (.take 31 (.one 32 (.take 33 (.take 34 .done))))))))))))))))))))))))))))))))))) [(2, .rd rPA), (5, .rd (rI .i64)), (8, .rd rPA), (10, .rd (rI .i64)), (15, .rd rPA), (18, .rd (rI .i64)), (21, .rd rPA), (23, .rd (rI .i64)), (29, .rd rPA), (31, .rd rApiAnswer), (32, .call (rI .i64))]) (.c (.s .d .d) .d))) .d))))) (.s (.r [(1, .call rB)]) .d)))
theorem ref22_Check_calls {l : Sl} {K : Bool → World → Prop} {w : World} (h : ref22_Check l K w) : callV Pr Value.bool 125 #[l.val] w K :=
  calls_of Pr_plain Pr_mixed Pr_func125 ref22_Check_ann rB (args := [l.val]) (by kernel_rfl) h

/- changeover/changeoverref04.Flag -/
def ref04_Flag (is : Bool) (K : Sl → World → Prop) (w : World) : Prop :=
  ifB is
  (opTy Pr (Instr.buildSlice 22 1 #[(0, (.int .u8 1))]) Sl.val (fun t1 w2 =>
  K t1 w2) w)
  (opTy Pr (Instr.buildSlice 22 1 #[(0, (.int .u8 0))]) Sl.val (fun t3 w4 =>
  K t3 w4) w)
def ref04_Flag_ann : Ann := (.s .d (.s (.s .d (.c (.s (.r [(0, .ty rSl)]) .d) .d)) (.s (.r [(0, .ty rSl)]) .d)))
theorem ref04_Flag_calls {is : Bool} {K : Sl → World → Prop} {w : World} (h : ref04_Flag is K w) : callV Pr Sl.val 126 #[(.bool is)] w K :=
  calls_of Pr_plain Pr_mixed Pr_func126 ref04_Flag_ann rSl (args := [(.bool is)]) (by kernel_rfl) h

/- changeover/changeoverref05.Key -/
def ref05_Key (s : List UInt8) (K : Bool → World → Prop) (w : World) : Prop :=
  ifB (decide (((s : List UInt8).length : Int) < 1))
  (K false w)
  (ifB (decide (((s : List UInt8).length : Int) > 24))
  (K false w)
  (loop1 (0 : Int) (fun i1 k2 w3 =>
  ifB (decide (i1 < ((s : List UInt8).length : Int)))
  (callV Pr (tval2 (Value.int .i64) (Value.int .i64)) 171 #[(sval s), (.int .i64 i1)] w3 fun t4 w5 =>
  ifB (t4.1 == 0)
  (K false w5)
  (callV Pr Value.bool 172 #[(.int .i64 t4.2)] w5 fun t6 w7 =>
  ifB (!t6)
  (K false w7)
  (k2 (i64 (i1 + t4.1)) w7)))
  (K true w3)) w))
def ref05_Key_ann : Ann := (.s .d (.s (.s .d (.c (.s .d .d) .d)) (.s .d (.s (.b (.l [(.s 3, (rI .i64))] (.s (.s .d (.c .d .d)) (.b (.s (.r [(2, .call (rT2 (rI .i64) (rI .i64)))]) (.s (.s (.r [(4, .call rB)]) (.c (.s .d .d) .d)) .d)))))) (.s .d .d)))))
theorem ref05_Key_calls {s : List UInt8} {K : Bool → World → Prop} {w : World} (h : ref05_Key s K w) : callV Pr Value.bool 140 #[(sval s)] w K :=
  calls_of Pr_plain Pr_mixed Pr_func140 ref05_Key_ann rB (args := [(sval s)]) (by kernel_rfl) h

/- changeover/changeoverref05.Val -/
def ref05_Val (s : List UInt8) (K : Bool → World → Prop) (w : World) : Prop :=
  ifB (decide (((s : List UInt8).length : Int) > 48))
  (K false w)
  (callV Pr (Value.int .i64) 173 #[(sval s)] w fun t1 w2 =>
  ifB (decide (t1 ≥ 0))
  (K false w2)
  (loop1 (0 : Int) (fun i3 k4 w5 =>
  ifB (decide (i3 < ((s : List UInt8).length : Int)))
  (opRd Pr (Instr.index 9 (sval s) (.int .i64 i3)) (Value.int .u8) (fun t6 =>
  ifB (decide (t6 < 32))
  (K false w5)
  (opRd Pr (Instr.index 9 (sval s) (.int .i64 i3)) (Value.int .u8) (fun t7 =>
  ifB (t7 == 127)
  (K false w5)
  (k4 (i64 (i3 + 1)) w5)) w5)) w5)
  (K true w5)) w2))
def ref05_Val_ann : Ann := (.s .d (.s (.s (.r [(5, .call (rI .i64))]) (.c (.s .d .d) .d)) (.s (.s .d (.b (.l [(.s 3, (rI .i64))] (.s (.s .d (.c .d .d)) (.s (.b (.s (.r [(2, .rd (rI .u8)), (7, .rd (rI .u8))]) (.c (.s .d .d) .d))) .d))))) (.s .d .d))))
theorem ref05_Val_calls {s : List UInt8} {K : Bool → World → Prop} {w : World} (h : ref05_Val s K w) : callV Pr Value.bool 141 #[(sval s)] w K :=
  calls_of Pr_plain Pr_mixed Pr_func141 ref05_Val_ann rB (args := [(sval s)]) (by kernel_rfl) h

/- changeover/conf.members -/
def conf_members (l : Sl) (K : Bool → World → Prop) (w : World) : Prop :=
  loop1 (0 : Int) (fun t1 k2 w3 =>
  ifB (decide (t1 < (l.len : Int)))
  (opRd Pr (Instr.indexAt 73 l.val (.int .i64 t1)) pav (fun t4 =>
  opRd Pr (Instr.loadAt 3 (.pointer (some t4))) (Value.int .i64) (fun n5 =>
  ifB (decide (n5 < 1))
  (K false w3)
  (ifB (decide (n5 > 9))
  (K false w3)
  (ifB (decide (t1 > 0))
  (opRd Pr (Instr.indexAt 73 l.val (.int .i64 (i64 (t1 - 1)))) pav (fun t6 =>
  opRd Pr (Instr.loadAt 3 (.pointer (some t6))) (Value.int .i64) (fun t7 =>
  ifB (decide (n5 ≤ t7))
  (K false w3)
  (k2 (i64 (t1 + 1)) w3)) w3) w3)
  (k2 (i64 (t1 + 1)) w3)))) w3) w3)
  (K (decide ((l.len : Int) > 0)) w3)) w
def conf_members_ann : Ann := (.s .d (.s (.s .d (.b (.l [(.s 7, (rI .i64))] (.s .d (.s (.c .d .d) (.s (.b (.s (.r [(1, .rd rPA), (2, .rd (rI .i64))]) (.s (.r [(14, .rd rPA), (15, .rd (rI .i64))]) (.c (.s .d .d) .d)))) .d)))))) (.s .d .d)))
theorem conf_members_calls {l : Sl} {K : Bool → World → Prop} {w : World} (h : conf_members l K w) : callV Pr Value.bool 142 #[l.val] w K :=
  calls_of Pr_plain Pr_mixed Pr_func142 conf_members_ann rB (args := [l.val]) (by kernel_rfl) h

/- changeover/sess.Check -/
def sess_Check (l : Sl) (K : Int → World → Prop) (w : World) : Prop :=
  loop1 (0 : Int) (fun t1 k2 w3 =>
  ifB (decide (t1 < (l.len : Int)))
  (opRd Pr (Instr.indexAt 26 l.val (.int .i64 t1)) pav (fun t4 =>
  opRd Pr (Instr.loadAt 136 (.pointer (some t4))) ApiSession.val (fun t5 =>
  newV (fun b6 w7 =>
  wrM b6 (fun w8 =>
  join0 (fun (j9 : World → Prop) =>
  drewM (fun w10 =>
  ifB (decide (t1 > 0))
  (opRd Pr (Instr.indexAt 26 l.val (.int .i64 (i64 (t1 - 1)))) pav (fun t11 =>
  opRd Pr (Instr.loadAt 3 (.pointer (some (t11.add 0)))) (Value.int .i64) (fun t12 =>
  ifB (decide (t5.Client ≤ t12))
  (K 3 w10)
  (j9 w10)) w10) w10)
  (j9 w10)) w8)
  (fun w13 =>
  ifB (t5.Last.Client != t5.Client)
  (K 3 w13)
  (ifB (t5.Last.Seq != t5.Seq)
  (K 3 w13)
  (callV Pr (Value.int .i64) 174 #[(.agg ⟨[(.int .i64 t5.Last.Client), (.int .i64 t5.Last.Seq), (.int .i64 t5.Last.Err), (.bool t5.Last.Found), (sval t5.Last.Val), (.int .i64 t5.Last.Rev)]⟩)] w13 fun t14 w15 =>
  kp b6 w13 w15 <|
  ifB (t14 != 0)
  (K 3 w15)
  (k2 (i64 (t1 + 1)) w15))))) w7) w3) w3) w3)
  (K 0 w3)) w
def sess_Check_ann : Ann := (.s .d (.s (.s .d (.b (.l [(.s 7, (rI .i64))] (.s .d (.s (.c .d .d) (.s (.b (.s (.r [(1, .rd rPA), (2, .rd rApiSession), (3, .nl 4), (5, .ls 4)]) (.sj [] (.s (.r [(8, .rd rPA), (10, .rd (rI .i64))]) (.c (.s .d .d) .d)) (.s (.r [(17, .call (rI .i64))]) (.c (.s .d .d) .d))))) .d)))))) (.s .d .d)))
theorem sess_Check_calls {l : Sl} {K : Int → World → Prop} {w : World} (h : sess_Check l K w) : callV Pr (Value.int .i64) 143 #[l.val] w K :=
  calls_of Pr_plain Pr_mixed Pr_func143 sess_Check_ann (rI .i64) (args := [l.val]) (by kernel_rfl) h

/- slices.ContainsFunc[[]changeover/api.Session,changeover/api.Session] -/
def slices_ContainsFunc_api_Session_api_Session (s : Sl) (f : Value) (K : Bool → World → Prop) (w : World) : Prop :=
  callV Pr (Value.int .i64) 175 #[s.val, f] w fun t1 w2 =>
  K (decide (t1 ≥ 0)) w2
def slices_ContainsFunc_api_Session_api_Session_ann : Ann := (.s .d (.s (.r [(2, .call (rI .i64))]) .d))
theorem slices_ContainsFunc_api_Session_api_Session_calls {s : Sl} {f : Value} {K : Bool → World → Prop} {w : World} (h : slices_ContainsFunc_api_Session_api_Session s f K w) : callV Pr Value.bool 144 #[s.val, f] w K :=
  calls_of Pr_plain Pr_mixed Pr_func144 slices_ContainsFunc_api_Session_api_Session_ann rB (args := [s.val, f]) (by kernel_rfl) h

/- changeover/migr.Check$1 -/
def migr_Check_1 (x : ApiSession) (K : Bool → World → Prop) (w : World) : Prop :=
  newV (fun b1 w2 =>
  K (x.Last.Rev != 0) w2) w
def migr_Check_1_ann : Ann := (.s (.r [(0, .nl 1)]) (.s .d .d))
theorem migr_Check_1_calls {x : ApiSession} {K : Bool → World → Prop} {w : World} (h : migr_Check_1 x K w) : callV Pr Value.bool 145 #[(.agg ⟨x.cs⟩)] w K :=
  calls_of Pr_plain Pr_mixed Pr_func145 migr_Check_1_ann rB (args := [(.agg ⟨x.cs⟩)]) (by kernel_rfl) h

/- changeover/kvone.Check -/
def kvone_Check (l : Sl) (K : Int → World → Prop) (w : World) : Prop :=
  ifB (decide ((l.len : Int) > 64))
  (K 3 w)
  (loop1 (0 : Int) (fun t1 k2 w3 =>
  ifB (decide (t1 < (l.len : Int)))
  (opRd Pr (Instr.indexAt 25 l.val (.int .i64 t1)) pav (fun t4 =>
  opRd Pr (Instr.loadAt 131 (.pointer (some t4))) ApiPair.val (fun t5 =>
  newV (fun b6 w7 =>
  wrM b6 (fun w8 =>
  heldM (fun S10 w9 =>
  ifB (decide (t1 > 0))
  (opH Pr S10 (Instr.indexAt 25 l.val (.int .i64 (i64 (t1 - 1)))) pav (fun t11 =>
  opH Pr S10 (Instr.loadAt 9 (.pointer (some (t11.add 0)))) sval (fun t12 =>
  ifB ((strLt t5.Key t12) || (strEq t5.Key t12))
  (K 3 w9)
  (callV Pr Value.bool 176 #[(sval t5.Key)] w9 fun t13 w14 =>
  kp b6 w9 w14 <|
  (S10 w14) ∧
  (ifB (!t13)
  (K 3 w14)
  (callV Pr Value.bool 177 #[(sval t5.Val)] w14 fun t15 w16 =>
  kp b6 w14 w16 <|
  (S10 w16) ∧
  (ifB (!t15)
  (K 3 w16)
  (ifB (t5.Rev != 0)
  (K 3 w16)
  (k2 (i64 (t1 + 1)) w16)))))))))
  (callV Pr Value.bool 176 #[(sval t5.Key)] w9 fun t17 w18 =>
  kp b6 w9 w18 <|
  (S10 w18) ∧
  (ifB (!t17)
  (K 3 w18)
  (callV Pr Value.bool 177 #[(sval t5.Val)] w18 fun t19 w20 =>
  kp b6 w18 w20 <|
  (S10 w20) ∧
  (ifB (!t19)
  (K 3 w20)
  (ifB (t5.Rev != 0)
  (K 3 w20)
  (k2 (i64 (t1 + 1)) w20))))))) w8) w7) w3) w3) w3)
  (K 0 w3)) w)
def kvone_Check_ann : Ann := (.s .d (.s (.s .d (.c (.s .d .d) .d)) (.s (.s .d (.b (.l [(.s 10, (rI .i64))] (.s .d (.s (.c .d .d) (.s (.b (.s (.r [(1, .rd rPA), (2, .rd rApiPair), (3, .nl 4), (5, .ls 4)]) (.s (.h (.take 0 (.take 1 (.take 2 (.take 3 (.take 4 (.take 5 (.take 6 (.take 7 (.take 8 (.take 9 (.take 10 (.take 11 (.take 12 (.take 13 (.take 14 (.take 15 (.one 16 (.take 17 (.take 18 (.take 19 (.take 20 (.take 21 (.one 22 (.take 23 (.take 24 (.take 25 (.take 26 (.take 27 (.take 28 (.take 29 .done)))))))))))))))))))))))))))))) [(8, .rd rPA), (10, .rd rS), (16, .call rB), (22, .call rB)]) (.c (.s .d .d) .d)))) .d)))))) (.s .d .d))))
theorem kvone_Check_calls {l : Sl} {K : Int → World → Prop} {w : World} (h : kvone_Check l K w) : callV Pr (Value.int .i64) 146 #[l.val] w K :=
  calls_of Pr_plain Pr_mixed Pr_func146 kvone_Check_ann (rI .i64) (args := [l.val]) (by kernel_rfl) h

/- changeover/kvtwo.Check -/
def kvtwo_Check (l : Sl) (K : Int → World → Prop) (w : World) : Prop :=
  callV Pr Value.bool 179 #[l.val, (.func (.func 178) #[] #[])] w fun t1 w2 =>
  ifB t1
  (K 3 w2)
  (callV Pr Sl.val 180 #[l.val] w2 fun t3 w4 =>
  callV Pr (Value.int .i64) 146 #[t3.val] w4 fun t5 w6 =>
  K t5 w6)
def kvtwo_Check_ann : Ann := (.s .d (.s .d (.s (.s (.r [(2, .call rB)]) (.c (.s .d .d) .d)) (.s (.r [(1, .call rSl), (2, .call (rI .i64))]) .d))))
theorem kvtwo_Check_calls {l : Sl} {K : Int → World → Prop} {w : World} (h : kvtwo_Check l K w) : callV Pr (Value.int .i64) 147 #[l.val] w K :=
  calls_of Pr_plain Pr_mixed Pr_func147 kvtwo_Check_ann (rI .i64) (args := [l.val]) (by kernel_rfl) h

/- (*changeover/pack.Writer).Text -/
def pack_Writer_Text (w_ : Option Addr) (s : List UInt8) (K : Unit → World → Prop) (w : World) : Prop :=
  opTy Pr (convert 9 22 (sval s)) Sl.val (fun t1 w2 =>
  callV Pr uval 71 #[(.pointer w_), t1.val] w2 fun t3 w4 =>
  K () w4) w
def pack_Writer_Text_ann : Ann := (.r [(2, .ty rSl), (3, .call rU)])
theorem pack_Writer_Text_calls {w_ : Option Addr} {s : List UInt8} {K : Unit → World → Prop} {w : World} (h : pack_Writer_Text w_ s K w) : callV Pr uval 148 #[(.pointer w_), (sval s)] w K :=
  calls_of Pr_plain Pr_mixed Pr_func148 pack_Writer_Text_ann rU (args := [(.pointer w_), (sval s)]) (by kernel_rfl) h

/- changeover/answer.Put -/
def answer_Put (w_ : Option Addr) (v : Int) (a : ApiAnswer) (K : Unit → World → Prop) (w : World) : Prop :=
  newV (fun b1 w2 =>
  loop1 (0 : Int) (fun t3 k4 w5 =>
  ifB (decide (t3 < 3))
  (opRd Pr (Instr.index 207 (.agg ⟨[(.int .i64 a.Client), (.int .i64 a.Seq), (.int .i64 a.Err)]⟩) (.int .i64 t3)) (Value.int .i64) (fun n6 =>
  callV Pr uval 70 #[(.pointer w_), (.int .i64 n6)] w5 fun t7 w8 =>
  kp b1 w5 w8 <|
  k4 (i64 (t3 + 1)) w8) w5)
  (callV Pr uval 181 #[(.pointer w_), (.bool a.Found)] w5 fun t9 w10 =>
  kp b1 w5 w10 <|
  callV Pr uval 148 #[(.pointer w_), (sval a.Val)] w10 fun t11 w12 =>
  kp b1 w10 w12 <|
  ifB (v != 1)
  (callV Pr uval 70 #[(.pointer w_), (.int .i64 a.Rev)] w12 fun t13 w14 =>
  kp b1 w12 w14 <|
  K () w14)
  (K () w12))) w2) w
def answer_Put_ann : Ann := (.s (.r [(0, .nl 5)]) (.s (.s .d (.b (.l [(.s 15, (rI .i64))] (.s .d (.s (.c .d .d) (.s (.b (.s (.r [(0, .rd (rI .i64))]) (.r [(2, .call rU)]))) .d)))))) (.s (.r [(3, .call rU)]) (.s (.r [(3, .call rU)]) (.s .d (.c (.r [(3, .call rU)]) .d))))))
theorem answer_Put_calls {w_ : Option Addr} {v : Int} {a : ApiAnswer} {K : Unit → World → Prop} {w : World} (h : answer_Put w_ v a K w) : callV Pr uval 149 #[(.pointer w_), (.int .i64 v), (.agg ⟨a.cs⟩)] w K :=
  calls_of Pr_plain Pr_mixed Pr_func149 answer_Put_ann rU (args := [(.pointer w_), (.int .i64 v), (.agg ⟨a.cs⟩)]) (by kernel_rfl) h

/- (*changeover/pack.Reader).Count$1 -/
def pack_Reader_Count_1 (c_x0 : Addr) (c_x1 : Addr) (K : Int → World → Prop) (w : World) : Prop :=
  opRd Pr (Instr.loadAt 78 (.pointer (some c_x0))) Value.pointer (fun t1 =>
  opRd Pr (Instr.loadAt 3 (.pointer (some c_x1))) (Value.int .i64) (fun t2 =>
  callV Pr (Value.int .i64) 151 #[(.pointer t1), (.int .i64 t2)] w fun t3 w4 =>
  K t3 w4) w) w
def pack_Reader_Count_1_ann : Ann := (.s .d (.s (.r [(0, .rd rP), (1, .rd (rI .i64)), (2, .call (rI .i64))]) .d))
theorem pack_Reader_Count_1_calls {c_x0 : Addr} {c_x1 : Addr} {K : Int → World → Prop} {w : World} (h : pack_Reader_Count_1 c_x0 c_x1 K w) : callV Pr (Value.int .i64) 150 #[(.pointer (some c_x0)), (.pointer (some c_x1))] w K :=
  calls_of Pr_plain Pr_mixed Pr_func150 pack_Reader_Count_1_ann (rI .i64) (args := [(.pointer (some c_x0)), (.pointer (some c_x1))]) (by kernel_rfl) h

/- (*changeover/pack.Reader).counted -/
def pack_Reader_counted (r : Option Addr) (most : Int) (K : Int → World → Prop) (w : World) : Prop :=
  callV Pr (Value.int .i64) 76 #[(.pointer r), (.int .i64 most)] w fun n1 w2 =>
  opRd Pr (nilSem (.pointer r)) pav (fun t3 =>
  opRd Pr (Instr.loadAt 31 (.pointer (some (t3.add 2)))) (Value.int .i64) (fun t4 =>
  ifB (t4 == 0)
  (callV Pr (Value.int .i64) 120 #[(.pointer r)] w2 fun t5 w6 =>
  ifB (decide (n1 > t5))
  (callV Pr uval 115 #[(.pointer r), (.int .i64 1)] w6 fun t7 w8 =>
  K n1 w8)
  (K n1 w6))
  (K n1 w2)) w2) w2
def pack_Reader_counted_ann : Ann := (.s .d (.s (.r [(2, .call (rI .i64))]) (.s (.s (.r [(1, .rd rPA), (3, .rd (rI .i64)), (8, .call (rI .i64))]) (.c (.r [(1, .call rU)]) .d)) (.s .d .d))))
theorem pack_Reader_counted_calls {r : Option Addr} {most : Int} {K : Int → World → Prop} {w : World} (h : pack_Reader_counted r most K w) : callV Pr (Value.int .i64) 151 #[(.pointer r), (.int .i64 most)] w K :=
  calls_of Pr_plain Pr_mixed Pr_func151 pack_Reader_counted_ann (rI .i64) (args := [(.pointer r), (.int .i64 most)]) (by kernel_rfl) h

/- changeover/snapone.Decode$1 -/
def snapone_Decode_1 (c_x0 : Addr) (K : ApiPair → World → Prop) (w : World) : Prop :=
  newV (fun b1 w2 =>
  opRd Pr (Instr.loadAt 78 (.pointer (some c_x0))) Value.pointer (fun t3 =>
  callV Pr sval 154 #[(.pointer t3), (.int .i64 1048576)] w2 fun key4 w5 =>
  kp b1 w2 w5 <|
  opRd Pr (Instr.loadAt 78 (.pointer (some c_x0))) Value.pointer (fun t6 =>
  callV Pr sval 154 #[(.pointer t6), (.int .i64 1048576)] w5 fun t7 w8 =>
  kp b1 w5 w8 <|
  wrM b1 (fun w9 =>
  K (ApiPair.mk key4 t7 0) w9) w8) w5) w2) w
def snapone_Decode_1_ann : Ann := (.s (.r [(0, .nl 1)]) (.s (.r [(0, .rd rP), (1, .call rS)]) (.s (.r [(1, .rd rP), (2, .call rS), (4, .ls 1)]) .d)))
theorem snapone_Decode_1_calls {c_x0 : Addr} {K : ApiPair → World → Prop} {w : World} (h : snapone_Decode_1 c_x0 K w) : callV Pr ApiPair.val 153 #[(.pointer (some c_x0))] w K :=
  calls_of Pr_plain Pr_mixed Pr_func153 snapone_Decode_1_ann rApiPair (args := [(.pointer (some c_x0))]) (by kernel_rfl) h

/- (*changeover/pack.Reader).Text -/
def pack_Reader_Text (r : Option Addr) (most : Int) (K : (List UInt8) → World → Prop) (w : World) : Prop :=
  callV Pr Sl.val 78 #[(.pointer r), (.int .i64 most)] w fun t1 w2 =>
  opRd Pr (convert 22 9 t1.val) sval (fun t3 =>
  K t3 w2) w2
def pack_Reader_Text_ann : Ann := (.s .d (.s (.r [(2, .call rSl), (3, .rd rS)]) .d))
theorem pack_Reader_Text_calls {r : Option Addr} {most : Int} {K : (List UInt8) → World → Prop} {w : World} (h : pack_Reader_Text r most K w) : callV Pr sval 154 #[(.pointer r), (.int .i64 most)] w K :=
  calls_of Pr_plain Pr_mixed Pr_func154 pack_Reader_Text_ann rS (args := [(.pointer r), (.int .i64 most)]) (by kernel_rfl) h

/- changeover/snapone.Decode$2 -/
def snapone_Decode_2 (c_x0 : Addr) (K : ApiSession → World → Prop) (w : World) : Prop :=
  newV (fun b1 w2 =>
  opRd Pr (Instr.loadAt 78 (.pointer (some c_x0))) Value.pointer (fun t3 =>
  callV Pr ApiAnswer.val 157 #[(.pointer t3), (.int .i64 1)] w2 fun t4 w5 =>
  kp b1 w2 w5 <|
  newV (fun b6 w7 =>
  wrM b6 (fun w8 =>
  wrM b1 (fun w9 =>
  K (ApiSession.mk t4.Client t4.Seq t4) w9) w8) w7) w5) w2) w
def snapone_Decode_2_ann : Ann := (.s (.r [(0, .nl 1)]) (.s (.r [(0, .rd rP), (1, .call rApiAnswer), (2, .nl 2), (3, .ls 2)]) (.s (.r [(6, .ls 1)]) .d)))
theorem snapone_Decode_2_calls {c_x0 : Addr} {K : ApiSession → World → Prop} {w : World} (h : snapone_Decode_2 c_x0 K w) : callV Pr ApiSession.val 156 #[(.pointer (some c_x0))] w K :=
  calls_of Pr_plain Pr_mixed Pr_func156 snapone_Decode_2_ann rApiSession (args := [(.pointer (some c_x0))]) (by kernel_rfl) h

/- changeover/answer.Get -/
def answer_Get (r : Option Addr) (v : Int) (K : ApiAnswer → World → Prop) (w : World) : Prop :=
  newV (fun b1 w2 =>
  newV (fun b3 w4 =>
  callV Pr (Value.int .i64) 37 #[(.pointer r), (.int .i64 9223372036854775807)] w4 fun t5 w6 =>
  kp b3 w4 w6 <|
  kp b1 w4 w6 <|
  wrM b3 (fun w7 =>
  callV Pr (Value.int .i64) 37 #[(.pointer r), (.int .i64 9223372036854775807)] w7 fun t8 w9 =>
  kp b3 w7 w9 <|
  kp b1 w7 w9 <|
  wrM b3 (fun w10 =>
  callV Pr (Value.int .i64) 37 #[(.pointer r), (.int .i64 9223372036854775807)] w10 fun t11 w12 =>
  kp b3 w10 w12 <|
  kp b1 w10 w12 <|
  wrM b3 (fun w13 =>
  callV Pr Value.bool 182 #[(.pointer r)] w13 fun t14 w15 =>
  kp b3 w13 w15 <|
  kp b1 w13 w15 <|
  wrM b3 (fun w16 =>
  callV Pr sval 154 #[(.pointer r), (.int .i64 1048576)] w16 fun t17 w18 =>
  kp b3 w16 w18 <|
  kp b1 w16 w18 <|
  wrM b3 (fun w19 =>
  ifB (v != 1)
  (callV Pr (Value.int .i64) 37 #[(.pointer r), (.int .i64 9223372036854775807)] w19 fun t20 w21 =>
  kp b3 w19 w21 <|
  kp b1 w19 w21 <|
  wrM b3 (fun w22 =>
  wrM b1 (fun w23 =>
  K (ApiAnswer.mk t5 t8 t11 t14 t17 t20) w23) w22) w21)
  (wrM b1 (fun w24 =>
  K (ApiAnswer.mk t5 t8 t11 t14 t17 0) w24) w19)) w18) w15) w12) w9) w6) w2) w
def answer_Get_ann : Ann := (.s (.r [(0, .nl 4)]) (.s (.r [(0, .nl 5)]) (.s (.r [(1, .call (rI .i64)), (3, .ls 5)]) (.s (.r [(1, .call (rI .i64)), (3, .ls 5)]) (.s (.r [(1, .call (rI .i64)), (3, .ls 5)]) (.s (.r [(1, .call rB), (3, .ls 5)]) (.s (.r [(1, .call rS), (3, .ls 5)]) (.s (.s .d (.c (.r [(1, .call (rI .i64)), (3, .ls 5)]) .d)) (.s (.r [(1, .ls 4)]) .d)))))))))
theorem answer_Get_calls {r : Option Addr} {v : Int} {K : ApiAnswer → World → Prop} {w : World} (h : answer_Get r v K w) : callV Pr ApiAnswer.val 157 #[(.pointer r), (.int .i64 v)] w K :=
  calls_of Pr_plain Pr_mixed Pr_func157 answer_Get_ann rApiAnswer (args := [(.pointer r), (.int .i64 v)]) (by kernel_rfl) h

/- changeover/snaptwo.Decode$1 -/
def snaptwo_Decode_1 (c_x0 : Addr) (c_x1 : Addr) (K : Unit → World → Prop) (w : World) : Prop :=
  opRd Pr (Instr.loadAt 78 (.pointer (some c_x0))) Value.pointer (fun t1 =>
  callV Pr sval 154 #[(.pointer t1), (.int .i64 1048576)] w fun t2 w3 =>
  newV (fun b4 w5 =>
  wrM b4 (fun w6 =>
  opRd Pr (Instr.loadAt 78 (.pointer (some c_x0))) Value.pointer (fun t7 =>
  callV Pr (Value.int .i64) 37 #[(.pointer t7), (.int .i64 9223372036854775807)] w6 fun t8 w9 =>
  kp b4 w6 w9 <|
  wrM b4 (fun w10 =>
  opRd Pr (Instr.loadAt 78 (.pointer (some c_x0))) Value.pointer (fun t11 =>
  callV Pr sval 154 #[(.pointer t11), (.int .i64 1048576)] w10 fun t12 w13 =>
  kp b4 w10 w13 <|
  wrM b4 (fun w14 =>
  opRd Pr (Instr.loadAt 25 (.pointer (some (c_x1.add 1)))) Sl.val (fun t15 =>
  opTy Pr (Instr.buildSlice 25 1 #[(0, (.agg ⟨[(sval t2), (sval t12), (.int .i64 t8)]⟩))]) Sl.val (fun t16 w17 =>
  kp b4 w14 w17 <|
  opTy Pr (Builtin.append_ #[25, 25] 25 #[t15.val, t16.val]) Sl.val (fun t18 w19 =>
  kp b4 w17 w19 <|
  opUn Pr (Instr.storeAt 25 (.pointer (some (c_x1.add 1))) t18.val) (fun w20 =>
  kp b4 w19 w20 <|
  K () w20) w19) w17) w14) w14) w13) w10) w9) w6) w5) w3) w
def snaptwo_Decode_1_ann : Ann := (.s (.r [(0, .rd rP), (1, .call rS), (3, .nl 2), (4, .ls 2)]) (.s (.r [(0, .rd rP), (1, .call (rI .i64)), (3, .ls 2)]) (.s (.r [(0, .rd rP), (1, .call rS), (3, .ls 2)]) (.r [(1, .rd rSl), (3, .ty rSl), (4, .ty rSl), (6, .un)]))))
theorem snaptwo_Decode_1_calls {c_x0 : Addr} {c_x1 : Addr} {K : Unit → World → Prop} {w : World} (h : snaptwo_Decode_1 c_x0 c_x1 K w) : callV Pr uval 159 #[(.pointer (some c_x0)), (.pointer (some c_x1))] w K :=
  calls_of Pr_plain Pr_mixed Pr_func159 snaptwo_Decode_1_ann rU (args := [(.pointer (some c_x0)), (.pointer (some c_x1))]) (by kernel_rfl) h

/- changeover/snaptwo.Decode$2 -/
def snaptwo_Decode_2 (c_x0 : Addr) (c_x1 : Addr) (K : Unit → World → Prop) (w : World) : Prop :=
  opRd Pr (Instr.loadAt 78 (.pointer (some c_x0))) Value.pointer (fun t1 =>
  callV Pr ApiAnswer.val 157 #[(.pointer t1), (.int .i64 2)] w fun t2 w3 =>
  newV (fun b4 w5 =>
  wrM b4 (fun w6 =>
  opRd Pr (Instr.loadAt 26 (.pointer (some (c_x1.add 2)))) Sl.val (fun t7 =>
  opTy Pr (Instr.buildSlice 26 1 #[(0, (.agg ⟨[(.int .i64 t2.Client), (.int .i64 t2.Seq), (.int .i64 t2.Client), (.int .i64 t2.Seq), (.int .i64 t2.Err), (.bool t2.Found), (sval t2.Val), (.int .i64 t2.Rev)]⟩))]) Sl.val (fun t8 w9 =>
  kp b4 w6 w9 <|
  opTy Pr (Builtin.append_ #[26, 26] 26 #[t7.val, t8.val]) Sl.val (fun t10 w11 =>
  kp b4 w9 w11 <|
  opUn Pr (Instr.storeAt 26 (.pointer (some (c_x1.add 2))) t10.val) (fun w12 =>
  kp b4 w11 w12 <|
  K () w12) w11) w9) w6) w6) w5) w3) w
def snaptwo_Decode_2_ann : Ann := (.s (.r [(0, .rd rP), (1, .call rApiAnswer), (2, .nl 2), (3, .ls 2)]) (.r [(1, .rd rSl), (8, .ty rSl), (9, .ty rSl), (11, .un)]))
theorem snaptwo_Decode_2_calls {c_x0 : Addr} {c_x1 : Addr} {K : Unit → World → Prop} {w : World} (h : snaptwo_Decode_2 c_x0 c_x1 K w) : callV Pr uval 160 #[(.pointer (some c_x0)), (.pointer (some c_x1))] w K :=
  calls_of Pr_plain Pr_mixed Pr_func160 snaptwo_Decode_2_ann rU (args := [(.pointer (some c_x0)), (.pointer (some c_x1))]) (by kernel_rfl) h

/- changeover/changeoverref23.Rise -/
def ref23_Rise (l : Sl) (K : Bool → World → Prop) (w : World) : Prop :=
  loop1 (1 : Int) (fun i1 k2 w3 =>
  ifB (decide (i1 < (l.len : Int)))
  (drewM (fun w4 =>
  opRd Pr (Instr.indexAt 25 l.val (.int .i64 i1)) pav (fun t5 =>
  opRd Pr (Instr.loadAt 9 (.pointer (some (t5.add 0)))) sval (fun t6 =>
  opRd Pr (Instr.indexAt 25 l.val (.int .i64 (i64 (i1 - 1)))) pav (fun t7 =>
  opRd Pr (Instr.loadAt 9 (.pointer (some (t7.add 0)))) sval (fun t8 =>
  ifB ((strLt t6 t8) || (strEq t6 t8))
  (K false w4)
  (k2 (i64 (i1 + 1)) w4)) w4) w4) w4) w4) w3)
  (K true w3)) w
def ref23_Rise_ann : Ann := (.s .d (.s (.s .d (.b (.l [(.s 3, (rI .i64))] (.s (.s .d (.c .d .d)) (.s (.b (.s (.r [(2, .rd rPA), (4, .rd rS), (8, .rd rPA), (10, .rd rS)]) (.c (.s .d .d) .d))) .d))))) (.s .d .d)))
theorem ref23_Rise_calls {l : Sl} {K : Bool → World → Prop} {w : World} (h : ref23_Rise l K w) : callV Pr Value.bool 161 #[l.val] w K :=
  calls_of Pr_plain Pr_mixed Pr_func161 ref23_Rise_ann rB (args := [l.val]) (by kernel_rfl) h

/- changeover/changeoverref09.Check -/
def ref09_Check (a : ApiAnswer) (K : Int → World → Prop) (w : World) : Prop :=
  newV (fun b1 w2 =>
  ifB (decide (a.Client < 1))
  (K 6 w2)
  (ifB (decide (a.Client > 8))
  (K 6 w2)
  (ifB (decide (a.Seq < 1))
  (K 6 w2)
  (ifB (decide (a.Seq > 4294967296))
  (K 6 w2)
  (ifB (decide (a.Err < 0))
  (K 6 w2)
  (ifB (decide (a.Err > 17))
  (K 6 w2)
  (ifB (decide (a.Rev < 0))
  (K 6 w2)
  (ifB (decide (a.Rev > 4294967296))
  (K 6 w2)
  (callV Pr Value.bool 141 #[(sval a.Val)] w2 fun t3 w4 =>
  kp b1 w2 w4 <|
  ifB (!t3)
  (K 7 w4)
  (K 0 w4)))))))))) w
def ref09_Check_ann : Ann := (.s (.r [(0, .nl 1)]) (.s (.s .d (.c (.s .d .d) .d)) (.s (.s (.r [(2, .call rB)]) (.c (.s .d .d) .d)) (.s .d .d))))
theorem ref09_Check_calls {a : ApiAnswer} {K : Int → World → Prop} {w : World} (h : ref09_Check a K w) : callV Pr (Value.int .i64) 162 #[(.agg ⟨a.cs⟩)] w K :=
  calls_of Pr_plain Pr_mixed Pr_func162 ref09_Check_ann (rI .i64) (args := [(.agg ⟨a.cs⟩)]) (by kernel_rfl) h

/- changeover/changeoverref22.Rise -/
def ref22_Rise (l : Sl) (K : Bool → World → Prop) (w : World) : Prop :=
  loop1 (1 : Int) (fun i1 k2 w3 =>
  ifB (decide (i1 < (l.len : Int)))
  (drewM (fun w4 =>
  opRd Pr (Instr.indexAt 26 l.val (.int .i64 i1)) pav (fun t5 =>
  opRd Pr (Instr.loadAt 3 (.pointer (some (t5.add 0)))) (Value.int .i64) (fun t6 =>
  opRd Pr (Instr.indexAt 26 l.val (.int .i64 (i64 (i1 - 1)))) pav (fun t7 =>
  opRd Pr (Instr.loadAt 3 (.pointer (some (t7.add 0)))) (Value.int .i64) (fun t8 =>
  ifB (decide (t6 ≤ t8))
  (K false w4)
  (k2 (i64 (i1 + 1)) w4)) w4) w4) w4) w4) w3)
  (K true w3)) w
def ref22_Rise_ann : Ann := (.s .d (.s (.s .d (.b (.l [(.s 3, (rI .i64))] (.s (.s .d (.c .d .d)) (.s (.b (.s (.r [(2, .rd rPA), (4, .rd (rI .i64)), (8, .rd rPA), (10, .rd (rI .i64))]) (.c (.s .d .d) .d))) .d))))) (.s .d .d)))
theorem ref22_Rise_calls {l : Sl} {K : Bool → World → Prop} {w : World} (h : ref22_Rise l K w) : callV Pr Value.bool 163 #[l.val] w K :=
  calls_of Pr_plain Pr_mixed Pr_func163 ref22_Rise_ann rB (args := [l.val]) (by kernel_rfl) h

/- changeover/changeoverref05.Size -/
def ref05_Size (s : List UInt8) (i : Int) (K : (Int × Int) → World → Prop) (w : World) : Prop :=
  opRd Pr (Instr.index 9 (sval s) (.int .i64 i)) (Value.int .u8) (fun t1 =>
  join3 (fun (j2 : Int → Int → Int → World → Prop) =>
  ifB (decide ((IntKind.i64.wrap t1) < 128))
  (K (1, (IntKind.i64.wrap t1)) w)
  (ifB (decide ((IntKind.i64.wrap t1) ≥ 194))
  (ifB (decide ((IntKind.i64.wrap t1) ≤ 223))
  (j2 2 128 (i64 ((IntKind.i64.wrap t1) - 192)) w)
  (ifB (decide ((IntKind.i64.wrap t1) ≥ 224))
  (ifB (decide ((IntKind.i64.wrap t1) ≤ 239))
  (j2 3 2048 (i64 ((IntKind.i64.wrap t1) - 224)) w)
  (ifB (decide ((IntKind.i64.wrap t1) ≥ 240))
  (ifB (decide ((IntKind.i64.wrap t1) ≤ 244))
  (j2 4 65536 (i64 ((IntKind.i64.wrap t1) - 240)) w)
  (K (0, 0) w))
  (K (0, 0) w)))
  (ifB (decide ((IntKind.i64.wrap t1) ≥ 240))
  (ifB (decide ((IntKind.i64.wrap t1) ≤ 244))
  (j2 4 65536 (i64 ((IntKind.i64.wrap t1) - 240)) w)
  (K (0, 0) w))
  (K (0, 0) w))))
  (ifB (decide ((IntKind.i64.wrap t1) ≥ 224))
  (ifB (decide ((IntKind.i64.wrap t1) ≤ 239))
  (j2 3 2048 (i64 ((IntKind.i64.wrap t1) - 224)) w)
  (ifB (decide ((IntKind.i64.wrap t1) ≥ 240))
  (ifB (decide ((IntKind.i64.wrap t1) ≤ 244))
  (j2 4 65536 (i64 ((IntKind.i64.wrap t1) - 240)) w)
  (K (0, 0) w))
  (K (0, 0) w)))
  (ifB (decide ((IntKind.i64.wrap t1) ≥ 240))
  (ifB (decide ((IntKind.i64.wrap t1) ≤ 244))
  (j2 4 65536 (i64 ((IntKind.i64.wrap t1) - 240)) w)
  (K (0, 0) w))
  (K (0, 0) w)))))
  (fun n3 low4 v5 w6 =>
  ifB (decide ((i64 (i + n3)) > ((s : List UInt8).length : Int)))
  (K (0, 0) w6)
  (loop2 (v5 : Int) (1 : Int) (fun v7 k8 k9 w10 =>
  ifB (decide (k8 < n3))
  (opRd Pr (Instr.index 9 (sval s) (.int .i64 (i64 (i + k8)))) (Value.int .u8) (fun t11 =>
  ifB (decide ((IntKind.i64.wrap t11) < 128))
  (K (0, 0) w10)
  (ifB (decide ((IntKind.i64.wrap t11) > 191))
  (K (0, 0) w10)
  (k9 (i64 ((i64 ((i64 (64 * v7)) + (IntKind.i64.wrap t11))) - 128)) (i64 (k8 + 1)) w10))) w10)
  (ifB (decide (v7 < low4))
  (K (0, 0) w10)
  (ifB (decide (v7 > 1114111))
  (K (0, 0) w10)
  (ifB (decide (v7 ≥ 55296))
  (ifB (decide (v7 ≤ 57343))
  (K (0, 0) w10)
  (K (n3, v7) w10))
  (K (n3, v7) w10))))) w6))) w
def ref05_Size_ann : Ann := (.s .d (.s (.r [(2, .rd (rI .u8))]) (.s .d (.sj [(.s 7, (rI .i64)), (.s 8, (rI .i64)), (.s 9, (rI .i64))] (.b (.s .d (.c (.s .d .d) (.s .d (.c .d (.s .d (.c .d (.s .d (.c .d (.s .d .d)))))))))) (.s (.s .d (.c (.s .d .d) .d)) (.s (.s .d (.b (.l [(.s 9, (rI .i64)), (.s 10, (rI .i64))] (.s (.s .d (.c .d .d)) (.s (.b (.s (.r [(4, .rd (rI .u8))]) (.s (.s .d (.c (.s .d .d) .d)) .d))) .d))))) (.s (.s .d (.c (.s .d .d) .d)) (.s .d .d))))))))
theorem ref05_Size_calls {s : List UInt8} {i : Int} {K : (Int × Int) → World → Prop} {w : World} (h : ref05_Size s i K w) : callV Pr (tval2 (Value.int .i64) (Value.int .i64)) 171 #[(sval s), (.int .i64 i)] w K :=
  calls_of Pr_plain Pr_mixed Pr_func171 ref05_Size_ann (rT2 (rI .i64) (rI .i64)) (args := [(sval s), (.int .i64 i)]) (by kernel_rfl) h

/- changeover/changeoverref05.Plain -/
def ref05_Plain (r : Int) (K : Bool → World → Prop) (w : World) : Prop :=
  loop1 (0 : Int) (fun i1 k2 w3 =>
  ifB (decide (i1 < ((cs66_24119 : List UInt8).length : Int)))
  (opRd Pr (Instr.index 9 (sval cs66_24119) (.int .i64 i1)) (Value.int .u8) (fun t4 =>
  ifB ((IntKind.i64.wrap t4) == r)
  (K true w3)
  (k2 (i64 (i1 + 1)) w3)) w3)
  (ifB (decide (r ≥ 161))
  (K (r != 65533) w3)
  (K false w3))) w
def ref05_Plain_ann : Ann := (.s .d (.s .d (.s (.s .d (.b (.l [(.s 4, (rI .i64))] (.s (.s .d (.c .d .d)) (.s (.b (.s (.r [(2, .rd (rI .u8))]) (.c (.s .d .d) .d))) .d))))) (.s .d .d))))
theorem ref05_Plain_calls {r : Int} {K : Bool → World → Prop} {w : World} (h : ref05_Plain r K w) : callV Pr Value.bool 172 #[(.int .i64 r)] w K :=
  calls_of Pr_plain Pr_mixed Pr_func172 ref05_Plain_ann rB (args := [(.int .i64 r)]) (by kernel_rfl) h

/- changeover/changeoverref05.Bad -/
def ref05_Bad (s : List UInt8) (K : Int → World → Prop) (w : World) : Prop :=
  loop1 (0 : Int) (fun i1 k2 w3 =>
  ifB (decide (i1 < ((s : List UInt8).length : Int)))
  (callV Pr (tval2 (Value.int .i64) (Value.int .i64)) 171 #[(sval s), (.int .i64 i1)] w3 fun t4 w5 =>
  ifB (t4.1 == 0)
  (K i1 w5)
  (k2 (i64 (i1 + t4.1)) w5))
  (K (-1) w3)) w
def ref05_Bad_ann : Ann := (.s .d (.s .d (.s (.b (.l [(.s 3, (rI .i64))] (.s (.s .d (.c .d .d)) (.b (.s (.r [(2, .call (rT2 (rI .i64) (rI .i64)))]) (.s (.s .d (.c (.s .d .d) .d)) .d)))))) (.s .d .d))))
theorem ref05_Bad_calls {s : List UInt8} {K : Int → World → Prop} {w : World} (h : ref05_Bad s K w) : callV Pr (Value.int .i64) 173 #[(sval s)] w K :=
  calls_of Pr_plain Pr_mixed Pr_func173 ref05_Bad_ann (rI .i64) (args := [(sval s)]) (by kernel_rfl) h

/- changeover/answer.Check -/
def answer_Check (a : ApiAnswer) (K : Int → World → Prop) (w : World) : Prop :=
  newV (fun b1 w2 =>
  callV Pr Value.bool 194 #[(.int .i64 a.Client), (.int .i64 1), (.int .i64 8)] w2 fun t3 w4 =>
  kp b1 w2 w4 <|
  ifB t3
  (callV Pr Value.bool 194 #[(.int .i64 a.Seq), (.int .i64 1), (.int .i64 4294967296)] w4 fun t5 w6 =>
  kp b1 w4 w6 <|
  ifB t5
  (callV Pr Value.bool 194 #[(.int .i64 a.Err), (.int .i64 0), (.int .i64 17)] w6 fun t7 w8 =>
  kp b1 w6 w8 <|
  ifB t7
  (callV Pr Value.bool 194 #[(.int .i64 a.Rev), (.int .i64 0), (.int .i64 4294967296)] w8 fun t9 w10 =>
  kp b1 w8 w10 <|
  ifB (!t9)
  (K 6 w10)
  (callV Pr Value.bool 177 #[(sval a.Val)] w10 fun t11 w12 =>
  kp b1 w10 w12 <|
  ifB (!t11)
  (K 7 w12)
  (K 0 w12)))
  (ifB (!false)
  (K 6 w8)
  (callV Pr Value.bool 177 #[(sval a.Val)] w8 fun t13 w14 =>
  kp b1 w8 w14 <|
  ifB (!t13)
  (K 7 w14)
  (K 0 w14))))
  (ifB (!false)
  (K 6 w6)
  (callV Pr Value.bool 177 #[(sval a.Val)] w6 fun t15 w16 =>
  kp b1 w6 w16 <|
  ifB (!t15)
  (K 7 w16)
  (K 0 w16))))
  (ifB (!false)
  (K 6 w4)
  (callV Pr Value.bool 177 #[(sval a.Val)] w4 fun t17 w18 =>
  kp b1 w4 w18 <|
  ifB (!t17)
  (K 7 w18)
  (K 0 w18)))) w
def answer_Check_ann : Ann := (.s (.r [(0, .nl 1)]) (.s .d (.s (.r [(3, .call rB), (8, .call rB), (14, .call rB), (20, .call rB)]) (.s (.b (.s .d (.c (.s .d .d) (.s (.r [(2, .call rB)]) (.c (.s .d .d) .d))))) (.s .d .d)))))
theorem answer_Check_calls {a : ApiAnswer} {K : Int → World → Prop} {w : World} (h : answer_Check a K w) : callV Pr (Value.int .i64) 174 #[(.agg ⟨a.cs⟩)] w K :=
  calls_of Pr_plain Pr_mixed Pr_func174 answer_Check_ann (rI .i64) (args := [(.agg ⟨a.cs⟩)]) (by kernel_rfl) h

/- changeover/runes.Key -/
def runes_Key (s : List UInt8) (K : Bool → World → Prop) (w : World) : Prop :=
  ifB (!(strEq s []))
  (ifB (decide (((s : List UInt8).length : Int) ≤ 24))
  (callV Pr Value.bool 195 #[(sval s)] w fun t1 w2 =>
  ifB t1
  (callV Pr Value.bool 196 #[(sval s), (.func (.func 197) #[] #[])] w2 fun t3 w4 =>
  K t3 w4)
  (K false w2))
  (K false w))
  (K false w)
def runes_Key_ann : Ann := (.s .d (.s (.r [(9, .call rB), (13, .call rB)]) .d))
theorem runes_Key_calls {s : List UInt8} {K : Bool → World → Prop} {w : World} (h : runes_Key s K w) : callV Pr Value.bool 176 #[(sval s)] w K :=
  calls_of Pr_plain Pr_mixed Pr_func176 runes_Key_ann rB (args := [(sval s)]) (by kernel_rfl) h

/- changeover/runes.Val -/
def runes_Val (s : List UInt8) (K : Bool → World → Prop) (w : World) : Prop :=
  ifB (decide (((s : List UInt8).length : Int) ≤ 48))
  (callV Pr Value.bool 195 #[(sval s)] w fun t1 w2 =>
  ifB t1
  (callV Pr Value.bool 196 #[(sval s), (.func (.func 198) #[] #[])] w2 fun t3 w4 =>
  K t3 w4)
  (K false w2))
  (K false w)
def runes_Val_ann : Ann := (.s .d (.s (.r [(5, .call rB), (9, .call rB)]) .d))
theorem runes_Val_calls {s : List UInt8} {K : Bool → World → Prop} {w : World} (h : runes_Val s K w) : callV Pr Value.bool 177 #[(sval s)] w K :=
  calls_of Pr_plain Pr_mixed Pr_func177 runes_Val_ann rB (args := [(sval s)]) (by kernel_rfl) h

/- changeover/kvtwo.Check$1 -/
def kvtwo_Check_1 (p : ApiPair) (K : Bool → World → Prop) (w : World) : Prop :=
  newV (fun b1 w2 =>
  ifB (decide (p.Rev < 1))
  (K true w2)
  (K (decide (p.Rev > 4294967296)) w2)) w
def kvtwo_Check_1_ann : Ann := (.s (.r [(0, .nl 1)]) (.s .d .d))
theorem kvtwo_Check_1_calls {p : ApiPair} {K : Bool → World → Prop} {w : World} (h : kvtwo_Check_1 p K w) : callV Pr Value.bool 178 #[(.agg ⟨p.cs⟩)] w K :=
  calls_of Pr_plain Pr_mixed Pr_func178 kvtwo_Check_1_ann rB (args := [(.agg ⟨p.cs⟩)]) (by kernel_rfl) h

/- slices.ContainsFunc[[]changeover/api.Pair,changeover/api.Pair] -/
def slices_ContainsFunc_api_Pair_api_Pair (s : Sl) (f : Value) (K : Bool → World → Prop) (w : World) : Prop :=
  callV Pr (Value.int .i64) 199 #[s.val, f] w fun t1 w2 =>
  K (decide (t1 ≥ 0)) w2
def slices_ContainsFunc_api_Pair_api_Pair_ann : Ann := (.s .d (.s (.r [(2, .call (rI .i64))]) .d))
theorem slices_ContainsFunc_api_Pair_api_Pair_calls {s : Sl} {f : Value} {K : Bool → World → Prop} {w : World} (h : slices_ContainsFunc_api_Pair_api_Pair s f K w) : callV Pr Value.bool 179 #[s.val, f] w K :=
  calls_of Pr_plain Pr_mixed Pr_func179 slices_ContainsFunc_api_Pair_api_Pair_ann rB (args := [s.val, f]) (by kernel_rfl) h

/- changeover/kvtwo.Plain -/
def kvtwo_Plain (l : Sl) (K : Sl → World → Prop) (w : World) : Prop :=
  callV Pr Sl.val 200 #[l.val] w fun out1 w2 =>
  loop1 (0 : Int) (fun t3 k4 w5 =>
  ifB (decide (t3 < (out1.len : Int)))
  (opRd Pr (Instr.indexAt 25 out1.val (.int .i64 t3)) pav (fun t6 =>
  opUn Pr (Instr.storeAt 3 (.pointer (some (t6.add 2))) (.int .i64 0)) (fun w7 =>
  k4 (i64 (t3 + 1)) w7) w5) w5)
  (K out1 w5)) w2
def kvtwo_Plain_ann : Ann := (.s .d (.s (.r [(1, .call rSl)]) (.s (.s .d (.b (.l [(.s 9, (rI .i64))] (.s .d (.s (.c .d .d) (.s (.b (.s .d (.r [(2, .rd rPA), (4, .un)]))) .d)))))) (.s .d .d))))
theorem kvtwo_Plain_calls {l : Sl} {K : Sl → World → Prop} {w : World} (h : kvtwo_Plain l K w) : callV Pr Sl.val 180 #[l.val] w K :=
  calls_of Pr_plain Pr_mixed Pr_func180 kvtwo_Plain_ann rSl (args := [l.val]) (by kernel_rfl) h

/- (*changeover/pack.Writer).Flag -/
def pack_Writer_Flag (w_ : Option Addr) (is : Bool) (K : Unit → World → Prop) (w : World) : Prop :=
  ifB is
  (callV Pr uval 70 #[(.pointer w_), (.int .i64 1)] w fun t1 w2 =>
  K () w2)
  (callV Pr uval 70 #[(.pointer w_), (.int .i64 0)] w fun t3 w4 =>
  K () w4)
def pack_Writer_Flag_ann : Ann := (.s .d (.s (.s .d (.c .d .d)) (.r [(2, .call rU)])))
theorem pack_Writer_Flag_calls {w_ : Option Addr} {is : Bool} {K : Unit → World → Prop} {w : World} (h : pack_Writer_Flag w_ is K w) : callV Pr uval 181 #[(.pointer w_), (.bool is)] w K :=
  calls_of Pr_plain Pr_mixed Pr_func181 pack_Writer_Flag_ann rU (args := [(.pointer w_), (.bool is)]) (by kernel_rfl) h

/- (*changeover/pack.Reader).Flag -/
def pack_Reader_Flag (r : Option Addr) (K : Bool → World → Prop) (w : World) : Prop :=
  opRd Pr (binSem .eql 78 (.tmp 4) (.const (.pointer none)) (.pointer r) (.pointer none)) Value.bool (fun t1 =>
  ifB t1
  (K false w)
  (callV Pr Value.bool 202 #[(.pointer r), (.func (.func 201) #[(.pointer r)] #[])] w fun t2 w3 =>
  K t2 w3)) w
def pack_Reader_Flag_ann : Ann := (.s .d (.s (.s (.r [(1, .rd rB)]) (.c (.s .d .d) .d)) (.s .d (.s (.r [(2, .call rB)]) .d))))
theorem pack_Reader_Flag_calls {r : Option Addr} {K : Bool → World → Prop} {w : World} (h : pack_Reader_Flag r K w) : callV Pr Value.bool 182 #[(.pointer r)] w K :=
  calls_of Pr_plain Pr_mixed Pr_func182 pack_Reader_Flag_ann rB (args := [(.pointer r)]) (by kernel_rfl) h

/- changeover/answer.Check$1 -/
def answer_Check_1 (n : Int) (least : Int) (most : Int) (K : Bool → World → Prop) (w : World) : Prop :=
  ifB (decide (n ≥ least))
  (K (decide (n ≤ most)) w)
  (K false w)
def answer_Check_1_ann : Ann := (.s .d (.s .d .d))
theorem answer_Check_1_calls {n : Int} {least : Int} {most : Int} {K : Bool → World → Prop} {w : World} (h : answer_Check_1 n least most K w) : callV Pr Value.bool 194 #[(.int .i64 n), (.int .i64 least), (.int .i64 most)] w K :=
  calls_of Pr_plain Pr_mixed Pr_func194 answer_Check_1_ann rB (args := [(.int .i64 n), (.int .i64 least), (.int .i64 most)]) (by kernel_rfl) h

/- changeover/runes.Whole -/
def runes_Whole (s : List UInt8) (K : Bool → World → Prop) (w : World) : Prop :=
  callV Pr (Value.int .i64) 211 #[(sval s)] w fun t1 w2 =>
  K (decide (t1 < 0)) w2
def runes_Whole_ann : Ann := (.s .d (.s (.r [(1, .call (rI .i64))]) .d))
theorem runes_Whole_calls {s : List UInt8} {K : Bool → World → Prop} {w : World} (h : runes_Whole s K w) : callV Pr Value.bool 195 #[(sval s)] w K :=
  calls_of Pr_plain Pr_mixed Pr_func195 runes_Whole_ann rB (args := [(sval s)]) (by kernel_rfl) h

/- changeover/runes.Plain -/
def runes_Plain (r : Int) (K : Bool → World → Prop) (w : World) : Prop :=
  join1 (fun (j1 : Bool → World → Prop) =>
  ifB (decide (r ≥ 97))
  (ifB (decide (r ≤ 122))
  (j1 (decide (r ≤ 122)) w)
  (ifB (decide (r ≥ 65))
  (ifB (decide (r ≤ 90))
  (j1 (decide (r ≤ 90)) w)
  (ifB (decide (r ≥ 48))
  (j1 (decide (r ≤ 57)) w)
  (j1 false w)))
  (ifB (decide (r ≥ 48))
  (j1 (decide (r ≤ 57)) w)
  (j1 false w))))
  (ifB (decide (r ≥ 65))
  (ifB (decide (r ≤ 90))
  (j1 (decide (r ≤ 90)) w)
  (ifB (decide (r ≥ 48))
  (j1 (decide (r ≤ 57)) w)
  (j1 false w)))
  (ifB (decide (r ≥ 48))
  (j1 (decide (r ≤ 57)) w)
  (j1 false w))))
  (fun t2 w3 =>
  ifB t2
  (K true w3)
  (ifB (r == 45)
  (ifB (r == 45)
  (K true w3)
  (ifB (decide (r ≥ 161))
  (K (r != 65533) w3)
  (K false w3)))
  (ifB (r == 95)
  (ifB (r == 95)
  (K true w3)
  (ifB (decide (r ≥ 161))
  (K (r != 65533) w3)
  (K false w3)))
  (ifB (r == 46)
  (ifB (r == 46)
  (K true w3)
  (ifB (decide (r ≥ 161))
  (K (r != 65533) w3)
  (K false w3)))
  (ifB (r == 58)
  (K true w3)
  (ifB (decide (r ≥ 161))
  (K (r != 65533) w3)
  (K false w3)))))))
def runes_Plain_ann : Ann := (.s .d (.s (.b (.sj [(.s 3, rB)] (.s .d (.c .d (.s .d (.c .d .d)))) (.c (.s .d .d) (.s (.s .d (.c .d (.s .d (.c .d (.s .d (.c .d .d)))))) (.c (.s .d .d) .d))))) (.s .d .d)))
theorem runes_Plain_calls {r : Int} {K : Bool → World → Prop} {w : World} (h : runes_Plain r K w) : callV Pr Value.bool 197 #[(.int .i32 r)] w K :=
  calls_of Pr_plain Pr_mixed Pr_func197 runes_Plain_ann rB (args := [(.int .i32 r)]) (by kernel_rfl) h

/- changeover/runes.Val$1 -/
def runes_Val_1 (r : Int) (K : Bool → World → Prop) (w : World) : Prop :=
  ifB (decide (r ≥ 32))
  (K (r != 127) w)
  (K false w)
def runes_Val_1_ann : Ann := (.s .d (.s .d .d))
theorem runes_Val_1_calls {r : Int} {K : Bool → World → Prop} {w : World} (h : runes_Val_1 r K w) : callV Pr Value.bool 198 #[(.int .i32 r)] w K :=
  calls_of Pr_plain Pr_mixed Pr_func198 runes_Val_1_ann rB (args := [(.int .i32 r)]) (by kernel_rfl) h

/- slices.Clone[[]changeover/api.Pair,changeover/api.Pair] -/
def slices_Clone_api_Pair_api_Pair (s : Sl) (K : Sl → World → Prop) (w : World) : Prop :=
  opRd Pr (binSem .eql 25 (.tmp 3) (.const Sl.nil.val) s.val Sl.nil.val) Value.bool (fun t1 =>
  ifB t1
  (K Sl.nil w)
  (opTy Pr (Instr.buildSlice 25 0 #[]) Sl.val (fun t2 w3 =>
  opTy Pr (Builtin.append_ #[25, 25] 25 #[t2.val, s.val]) Sl.val (fun t4 w5 =>
  K t4 w5) w3) w)) w
def slices_Clone_api_Pair_api_Pair_ann : Ann := (.s .d (.s (.s (.r [(1, .rd rB)]) (.c (.s .d .d) .d)) (.s (.r [(0, .ty rSl), (2, .ty rSl)]) .d)))
theorem slices_Clone_api_Pair_api_Pair_calls {s : Sl} {K : Sl → World → Prop} {w : World} (h : slices_Clone_api_Pair_api_Pair s K w) : callV Pr Sl.val 200 #[s.val] w K :=
  calls_of Pr_plain Pr_mixed Pr_func200 slices_Clone_api_Pair_api_Pair_ann rSl (args := [s.val]) (by kernel_rfl) h

/- (*changeover/pack.Reader).flag -/
def pack_Reader_flag (r : Option Addr) (K : Bool → World → Prop) (w : World) : Prop :=
  callV Pr (Value.int .i64) 120 #[(.pointer r)] w fun t1 w2 =>
  ifB (t1 == 0)
  (callV Pr uval 115 #[(.pointer r), (.int .i64 1)] w2 fun t3 w4 =>
  K false w4)
  (drewM (fun w5 =>
  opRd Pr (nilSem (.pointer r)) pav (fun t6 =>
  opRd Pr (Instr.loadAt 22 (.pointer (some (t6.add 0)))) Sl.val (fun t7 =>
  opRd Pr (nilSem (.pointer r)) pav (fun t8 =>
  opRd Pr (Instr.loadAt 3 (.pointer (some (t8.add 1)))) (Value.int .i64) (fun t9 =>
  opRd Pr (Instr.indexAt 22 t7.val (.int .i64 t9)) pav (fun t10 =>
  opRd Pr (Instr.loadAt 5 (.pointer (some t10))) (Value.int .u8) (fun c11 =>
  opRd Pr (nilSem (.pointer r)) pav (fun t12 =>
  opRd Pr (Instr.loadAt 3 (.pointer (some (t12.add 1)))) (Value.int .i64) (fun t13 =>
  opRd Pr (nilSem (.pointer r)) pav (fun t14 =>
  opUn Pr (Instr.storeAt 3 (.pointer (some (t14.add 1))) (.int .i64 (i64 (t13 + 1)))) (fun w15 =>
  ifB (decide (c11 > 1))
  (callV Pr uval 115 #[(.pointer r), (.int .i64 3)] w15 fun t16 w17 =>
  K (c11 == 1) w17)
  (K (c11 == 1) w15)) w5) w5) w5) w5) w5) w5) w5) w5) w5) w5) w2)
def pack_Reader_flag_ann : Ann := (.s .d (.s (.s (.r [(1, .call (rI .i64))]) (.c (.s (.r [(1, .call rU)]) (.s .d .d)) .d)) (.s (.r [(1, .rd rPA), (3, .rd rSl), (5, .rd rPA), (7, .rd (rI .i64)), (8, .rd rPA), (9, .rd (rI .u8))]) (.s (.r [(1, .rd rPA), (3, .rd (rI .i64)), (5, .rd rPA), (7, .un)]) (.s (.s .d (.c (.r [(1, .call rU)]) .d)) (.s .d .d))))))
theorem pack_Reader_flag_calls {r : Option Addr} {K : Bool → World → Prop} {w : World} (h : pack_Reader_flag r K w) : callV Pr Value.bool 201 #[(.pointer r)] w K :=
  calls_of Pr_plain Pr_mixed Pr_func201 pack_Reader_flag_ann rB (args := [(.pointer r)]) (by kernel_rfl) h

/- changeover/runes.Bad -/
def runes_Bad (s : List UInt8) (K : Int → World → Prop) (w : World) : Prop :=
  opTy Pr (Instr.range 9 (sval s)) pav (fun t1 w2 =>
  loop0 (fun k3 w4 =>
  opAl Pr (Instr.next (.pointer (some t1)) true 0) (nxval (Value.int .i64) (Value.int .i32)) endval (fun t5 w6 =>
  ifB (t5.2 != 65533)
  (k3 w6)
  (opRd Pr (Instr.sliceAt 9 (sval s) (some (.int .i64 t5.1)) none none) sval (fun t7 =>
  callV Pr (tval2 (Value.int .i32) (Value.int .i64)) 212 #[(sval t7)] w6 fun t8 w9 =>
  ifB (t8.2 == 1)
  (K t5.1 w9)
  (k3 w9)) w6)) (fun _ w10 =>
  K (-1) w10) w4) w2) w
def runes_Bad_ann : Ann := (.s .d (.s (.s (.r [(1, .ty rPA)]) (.b (.l [] (.s (.r [(0, .alt (rNx (rI .i64) (rI .i32)) rEnd)]) (.s (.c .d .d) (.b (.s .d (.s (.s .d (.c .d .d)) (.s (.r [(2, .rd rS), (3, .call (rT2 (rI .i32) (rI .i64)))]) (.s .d (.c (.s .d .d) .d))))))))))) (.s .d .d)))
theorem runes_Bad_calls {s : List UInt8} {K : Int → World → Prop} {w : World} (h : runes_Bad s K w) : callV Pr (Value.int .i64) 211 #[(sval s)] w K :=
  calls_of Pr_plain Pr_mixed Pr_func211 runes_Bad_ann (rI .i64) (args := [(sval s)]) (by kernel_rfl) h

/- unicode/utf8.DecodeRuneInString -/
def unicode_utf8_DecodeRuneInString (s : List UInt8) (K : (Int × Int) → World → Prop) (w : World) : Prop :=
  ifB (!(strEq s []))
  (opRd Pr (Instr.index 9 (sval s) (.int .i64 0)) (Value.int .u8) (fun t1 =>
  ifB (decide (t1 < 128))
  (opRd Pr (Instr.index 9 (sval s) (.int .i64 0)) (Value.int .u8) (fun t2 =>
  K ((IntKind.i32.wrap t2), 1) w) w)
  (callV Pr (tval2 (Value.int .i32) (Value.int .i64)) 213 #[(sval s)] w fun t3 w4 =>
  K (t3.1, t3.2) w4)) w)
  (callV Pr (tval2 (Value.int .i32) (Value.int .i64)) 213 #[(sval s)] w fun t5 w6 =>
  K (t5.1, t5.2) w6)
def unicode_utf8_DecodeRuneInString_ann : Ann := (.s .d (.s (.s (.r [(4, .rd (rI .u8))]) (.c (.s (.r [(1, .rd (rI .u8))]) .d) (.r [(1, .call (rT2 (rI .i32) (rI .i64)))]))) .d))
theorem unicode_utf8_DecodeRuneInString_calls {s : List UInt8} {K : (Int × Int) → World → Prop} {w : World} (h : unicode_utf8_DecodeRuneInString s K w) : callV Pr (tval2 (Value.int .i32) (Value.int .i64)) 212 #[(sval s)] w K :=
  calls_of Pr_plain Pr_mixed Pr_func212 unicode_utf8_DecodeRuneInString_ann (rT2 (rI .i32) (rI .i64)) (args := [(sval s)]) (by kernel_rfl) h

/- unicode/utf8.decodeRuneInStringSlow -/
def unicode_utf8_decodeRuneInStringSlow (s : List UInt8) (K : (Int × Int) → World → Prop) (w : World) : Prop :=
  ifB (decide (((s : List UInt8).length : Int) < 1))
  (K (65533, 0) w)
  (opRd Pr (Instr.index 9 (sval s) (.int .i64 0)) (Value.int .u8) (fun s01 =>
  opRd Pr (Instr.indexAt 237 (.pointer (some g_unicode_utf8_first)) (.int .u8 s01)) pav (fun t2 =>
  opRd Pr (Instr.loadAt 5 (.pointer (some t2))) (Value.int .u8) (fun x3 =>
  ifB (decide (x3 ≥ 240))
  (opRd Pr (Instr.index 9 (sval s) (.int .i64 0)) (Value.int .u8) (fun t4 =>
  K ((bOr .i32 (bAndNot .i32 (IntKind.i32.wrap t4) (shR .i32 (shL .i32 (IntKind.i32.wrap x3) 31) 31)) (bAnd .i32 65533 (shR .i32 (shL .i32 (IntKind.i32.wrap x3) 31) 31))), 1) w) w)
  (opRd Pr (Instr.indexAt 240 (.pointer (some g_unicode_utf8_acceptRanges)) (.int .u8 (shR .u8 x3 4))) pav (fun t5 =>
  opRd Pr (Instr.loadAt 239 (.pointer (some t5))) Utf8AcceptRange.val (fun t6 =>
  newV (fun b7 w8 =>
  wrM b7 (fun w9 =>
  ifB (decide (((s : List UInt8).length : Int) < (IntKind.i64.wrap (bAnd .u8 x3 7))))
  (K (65533, 1) w9)
  (opRd Pr (Instr.index 9 (sval s) (.int .i64 1)) (Value.int .u8) (fun s110 =>
  ifB (decide (s110 < t6.lo))
  (K (65533, 1) w9)
  (ifB (decide (t6.hi < s110))
  (K (65533, 1) w9)
  (ifB (decide ((IntKind.i64.wrap (bAnd .u8 x3 7)) ≤ 2))
  (K ((bOr .i32 (shL .i32 (IntKind.i32.wrap (bAnd .u8 s01 31)) 6) (IntKind.i32.wrap (bAnd .u8 s110 63))), 2) w9)
  (opRd Pr (Instr.index 9 (sval s) (.int .i64 2)) (Value.int .u8) (fun s211 =>
  ifB (decide (s211 < 128))
  (K (65533, 1) w9)
  (ifB (decide ((191 : Int) < s211))
  (K (65533, 1) w9)
  (ifB (decide ((IntKind.i64.wrap (bAnd .u8 x3 7)) ≤ 3))
  (K ((bOr .i32 (bOr .i32 (shL .i32 (IntKind.i32.wrap (bAnd .u8 s01 15)) 12) (shL .i32 (IntKind.i32.wrap (bAnd .u8 s110 63)) 6)) (IntKind.i32.wrap (bAnd .u8 s211 63))), 3) w9)
  (opRd Pr (Instr.index 9 (sval s) (.int .i64 3)) (Value.int .u8) (fun s312 =>
  ifB (decide (s312 < 128))
  (K (65533, 1) w9)
  (ifB (decide ((191 : Int) < s312))
  (K (65533, 1) w9)
  (K ((bOr .i32 (bOr .i32 (bOr .i32 (shL .i32 (IntKind.i32.wrap (bAnd .u8 s01 7)) 18) (shL .i32 (IntKind.i32.wrap (bAnd .u8 s110 63)) 12)) (shL .i32 (IntKind.i32.wrap (bAnd .u8 s211 63)) 6)) (IntKind.i32.wrap (bAnd .u8 s312 63))), 4) w9))) w9)))) w9)))) w9)) w8) w) w) w)) w) w) w)
def unicode_utf8_decodeRuneInStringSlow_ann : Ann := (.s .d (.s .d (.s (.s .d (.c (.s .d .d) .d)) (.s (.r [(1, .rd (rI .u8))]) (.s (.r [(1, .rd rPA), (2, .rd (rI .u8))]) (.s (.s .d (.c (.s .d (.s (.r [(1, .rd (rI .u8))]) .d)) .d)) (.s .d (.s (.r [(2, .rd rPA), (3, .rd rUtf8AcceptRange), (4, .nl 9), (5, .ls 9)]) (.s (.s .d (.c (.s .d .d) .d)) (.s (.r [(1, .rd (rI .u8))]) (.s (.s .d (.c (.s .d .d) .d)) (.s (.s .d (.c (.s .d .d) .d)) (.s (.r [(1, .rd (rI .u8))]) (.s (.s .d (.c (.s .d .d) .d)) (.s (.s .d (.c (.s .d .d) .d)) (.s (.r [(1, .rd (rI .u8))]) (.s (.s .d (.c (.s .d .d) .d)) (.s .d .d))))))))))))))))))
theorem unicode_utf8_decodeRuneInStringSlow_calls {s : List UInt8} {K : (Int × Int) → World → Prop} {w : World} (h : unicode_utf8_decodeRuneInStringSlow s K w) : callV Pr (tval2 (Value.int .i32) (Value.int .i64)) 213 #[(sval s)] w K :=
  calls_of Pr_plain Pr_mixed Pr_func213 unicode_utf8_decodeRuneInStringSlow_ann (rT2 (rI .i32) (rI .i64)) (args := [(sval s)]) (by kernel_rfl) h

/- changeover/pack.read[int] -/
def pack_read_int_Number (r : Option Addr) (c75x0 : Addr) (c75x1 : Addr) (K : Int → World → Prop) (w : World) : Prop :=
  opRd Pr (binSem .eql 78 (.tmp 7) (.const (.pointer none)) (.pointer r) (.pointer none)) Value.bool (fun t1 =>
  ifB t1
  (K 0 w)
  (opRd Pr (nilSem (.pointer r)) pav (fun t2 =>
  opRd Pr (Instr.loadAt 31 (.pointer (some (t2.add 2)))) (Value.int .i64) (fun t3 =>
  ifB (t3 != 0)
  (K 0 w)
  (callV Pr (Value.int .i64) 75 #[(.pointer (some c75x0)), (.pointer (some c75x1))] w fun x4 w5 =>
  opRd Pr (nilSem (.pointer r)) pav (fun t6 =>
  opRd Pr (Instr.loadAt 31 (.pointer (some (t6.add 2)))) (Value.int .i64) (fun t7 =>
  ifB (t7 != 0)
  (K 0 w5)
  (K x4 w5)) w5) w5)) w) w)) w
def pack_read_int_Number_ann : Ann := (.s .d (.s .d (.s (.s (.r [(1, .rd rB), (4, .rd rPA), (6, .rd (rI .i64))]) (.c (.s .d .d) .d)) (.s (.r [(1, .call (rI .i64))]) (.s (.s (.r [(1, .rd rPA), (3, .rd (rI .i64))]) (.c (.s .d .d) .d)) (.s .d .d))))))
theorem pack_read_int_Number_calls {r : Option Addr} {c75x0 : Addr} {c75x1 : Addr} {K : Int → World → Prop} {w : World} (h : pack_read_int_Number r c75x0 c75x1 K w) : callV Pr (Value.int .i64) 74 #[(.pointer r), (.func (.func 75) #[] #[(.pointer (some c75x0)), (.pointer (some c75x1))])] w K :=
  calls_of Pr_plain Pr_mixed Pr_func74 pack_read_int_Number_ann (rI .i64) (args := [(.pointer r), (.func (.func 75) #[] #[(.pointer (some c75x0)), (.pointer (some c75x1))])]) (by kernel_rfl) h

/- changeover/pack.read[int] -/
def pack_read_int_Count (r : Option Addr) (c150x0 : Addr) (c150x1 : Addr) (K : Int → World → Prop) (w : World) : Prop :=
  opRd Pr (binSem .eql 78 (.tmp 7) (.const (.pointer none)) (.pointer r) (.pointer none)) Value.bool (fun t1 =>
  ifB t1
  (K 0 w)
  (opRd Pr (nilSem (.pointer r)) pav (fun t2 =>
  opRd Pr (Instr.loadAt 31 (.pointer (some (t2.add 2)))) (Value.int .i64) (fun t3 =>
  ifB (t3 != 0)
  (K 0 w)
  (callV Pr (Value.int .i64) 150 #[(.pointer (some c150x0)), (.pointer (some c150x1))] w fun x4 w5 =>
  opRd Pr (nilSem (.pointer r)) pav (fun t6 =>
  opRd Pr (Instr.loadAt 31 (.pointer (some (t6.add 2)))) (Value.int .i64) (fun t7 =>
  ifB (t7 != 0)
  (K 0 w5)
  (K x4 w5)) w5) w5)) w) w)) w
def pack_read_int_Count_ann : Ann := (.s .d (.s .d (.s (.s (.r [(1, .rd rB), (4, .rd rPA), (6, .rd (rI .i64))]) (.c (.s .d .d) .d)) (.s (.r [(1, .call (rI .i64))]) (.s (.s (.r [(1, .rd rPA), (3, .rd (rI .i64))]) (.c (.s .d .d) .d)) (.s .d .d))))))
theorem pack_read_int_Count_calls {r : Option Addr} {c150x0 : Addr} {c150x1 : Addr} {K : Int → World → Prop} {w : World} (h : pack_read_int_Count r c150x0 c150x1 K w) : callV Pr (Value.int .i64) 74 #[(.pointer r), (.func (.func 150) #[] #[(.pointer (some c150x0)), (.pointer (some c150x1))])] w K :=
  calls_of Pr_plain Pr_mixed Pr_func74 pack_read_int_Count_ann (rI .i64) (args := [(.pointer r), (.func (.func 150) #[] #[(.pointer (some c150x0)), (.pointer (some c150x1))])]) (by kernel_rfl) h

/- changeover/pack.read[[]byte] -/
def pack_read_byte_Raw (r : Option Addr) (c118x0 : Addr) (c118x1 : Addr) (K : Sl → World → Prop) (w : World) : Prop :=
  opRd Pr (binSem .eql 78 (.tmp 7) (.const (.pointer none)) (.pointer r) (.pointer none)) Value.bool (fun t1 =>
  ifB t1
  (K Sl.nil w)
  (opRd Pr (nilSem (.pointer r)) pav (fun t2 =>
  opRd Pr (Instr.loadAt 31 (.pointer (some (t2.add 2)))) (Value.int .i64) (fun t3 =>
  ifB (t3 != 0)
  (K Sl.nil w)
  (callV Pr Sl.val 118 #[(.pointer (some c118x0)), (.pointer (some c118x1))] w fun x4 w5 =>
  opRd Pr (nilSem (.pointer r)) pav (fun t6 =>
  opRd Pr (Instr.loadAt 31 (.pointer (some (t6.add 2)))) (Value.int .i64) (fun t7 =>
  ifB (t7 != 0)
  (K Sl.nil w5)
  (K x4 w5)) w5) w5)) w) w)) w
def pack_read_byte_Raw_ann : Ann := (.s .d (.s .d (.s (.s (.r [(1, .rd rB), (4, .rd rPA), (6, .rd (rI .i64))]) (.c (.s .d .d) .d)) (.s (.r [(1, .call rSl)]) (.s (.s (.r [(1, .rd rPA), (3, .rd (rI .i64))]) (.c (.s .d .d) .d)) (.s .d .d))))))
theorem pack_read_byte_Raw_calls {r : Option Addr} {c118x0 : Addr} {c118x1 : Addr} {K : Sl → World → Prop} {w : World} (h : pack_read_byte_Raw r c118x0 c118x1 K w) : callV Pr Sl.val 117 #[(.pointer r), (.func (.func 118) #[] #[(.pointer (some c118x0)), (.pointer (some c118x1))])] w K :=
  calls_of Pr_plain Pr_mixed Pr_func117 pack_read_byte_Raw_ann rSl (args := [(.pointer r), (.func (.func 118) #[] #[(.pointer (some c118x0)), (.pointer (some c118x1))])]) (by kernel_rfl) h

/- changeover/pack.read[bool] -/
def pack_read_bool_flag (r : Option Addr) (c_r : Option Addr) (K : Bool → World → Prop) (w : World) : Prop :=
  opRd Pr (binSem .eql 78 (.tmp 7) (.const (.pointer none)) (.pointer r) (.pointer none)) Value.bool (fun t1 =>
  ifB t1
  (K false w)
  (opRd Pr (nilSem (.pointer r)) pav (fun t2 =>
  opRd Pr (Instr.loadAt 31 (.pointer (some (t2.add 2)))) (Value.int .i64) (fun t3 =>
  ifB (t3 != 0)
  (K false w)
  (callV Pr Value.bool 201 #[(.pointer c_r)] w fun x4 w5 =>
  opRd Pr (nilSem (.pointer r)) pav (fun t6 =>
  opRd Pr (Instr.loadAt 31 (.pointer (some (t6.add 2)))) (Value.int .i64) (fun t7 =>
  ifB (t7 != 0)
  (K false w5)
  (K x4 w5)) w5) w5)) w) w)) w
def pack_read_bool_flag_ann : Ann := (.s .d (.s .d (.s (.s (.r [(1, .rd rB), (4, .rd rPA), (6, .rd (rI .i64))]) (.c (.s .d .d) .d)) (.s (.r [(1, .call rB)]) (.s (.s (.r [(1, .rd rPA), (3, .rd (rI .i64))]) (.c (.s .d .d) .d)) (.s .d .d))))))
theorem pack_read_bool_flag_calls {r : Option Addr} {c_r : Option Addr} {K : Bool → World → Prop} {w : World} (h : pack_read_bool_flag r c_r K w) : callV Pr Value.bool 202 #[(.pointer r), (.func (.func 201) #[(.pointer c_r)] #[])] w K :=
  calls_of Pr_plain Pr_mixed Pr_func202 pack_read_bool_flag_ann rB (args := [(.pointer r), (.func (.func 201) #[(.pointer c_r)] #[])]) (by kernel_rfl) h

/- changeover/runes.all -/
def runes_all_Plain (s : List UInt8) (K : Bool → World → Prop) (w : World) : Prop :=
  opTy Pr (Instr.range 9 (sval s)) pav (fun t1 w2 =>
  loop0 (fun k3 w4 =>
  opAl Pr (Instr.next (.pointer (some t1)) true 0) (nxval (Value.int .i64) (Value.int .i32)) endval (fun t5 w6 =>
  callV Pr Value.bool 197 #[(.int .i32 t5.2)] w6 fun t7 w8 =>
  ifB (!t7)
  (K false w8)
  (k3 w8)) (fun _ w9 =>
  K true w9) w4) w2) w
def runes_all_Plain_ann : Ann := (.s .d (.s (.s (.r [(1, .ty rPA)]) (.b (.l [] (.s (.r [(0, .alt (rNx (rI .i64) (rI .i32)) rEnd)]) (.s (.c .d .d) (.b (.s .d (.s (.r [(2, .call rB)]) (.c (.s .d .d) .d))))))))) (.s .d .d)))
theorem runes_all_Plain_calls {s : List UInt8} {K : Bool → World → Prop} {w : World} (h : runes_all_Plain s K w) : callV Pr Value.bool 196 #[(sval s), (.func (.func 197) #[] #[])] w K :=
  calls_of Pr_plain Pr_mixed Pr_func196 runes_all_Plain_ann rB (args := [(sval s), (.func (.func 197) #[] #[])]) (by kernel_rfl) h

/- changeover/runes.all -/
def runes_all_Val (s : List UInt8) (K : Bool → World → Prop) (w : World) : Prop :=
  opTy Pr (Instr.range 9 (sval s)) pav (fun t1 w2 =>
  loop0 (fun k3 w4 =>
  opAl Pr (Instr.next (.pointer (some t1)) true 0) (nxval (Value.int .i64) (Value.int .i32)) endval (fun t5 w6 =>
  callV Pr Value.bool 198 #[(.int .i32 t5.2)] w6 fun t7 w8 =>
  ifB (!t7)
  (K false w8)
  (k3 w8)) (fun _ w9 =>
  K true w9) w4) w2) w
def runes_all_Val_ann : Ann := (.s .d (.s (.s (.r [(1, .ty rPA)]) (.b (.l [] (.s (.r [(0, .alt (rNx (rI .i64) (rI .i32)) rEnd)]) (.s (.c .d .d) (.b (.s .d (.s (.r [(2, .call rB)]) (.c (.s .d .d) .d))))))))) (.s .d .d)))
theorem runes_all_Val_calls {s : List UInt8} {K : Bool → World → Prop} {w : World} (h : runes_all_Val s K w) : callV Pr Value.bool 196 #[(sval s), (.func (.func 198) #[] #[])] w K :=
  calls_of Pr_plain Pr_mixed Pr_func196 runes_all_Val_ann rB (args := [(sval s), (.func (.func 198) #[] #[])]) (by kernel_rfl) h

/- slices.IndexFunc[[]changeover/api.Session,changeover/api.Session] -/
def slices_IndexFunc_api_Session_api_Session_Check (s : Sl) (K : Int → World → Prop) (w : World) : Prop :=
  loop1 (0 : Int) (fun t1 k2 w3 =>
  ifB (decide (t1 < (s.len : Int)))
  (opRd Pr (Instr.indexAt 26 s.val (.int .i64 t1)) pav (fun t4 =>
  opRd Pr (Instr.loadAt 136 (.pointer (some t4))) ApiSession.val (fun t5 =>
  callV Pr Value.bool 145 #[(.agg ⟨t5.cs⟩)] w3 fun t6 w7 =>
  ifB t6
  (K t1 w7)
  (k2 (i64 (t1 + 1)) w7)) w3) w3)
  (K (-1) w3)) w
def slices_IndexFunc_api_Session_api_Session_Check_ann : Ann := (.s .d (.s (.s .d (.b (.l [(.s 8, (rI .i64))] (.s .d (.s (.c .d .d) (.s (.b (.s .d (.s (.r [(3, .rd rPA), (4, .rd rApiSession), (5, .call rB)]) (.c (.s .d .d) .d)))) .d)))))) (.s .d .d)))
theorem slices_IndexFunc_api_Session_api_Session_Check_calls {s : Sl} {K : Int → World → Prop} {w : World} (h : slices_IndexFunc_api_Session_api_Session_Check s K w) : callV Pr (Value.int .i64) 175 #[s.val, (.func (.func 145) #[] #[])] w K :=
  calls_of Pr_plain Pr_mixed Pr_func175 slices_IndexFunc_api_Session_api_Session_Check_ann (rI .i64) (args := [s.val, (.func (.func 145) #[] #[])]) (by kernel_rfl) h

/- slices.IndexFunc[[]changeover/api.Pair,changeover/api.Pair] -/
def slices_IndexFunc_api_Pair_api_Pair_Check (s : Sl) (K : Int → World → Prop) (w : World) : Prop :=
  loop1 (0 : Int) (fun t1 k2 w3 =>
  ifB (decide (t1 < (s.len : Int)))
  (opRd Pr (Instr.indexAt 25 s.val (.int .i64 t1)) pav (fun t4 =>
  opRd Pr (Instr.loadAt 131 (.pointer (some t4))) ApiPair.val (fun t5 =>
  callV Pr Value.bool 178 #[(.agg ⟨t5.cs⟩)] w3 fun t6 w7 =>
  ifB t6
  (K t1 w7)
  (k2 (i64 (t1 + 1)) w7)) w3) w3)
  (K (-1) w3)) w
def slices_IndexFunc_api_Pair_api_Pair_Check_ann : Ann := (.s .d (.s (.s .d (.b (.l [(.s 8, (rI .i64))] (.s .d (.s (.c .d .d) (.s (.b (.s .d (.s (.r [(3, .rd rPA), (4, .rd rApiPair), (5, .call rB)]) (.c (.s .d .d) .d)))) .d)))))) (.s .d .d)))
theorem slices_IndexFunc_api_Pair_api_Pair_Check_calls {s : Sl} {K : Int → World → Prop} {w : World} (h : slices_IndexFunc_api_Pair_api_Pair_Check s K w) : callV Pr (Value.int .i64) 199 #[s.val, (.func (.func 178) #[] #[])] w K :=
  calls_of Pr_plain Pr_mixed Pr_func199 slices_IndexFunc_api_Pair_api_Pair_Check_ann (rI .i64) (args := [s.val, (.func (.func 178) #[] #[])]) (by kernel_rfl) h

/- changeover/snapone.list[changeover/api.Pair] -/
def snapone_list_api_Pair_1 (r : Option Addr) (most : Int) (c153x0 : Addr) (K : Sl → World → Prop) (w : World) : Prop :=
  callV Pr (Value.int .i64) 116 #[(.pointer r), (.int .i64 most)] w fun t1 w2 =>
  loop2 (Sl.nil : Sl) (0 : Int) (fun out3 t4 k5 w6 =>
  ifB (decide (t4 < t1))
  (callV Pr ApiPair.val 153 #[(.pointer (some c153x0))] w6 fun t7 w8 =>
  opTy Pr (Instr.buildSlice 25 1 #[(0, (.agg ⟨t7.cs⟩))]) Sl.val (fun t9 w10 =>
  opTy Pr (Builtin.append_ #[25, 25] 25 #[out3.val, t9.val]) Sl.val (fun out11 w12 =>
  k5 out11 (i64 (t4 + 1)) w12) w10) w8)
  (K out3 w6)) w2
def snapone_list_api_Pair_1_ann : Ann := (.s .d (.s .d (.s (.s (.r [(2, .call (rI .i64))]) (.b (.l [(.s 7, rSl), (.s 11, (rI .i64))] (.s .d (.s (.c .d .d) (.s (.b (.r [(2, .call rApiPair), (3, .ty rSl), (4, .ty rSl)])) .d)))))) (.s .d .d))))
theorem snapone_list_api_Pair_1_calls {r : Option Addr} {most : Int} {c153x0 : Addr} {K : Sl → World → Prop} {w : World} (h : snapone_list_api_Pair_1 r most c153x0 K w) : callV Pr Sl.val 152 #[(.pointer r), (.int .i64 most), (.func (.func 153) #[] #[(.pointer (some c153x0))])] w K :=
  calls_of Pr_plain Pr_mixed Pr_func152 snapone_list_api_Pair_1_ann rSl (args := [(.pointer r), (.int .i64 most), (.func (.func 153) #[] #[(.pointer (some c153x0))])]) (by kernel_rfl) h

/- changeover/snapone.list[changeover/api.Session] -/
def snapone_list_api_Session_2 (r : Option Addr) (most : Int) (c156x0 : Addr) (K : Sl → World → Prop) (w : World) : Prop :=
  callV Pr (Value.int .i64) 116 #[(.pointer r), (.int .i64 most)] w fun t1 w2 =>
  loop2 (Sl.nil : Sl) (0 : Int) (fun out3 t4 k5 w6 =>
  ifB (decide (t4 < t1))
  (callV Pr ApiSession.val 156 #[(.pointer (some c156x0))] w6 fun t7 w8 =>
  opTy Pr (Instr.buildSlice 26 1 #[(0, (.agg ⟨t7.cs⟩))]) Sl.val (fun t9 w10 =>
  opTy Pr (Builtin.append_ #[26, 26] 26 #[out3.val, t9.val]) Sl.val (fun out11 w12 =>
  k5 out11 (i64 (t4 + 1)) w12) w10) w8)
  (K out3 w6)) w2
def snapone_list_api_Session_2_ann : Ann := (.s .d (.s .d (.s (.s (.r [(2, .call (rI .i64))]) (.b (.l [(.s 7, rSl), (.s 11, (rI .i64))] (.s .d (.s (.c .d .d) (.s (.b (.r [(2, .call rApiSession), (3, .ty rSl), (4, .ty rSl)])) .d)))))) (.s .d .d))))
theorem snapone_list_api_Session_2_calls {r : Option Addr} {most : Int} {c156x0 : Addr} {K : Sl → World → Prop} {w : World} (h : snapone_list_api_Session_2 r most c156x0 K w) : callV Pr Sl.val 155 #[(.pointer r), (.int .i64 most), (.func (.func 156) #[] #[(.pointer (some c156x0))])] w K :=
  calls_of Pr_plain Pr_mixed Pr_func155 snapone_list_api_Session_2_ann rSl (args := [(.pointer r), (.int .i64 most), (.func (.func 156) #[] #[(.pointer (some c156x0))])]) (by kernel_rfl) h

/- changeover/snaptwo.times -/
def snaptwo_times_1 (r : Option Addr) (most : Int) (c159x0 : Addr) (c159x1 : Addr) (K : Unit → World → Prop) (w : World) : Prop :=
  callV Pr (Value.int .i64) 116 #[(.pointer r), (.int .i64 most)] w fun t1 w2 =>
  loop1 (0 : Int) (fun t3 k4 w5 =>
  ifB (decide (t3 < t1))
  (callV Pr uval 159 #[(.pointer (some c159x0)), (.pointer (some c159x1))] w5 fun t6 w7 =>
  k4 (i64 (t3 + 1)) w7)
  (K () w5)) w2
def snaptwo_times_1_ann : Ann := (.s (.r [(2, .call (rI .i64))]) (.b (.l [(.s 9, (rI .i64))] (.s .d (.s (.c .d .d) (.s (.b (.r [(1, .call rU)])) .d))))))
theorem snaptwo_times_1_calls {r : Option Addr} {most : Int} {c159x0 : Addr} {c159x1 : Addr} {K : Unit → World → Prop} {w : World} (h : snaptwo_times_1 r most c159x0 c159x1 K w) : callV Pr uval 158 #[(.pointer r), (.int .i64 most), (.func (.func 159) #[] #[(.pointer (some c159x0)), (.pointer (some c159x1))])] w K :=
  calls_of Pr_plain Pr_mixed Pr_func158 snaptwo_times_1_ann rU (args := [(.pointer r), (.int .i64 most), (.func (.func 159) #[] #[(.pointer (some c159x0)), (.pointer (some c159x1))])]) (by kernel_rfl) h

/- changeover/snaptwo.times -/
def snaptwo_times_2 (r : Option Addr) (most : Int) (c160x0 : Addr) (c160x1 : Addr) (K : Unit → World → Prop) (w : World) : Prop :=
  callV Pr (Value.int .i64) 116 #[(.pointer r), (.int .i64 most)] w fun t1 w2 =>
  loop1 (0 : Int) (fun t3 k4 w5 =>
  ifB (decide (t3 < t1))
  (callV Pr uval 160 #[(.pointer (some c160x0)), (.pointer (some c160x1))] w5 fun t6 w7 =>
  k4 (i64 (t3 + 1)) w7)
  (K () w5)) w2
def snaptwo_times_2_ann : Ann := (.s (.r [(2, .call (rI .i64))]) (.b (.l [(.s 9, (rI .i64))] (.s .d (.s (.c .d .d) (.s (.b (.r [(1, .call rU)])) .d))))))
theorem snaptwo_times_2_calls {r : Option Addr} {most : Int} {c160x0 : Addr} {c160x1 : Addr} {K : Unit → World → Prop} {w : World} (h : snaptwo_times_2 r most c160x0 c160x1 K w) : callV Pr uval 158 #[(.pointer r), (.int .i64 most), (.func (.func 160) #[] #[(.pointer (some c160x0)), (.pointer (some c160x1))])] w K :=
  calls_of Pr_plain Pr_mixed Pr_func158 snaptwo_times_2_ann rU (args := [(.pointer r), (.int .i64 most), (.func (.func 160) #[] #[(.pointer (some c160x0)), (.pointer (some c160x1))])]) (by kernel_rfl) h

end Go.Chg
