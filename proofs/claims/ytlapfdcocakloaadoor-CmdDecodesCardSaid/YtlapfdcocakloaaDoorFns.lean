/-
  Functions of the program, told by a program of ours (gen.py), each held by the kernel to what is to be shown of its code.
-/
import Derived.Test.YtlapfdcocakloaaDoorTy
import Derived.Test.YtlapfdcocakloaaDoorFnsA
import Derived.Test.YtlapfdcocakloaaDoorFnsB
set_option maxRecDepth 100000
set_option linter.unusedVariables false
namespace Go.Chg
open Go.Vc

/- changeover/pack.read[[]byte] -/
def pack_read_byte_Raw (r : Option Addr) (c186x0 : Addr) (c186x1 : Addr) (K : Sl → World → Prop) (w : World) : Prop :=
  opRd Pr (binSem .eql 80 (.tmp 7) (.const (.pointer none)) (.pointer r) (.pointer none)) Value.bool (fun t1 =>
  ifB t1
  (K Sl.nil w)
  (opRd Pr (nilSem (.pointer r)) pav (fun t2 =>
  opRd Pr (Instr.loadAt 34 (.pointer (some (t2.add 2)))) (Value.int .i64) (fun t3 =>
  ifB (t3 != 0)
  (K Sl.nil w)
  (callV Pr Sl.val 186 #[(.pointer (some c186x0)), (.pointer (some c186x1))] w fun x4 w5 =>
  opRd Pr (nilSem (.pointer r)) pav (fun t6 =>
  opRd Pr (Instr.loadAt 34 (.pointer (some (t6.add 2)))) (Value.int .i64) (fun t7 =>
  ifB (t7 != 0)
  (K Sl.nil w5)
  (K x4 w5)) w5) w5)) w) w)) w
def pack_read_byte_Raw_ann : Ann := (.s .d (.s .d (.s (.s (.r [(1, .rd rB), (4, .rd rPA), (6, .rd (rI .i64))]) (.c (.s .d .d) .d)) (.s (.r [(1, .call rSl)]) (.s (.s (.r [(1, .rd rPA), (3, .rd (rI .i64))]) (.c (.s .d .d) .d)) (.s .d .d))))))
theorem pack_read_byte_Raw_calls {r : Option Addr} {c186x0 : Addr} {c186x1 : Addr} {K : Sl → World → Prop} {w : World} (h : pack_read_byte_Raw r c186x0 c186x1 K w) : callV Pr Sl.val 185 #[(.pointer r), (.func (.func 186) #[] #[(.pointer (some c186x0)), (.pointer (some c186x1))])] w K :=
  calls_of Pr_plain Pr_mixed Pr_func185 pack_read_byte_Raw_ann rSl (args := [(.pointer r), (.func (.func 186) #[] #[(.pointer (some c186x0)), (.pointer (some c186x1))])]) (by kernel_rfl) h

/- changeover/pack.read[bool] -/
def pack_read_bool_flag (r : Option Addr) (c_r : Option Addr) (K : Bool → World → Prop) (w : World) : Prop :=
  opRd Pr (binSem .eql 80 (.tmp 7) (.const (.pointer none)) (.pointer r) (.pointer none)) Value.bool (fun t1 =>
  ifB t1
  (K false w)
  (opRd Pr (nilSem (.pointer r)) pav (fun t2 =>
  opRd Pr (Instr.loadAt 34 (.pointer (some (t2.add 2)))) (Value.int .i64) (fun t3 =>
  ifB (t3 != 0)
  (K false w)
  (callV Pr Value.bool 152 #[(.pointer c_r)] w fun x4 w5 =>
  opRd Pr (nilSem (.pointer r)) pav (fun t6 =>
  opRd Pr (Instr.loadAt 34 (.pointer (some (t6.add 2)))) (Value.int .i64) (fun t7 =>
  ifB (t7 != 0)
  (K false w5)
  (K x4 w5)) w5) w5)) w) w)) w
def pack_read_bool_flag_ann : Ann := (.s .d (.s .d (.s (.s (.r [(1, .rd rB), (4, .rd rPA), (6, .rd (rI .i64))]) (.c (.s .d .d) .d)) (.s (.r [(1, .call rB)]) (.s (.s (.r [(1, .rd rPA), (3, .rd (rI .i64))]) (.c (.s .d .d) .d)) (.s .d .d))))))
theorem pack_read_bool_flag_calls {r : Option Addr} {c_r : Option Addr} {K : Bool → World → Prop} {w : World} (h : pack_read_bool_flag r c_r K w) : callV Pr Value.bool 153 #[(.pointer r), (.func (.func 152) #[(.pointer c_r)] #[])] w K :=
  calls_of Pr_plain Pr_mixed Pr_func153 pack_read_bool_flag_ann rB (args := [(.pointer r), (.func (.func 152) #[(.pointer c_r)] #[])]) (by kernel_rfl) h

/- changeover/runes.all -/
def runes_all_Plain (s : List UInt8) (K : Bool → World → Prop) (w : World) : Prop :=
  opTy Pr (Instr.range 9 (sval s)) pav (fun t1 w2 =>
  loop0 (fun k3 w4 =>
  opAl Pr (Instr.next (.pointer (some t1)) true 0) (nxval (Value.int .i64) (Value.int .i32)) endval (fun t5 w6 =>
  callV Pr Value.bool 181 #[(.int .i32 t5.2)] w6 fun t7 w8 =>
  ifB (!t7)
  (K false w8)
  (k3 w8)) (fun _ w9 =>
  K true w9) w4) w2) w
def runes_all_Plain_ann : Ann := (.s .d (.s (.s (.r [(1, .ty rPA)]) (.b (.l [] (.s (.r [(0, .alt (rNx (rI .i64) (rI .i32)) rEnd)]) (.s (.c .d .d) (.b (.s .d (.s (.r [(2, .call rB)]) (.c (.s .d .d) .d))))))))) (.s .d .d)))
theorem runes_all_Plain_calls {s : List UInt8} {K : Bool → World → Prop} {w : World} (h : runes_all_Plain s K w) : callV Pr Value.bool 147 #[(sval s), (.func (.func 181) #[] #[])] w K :=
  calls_of Pr_plain Pr_mixed Pr_func147 runes_all_Plain_ann rB (args := [(sval s), (.func (.func 181) #[] #[])]) (by kernel_rfl) h

/- changeover/runes.all -/
def runes_all_Val (s : List UInt8) (K : Bool → World → Prop) (w : World) : Prop :=
  opTy Pr (Instr.range 9 (sval s)) pav (fun t1 w2 =>
  loop0 (fun k3 w4 =>
  opAl Pr (Instr.next (.pointer (some t1)) true 0) (nxval (Value.int .i64) (Value.int .i32)) endval (fun t5 w6 =>
  callV Pr Value.bool 148 #[(.int .i32 t5.2)] w6 fun t7 w8 =>
  ifB (!t7)
  (K false w8)
  (k3 w8)) (fun _ w9 =>
  K true w9) w4) w2) w
def runes_all_Val_ann : Ann := (.s .d (.s (.s (.r [(1, .ty rPA)]) (.b (.l [] (.s (.r [(0, .alt (rNx (rI .i64) (rI .i32)) rEnd)]) (.s (.c .d .d) (.b (.s .d (.s (.r [(2, .call rB)]) (.c (.s .d .d) .d))))))))) (.s .d .d)))
theorem runes_all_Val_calls {s : List UInt8} {K : Bool → World → Prop} {w : World} (h : runes_all_Val s K w) : callV Pr Value.bool 147 #[(sval s), (.func (.func 148) #[] #[])] w K :=
  calls_of Pr_plain Pr_mixed Pr_func147 runes_all_Val_ann rB (args := [(sval s), (.func (.func 148) #[] #[])]) (by kernel_rfl) h

/- slices.BinarySearchFunc[[]changeover/api.Entry,changeover/api.Entry,int] -/
def slices_BinarySearchFunc_api_Entry_api_Entry_int_place (x : Sl) (target : Int) (K : (Int × Bool) → World → Prop) (w : World) : Prop :=
  loop2 (0 : Int) ((x.len : Int) : Int) (fun i1 j2 k3 w4 =>
  ifB (decide (i1 < j2))
  (opRd Pr (Instr.indexAt 25 x.val (.int .i64 (IntKind.i64.wrap (shR .u64 (IntKind.u64.wrap (i64 (i1 + j2))) 1)))) pav (fun t5 =>
  opRd Pr (Instr.loadAt 54 (.pointer (some t5))) ApiEntry.val (fun t6 =>
  callV Pr (Value.int .i64) 176 #[(.agg ⟨t6.cs⟩), (.int .i64 target)] w4 fun t7 w8 =>
  ifB (decide (t7 < 0))
  (k3 (i64 ((IntKind.i64.wrap (shR .u64 (IntKind.u64.wrap (i64 (i1 + j2))) 1)) + 1)) j2 w8)
  (k3 i1 (IntKind.i64.wrap (shR .u64 (IntKind.u64.wrap (i64 (i1 + j2))) 1)) w8)) w4) w4)
  (ifB (decide (i1 < (x.len : Int)))
  (opRd Pr (Instr.indexAt 25 x.val (.int .i64 i1)) pav (fun t9 =>
  opRd Pr (Instr.loadAt 54 (.pointer (some t9))) ApiEntry.val (fun t10 =>
  callV Pr (Value.int .i64) 176 #[(.agg ⟨t10.cs⟩), (.int .i64 target)] w4 fun t11 w12 =>
  K (i1, (t11 == 0)) w12) w4) w4)
  (K (i1, false) w4))) w
def slices_BinarySearchFunc_api_Entry_api_Entry_int_place_ann : Ann := (.s .d (.s .d (.s .d (.s (.b (.l [(.s 9, (rI .i64)), (.s 10, (rI .i64))] (.s (.s .d (.c .d .d)) (.b (.s .d (.s (.r [(3, .rd rPA), (4, .rd rApiEntry), (6, .call (rI .i64))]) (.c .d .d))))))) (.s (.r [(8, .rd rPA), (9, .rd rApiEntry), (11, .call (rI .i64))]) .d)))))
theorem slices_BinarySearchFunc_api_Entry_api_Entry_int_place_calls {x : Sl} {target : Int} {K : (Int × Bool) → World → Prop} {w : World} (h : slices_BinarySearchFunc_api_Entry_api_Entry_int_place x target K w) : callV Pr (tval2 (Value.int .i64) Value.bool) 175 #[x.val, (.int .i64 target), (.func (.func 176) #[] #[])] w K :=
  calls_of Pr_plain Pr_mixed Pr_func175 slices_BinarySearchFunc_api_Entry_api_Entry_int_place_ann (rT2 (rI .i64) rB) (args := [x.val, (.int .i64 target), (.func (.func 176) #[] #[])]) (by kernel_rfl) h

/- slices.IndexFunc[[]changeover/api.Entry,changeover/api.Entry] -/
def slices_IndexFunc_api_Entry_api_Entry_Has (s : Sl) (c171x0 : Addr) (K : Int → World → Prop) (w : World) : Prop :=
  loop1 (0 : Int) (fun t1 k2 w3 =>
  ifB (decide (t1 < (s.len : Int)))
  (opRd Pr (Instr.indexAt 25 s.val (.int .i64 t1)) pav (fun t4 =>
  opRd Pr (Instr.loadAt 54 (.pointer (some t4))) ApiEntry.val (fun t5 =>
  callV Pr Value.bool 171 #[(.agg ⟨t5.cs⟩), (.pointer (some c171x0))] w3 fun t6 w7 =>
  ifB t6
  (K t1 w7)
  (k2 (i64 (t1 + 1)) w7)) w3) w3)
  (K (-1) w3)) w
def slices_IndexFunc_api_Entry_api_Entry_Has_ann : Ann := (.s .d (.s (.s .d (.b (.l [(.s 8, (rI .i64))] (.s .d (.s (.c .d .d) (.s (.b (.s .d (.s (.r [(3, .rd rPA), (4, .rd rApiEntry), (5, .call rB)]) (.c (.s .d .d) .d)))) .d)))))) (.s .d .d)))
theorem slices_IndexFunc_api_Entry_api_Entry_Has_calls {s : Sl} {c171x0 : Addr} {K : Int → World → Prop} {w : World} (h : slices_IndexFunc_api_Entry_api_Entry_Has s c171x0 K w) : callV Pr (Value.int .i64) 121 #[s.val, (.func (.func 171) #[] #[(.pointer (some c171x0))])] w K :=
  calls_of Pr_plain Pr_mixed Pr_func121 slices_IndexFunc_api_Entry_api_Entry_Has_ann (rI .i64) (args := [s.val, (.func (.func 171) #[] #[(.pointer (some c171x0))])]) (by kernel_rfl) h

/- slices.DeleteFunc[[]changeover/api.Entry,changeover/api.Entry] -/
def slices_DeleteFunc_api_Entry_api_Entry_Ahead (s : Sl) (c67x0 : Addr) (K : Sl → World → Prop) (w : World) : Prop :=
  callV Pr (Value.int .i64) 121 #[s.val, (.func (.func 67) #[] #[(.pointer (some c67x0))])] w fun i1 w2 =>
  ifB (i1 == (-1))
  (K s w2)
  (loop2 (i1 : Int) ((i64 (i1 + 1)) : Int) (fun i3 j4 k5 w6 =>
  ifB (decide (j4 < (s.len : Int)))
  (opRd Pr (Instr.indexAt 25 s.val (.int .i64 j4)) pav (fun t7 =>
  opRd Pr (Instr.loadAt 54 (.pointer (some t7))) ApiEntry.val (fun t8 =>
  newV (fun b9 w10 =>
  wrM b9 (fun w11 =>
  callV Pr Value.bool 67 #[(.agg ⟨[(.int .i64 t8.Index), (.int .i64 t8.Ballot.Round), (.int .i64 t8.Ballot.Node), (.int .i64 t8.Cmd.Kind), (.int .i64 t8.Cmd.Client), (.int .i64 t8.Cmd.Seq), (sval t8.Cmd.Key), (sval t8.Cmd.Val), (sval t8.Cmd.Old), (.int .i64 t8.Cmd.Node)]⟩), (.pointer (some c67x0))] w11 fun t12 w13 =>
  kp b9 w11 w13 <|
  ifB (!t12)
  (opRd Pr (Instr.indexAt 25 s.val (.int .i64 i3)) pav (fun t14 =>
  opUn Pr (Instr.storeAt 54 (.pointer (some t14)) (.agg ⟨[(.int .i64 t8.Index), (.int .i64 t8.Ballot.Round), (.int .i64 t8.Ballot.Node), (.int .i64 t8.Cmd.Kind), (.int .i64 t8.Cmd.Client), (.int .i64 t8.Cmd.Seq), (sval t8.Cmd.Key), (sval t8.Cmd.Val), (sval t8.Cmd.Old), (.int .i64 t8.Cmd.Node)]⟩)) (fun w15 =>
  kp b9 w13 w15 <|
  k5 (i64 (i3 + 1)) (i64 (j4 + 1)) w15) w13) w13)
  (k5 i3 (i64 (j4 + 1)) w13)) w10) w6) w6) w6)
  (opRd Pr (Instr.sliceAt 25 s.val (some (.int .i64 i3)) none none) Sl.val (fun t16 =>
  opTy Pr (Builtin.clear_ #[25] 0 #[t16.val]) uval (fun u17 w18 =>
  opRd Pr (Instr.sliceAt 25 s.val none (some (.int .i64 i3)) none) Sl.val (fun t19 =>
  K t19 w18) w18) w6) w6)) w2)
def slices_DeleteFunc_api_Entry_api_Entry_Ahead_ann : Ann := (.s .d (.s (.r [(2, .call (rI .i64))]) (.s (.s .d (.c (.s .d .d) .d)) (.s (.s .d (.b (.l [(.s 5, (rI .i64)), (.s 6, (rI .i64))] (.s (.s .d (.c .d .d)) (.s (.b (.s (.r [(2, .rd rPA), (3, .rd rApiEntry), (4, .nl 7), (5, .ls 7)]) (.s (.r [(2, .call rB)]) (.c (.s (.r [(3, .rd rPA), (4, .un)]) .d) .d)))) .d))))) (.s (.r [(2, .rd rSl), (3, .ty rU)]) (.s (.r [(2, .rd rSl)]) .d))))))
theorem slices_DeleteFunc_api_Entry_api_Entry_Ahead_calls {s : Sl} {c67x0 : Addr} {K : Sl → World → Prop} {w : World} (h : slices_DeleteFunc_api_Entry_api_Entry_Ahead s c67x0 K w) : callV Pr Sl.val 65 #[s.val, (.func (.func 67) #[] #[(.pointer (some c67x0))])] w K :=
  calls_of Pr_plain Pr_mixed Pr_func65 slices_DeleteFunc_api_Entry_api_Entry_Ahead_ann rSl (args := [s.val, (.func (.func 67) #[] #[(.pointer (some c67x0))])]) (by kernel_rfl) h

end Go.Chg
