/-
  Functions of the program, told by a program of ours (gen.py), each held by the kernel to what is to be shown of its code.
-/
import Derived.Test.YtahfcnaalleldaaDoorTy
import Derived.Test.YtahfcnaalleldaaDoorFnsA
set_option maxRecDepth 100000
set_option linter.unusedVariables false
namespace Go.Chg
open Go.Vc

/- internal/stringslite.Cut -/
def internal_stringslite_Cut (s : List UInt8) (sep : List UInt8) (K : ((List UInt8) × (List UInt8) × Bool) → World → Prop) (w : World) : Prop :=
  callV Pr (Value.int .i64) 178 #[(sval s), (sval sep)] w fun i1 w2 =>
  ifB (decide (i1 ≥ 0))
  (drewM (fun w3 =>
  opRd Pr (Instr.sliceAt 9 (sval s) none (some (.int .i64 i1)) none) sval (fun before4 =>
  opRd Pr (Instr.sliceAt 9 (sval s) (some (.int .i64 (i64 (i1 + ((sep : List UInt8).length : Int))))) none none) sval (fun after5 =>
  K (before4, after5, true) w3) w3) w3) w2)
  (K (s, [], false) w2)
def internal_stringslite_Cut_ann : Ann := (.s .d (.s (.s (.r [(2, .call (rI .i64))]) (.s .d (.c (.s (.r [(2, .rd rS), (8, .rd rS)]) .d) .d))) (.s .d .d)))
theorem internal_stringslite_Cut_calls {s : List UInt8} {sep : List UInt8} {K : ((List UInt8) × (List UInt8) × Bool) → World → Prop} {w : World} (h : internal_stringslite_Cut s sep K w) : callV Pr (tval3 sval sval Value.bool) 148 #[(sval s), (sval sep)] w K :=
  calls_of Pr_plain Pr_mixed Pr_func148 internal_stringslite_Cut_ann (rT3 rS rS rB) (args := [(sval s), (sval sep)]) (by kernel_rfl) h

/- (*strings.Builder).grow -/
def strings_Builder_grow (b : Option Addr) (n : Int) (K : Unit → World → Prop) (w : World) : Prop :=
  heldM (fun S2 w1 =>
  opH Pr S2 (nilSem (.pointer b)) pav (fun t3 =>
  opH Pr S2 (Instr.loadAt 39 (.pointer (some (t3.add 1)))) Sl.val (fun t4 =>
  opH Pr S2 (nilSem (.pointer b)) pav (fun t5 =>
  opH Pr S2 (Instr.loadAt 39 (.pointer (some (t5.add 1)))) Sl.val (fun t6 =>
  opEx Pr 179 #[(.int .i64 (i64 ((i64 (2 * (t4.cap : Int))) + n)))] Sl.val (fun t7 w8 =>
  (S2 w8) ∧
  (opH Pr S2 (Instr.sliceAt 39 t7.val none (some (.int .i64 (t6.len : Int))) none) Sl.val (fun buf9 =>
  opRd Pr (nilSem (.pointer b)) pav (fun t10 =>
  opRd Pr (Instr.loadAt 39 (.pointer (some (t10.add 1)))) Sl.val (fun t11 =>
  opTy Pr (Builtin.copy_ #[39, 39] 3 #[buf9.val, t11.val]) (Value.int .i64) (fun t12 w13 =>
  opRd Pr (nilSem (.pointer b)) pav (fun t14 =>
  opUn Pr (Instr.storeAt 39 (.pointer (some (t14.add 1))) buf9.val) (fun w15 =>
  K () w15) w13) w13) w8) w8) w8))) w1))))) w
def strings_Builder_grow_ann : Ann := (.s (.h (.take 0 (.take 1 (.take 2 (.take 3 (.take 4 (.take 5 (.take 6 (.take 7 (.take 9 (.take 10 (.take 11 (.take 12 (.take 13 (.one 8 (.take 14 (.take 15 .done)))))))))))))))) [(1, .rd rPA), (3, .rd rSl), (8, .ext rSl), (10, .rd rPA), (12, .rd rSl), (14, .rd rSl)]) (.s (.r [(2, .rd rPA), (4, .rd rSl), (5, .ty (rI .i64))]) (.r [(2, .rd rPA), (4, .un)])))
theorem strings_Builder_grow_calls {b : Option Addr} {n : Int} {K : Unit → World → Prop} {w : World} (h : strings_Builder_grow b n K w) : callV Pr uval 149 #[(.pointer b), (.int .i64 n)] w K :=
  calls_of Pr_plain Pr_mixed Pr_func149 strings_Builder_grow_ann rU (args := [(.pointer b), (.int .i64 n)]) (by kernel_rfl) h

/- changeover/ballot.node -/
def ballot_node (n : Int) (K : Bool → World → Prop) (w : World) : Prop :=
  ifB (decide (n ≥ 1))
  (K (decide (n ≤ 9)) w)
  (K false w)
def ballot_node_ann : Ann := (.s .d (.s .d .d))
theorem ballot_node_calls {n : Int} {K : Bool → World → Prop} {w : World} (h : ballot_node n K w) : callV Pr Value.bool 151 #[(.int .i64 n)] w K :=
  calls_of Pr_plain Pr_mixed Pr_func151 ballot_node_ann rB (args := [(.int .i64 n)]) (by kernel_rfl) h

/- changeover/changeoverref08.Owned -/
def ref08_Owned (kind : Int) (K : Bool → World → Prop) (w : World) : Prop :=
  ifB (decide (kind ≥ 2))
  (K (decide (kind ≤ 5)) w)
  (K false w)
def ref08_Owned_ann : Ann := (.s .d (.s .d .d))
theorem ref08_Owned_calls {kind : Int} {K : Bool → World → Prop} {w : World} (h : ref08_Owned kind K w) : callV Pr Value.bool 153 #[(.int .i64 kind)] w K :=
  calls_of Pr_plain Pr_mixed Pr_func153 ref08_Owned_ann rB (args := [(.int .i64 kind)]) (by kernel_rfl) h

/- changeover/changeoverref08.member -/
def ref08_member (kind : Int) (K : Bool → World → Prop) (w : World) : Prop :=
  ifB (kind == 7)
  (K true w)
  (K (kind == 8) w)
def ref08_member_ann : Ann := (.s .d (.s .d .d))
theorem ref08_member_calls {kind : Int} {K : Bool → World → Prop} {w : World} (h : ref08_member kind K w) : callV Pr Value.bool 154 #[(.int .i64 kind)] w K :=
  calls_of Pr_plain Pr_mixed Pr_func154 ref08_member_ann rB (args := [(.int .i64 kind)]) (by kernel_rfl) h

/- changeover/answer.Check -/
def answer_Check (a : ApiAnswer) (K : Int → World → Prop) (w : World) : Prop :=
  newV (fun b1 w2 =>
  callV Pr Value.bool 186 #[(.int .i64 a.Client), (.int .i64 1), (.int .i64 8)] w2 fun t3 w4 =>
  kp b1 w2 w4 <|
  ifB t3
  (callV Pr Value.bool 186 #[(.int .i64 a.Seq), (.int .i64 1), (.int .i64 4294967296)] w4 fun t5 w6 =>
  kp b1 w4 w6 <|
  ifB t5
  (callV Pr Value.bool 186 #[(.int .i64 a.Err), (.int .i64 0), (.int .i64 17)] w6 fun t7 w8 =>
  kp b1 w6 w8 <|
  ifB t7
  (callV Pr Value.bool 186 #[(.int .i64 a.Rev), (.int .i64 0), (.int .i64 4294967296)] w8 fun t9 w10 =>
  kp b1 w8 w10 <|
  ifB (!t9)
  (K 6 w10)
  (callV Pr Value.bool 158 #[(sval a.Val)] w10 fun t11 w12 =>
  kp b1 w10 w12 <|
  ifB (!t11)
  (K 7 w12)
  (K 0 w12)))
  (ifB (!false)
  (K 6 w8)
  (callV Pr Value.bool 158 #[(sval a.Val)] w8 fun t13 w14 =>
  kp b1 w8 w14 <|
  ifB (!t13)
  (K 7 w14)
  (K 0 w14))))
  (ifB (!false)
  (K 6 w6)
  (callV Pr Value.bool 158 #[(sval a.Val)] w6 fun t15 w16 =>
  kp b1 w6 w16 <|
  ifB (!t15)
  (K 7 w16)
  (K 0 w16))))
  (ifB (!false)
  (K 6 w4)
  (callV Pr Value.bool 158 #[(sval a.Val)] w4 fun t17 w18 =>
  kp b1 w4 w18 <|
  ifB (!t17)
  (K 7 w18)
  (K 0 w18)))) w
def answer_Check_ann : Ann := (.s (.r [(0, .nl 1)]) (.s .d (.s (.r [(3, .call rB), (8, .call rB), (14, .call rB), (20, .call rB)]) (.s (.b (.s .d (.c (.s .d .d) (.s (.r [(2, .call rB)]) (.c (.s .d .d) .d))))) (.s .d .d)))))
theorem answer_Check_calls {a : ApiAnswer} {K : Int → World → Prop} {w : World} (h : answer_Check a K w) : callV Pr (Value.int .i64) 155 #[(.agg ⟨a.cs⟩)] w K :=
  calls_of Pr_plain Pr_mixed Pr_func155 answer_Check_ann (rI .i64) (args := [(.agg ⟨a.cs⟩)]) (by kernel_rfl) h

/- changeover/runes.Key -/
def runes_Key (s : List UInt8) (K : Bool → World → Prop) (w : World) : Prop :=
  ifB (!(strEq s []))
  (ifB (decide (((s : List UInt8).length : Int) ≤ 24))
  (callV Pr Value.bool 187 #[(sval s)] w fun t1 w2 =>
  ifB t1
  (callV Pr Value.bool 188 #[(sval s), (.func (.func 189) #[] #[])] w2 fun t3 w4 =>
  K t3 w4)
  (K false w2))
  (K false w))
  (K false w)
def runes_Key_ann : Ann := (.s .d (.s (.r [(9, .call rB), (13, .call rB)]) .d))
theorem runes_Key_calls {s : List UInt8} {K : Bool → World → Prop} {w : World} (h : runes_Key s K w) : callV Pr Value.bool 157 #[(sval s)] w K :=
  calls_of Pr_plain Pr_mixed Pr_func157 runes_Key_ann rB (args := [(sval s)]) (by kernel_rfl) h

/- changeover/runes.Val -/
def runes_Val (s : List UInt8) (K : Bool → World → Prop) (w : World) : Prop :=
  ifB (decide (((s : List UInt8).length : Int) ≤ 48))
  (callV Pr Value.bool 187 #[(sval s)] w fun t1 w2 =>
  ifB t1
  (callV Pr Value.bool 188 #[(sval s), (.func (.func 190) #[] #[])] w2 fun t3 w4 =>
  K t3 w4)
  (K false w2))
  (K false w)
def runes_Val_ann : Ann := (.s .d (.s (.r [(5, .call rB), (9, .call rB)]) .d))
theorem runes_Val_calls {s : List UInt8} {K : Bool → World → Prop} {w : World} (h : runes_Val s K w) : callV Pr Value.bool 158 #[(sval s)] w K :=
  calls_of Pr_plain Pr_mixed Pr_func158 runes_Val_ann rB (args := [(sval s)]) (by kernel_rfl) h

/- changeover/kvtwo.Check$1 -/
def kvtwo_Check_1 (p : ApiPair) (K : Bool → World → Prop) (w : World) : Prop :=
  newV (fun b1 w2 =>
  ifB (decide (p.Rev < 1))
  (K true w2)
  (K (decide (p.Rev > 4294967296)) w2)) w
def kvtwo_Check_1_ann : Ann := (.s (.r [(0, .nl 1)]) (.s .d .d))
theorem kvtwo_Check_1_calls {p : ApiPair} {K : Bool → World → Prop} {w : World} (h : kvtwo_Check_1 p K w) : callV Pr Value.bool 159 #[(.agg ⟨p.cs⟩)] w K :=
  calls_of Pr_plain Pr_mixed Pr_func159 kvtwo_Check_1_ann rB (args := [(.agg ⟨p.cs⟩)]) (by kernel_rfl) h

/- slices.ContainsFunc[[]changeover/api.Pair,changeover/api.Pair] -/
def slices_ContainsFunc_api_Pair_api_Pair (s : Sl) (f : Value) (K : Bool → World → Prop) (w : World) : Prop :=
  callV Pr (Value.int .i64) 191 #[s.val, f] w fun t1 w2 =>
  K (decide (t1 ≥ 0)) w2
def slices_ContainsFunc_api_Pair_api_Pair_ann : Ann := (.s .d (.s (.r [(2, .call (rI .i64))]) .d))
theorem slices_ContainsFunc_api_Pair_api_Pair_calls {s : Sl} {f : Value} {K : Bool → World → Prop} {w : World} (h : slices_ContainsFunc_api_Pair_api_Pair s f K w) : callV Pr Value.bool 160 #[s.val, f] w K :=
  calls_of Pr_plain Pr_mixed Pr_func160 slices_ContainsFunc_api_Pair_api_Pair_ann rB (args := [s.val, f]) (by kernel_rfl) h

/- changeover/kvtwo.Plain -/
def kvtwo_Plain (l : Sl) (K : Sl → World → Prop) (w : World) : Prop :=
  callV Pr Sl.val 192 #[l.val] w fun out1 w2 =>
  loop1 (0 : Int) (fun t3 k4 w5 =>
  ifB (decide (t3 < (out1.len : Int)))
  (opRd Pr (Instr.indexAt 45 out1.val (.int .i64 t3)) pav (fun t6 =>
  opUn Pr (Instr.storeAt 3 (.pointer (some (t6.add 2))) (.int .i64 0)) (fun w7 =>
  k4 (i64 (t3 + 1)) w7) w5) w5)
  (K out1 w5)) w2
def kvtwo_Plain_ann : Ann := (.s .d (.s (.r [(1, .call rSl)]) (.s (.s .d (.b (.l [(.s 9, (rI .i64))] (.s .d (.s (.c .d .d) (.s (.b (.s .d (.r [(2, .rd rPA), (4, .un)]))) .d)))))) (.s .d .d))))
theorem kvtwo_Plain_calls {l : Sl} {K : Sl → World → Prop} {w : World} (h : kvtwo_Plain l K w) : callV Pr Sl.val 161 #[l.val] w K :=
  calls_of Pr_plain Pr_mixed Pr_func161 kvtwo_Plain_ann rSl (args := [l.val]) (by kernel_rfl) h

/- changeover/changeoverref05.Plain -/
def ref05_Plain (r : Int) (K : Bool → World → Prop) (w : World) : Prop :=
  loop1 (0 : Int) (fun i1 k2 w3 =>
  ifB (decide (i1 < ((cs66_24119 : List UInt8).length : Int)))
  (opRd Pr (Instr.index 9 (sval cs66_24119) (.int .i64 i1)) (Value.int .u8) (fun t4 =>
  ifB ((IntKind.i64.wrap t4) == r)
  (K true w3)
  (k2 (i64 (i1 + 1)) w3)) w3)
  (ifB (decide (r ≥ 161))
  (K (r != 65533) w3)
  (K false w3))) w
def ref05_Plain_ann : Ann := (.s .d (.s .d (.s (.s .d (.b (.l [(.s 4, (rI .i64))] (.s (.s .d (.c .d .d)) (.s (.b (.s (.r [(2, .rd (rI .u8))]) (.c (.s .d .d) .d))) .d))))) (.s .d .d))))
theorem ref05_Plain_calls {r : Int} {K : Bool → World → Prop} {w : World} (h : ref05_Plain r K w) : callV Pr Value.bool 162 #[(.int .i64 r)] w K :=
  calls_of Pr_plain Pr_mixed Pr_func162 ref05_Plain_ann rB (args := [(.int .i64 r)]) (by kernel_rfl) h

/- changeover/changeoverref05.Bad -/
def ref05_Bad (s : List UInt8) (K : Int → World → Prop) (w : World) : Prop :=
  loop1 (0 : Int) (fun i1 k2 w3 =>
  ifB (decide (i1 < ((s : List UInt8).length : Int)))
  (callV Pr (tval2 (Value.int .i64) (Value.int .i64)) 53 #[(sval s), (.int .i64 i1)] w3 fun t4 w5 =>
  ifB (t4.1 == 0)
  (K i1 w5)
  (k2 (i64 (i1 + t4.1)) w5))
  (K (-1) w3)) w
def ref05_Bad_ann : Ann := (.s .d (.s .d (.s (.b (.l [(.s 3, (rI .i64))] (.s (.s .d (.c .d .d)) (.b (.s (.r [(2, .call (rT2 (rI .i64) (rI .i64)))]) (.s (.s .d (.c (.s .d .d) .d)) .d)))))) (.s .d .d))))
theorem ref05_Bad_calls {s : List UInt8} {K : Int → World → Prop} {w : World} (h : ref05_Bad s K w) : callV Pr (Value.int .i64) 163 #[(sval s)] w K :=
  calls_of Pr_plain Pr_mixed Pr_func163 ref05_Bad_ann (rI .i64) (args := [(sval s)]) (by kernel_rfl) h

/- changeover/varint.Get -/
def varint_Get (b : Sl) (at_ : Int) (K : (Int × Int × Int) → World → Prop) (w : World) : Prop :=
  ifB (decide (at_ < 0))
  (K (0, 0, 6) w)
  (ifB (decide (at_ > (b.len : Int)))
  (K (0, 0, 6) w)
  (join2 (fun (j1 : Int → Int → World → Prop) =>
  loop2 (0 : Int) (at_ : Int) (fun n2 i3 k4 w5 =>
  ifB (decide (i3 < (b.len : Int)))
  (opRd Pr (Instr.indexAt 39 b.val (.int .i64 i3)) pav (fun t6 =>
  opRd Pr (Instr.loadAt 5 (.pointer (some t6))) (Value.int .u8) (fun c7 =>
  join0 (fun (j8 : World → Prop) =>
  ifB (c7 == 0)
  (ifB (decide (i3 > at_))
  (ifB (decide (i3 > at_))
  (K (0, 0, 3) w5)
  (j8 w5))
  (ifB (decide ((i64 (7 * (i64 (i3 - at_)))) > 56))
  (ifB (decide ((i64 (7 * (i64 (i3 - at_)))) > 56))
  (K (0, 0, 3) w5)
  (j8 w5))
  (ifB (decide (n2 > 9223372036854775807))
  (K (0, 0, 3) w5)
  (j8 w5))))
  (ifB (decide ((i64 (7 * (i64 (i3 - at_)))) > 56))
  (ifB (decide ((i64 (7 * (i64 (i3 - at_)))) > 56))
  (K (0, 0, 3) w5)
  (j8 w5))
  (ifB (decide (n2 > 9223372036854775807))
  (K (0, 0, 3) w5)
  (j8 w5))))
  (fun w9 =>
  opRd Pr (binSem .shl 203 (.tmp 49) (.tmp 50) (.int .u64 (IntKind.u64.wrap (bAnd .u8 c7 127))) (.int .i64 (i64 (7 * (i64 (i3 - at_)))))) (Value.int .u64) (fun t10 =>
  ifB (decide (c7 < 128))
  (j1 (bOr .u64 n2 t10) i3 w9)
  (k4 (bOr .u64 n2 t10) (i64 (i3 + 1)) w9)) w9)) w5) w5)
  (j1 n2 i3 w5)) w)
  (fun n11 i12 w13 =>
  ifB (i12 == (b.len : Int))
  (K (0, 0, 1) w13)
  (K ((IntKind.i64.wrap n11), (i64 (i12 + 1)), 0) w13))))
def varint_Get_ann : Ann := (.s .d (.b (.s (.s .d (.c (.s .d .d) .d)) (.s .d (.s .d (.s .d (.sj [(.s 7, (rI .u64)), (.s 8, (rI .i64))] (.b (.l [(.s 7, (rI .u64)), (.s 8, (rI .i64))] (.s (.s .d (.c .d .d)) (.s (.b (.s (.r [(2, .rd rPA), (3, .rd (rI .u8))]) (.sj [] (.b (.s (.s .d (.c .d (.s .d (.c .d .d)))) (.c (.s .d .d) .d))) (.s (.r [(5, .rd (rI .u64))]) (.s .d (.c .d .d)))))) .d)))) (.s (.s .d (.c (.s .d .d) .d)) (.s .d .d)))))))))
theorem varint_Get_calls {b : Sl} {at_ : Int} {K : (Int × Int × Int) → World → Prop} {w : World} (h : varint_Get b at_ K w) : callV Pr (tval3 (Value.int .i64) (Value.int .i64) (Value.int .i64)) 164 #[b.val, (.int .i64 at_)] w K :=
  calls_of Pr_plain Pr_mixed Pr_func164 varint_Get_ann (rT3 (rI .i64) (rI .i64) (rI .i64)) (args := [b.val, (.int .i64 at_)]) (by kernel_rfl) h

/- (*changeover/pack.Reader).fail -/
def pack_Reader_fail (r : Option Addr) (e : Int) (K : Unit → World → Prop) (w : World) : Prop :=
  opRd Pr (nilSem (.pointer r)) pav (fun t1 =>
  opUn Pr (Instr.storeAt 24 (.pointer (some (t1.add 2))) (.int .i64 e)) (fun w2 =>
  K () w2) w) w
def pack_Reader_fail_ann : Ann := (.r [(2, .rd rPA), (4, .un)])
theorem pack_Reader_fail_calls {r : Option Addr} {e : Int} {K : Unit → World → Prop} {w : World} (h : pack_Reader_fail r e K w) : callV Pr uval 165 #[(.pointer r), (.int .i64 e)] w K :=
  calls_of Pr_plain Pr_mixed Pr_func165 pack_Reader_fail_ann rU (args := [(.pointer r), (.int .i64 e)]) (by kernel_rfl) h

/- (*changeover/pack.Reader).Count$1 -/
def pack_Reader_Count_1 (c_x0 : Addr) (c_x1 : Addr) (K : Int → World → Prop) (w : World) : Prop :=
  opRd Pr (Instr.loadAt 114 (.pointer (some c_x0))) Value.pointer (fun t1 =>
  opRd Pr (Instr.loadAt 3 (.pointer (some c_x1))) (Value.int .i64) (fun t2 =>
  callV Pr (Value.int .i64) 167 #[(.pointer t1), (.int .i64 t2)] w fun t3 w4 =>
  K t3 w4) w) w
def pack_Reader_Count_1_ann : Ann := (.s .d (.s (.r [(0, .rd rP), (1, .rd (rI .i64)), (2, .call (rI .i64))]) .d))
theorem pack_Reader_Count_1_calls {c_x0 : Addr} {c_x1 : Addr} {K : Int → World → Prop} {w : World} (h : pack_Reader_Count_1 c_x0 c_x1 K w) : callV Pr (Value.int .i64) 166 #[(.pointer (some c_x0)), (.pointer (some c_x1))] w K :=
  calls_of Pr_plain Pr_mixed Pr_func166 pack_Reader_Count_1_ann (rI .i64) (args := [(.pointer (some c_x0)), (.pointer (some c_x1))]) (by kernel_rfl) h

/- (*changeover/pack.Reader).counted -/
def pack_Reader_counted (r : Option Addr) (most : Int) (K : Int → World → Prop) (w : World) : Prop :=
  callV Pr (Value.int .i64) 135 #[(.pointer r), (.int .i64 most)] w fun n1 w2 =>
  opRd Pr (nilSem (.pointer r)) pav (fun t3 =>
  opRd Pr (Instr.loadAt 24 (.pointer (some (t3.add 2)))) (Value.int .i64) (fun t4 =>
  ifB (t4 == 0)
  (callV Pr (Value.int .i64) 139 #[(.pointer r)] w2 fun t5 w6 =>
  ifB (decide (n1 > t5))
  (callV Pr uval 165 #[(.pointer r), (.int .i64 1)] w6 fun t7 w8 =>
  K n1 w8)
  (K n1 w6))
  (K n1 w2)) w2) w2
def pack_Reader_counted_ann : Ann := (.s .d (.s (.r [(2, .call (rI .i64))]) (.s (.s (.r [(1, .rd rPA), (3, .rd (rI .i64)), (8, .call (rI .i64))]) (.c (.r [(1, .call rU)]) .d)) (.s .d .d))))
theorem pack_Reader_counted_calls {r : Option Addr} {most : Int} {K : Int → World → Prop} {w : World} (h : pack_Reader_counted r most K w) : callV Pr (Value.int .i64) 167 #[(.pointer r), (.int .i64 most)] w K :=
  calls_of Pr_plain Pr_mixed Pr_func167 pack_Reader_counted_ann (rI .i64) (args := [(.pointer r), (.int .i64 most)]) (by kernel_rfl) h

/- (*changeover/pack.Reader).Raw$1 -/
def pack_Reader_Raw_1 (c_x0 : Addr) (c_x1 : Addr) (K : Sl → World → Prop) (w : World) : Prop :=
  opRd Pr (Instr.loadAt 114 (.pointer (some c_x0))) Value.pointer (fun t1 =>
  opRd Pr (Instr.loadAt 3 (.pointer (some c_x1))) (Value.int .i64) (fun t2 =>
  callV Pr Sl.val 170 #[(.pointer t1), (.int .i64 t2)] w fun t3 w4 =>
  K t3 w4) w) w
def pack_Reader_Raw_1_ann : Ann := (.s .d (.s (.r [(0, .rd rP), (1, .rd (rI .i64)), (2, .call rSl)]) .d))
theorem pack_Reader_Raw_1_calls {c_x0 : Addr} {c_x1 : Addr} {K : Sl → World → Prop} {w : World} (h : pack_Reader_Raw_1 c_x0 c_x1 K w) : callV Pr Sl.val 169 #[(.pointer (some c_x0)), (.pointer (some c_x1))] w K :=
  calls_of Pr_plain Pr_mixed Pr_func169 pack_Reader_Raw_1_ann rSl (args := [(.pointer (some c_x0)), (.pointer (some c_x1))]) (by kernel_rfl) h

/- (*changeover/pack.Reader).raw -/
def pack_Reader_raw (r : Option Addr) (most : Int) (K : Sl → World → Prop) (w : World) : Prop :=
  callV Pr (Value.int .i64) 167 #[(.pointer r), (.int .i64 most)] w fun n1 w2 =>
  opRd Pr (nilSem (.pointer r)) pav (fun t3 =>
  opRd Pr (Instr.loadAt 24 (.pointer (some (t3.add 2)))) (Value.int .i64) (fun t4 =>
  ifB (t4 != 0)
  (K Sl.nil w2)
  (opRd Pr (nilSem (.pointer r)) pav (fun t5 =>
  opRd Pr (Instr.loadAt 3 (.pointer (some (t5.add 1)))) (Value.int .i64) (fun t6 =>
  opRd Pr (nilSem (.pointer r)) pav (fun t7 =>
  opUn Pr (Instr.storeAt 3 (.pointer (some (t7.add 1))) (.int .i64 (i64 (t6 + n1)))) (fun w8 =>
  heldM (fun S10 w9 =>
  opH Pr S10 (nilSem (.pointer r)) pav (fun t11 =>
  opH Pr S10 (Instr.loadAt 39 (.pointer (some (t11.add 0)))) Sl.val (fun t12 =>
  opH Pr S10 (nilSem (.pointer r)) pav (fun t13 =>
  opH Pr S10 (Instr.loadAt 3 (.pointer (some (t13.add 1)))) (Value.int .i64) (fun t14 =>
  opH Pr S10 (nilSem (.pointer r)) pav (fun t15 =>
  opH Pr S10 (Instr.loadAt 3 (.pointer (some (t15.add 1)))) (Value.int .i64) (fun t16 =>
  opH Pr S10 (Instr.sliceAt 39 t12.val (some (.int .i64 (i64 (t14 - n1)))) (some (.int .i64 t16)) none) Sl.val (fun t17 =>
  callV Pr Sl.val 127 #[t17.val] w9 fun t18 w19 =>
  (S10 w19) ∧
  (K t18 w19))))))))) w8) w2) w2) w2) w2)) w2) w2
def pack_Reader_raw_ann : Ann := (.s .d (.s (.r [(2, .call (rI .i64))]) (.s (.s (.r [(1, .rd rPA), (3, .rd (rI .i64))]) (.c (.s .d .d) .d)) (.s (.r [(1, .rd rPA), (3, .rd (rI .i64)), (6, .rd rPA), (8, .un)]) (.s (.h (.take 0 (.take 1 (.take 2 (.take 3 (.take 4 (.take 5 (.take 6 (.take 7 (.take 8 (.take 9 (.take 10 (.take 11 (.take 12 (.take 13 (.take 14 (.one 15 (.take 16 .done))))))))))))))))) [(1, .rd rPA), (3, .rd rSl), (5, .rd rPA), (7, .rd (rI .i64)), (11, .rd rPA), (13, .rd (rI .i64)), (14, .rd rSl), (15, .call rSl)]) .d)))))
theorem pack_Reader_raw_calls {r : Option Addr} {most : Int} {K : Sl → World → Prop} {w : World} (h : pack_Reader_raw r most K w) : callV Pr Sl.val 170 #[(.pointer r), (.int .i64 most)] w K :=
  calls_of Pr_plain Pr_mixed Pr_func170 pack_Reader_raw_ann rSl (args := [(.pointer r), (.int .i64 most)]) (by kernel_rfl) h

/- (*changeover/pack.Reader).flag -/
def pack_Reader_flag (r : Option Addr) (K : Bool → World → Prop) (w : World) : Prop :=
  callV Pr (Value.int .i64) 139 #[(.pointer r)] w fun t1 w2 =>
  ifB (t1 == 0)
  (callV Pr uval 165 #[(.pointer r), (.int .i64 1)] w2 fun t3 w4 =>
  K false w4)
  (drewM (fun w5 =>
  opRd Pr (nilSem (.pointer r)) pav (fun t6 =>
  opRd Pr (Instr.loadAt 39 (.pointer (some (t6.add 0)))) Sl.val (fun t7 =>
  opRd Pr (nilSem (.pointer r)) pav (fun t8 =>
  opRd Pr (Instr.loadAt 3 (.pointer (some (t8.add 1)))) (Value.int .i64) (fun t9 =>
  opRd Pr (Instr.indexAt 39 t7.val (.int .i64 t9)) pav (fun t10 =>
  opRd Pr (Instr.loadAt 5 (.pointer (some t10))) (Value.int .u8) (fun c11 =>
  opRd Pr (nilSem (.pointer r)) pav (fun t12 =>
  opRd Pr (Instr.loadAt 3 (.pointer (some (t12.add 1)))) (Value.int .i64) (fun t13 =>
  opRd Pr (nilSem (.pointer r)) pav (fun t14 =>
  opUn Pr (Instr.storeAt 3 (.pointer (some (t14.add 1))) (.int .i64 (i64 (t13 + 1)))) (fun w15 =>
  ifB (decide (c11 > 1))
  (callV Pr uval 165 #[(.pointer r), (.int .i64 3)] w15 fun t16 w17 =>
  K (c11 == 1) w17)
  (K (c11 == 1) w15)) w5) w5) w5) w5) w5) w5) w5) w5) w5) w5) w2)
def pack_Reader_flag_ann : Ann := (.s .d (.s (.s (.r [(1, .call (rI .i64))]) (.c (.s (.r [(1, .call rU)]) (.s .d .d)) .d)) (.s (.r [(1, .rd rPA), (3, .rd rSl), (5, .rd rPA), (7, .rd (rI .i64)), (8, .rd rPA), (9, .rd (rI .u8))]) (.s (.r [(1, .rd rPA), (3, .rd (rI .i64)), (5, .rd rPA), (7, .un)]) (.s (.s .d (.c (.r [(1, .call rU)]) .d)) (.s .d .d))))))
theorem pack_Reader_flag_calls {r : Option Addr} {K : Bool → World → Prop} {w : World} (h : pack_Reader_flag r K w) : callV Pr Value.bool 171 #[(.pointer r)] w K :=
  calls_of Pr_plain Pr_mixed Pr_func171 pack_Reader_flag_ann rB (args := [(.pointer r)]) (by kernel_rfl) h

/- slices.ContainsFunc[[]changeover/api.Entry,changeover/api.Entry] -/
def slices_ContainsFunc_api_Entry_api_Entry (s : Sl) (f : Value) (K : Bool → World → Prop) (w : World) : Prop :=
  callV Pr (Value.int .i64) 194 #[s.val, f] w fun t1 w2 =>
  K (decide (t1 ≥ 0)) w2
def slices_ContainsFunc_api_Entry_api_Entry_ann : Ann := (.s .d (.s (.r [(2, .call (rI .i64))]) .d))
theorem slices_ContainsFunc_api_Entry_api_Entry_calls {s : Sl} {f : Value} {K : Bool → World → Prop} {w : World} (h : slices_ContainsFunc_api_Entry_api_Entry s f K w) : callV Pr Value.bool 174 #[s.val, f] w K :=
  calls_of Pr_plain Pr_mixed Pr_func174 slices_ContainsFunc_api_Entry_api_Entry_ann rB (args := [s.val, f]) (by kernel_rfl) h

/- changeover/entry.Has$1 -/
def entry_Has_1 (e : ApiEntry) (c_x0 : Addr) (K : Bool → World → Prop) (w : World) : Prop :=
  newV (fun b1 w2 =>
  opRd Pr (Instr.loadAt 3 (.pointer (some c_x0))) (Value.int .i64) (fun t3 =>
  callV Pr Value.bool 176 #[(.int .i64 t3), (.int .i64 e.Cmd.Kind)] w2 fun t4 w5 =>
  kp b1 w2 w5 <|
  K (!t4) w5) w2) w
def entry_Has_1_ann : Ann := (.s (.r [(0, .nl 2)]) (.s (.r [(0, .rd (rI .i64)), (4, .call rB)]) .d))
theorem entry_Has_1_calls {e : ApiEntry} {c_x0 : Addr} {K : Bool → World → Prop} {w : World} (h : entry_Has_1 e c_x0 K w) : callV Pr Value.bool 175 #[(.agg ⟨e.cs⟩), (.pointer (some c_x0))] w K :=
  calls_of Pr_plain Pr_mixed Pr_func175 entry_Has_1_ann rB (args := [(.agg ⟨e.cs⟩), (.pointer (some c_x0))]) (by kernel_rfl) h

/- changeover/vers.Has -/
def vers_Has (v : Int) (kind : Int) (K : Bool → World → Prop) (w : World) : Prop :=
  callV Pr Value.bool 116 #[(.int .i64 v)] w fun t1 w2 =>
  ifB (!t1)
  (K false w2)
  (ifB (kind == 1)
  (ifB (kind == 1)
  (K true w2)
  (ifB (kind == 5)
  (K (decide (v ≥ 2)) w2)
  (K false w2)))
  (ifB (kind == 2)
  (ifB (kind == 2)
  (K true w2)
  (ifB (kind == 5)
  (K (decide (v ≥ 2)) w2)
  (K false w2)))
  (ifB (kind == 3)
  (ifB (kind == 3)
  (K true w2)
  (ifB (kind == 5)
  (K (decide (v ≥ 2)) w2)
  (K false w2)))
  (ifB (kind == 4)
  (ifB (kind == 4)
  (K true w2)
  (ifB (kind == 5)
  (K (decide (v ≥ 2)) w2)
  (K false w2)))
  (ifB (kind == 6)
  (ifB (kind == 6)
  (K true w2)
  (ifB (kind == 5)
  (K (decide (v ≥ 2)) w2)
  (K false w2)))
  (ifB (kind == 7)
  (ifB (kind == 7)
  (K true w2)
  (ifB (kind == 5)
  (K (decide (v ≥ 2)) w2)
  (K false w2)))
  (ifB (kind == 8)
  (K true w2)
  (ifB (kind == 5)
  (K (decide (v ≥ 2)) w2)
  (K false w2)))))))))
def vers_Has_ann : Ann := (.s .d (.s (.s (.r [(1, .call rB)]) (.c (.s .d .d) .d)) (.s (.s .d (.b (.s (.s .d (.c .d (.s .d (.c .d (.s .d (.c .d (.s .d (.c .d (.s .d (.c .d (.s .d (.c .d .d)))))))))))) (.c (.s .d .d) (.s .d (.c (.s .d .d) .d)))))) (.s .d .d))))
theorem vers_Has_calls {v : Int} {kind : Int} {K : Bool → World → Prop} {w : World} (h : vers_Has v kind K w) : callV Pr Value.bool 176 #[(.int .i64 v), (.int .i64 kind)] w K :=
  calls_of Pr_plain Pr_mixed Pr_func176 vers_Has_ann rB (args := [(.int .i64 v), (.int .i64 kind)]) (by kernel_rfl) h

/- internal/stringslite.IndexByte -/
def internal_stringslite_IndexByte (s : List UInt8) (c : Int) (K : Int → World → Prop) (w : World) : Prop :=
  opEx Pr 195 #[(sval s), (.int .u8 c)] (Value.int .i64) (fun t1 w2 =>
  K t1 w2) w
def internal_stringslite_IndexByte_ann : Ann := (.s .d (.s (.r [(2, .ext (rI .i64))]) .d))
theorem internal_stringslite_IndexByte_calls {s : List UInt8} {c : Int} {K : Int → World → Prop} {w : World} (h : internal_stringslite_IndexByte s c K w) : callV Pr (Value.int .i64) 177 #[(sval s), (.int .u8 c)] w K :=
  calls_of Pr_plain Pr_mixed Pr_func177 internal_stringslite_IndexByte_ann (rI .i64) (args := [(sval s), (.int .u8 c)]) (by kernel_rfl) h

/- internal/stringslite.Index -/
def internal_stringslite_Index (s : List UInt8) (substr : List UInt8) (K : Int → World → Prop) (w : World) : Prop :=
  join0 (fun (j1 : World → Prop) =>
  ifB (((substr : List UInt8).length : Int) == 0)
  (K 0 w)
  (ifB (strEq substr s)
  (K 0 w)
  (ifB (((substr : List UInt8).length : Int) == 1)
  (opRd Pr (Instr.index 9 (sval substr) (.int .i64 0)) (Value.int .u8) (fun t2 =>
  callV Pr (Value.int .i64) 177 #[(sval s), (.int .u8 t2)] w fun t3 w4 =>
  K t3 w4) w)
  (ifB (decide (((substr : List UInt8).length : Int) ≥ ((s : List UInt8).length : Int)))
  (K (-1) w)
  (opRd Pr (Instr.loadAt 3 (.pointer (some g_internal_bytealg_MaxLen))) (Value.int .i64) (fun t5 =>
  ifB (decide (((substr : List UInt8).length : Int) ≤ t5))
  (ifB (decide (((s : List UInt8).length : Int) ≤ 64))
  (opEx Pr 196 #[(sval s), (sval substr)] (Value.int .i64) (fun t6 w7 =>
  K t6 w7) w)
  (j1 w))
  (j1 w)) w)))))
  (fun w8 =>
  opRd Pr (Instr.index 9 (sval substr) (.int .i64 0)) (Value.int .u8) (fun c09 =>
  opRd Pr (Instr.index 9 (sval substr) (.int .i64 1)) (Value.int .u8) (fun c110 =>
  loop2 (0 : Int) (0 : Int) (fun i11 fails12 k13 w14 =>
  ifB (decide (i11 < (i64 ((i64 (((s : List UInt8).length : Int) - ((substr : List UInt8).length : Int))) + 1))))
  (join1 (fun (j15 : Int → World → Prop) =>
  opRd Pr (Instr.index 9 (sval s) (.int .i64 i11)) (Value.int .u8) (fun t16 =>
  ifB (t16 != c09)
  (opRd Pr (Instr.sliceAt 9 (sval s) (some (.int .i64 (i64 (i11 + 1)))) (some (.int .i64 (i64 ((i64 (((s : List UInt8).length : Int) - ((substr : List UInt8).length : Int))) + 1)))) none) sval (fun t17 =>
  callV Pr (Value.int .i64) 177 #[(sval t17), (.int .u8 c09)] w14 fun o18 w19 =>
  ifB (decide (o18 < 0))
  (K (-1) w19)
  (j15 (i64 (i11 + (i64 (o18 + 1)))) w19)) w14)
  (j15 i11 w14)) w14)
  (fun i20 w21 =>
  join0 (fun (j22 : World → Prop) =>
  opRd Pr (Instr.index 9 (sval s) (.int .i64 (i64 (i20 + 1)))) (Value.int .u8) (fun t23 =>
  ifB (t23 == c110)
  (opRd Pr (Instr.sliceAt 9 (sval s) (some (.int .i64 i20)) (some (.int .i64 (i64 (i20 + ((substr : List UInt8).length : Int))))) none) sval (fun t24 =>
  ifB (strEq t24 substr)
  (K i20 w21)
  (j22 w21)) w21)
  (j22 w21)) w21)
  (fun w25 =>
  opRd Pr (Instr.loadAt 3 (.pointer (some g_internal_bytealg_MaxLen))) (Value.int .i64) (fun t26 =>
  ifB (decide (((substr : List UInt8).length : Int) ≤ t26))
  (callV Pr (Value.int .i64) 197 #[(.int .i64 (i64 (i20 + 1)))] w25 fun t27 w28 =>
  ifB (decide ((i64 (fails12 + 1)) > t27))
  (opRd Pr (Instr.sliceAt 9 (sval s) (some (.int .i64 (i64 (i20 + 1)))) none none) sval (fun t29 =>
  opEx Pr 196 #[(sval t29), (sval substr)] (Value.int .i64) (fun r30 w31 =>
  ifB (decide (r30 ≥ 0))
  (K (i64 (r30 + (i64 (i20 + 1)))) w31)
  (K (-1) w31)) w28) w28)
  (opRd Pr (Instr.loadAt 3 (.pointer (some g_internal_bytealg_MaxLen))) (Value.int .i64) (fun t32 =>
  ifB (decide (((substr : List UInt8).length : Int) > t32))
  (ifB (decide ((i64 (fails12 + 1)) ≥ (i64 (4 + (shR .i64 (i64 (i20 + 1)) 4)))))
  (ifB (decide ((i64 (i20 + 1)) < (i64 ((i64 (((s : List UInt8).length : Int) - ((substr : List UInt8).length : Int))) + 1))))
  (opRd Pr (Instr.sliceAt 9 (sval s) (some (.int .i64 (i64 (i20 + 1)))) none none) sval (fun t33 =>
  callV Pr (Value.int .i64) 198 #[(sval t33), (sval substr)] w28 fun j34 w35 =>
  ifB (decide (j34 < 0))
  (K (-1) w35)
  (K (i64 ((i64 (i20 + 1)) + j34)) w35)) w28)
  (k13 (i64 (i20 + 1)) (i64 (fails12 + 1)) w28))
  (k13 (i64 (i20 + 1)) (i64 (fails12 + 1)) w28))
  (k13 (i64 (i20 + 1)) (i64 (fails12 + 1)) w28)) w28))
  (opRd Pr (Instr.loadAt 3 (.pointer (some g_internal_bytealg_MaxLen))) (Value.int .i64) (fun t36 =>
  ifB (decide (((substr : List UInt8).length : Int) > t36))
  (ifB (decide ((i64 (fails12 + 1)) ≥ (i64 (4 + (shR .i64 (i64 (i20 + 1)) 4)))))
  (ifB (decide ((i64 (i20 + 1)) < (i64 ((i64 (((s : List UInt8).length : Int) - ((substr : List UInt8).length : Int))) + 1))))
  (opRd Pr (Instr.sliceAt 9 (sval s) (some (.int .i64 (i64 (i20 + 1)))) none none) sval (fun t37 =>
  callV Pr (Value.int .i64) 198 #[(sval t37), (sval substr)] w25 fun j38 w39 =>
  ifB (decide (j38 < 0))
  (K (-1) w39)
  (K (i64 ((i64 (i20 + 1)) + j38)) w39)) w25)
  (k13 (i64 (i20 + 1)) (i64 (fails12 + 1)) w25))
  (k13 (i64 (i20 + 1)) (i64 (fails12 + 1)) w25))
  (k13 (i64 (i20 + 1)) (i64 (fails12 + 1)) w25)) w25)) w25)))
  (K (-1) w14)) w8) w8) w8)
def internal_stringslite_Index_ann : Ann := (.s .d (.s .d (.sj [] (.b (.s .d (.c (.s .d .d) (.s .d (.c (.s (.r [(2, .rd (rI .u8)), (3, .call (rI .i64))]) .d) (.s .d (.c (.s .d .d) (.s (.r [(1, .rd (rI .i64))]) (.c (.s (.r [(2, .ext (rI .i64))]) .d) .d))))))))) (.s (.r [(1, .rd (rI .u8))]) (.s (.r [(1, .rd (rI .u8))]) (.s .d (.s .d (.s .d (.s (.b (.l [(.s 8, (rI .i64)), (.s 10, (rI .i64))] (.s (.s .d (.c .d .d)) (.b (.sj [(.s 8, (rI .i64))] (.s (.r [(2, .rd (rI .u8))]) (.c (.s (.r [(4, .rd rS), (6, .call (rI .i64))]) (.s (.s .d (.c (.s .d .d) .d)) .d)) .d)) (.sj [] (.s (.r [(3, .rd (rI .u8)), (12, .rd rS)]) (.c (.s .d .d) .d)) (.s .d (.s .d (.s (.r [(1, .rd (rI .i64)), (6, .call (rI .i64))]) (.c (.s (.r [(2, .rd rS), (4, .ext (rI .i64))]) (.s (.s .d (.c (.s .d .d) .d)) (.s .d .d))) (.s (.r [(1, .rd (rI .i64))]) (.c (.s (.r [(2, .rd rS), (4, .call (rI .i64))]) (.s (.s .d (.c (.s .d .d) .d)) (.s .d .d))) .d)))))))))))) (.s .d .d))))))))))
theorem internal_stringslite_Index_calls {s : List UInt8} {substr : List UInt8} {K : Int → World → Prop} {w : World} (h : internal_stringslite_Index s substr K w) : callV Pr (Value.int .i64) 178 #[(sval s), (sval substr)] w K :=
  calls_of Pr_plain Pr_mixed Pr_func178 internal_stringslite_Index_ann (rI .i64) (args := [(sval s), (sval substr)]) (by kernel_rfl) h

/- changeover/cmd.parts -/
def cmd_parts (K : Sl → World → Prop) (w : World) : Prop :=
  opTy Pr (Instr.buildSlice 188 6 #[(0, (.agg ⟨[(.int .i64 1), (.int .i64 8), .nilFunc, (.func (.func 199) #[] #[])]⟩)), (1, (.agg ⟨[(.int .i64 1), (.int .i64 4294967296), .nilFunc, (.func (.func 200) #[] #[])]⟩)), (2, (.agg ⟨[(.int .i64 2), (.int .i64 0), (.func (.func 157) #[] #[]), (.func (.func 201) #[] #[])]⟩)), (3, (.agg ⟨[(.int .i64 4), (.int .i64 0), (.func (.func 158) #[] #[]), (.func (.func 202) #[] #[])]⟩)), (4, (.agg ⟨[(.int .i64 8), (.int .i64 0), (.func (.func 158) #[] #[]), (.func (.func 203) #[] #[])]⟩)), (5, (.agg ⟨[(.int .i64 16), (.int .i64 9), .nilFunc, (.func (.func 204) #[] #[])]⟩))]) Sl.val (fun t1 w2 =>
  K t1 w2) w
def cmd_parts_ann : Ann := (.s .d (.s (.r [(6, .ty rSl)]) .d))
theorem cmd_parts_calls {K : Sl → World → Prop} {w : World} (h : cmd_parts K w) : callV Pr Sl.val 180 #[] w K :=
  calls_of Pr_plain Pr_mixed Pr_func180 cmd_parts_ann rSl (args := []) (by kernel_rfl) h

/- (changeover/cmd.part).wanted -/
def cmd_part_wanted (p : CmdPart) (v : Int) (kind : Int) (K : Bool → World → Prop) (w : World) : Prop :=
  newV (fun b1 w2 =>
  callV Pr (tval2 (Value.int .i64) Value.bool) 183 #[(.int .i64 kind)] w2 fun t3 w4 =>
  kp b1 w2 w4 <|
  ifB (v == 1)
  (K (p.has_ != 4) w4)
  (K ((bAnd .i64 t3.1 p.has_) != 0) w4)) w
def cmd_part_wanted_ann : Ann := (.s (.r [(0, .nl 3)]) (.s (.r [(1, .call (rT2 (rI .i64) rB))]) (.s (.s .d (.c (.s .d .d) .d)) (.s .d .d))))
theorem cmd_part_wanted_calls {p : CmdPart} {v : Int} {kind : Int} {K : Bool → World → Prop} {w : World} (h : cmd_part_wanted p v kind K w) : callV Pr Value.bool 181 #[(.agg ⟨p.cs⟩), (.int .i64 v), (.int .i64 kind)] w K :=
  calls_of Pr_plain Pr_mixed Pr_func181 cmd_part_wanted_ann rB (args := [(.agg ⟨p.cs⟩), (.int .i64 v), (.int .i64 kind)]) (by kernel_rfl) h

/- changeover/cmd.fields -/
def cmd_fields (kind : Int) (K : (Int × Bool) → World → Prop) (w : World) : Prop :=
  join1 (fun (j1 : Bool → World → Prop) =>
  ifB (kind == 1)
  (j1 (kind == 1) w)
  (j1 (kind == 6) w))
  (fun t2 w3 =>
  ifB t2
  (K (0, true) w3)
  (ifB (kind == 2)
  (K (11, true) w3)
  (join1 (fun (j4 : Bool → World → Prop) =>
  ifB (kind == 3)
  (j4 (kind == 3) w3)
  (j4 (kind == 4) w3))
  (fun t5 w6 =>
  ifB t5
  (K (3, true) w6)
  (ifB (kind == 5)
  (K (15, true) w6)
  (ifB (kind == 7)
  (ifB (kind == 7)
  (K (16, true) w6)
  (K (0, false) w6))
  (ifB (kind == 8)
  (K (16, true) w6)
  (K (0, false) w6))))))))
def cmd_fields_ann : Ann := (.s .d (.s (.s .d (.b (.sj [(.s 5, rB)] (.s .d (.c .d .d)) (.c (.s .d .d) (.s .d (.c (.s .d .d) (.sj [(.s 10, rB)] (.s .d (.c .d .d)) (.c (.s .d .d) (.s .d (.c (.s .d .d) (.s (.s .d (.c .d .d)) (.c (.s .d .d) .d)))))))))))) (.s .d .d)))
theorem cmd_fields_calls {kind : Int} {K : (Int × Bool) → World → Prop} {w : World} (h : cmd_fields kind K w) : callV Pr (tval2 (Value.int .i64) Value.bool) 183 #[(.int .i64 kind)] w K :=
  calls_of Pr_plain Pr_mixed Pr_func183 cmd_fields_ann (rT2 (rI .i64) rB) (args := [(.int .i64 kind)]) (by kernel_rfl) h

/- changeover/answer.Check$1 -/
def answer_Check_1 (n : Int) (least : Int) (most : Int) (K : Bool → World → Prop) (w : World) : Prop :=
  ifB (decide (n ≥ least))
  (K (decide (n ≤ most)) w)
  (K false w)
def answer_Check_1_ann : Ann := (.s .d (.s .d .d))
theorem answer_Check_1_calls {n : Int} {least : Int} {most : Int} {K : Bool → World → Prop} {w : World} (h : answer_Check_1 n least most K w) : callV Pr Value.bool 186 #[(.int .i64 n), (.int .i64 least), (.int .i64 most)] w K :=
  calls_of Pr_plain Pr_mixed Pr_func186 answer_Check_1_ann rB (args := [(.int .i64 n), (.int .i64 least), (.int .i64 most)]) (by kernel_rfl) h

/- changeover/runes.Whole -/
def runes_Whole (s : List UInt8) (K : Bool → World → Prop) (w : World) : Prop :=
  callV Pr (Value.int .i64) 205 #[(sval s)] w fun t1 w2 =>
  K (decide (t1 < 0)) w2
def runes_Whole_ann : Ann := (.s .d (.s (.r [(1, .call (rI .i64))]) .d))
theorem runes_Whole_calls {s : List UInt8} {K : Bool → World → Prop} {w : World} (h : runes_Whole s K w) : callV Pr Value.bool 187 #[(sval s)] w K :=
  calls_of Pr_plain Pr_mixed Pr_func187 runes_Whole_ann rB (args := [(sval s)]) (by kernel_rfl) h

/- changeover/runes.Plain -/
def runes_Plain (r : Int) (K : Bool → World → Prop) (w : World) : Prop :=
  join1 (fun (j1 : Bool → World → Prop) =>
  ifB (decide (r ≥ 97))
  (ifB (decide (r ≤ 122))
  (j1 (decide (r ≤ 122)) w)
  (ifB (decide (r ≥ 65))
  (ifB (decide (r ≤ 90))
  (j1 (decide (r ≤ 90)) w)
  (ifB (decide (r ≥ 48))
  (j1 (decide (r ≤ 57)) w)
  (j1 false w)))
  (ifB (decide (r ≥ 48))
  (j1 (decide (r ≤ 57)) w)
  (j1 false w))))
  (ifB (decide (r ≥ 65))
  (ifB (decide (r ≤ 90))
  (j1 (decide (r ≤ 90)) w)
  (ifB (decide (r ≥ 48))
  (j1 (decide (r ≤ 57)) w)
  (j1 false w)))
  (ifB (decide (r ≥ 48))
  (j1 (decide (r ≤ 57)) w)
  (j1 false w))))
  (fun t2 w3 =>
  ifB t2
  (K true w3)
  (ifB (r == 45)
  (ifB (r == 45)
  (K true w3)
  (ifB (decide (r ≥ 161))
  (K (r != 65533) w3)
  (K false w3)))
  (ifB (r == 95)
  (ifB (r == 95)
  (K true w3)
  (ifB (decide (r ≥ 161))
  (K (r != 65533) w3)
  (K false w3)))
  (ifB (r == 46)
  (ifB (r == 46)
  (K true w3)
  (ifB (decide (r ≥ 161))
  (K (r != 65533) w3)
  (K false w3)))
  (ifB (r == 58)
  (K true w3)
  (ifB (decide (r ≥ 161))
  (K (r != 65533) w3)
  (K false w3)))))))
def runes_Plain_ann : Ann := (.s .d (.s (.b (.sj [(.s 3, rB)] (.s .d (.c .d (.s .d (.c .d .d)))) (.c (.s .d .d) (.s (.s .d (.c .d (.s .d (.c .d (.s .d (.c .d .d)))))) (.c (.s .d .d) .d))))) (.s .d .d)))
theorem runes_Plain_calls {r : Int} {K : Bool → World → Prop} {w : World} (h : runes_Plain r K w) : callV Pr Value.bool 189 #[(.int .i32 r)] w K :=
  calls_of Pr_plain Pr_mixed Pr_func189 runes_Plain_ann rB (args := [(.int .i32 r)]) (by kernel_rfl) h

/- changeover/runes.Val$1 -/
def runes_Val_1 (r : Int) (K : Bool → World → Prop) (w : World) : Prop :=
  ifB (decide (r ≥ 32))
  (K (r != 127) w)
  (K false w)
def runes_Val_1_ann : Ann := (.s .d (.s .d .d))
theorem runes_Val_1_calls {r : Int} {K : Bool → World → Prop} {w : World} (h : runes_Val_1 r K w) : callV Pr Value.bool 190 #[(.int .i32 r)] w K :=
  calls_of Pr_plain Pr_mixed Pr_func190 runes_Val_1_ann rB (args := [(.int .i32 r)]) (by kernel_rfl) h

/- slices.Clone[[]changeover/api.Pair,changeover/api.Pair] -/
def slices_Clone_api_Pair_api_Pair (s : Sl) (K : Sl → World → Prop) (w : World) : Prop :=
  opRd Pr (binSem .eql 45 (.tmp 3) (.const Sl.nil.val) s.val Sl.nil.val) Value.bool (fun t1 =>
  ifB t1
  (K Sl.nil w)
  (opTy Pr (Instr.buildSlice 45 0 #[]) Sl.val (fun t2 w3 =>
  opTy Pr (Builtin.append_ #[45, 45] 45 #[t2.val, s.val]) Sl.val (fun t4 w5 =>
  K t4 w5) w3) w)) w
def slices_Clone_api_Pair_api_Pair_ann : Ann := (.s .d (.s (.s (.r [(1, .rd rB)]) (.c (.s .d .d) .d)) (.s (.r [(0, .ty rSl), (2, .ty rSl)]) .d)))
theorem slices_Clone_api_Pair_api_Pair_calls {s : Sl} {K : Sl → World → Prop} {w : World} (h : slices_Clone_api_Pair_api_Pair s K w) : callV Pr Sl.val 192 #[s.val] w K :=
  calls_of Pr_plain Pr_mixed Pr_func192 slices_Clone_api_Pair_api_Pair_ann rSl (args := [s.val]) (by kernel_rfl) h

/- internal/bytealg.Cutover -/
def internal_bytealg_Cutover (n : Int) (K : Int → World → Prop) (w : World) : Prop :=
  K (IntKind.i64.wrap (Int.tdiv (i64 (n + 16)) 8)) w
def internal_bytealg_Cutover_ann : Ann := (.s .d (.s .d .d))
theorem internal_bytealg_Cutover_calls {n : Int} {K : Int → World → Prop} {w : World} (h : internal_bytealg_Cutover n K w) : callV Pr (Value.int .i64) 197 #[(.int .i64 n)] w K :=
  calls_of Pr_plain Pr_mixed Pr_func197 internal_bytealg_Cutover_ann (rI .i64) (args := [(.int .i64 n)]) (by kernel_rfl) h

/- internal/bytealg.IndexRabinKarp[string] -/
def internal_bytealg_IndexRabinKarp_string (s : List UInt8) (sep : List UInt8) (K : Int → World → Prop) (w : World) : Prop :=
  callV Pr (tval2 (Value.int .u32) (Value.int .u32)) 206 #[(sval sep)] w fun t1 w2 =>
  loop2 (0 : Int) (0 : Int) (fun h3 i4 k5 w6 =>
  ifB (decide (i4 < ((sep : List UInt8).length : Int)))
  (opRd Pr (Instr.index 9 (sval s) (.int .i64 i4)) (Value.int .u8) (fun t7 =>
  k5 (IntKind.u32.wrap ((IntKind.u32.wrap (h3 * 16777619)) + (IntKind.u32.wrap t7))) (i64 (i4 + 1)) w6) w6)
  (join0 (fun (j8 : World → Prop) =>
  ifB (h3 == t1.1)
  (opRd Pr (Instr.sliceAt 9 (sval s) none (some (.int .i64 ((sep : List UInt8).length : Int))) none) sval (fun t9 =>
  ifB (strEq t9 sep)
  (K 0 w6)
  (j8 w6)) w6)
  (j8 w6))
  (fun w10 =>
  loop2 (h3 : Int) (((sep : List UInt8).length : Int) : Int) (fun h11 i12 k13 w14 =>
  ifB (decide (i12 < ((s : List UInt8).length : Int)))
  (opRd Pr (Instr.index 9 (sval s) (.int .i64 i12)) (Value.int .u8) (fun t15 =>
  opRd Pr (Instr.index 9 (sval s) (.int .i64 (i64 (i12 - ((sep : List UInt8).length : Int))))) (Value.int .u8) (fun t16 =>
  ifB ((IntKind.u32.wrap ((IntKind.u32.wrap ((IntKind.u32.wrap (h11 * 16777619)) + (IntKind.u32.wrap t15))) - (IntKind.u32.wrap (t1.2 * (IntKind.u32.wrap t16))))) == t1.1)
  (opRd Pr (Instr.sliceAt 9 (sval s) (some (.int .i64 (i64 ((i64 (i12 + 1)) - ((sep : List UInt8).length : Int))))) (some (.int .i64 (i64 (i12 + 1)))) none) sval (fun t17 =>
  ifB (strEq t17 sep)
  (K (i64 ((i64 (i12 + 1)) - ((sep : List UInt8).length : Int))) w14)
  (k13 (IntKind.u32.wrap ((IntKind.u32.wrap ((IntKind.u32.wrap (h11 * 16777619)) + (IntKind.u32.wrap t15))) - (IntKind.u32.wrap (t1.2 * (IntKind.u32.wrap t16))))) (i64 (i12 + 1)) w14)) w14)
  (k13 (IntKind.u32.wrap ((IntKind.u32.wrap ((IntKind.u32.wrap (h11 * 16777619)) + (IntKind.u32.wrap t15))) - (IntKind.u32.wrap (t1.2 * (IntKind.u32.wrap t16))))) (i64 (i12 + 1)) w14)) w14) w14)
  (K (-1) w14)) w10))) w2
def internal_bytealg_IndexRabinKarp_string_ann : Ann := (.s .d (.s (.r [(1, .call (rT2 (rI .u32) (rI .u32)))]) (.s .d (.s .d (.s (.s .d (.b (.l [(.s 8, (rI .u32)), (.s 9, (rI .i64))] (.s (.s .d (.c .d .d)) (.s (.b (.r [(4, .rd (rI .u8))])) .d))))) (.sj [] (.s (.r [(6, .rd rS)]) (.c (.s .d .d) .d)) (.s (.s .d (.b (.l [(.s 8, (rI .u32)), (.s 10, (rI .i64))] (.s (.s .d (.c .d .d)) (.b (.s .d (.s (.r [(3, .rd (rI .u8))]) (.s (.r [(6, .rd (rI .u8))]) (.s .d (.s (.r [(9, .rd rS)]) (.c (.s .d .d) .d))))))))))) (.s .d .d))))))))
theorem internal_bytealg_IndexRabinKarp_string_calls {s : List UInt8} {sep : List UInt8} {K : Int → World → Prop} {w : World} (h : internal_bytealg_IndexRabinKarp_string s sep K w) : callV Pr (Value.int .i64) 198 #[(sval s), (sval sep)] w K :=
  calls_of Pr_plain Pr_mixed Pr_func198 internal_bytealg_IndexRabinKarp_string_ann (rI .i64) (args := [(sval s), (sval sep)]) (by kernel_rfl) h

/- changeover/cmd.parts$1 -/
def cmd_parts_1 (c : Option Addr) (K : Value → World → Prop) (w : World) : Prop :=
  opRd Pr (nilSem (.pointer c)) pav (fun t1 =>
  K (.iface 162 (.pointer (some (t1.add 1)))) w) w
def cmd_parts_1_ann : Ann := (.s .d (.s (.r [(1, .rd rPA)]) .d))
theorem cmd_parts_1_calls {c : Option Addr} {K : Value → World → Prop} {w : World} (h : cmd_parts_1 c K w) : callV Pr vval 199 #[(.pointer c)] w K :=
  calls_of Pr_plain Pr_mixed Pr_func199 cmd_parts_1_ann rV (args := [(.pointer c)]) (by kernel_rfl) h

/- changeover/cmd.parts$2 -/
def cmd_parts_2 (c : Option Addr) (K : Value → World → Prop) (w : World) : Prop :=
  opRd Pr (nilSem (.pointer c)) pav (fun t1 =>
  K (.iface 162 (.pointer (some (t1.add 2)))) w) w
def cmd_parts_2_ann : Ann := (.s .d (.s (.r [(1, .rd rPA)]) .d))
theorem cmd_parts_2_calls {c : Option Addr} {K : Value → World → Prop} {w : World} (h : cmd_parts_2 c K w) : callV Pr vval 200 #[(.pointer c)] w K :=
  calls_of Pr_plain Pr_mixed Pr_func200 cmd_parts_2_ann rV (args := [(.pointer c)]) (by kernel_rfl) h

/- changeover/cmd.parts$3 -/
def cmd_parts_3 (c : Option Addr) (K : Value → World → Prop) (w : World) : Prop :=
  opRd Pr (nilSem (.pointer c)) pav (fun t1 =>
  K (.iface 206 (.pointer (some (t1.add 3)))) w) w
def cmd_parts_3_ann : Ann := (.s .d (.s (.r [(1, .rd rPA)]) .d))
theorem cmd_parts_3_calls {c : Option Addr} {K : Value → World → Prop} {w : World} (h : cmd_parts_3 c K w) : callV Pr vval 201 #[(.pointer c)] w K :=
  calls_of Pr_plain Pr_mixed Pr_func201 cmd_parts_3_ann rV (args := [(.pointer c)]) (by kernel_rfl) h

/- changeover/cmd.parts$4 -/
def cmd_parts_4 (c : Option Addr) (K : Value → World → Prop) (w : World) : Prop :=
  opRd Pr (nilSem (.pointer c)) pav (fun t1 =>
  K (.iface 206 (.pointer (some (t1.add 5)))) w) w
def cmd_parts_4_ann : Ann := (.s .d (.s (.r [(1, .rd rPA)]) .d))
theorem cmd_parts_4_calls {c : Option Addr} {K : Value → World → Prop} {w : World} (h : cmd_parts_4 c K w) : callV Pr vval 202 #[(.pointer c)] w K :=
  calls_of Pr_plain Pr_mixed Pr_func202 cmd_parts_4_ann rV (args := [(.pointer c)]) (by kernel_rfl) h

/- changeover/cmd.parts$5 -/
def cmd_parts_5 (c : Option Addr) (K : Value → World → Prop) (w : World) : Prop :=
  opRd Pr (nilSem (.pointer c)) pav (fun t1 =>
  K (.iface 206 (.pointer (some (t1.add 4)))) w) w
def cmd_parts_5_ann : Ann := (.s .d (.s (.r [(1, .rd rPA)]) .d))
theorem cmd_parts_5_calls {c : Option Addr} {K : Value → World → Prop} {w : World} (h : cmd_parts_5 c K w) : callV Pr vval 203 #[(.pointer c)] w K :=
  calls_of Pr_plain Pr_mixed Pr_func203 cmd_parts_5_ann rV (args := [(.pointer c)]) (by kernel_rfl) h

/- changeover/cmd.parts$6 -/
def cmd_parts_6 (c : Option Addr) (K : Value → World → Prop) (w : World) : Prop :=
  opRd Pr (nilSem (.pointer c)) pav (fun t1 =>
  K (.iface 162 (.pointer (some (t1.add 6)))) w) w
def cmd_parts_6_ann : Ann := (.s .d (.s (.r [(1, .rd rPA)]) .d))
theorem cmd_parts_6_calls {c : Option Addr} {K : Value → World → Prop} {w : World} (h : cmd_parts_6 c K w) : callV Pr vval 204 #[(.pointer c)] w K :=
  calls_of Pr_plain Pr_mixed Pr_func204 cmd_parts_6_ann rV (args := [(.pointer c)]) (by kernel_rfl) h

/- changeover/runes.Bad -/
def runes_Bad (s : List UInt8) (K : Int → World → Prop) (w : World) : Prop :=
  opTy Pr (Instr.range 9 (sval s)) pav (fun t1 w2 =>
  loop0 (fun k3 w4 =>
  opAl Pr (Instr.next (.pointer (some t1)) true 0) (nxval (Value.int .i64) (Value.int .i32)) endval (fun t5 w6 =>
  ifB (t5.2 != 65533)
  (k3 w6)
  (opRd Pr (Instr.sliceAt 9 (sval s) (some (.int .i64 t5.1)) none none) sval (fun t7 =>
  callV Pr (tval2 (Value.int .i32) (Value.int .i64)) 48 #[(sval t7)] w6 fun t8 w9 =>
  ifB (t8.2 == 1)
  (K t5.1 w9)
  (k3 w9)) w6)) (fun _ w10 =>
  K (-1) w10) w4) w2) w
def runes_Bad_ann : Ann := (.s .d (.s (.s (.r [(1, .ty rPA)]) (.b (.l [] (.s (.r [(0, .alt (rNx (rI .i64) (rI .i32)) rEnd)]) (.s (.c .d .d) (.b (.s .d (.s (.s .d (.c .d .d)) (.s (.r [(2, .rd rS), (3, .call (rT2 (rI .i32) (rI .i64)))]) (.s .d (.c (.s .d .d) .d))))))))))) (.s .d .d)))
theorem runes_Bad_calls {s : List UInt8} {K : Int → World → Prop} {w : World} (h : runes_Bad s K w) : callV Pr (Value.int .i64) 205 #[(sval s)] w K :=
  calls_of Pr_plain Pr_mixed Pr_func205 runes_Bad_ann (rI .i64) (args := [(sval s)]) (by kernel_rfl) h

/- internal/bytealg.hashStr[string] -/
def internal_bytealg_hashStr_string (sep : List UInt8) (K : (Int × Int) → World → Prop) (w : World) : Prop :=
  loop2 (0 : Int) (0 : Int) (fun hash1 i2 k3 w4 =>
  ifB (decide (i2 < ((sep : List UInt8).length : Int)))
  (opRd Pr (Instr.index 9 (sval sep) (.int .i64 i2)) (Value.int .u8) (fun t5 =>
  k3 (IntKind.u32.wrap ((IntKind.u32.wrap (hash1 * 16777619)) + (IntKind.u32.wrap t5))) (i64 (i2 + 1)) w4) w4)
  (loop3 (1 : Int) (16777619 : Int) (((sep : List UInt8).length : Int) : Int) (fun pow6 sq7 i8 k9 w10 =>
  ifB (decide (i8 > 0))
  (ifB ((bAnd .i64 i8 1) != 0)
  (k9 (IntKind.u32.wrap (pow6 * sq7)) (IntKind.u32.wrap (sq7 * sq7)) (shR .i64 i8 1) w10)
  (k9 pow6 (IntKind.u32.wrap (sq7 * sq7)) (shR .i64 i8 1) w10))
  (K (hash1, pow6) w10)) w4)) w
def internal_bytealg_hashStr_string_ann : Ann := (.s .d (.s .d (.s (.s .d (.b (.l [(.s 4, (rI .u32)), (.s 5, (rI .i64))] (.s (.s .d (.c .d .d)) (.s (.b (.r [(4, .rd (rI .u8))])) .d))))) (.s .d (.s (.s .d (.b (.l [(.s 6, (rI .u32)), (.s 7, (rI .u32)), (.s 8, (rI .i64))] (.s (.s .d (.c .d .d)) (.s (.b (.s (.s .d (.c .d .d)) .d)) .d))))) (.s .d .d))))))
theorem internal_bytealg_hashStr_string_calls {sep : List UInt8} {K : (Int × Int) → World → Prop} {w : World} (h : internal_bytealg_hashStr_string sep K w) : callV Pr (tval2 (Value.int .u32) (Value.int .u32)) 206 #[(sval sep)] w K :=
  calls_of Pr_plain Pr_mixed Pr_func206 internal_bytealg_hashStr_string_ann (rT2 (rI .u32) (rI .u32)) (args := [(sval sep)]) (by kernel_rfl) h

/- gosem.cut.vars -/
def gosem_cut_vars (K : Unit → World → Prop) (w : World) : Prop :=
  opUn Pr (Instr.storeAt 172 (.pointer (some g_unicode_utf8_acceptRanges)) (.agg ⟨[(.int .u8 128), (.int .u8 191), (.int .u8 160), (.int .u8 191), (.int .u8 128), (.int .u8 159), (.int .u8 144), (.int .u8 191), (.int .u8 128), (.int .u8 143), (.int .u8 0), (.int .u8 0), (.int .u8 0), (.int .u8 0), (.int .u8 0), (.int .u8 0), (.int .u8 0), (.int .u8 0), (.int .u8 0), (.int .u8 0), (.int .u8 0), (.int .u8 0), (.int .u8 0), (.int .u8 0), (.int .u8 0), (.int .u8 0), (.int .u8 0), (.int .u8 0), (.int .u8 0), (.int .u8 0), (.int .u8 0), (.int .u8 0)]⟩)) (fun w1 =>
  K () w1) w
def gosem_cut_vars_ann : Ann := (.r [(6, .un)])
theorem gosem_cut_vars_calls {K : Unit → World → Prop} {w : World} (h : gosem_cut_vars K w) : callV Pr uval 228 #[] w K :=
  calls_of Pr_plain Pr_mixed Pr_func228 gosem_cut_vars_ann rU (args := []) (by kernel_rfl) h

/- (changeover/cmd.part).number -/
def cmd_part_number_0 (c : Option Addr) (f : Int) (K : (Bool × Bool) → World → Prop) (w : World) : Prop :=
  newV (fun b1 w2 =>
  callV Pr vval 199 #[(.pointer c)] w2 fun t3 w4 =>
  kp b1 w2 w4 <|
  opRd Pr (Instr.typeAssert t3 20 162 true) (tval2 Value.pointer Value.bool) (fun t5 =>
  ifB (!t5.2)
  (K (true, true) w4)
  (ifB ((bAnd .i64 f 1) == 0)
  (drewM (fun w6 =>
  opRd Pr (nilSem (.pointer t5.1)) pav (fun t7 =>
  opRd Pr (Instr.loadAt 3 (.pointer (some t7))) (Value.int .i64) (fun t8 =>
  K (true, (t8 == 0)) w6) w6) w6) w4)
  (drewM (fun w9 =>
  opRd Pr (nilSem (.pointer t5.1)) pav (fun t10 =>
  opRd Pr (Instr.loadAt 3 (.pointer (some t10))) (Value.int .i64) (fun t11 =>
  ifB (decide (t11 ≥ 1))
  (opRd Pr (nilSem (.pointer t5.1)) pav (fun t12 =>
  opRd Pr (Instr.loadAt 3 (.pointer (some t12))) (Value.int .i64) (fun t13 =>
  K ((decide (t13 ≤ 8)), true) w9) w9) w9)
  (K (false, true) w9)) w9) w9) w4))) w4) w
def cmd_part_number_0_ann : Ann := (.s (.r [(0, .nl 3)]) (.s (.r [(3, .call rV), (4, .rd (rT2 rP rB))]) (.s (.s .d (.c (.s .d .d) .d)) (.s (.s .d (.c (.s (.r [(1, .rd rPA), (2, .rd (rI .i64))]) .d) .d)) (.s (.r [(1, .rd rPA), (2, .rd (rI .i64)), (6, .rd rPA), (7, .rd (rI .i64))]) .d)))))
theorem cmd_part_number_0_calls {c : Option Addr} {f : Int} {K : (Bool × Bool) → World → Prop} {w : World} (h : cmd_part_number_0 c f K w) : callV Pr (tval2 Value.bool Value.bool) 184 #[(.agg ⟨[(.int .i64 1), (.int .i64 8), .nilFunc, (.func (.func 199) #[] #[])]⟩), (.pointer c), (.int .i64 f)] w K :=
  calls_of Pr_plain Pr_mixed Pr_func184 cmd_part_number_0_ann (rT2 rB rB) (args := [(.agg ⟨[(.int .i64 1), (.int .i64 8), .nilFunc, (.func (.func 199) #[] #[])]⟩), (.pointer c), (.int .i64 f)]) (by kernel_rfl) h

/- (changeover/cmd.part).number -/
def cmd_part_number_1 (c : Option Addr) (f : Int) (K : (Bool × Bool) → World → Prop) (w : World) : Prop :=
  newV (fun b1 w2 =>
  callV Pr vval 200 #[(.pointer c)] w2 fun t3 w4 =>
  kp b1 w2 w4 <|
  opRd Pr (Instr.typeAssert t3 20 162 true) (tval2 Value.pointer Value.bool) (fun t5 =>
  ifB (!t5.2)
  (K (true, true) w4)
  (ifB ((bAnd .i64 f 1) == 0)
  (drewM (fun w6 =>
  opRd Pr (nilSem (.pointer t5.1)) pav (fun t7 =>
  opRd Pr (Instr.loadAt 3 (.pointer (some t7))) (Value.int .i64) (fun t8 =>
  K (true, (t8 == 0)) w6) w6) w6) w4)
  (drewM (fun w9 =>
  opRd Pr (nilSem (.pointer t5.1)) pav (fun t10 =>
  opRd Pr (Instr.loadAt 3 (.pointer (some t10))) (Value.int .i64) (fun t11 =>
  ifB (decide (t11 ≥ 1))
  (opRd Pr (nilSem (.pointer t5.1)) pav (fun t12 =>
  opRd Pr (Instr.loadAt 3 (.pointer (some t12))) (Value.int .i64) (fun t13 =>
  K ((decide (t13 ≤ 4294967296)), true) w9) w9) w9)
  (K (false, true) w9)) w9) w9) w4))) w4) w
def cmd_part_number_1_ann : Ann := (.s (.r [(0, .nl 3)]) (.s (.r [(3, .call rV), (4, .rd (rT2 rP rB))]) (.s (.s .d (.c (.s .d .d) .d)) (.s (.s .d (.c (.s (.r [(1, .rd rPA), (2, .rd (rI .i64))]) .d) .d)) (.s (.r [(1, .rd rPA), (2, .rd (rI .i64)), (6, .rd rPA), (7, .rd (rI .i64))]) .d)))))
theorem cmd_part_number_1_calls {c : Option Addr} {f : Int} {K : (Bool × Bool) → World → Prop} {w : World} (h : cmd_part_number_1 c f K w) : callV Pr (tval2 Value.bool Value.bool) 184 #[(.agg ⟨[(.int .i64 1), (.int .i64 4294967296), .nilFunc, (.func (.func 200) #[] #[])]⟩), (.pointer c), (.int .i64 f)] w K :=
  calls_of Pr_plain Pr_mixed Pr_func184 cmd_part_number_1_ann (rT2 rB rB) (args := [(.agg ⟨[(.int .i64 1), (.int .i64 4294967296), .nilFunc, (.func (.func 200) #[] #[])]⟩), (.pointer c), (.int .i64 f)]) (by kernel_rfl) h

/- (changeover/cmd.part).number -/
def cmd_part_number_2 (c : Option Addr) (f : Int) (K : (Bool × Bool) → World → Prop) (w : World) : Prop :=
  newV (fun b1 w2 =>
  callV Pr vval 201 #[(.pointer c)] w2 fun t3 w4 =>
  kp b1 w2 w4 <|
  opRd Pr (Instr.typeAssert t3 20 162 true) (tval2 Value.pointer Value.bool) (fun t5 =>
  ifB (!t5.2)
  (K (true, true) w4)
  (ifB ((bAnd .i64 f 2) == 0)
  (drewM (fun w6 =>
  opRd Pr (nilSem (.pointer t5.1)) pav (fun t7 =>
  opRd Pr (Instr.loadAt 3 (.pointer (some t7))) (Value.int .i64) (fun t8 =>
  K (true, (t8 == 0)) w6) w6) w6) w4)
  (drewM (fun w9 =>
  opRd Pr (nilSem (.pointer t5.1)) pav (fun t10 =>
  opRd Pr (Instr.loadAt 3 (.pointer (some t10))) (Value.int .i64) (fun t11 =>
  ifB (decide (t11 ≥ 1))
  (opRd Pr (nilSem (.pointer t5.1)) pav (fun t12 =>
  opRd Pr (Instr.loadAt 3 (.pointer (some t12))) (Value.int .i64) (fun t13 =>
  K ((decide (t13 ≤ 0)), true) w9) w9) w9)
  (K (false, true) w9)) w9) w9) w4))) w4) w
def cmd_part_number_2_ann : Ann := (.s (.r [(0, .nl 3)]) (.s (.r [(3, .call rV), (4, .rd (rT2 rP rB))]) (.s (.s .d (.c (.s .d .d) .d)) (.s (.s .d (.c (.s (.r [(1, .rd rPA), (2, .rd (rI .i64))]) .d) .d)) (.s (.r [(1, .rd rPA), (2, .rd (rI .i64)), (6, .rd rPA), (7, .rd (rI .i64))]) .d)))))
theorem cmd_part_number_2_calls {c : Option Addr} {f : Int} {K : (Bool × Bool) → World → Prop} {w : World} (h : cmd_part_number_2 c f K w) : callV Pr (tval2 Value.bool Value.bool) 184 #[(.agg ⟨[(.int .i64 2), (.int .i64 0), (.func (.func 157) #[] #[]), (.func (.func 201) #[] #[])]⟩), (.pointer c), (.int .i64 f)] w K :=
  calls_of Pr_plain Pr_mixed Pr_func184 cmd_part_number_2_ann (rT2 rB rB) (args := [(.agg ⟨[(.int .i64 2), (.int .i64 0), (.func (.func 157) #[] #[]), (.func (.func 201) #[] #[])]⟩), (.pointer c), (.int .i64 f)]) (by kernel_rfl) h

/- (changeover/cmd.part).number -/
def cmd_part_number_3 (c : Option Addr) (f : Int) (K : (Bool × Bool) → World → Prop) (w : World) : Prop :=
  newV (fun b1 w2 =>
  callV Pr vval 202 #[(.pointer c)] w2 fun t3 w4 =>
  kp b1 w2 w4 <|
  opRd Pr (Instr.typeAssert t3 20 162 true) (tval2 Value.pointer Value.bool) (fun t5 =>
  ifB (!t5.2)
  (K (true, true) w4)
  (ifB ((bAnd .i64 f 4) == 0)
  (drewM (fun w6 =>
  opRd Pr (nilSem (.pointer t5.1)) pav (fun t7 =>
  opRd Pr (Instr.loadAt 3 (.pointer (some t7))) (Value.int .i64) (fun t8 =>
  K (true, (t8 == 0)) w6) w6) w6) w4)
  (drewM (fun w9 =>
  opRd Pr (nilSem (.pointer t5.1)) pav (fun t10 =>
  opRd Pr (Instr.loadAt 3 (.pointer (some t10))) (Value.int .i64) (fun t11 =>
  ifB (decide (t11 ≥ 1))
  (opRd Pr (nilSem (.pointer t5.1)) pav (fun t12 =>
  opRd Pr (Instr.loadAt 3 (.pointer (some t12))) (Value.int .i64) (fun t13 =>
  K ((decide (t13 ≤ 0)), true) w9) w9) w9)
  (K (false, true) w9)) w9) w9) w4))) w4) w
def cmd_part_number_3_ann : Ann := (.s (.r [(0, .nl 3)]) (.s (.r [(3, .call rV), (4, .rd (rT2 rP rB))]) (.s (.s .d (.c (.s .d .d) .d)) (.s (.s .d (.c (.s (.r [(1, .rd rPA), (2, .rd (rI .i64))]) .d) .d)) (.s (.r [(1, .rd rPA), (2, .rd (rI .i64)), (6, .rd rPA), (7, .rd (rI .i64))]) .d)))))
theorem cmd_part_number_3_calls {c : Option Addr} {f : Int} {K : (Bool × Bool) → World → Prop} {w : World} (h : cmd_part_number_3 c f K w) : callV Pr (tval2 Value.bool Value.bool) 184 #[(.agg ⟨[(.int .i64 4), (.int .i64 0), (.func (.func 158) #[] #[]), (.func (.func 202) #[] #[])]⟩), (.pointer c), (.int .i64 f)] w K :=
  calls_of Pr_plain Pr_mixed Pr_func184 cmd_part_number_3_ann (rT2 rB rB) (args := [(.agg ⟨[(.int .i64 4), (.int .i64 0), (.func (.func 158) #[] #[]), (.func (.func 202) #[] #[])]⟩), (.pointer c), (.int .i64 f)]) (by kernel_rfl) h

/- (changeover/cmd.part).number -/
def cmd_part_number_4 (c : Option Addr) (f : Int) (K : (Bool × Bool) → World → Prop) (w : World) : Prop :=
  newV (fun b1 w2 =>
  callV Pr vval 203 #[(.pointer c)] w2 fun t3 w4 =>
  kp b1 w2 w4 <|
  opRd Pr (Instr.typeAssert t3 20 162 true) (tval2 Value.pointer Value.bool) (fun t5 =>
  ifB (!t5.2)
  (K (true, true) w4)
  (ifB ((bAnd .i64 f 8) == 0)
  (drewM (fun w6 =>
  opRd Pr (nilSem (.pointer t5.1)) pav (fun t7 =>
  opRd Pr (Instr.loadAt 3 (.pointer (some t7))) (Value.int .i64) (fun t8 =>
  K (true, (t8 == 0)) w6) w6) w6) w4)
  (drewM (fun w9 =>
  opRd Pr (nilSem (.pointer t5.1)) pav (fun t10 =>
  opRd Pr (Instr.loadAt 3 (.pointer (some t10))) (Value.int .i64) (fun t11 =>
  ifB (decide (t11 ≥ 1))
  (opRd Pr (nilSem (.pointer t5.1)) pav (fun t12 =>
  opRd Pr (Instr.loadAt 3 (.pointer (some t12))) (Value.int .i64) (fun t13 =>
  K ((decide (t13 ≤ 0)), true) w9) w9) w9)
  (K (false, true) w9)) w9) w9) w4))) w4) w
def cmd_part_number_4_ann : Ann := (.s (.r [(0, .nl 3)]) (.s (.r [(3, .call rV), (4, .rd (rT2 rP rB))]) (.s (.s .d (.c (.s .d .d) .d)) (.s (.s .d (.c (.s (.r [(1, .rd rPA), (2, .rd (rI .i64))]) .d) .d)) (.s (.r [(1, .rd rPA), (2, .rd (rI .i64)), (6, .rd rPA), (7, .rd (rI .i64))]) .d)))))
theorem cmd_part_number_4_calls {c : Option Addr} {f : Int} {K : (Bool × Bool) → World → Prop} {w : World} (h : cmd_part_number_4 c f K w) : callV Pr (tval2 Value.bool Value.bool) 184 #[(.agg ⟨[(.int .i64 8), (.int .i64 0), (.func (.func 158) #[] #[]), (.func (.func 203) #[] #[])]⟩), (.pointer c), (.int .i64 f)] w K :=
  calls_of Pr_plain Pr_mixed Pr_func184 cmd_part_number_4_ann (rT2 rB rB) (args := [(.agg ⟨[(.int .i64 8), (.int .i64 0), (.func (.func 158) #[] #[]), (.func (.func 203) #[] #[])]⟩), (.pointer c), (.int .i64 f)]) (by kernel_rfl) h

/- (changeover/cmd.part).number -/
def cmd_part_number_5 (c : Option Addr) (f : Int) (K : (Bool × Bool) → World → Prop) (w : World) : Prop :=
  newV (fun b1 w2 =>
  callV Pr vval 204 #[(.pointer c)] w2 fun t3 w4 =>
  kp b1 w2 w4 <|
  opRd Pr (Instr.typeAssert t3 20 162 true) (tval2 Value.pointer Value.bool) (fun t5 =>
  ifB (!t5.2)
  (K (true, true) w4)
  (ifB ((bAnd .i64 f 16) == 0)
  (drewM (fun w6 =>
  opRd Pr (nilSem (.pointer t5.1)) pav (fun t7 =>
  opRd Pr (Instr.loadAt 3 (.pointer (some t7))) (Value.int .i64) (fun t8 =>
  K (true, (t8 == 0)) w6) w6) w6) w4)
  (drewM (fun w9 =>
  opRd Pr (nilSem (.pointer t5.1)) pav (fun t10 =>
  opRd Pr (Instr.loadAt 3 (.pointer (some t10))) (Value.int .i64) (fun t11 =>
  ifB (decide (t11 ≥ 1))
  (opRd Pr (nilSem (.pointer t5.1)) pav (fun t12 =>
  opRd Pr (Instr.loadAt 3 (.pointer (some t12))) (Value.int .i64) (fun t13 =>
  K ((decide (t13 ≤ 9)), true) w9) w9) w9)
  (K (false, true) w9)) w9) w9) w4))) w4) w
def cmd_part_number_5_ann : Ann := (.s (.r [(0, .nl 3)]) (.s (.r [(3, .call rV), (4, .rd (rT2 rP rB))]) (.s (.s .d (.c (.s .d .d) .d)) (.s (.s .d (.c (.s (.r [(1, .rd rPA), (2, .rd (rI .i64))]) .d) .d)) (.s (.r [(1, .rd rPA), (2, .rd (rI .i64)), (6, .rd rPA), (7, .rd (rI .i64))]) .d)))))
theorem cmd_part_number_5_calls {c : Option Addr} {f : Int} {K : (Bool × Bool) → World → Prop} {w : World} (h : cmd_part_number_5 c f K w) : callV Pr (tval2 Value.bool Value.bool) 184 #[(.agg ⟨[(.int .i64 16), (.int .i64 9), .nilFunc, (.func (.func 204) #[] #[])]⟩), (.pointer c), (.int .i64 f)] w K :=
  calls_of Pr_plain Pr_mixed Pr_func184 cmd_part_number_5_ann (rT2 rB rB) (args := [(.agg ⟨[(.int .i64 16), (.int .i64 9), .nilFunc, (.func (.func 204) #[] #[])]⟩), (.pointer c), (.int .i64 f)]) (by kernel_rfl) h

/- (changeover/cmd.part).text -/
def cmd_part_text_0 (c : Option Addr) (f : Int) (K : (Bool × Bool) → World → Prop) (w : World) : Prop :=
  newV (fun b1 w2 =>
  callV Pr vval 199 #[(.pointer c)] w2 fun t3 w4 =>
  kp b1 w2 w4 <|
  opRd Pr (Instr.typeAssert t3 20 206 true) (tval2 Value.pointer Value.bool) (fun t5 =>
  ifB (!t5.2)
  (K (true, true) w4)
  (ifB ((bAnd .i64 f 1) == 0)
  (drewM (fun w6 =>
  opRd Pr (nilSem (.pointer t5.1)) pav (fun t7 =>
  opRd Pr (Instr.loadAt 9 (.pointer (some t7))) sval (fun t8 =>
  K (true, (strEq t8 [])) w6) w6) w6) w4)
  (heldM (fun S10 w9 =>
  opH Pr S10 (nilSem (.pointer t5.1)) pav (fun t11 =>
  opH Pr S10 (Instr.loadAt 9 (.pointer (some t11))) sval (fun t12 =>
  False))) w4))) w4) w
def cmd_part_text_0_ann : Ann := (.s (.r [(0, .nl 3)]) (.s (.r [(3, .call rV), (4, .rd (rT2 rP rB))]) (.s (.s .d (.c (.s .d .d) .d)) (.s (.s .d (.c (.s (.r [(1, .rd rPA), (2, .rd rS)]) .d) .d)) (.s (.h (.take 0 (.take 1 (.take 2 (.take 3 (.take 4 (.one 5 (.take 6 (.take 7 .done)))))))) [(3, .rd rPA), (4, .rd rS), (5, .call rB)]) .d)))))
theorem cmd_part_text_0_calls {c : Option Addr} {f : Int} {K : (Bool × Bool) → World → Prop} {w : World} (h : cmd_part_text_0 c f K w) : callV Pr (tval2 Value.bool Value.bool) 185 #[(.agg ⟨[(.int .i64 1), (.int .i64 8), .nilFunc, (.func (.func 199) #[] #[])]⟩), (.pointer c), (.int .i64 f)] w K :=
  calls_of Pr_plain Pr_mixed Pr_func185 cmd_part_text_0_ann (rT2 rB rB) (args := [(.agg ⟨[(.int .i64 1), (.int .i64 8), .nilFunc, (.func (.func 199) #[] #[])]⟩), (.pointer c), (.int .i64 f)]) (by kernel_rfl) h

/- (changeover/cmd.part).text -/
def cmd_part_text_1 (c : Option Addr) (f : Int) (K : (Bool × Bool) → World → Prop) (w : World) : Prop :=
  newV (fun b1 w2 =>
  callV Pr vval 200 #[(.pointer c)] w2 fun t3 w4 =>
  kp b1 w2 w4 <|
  opRd Pr (Instr.typeAssert t3 20 206 true) (tval2 Value.pointer Value.bool) (fun t5 =>
  ifB (!t5.2)
  (K (true, true) w4)
  (ifB ((bAnd .i64 f 1) == 0)
  (drewM (fun w6 =>
  opRd Pr (nilSem (.pointer t5.1)) pav (fun t7 =>
  opRd Pr (Instr.loadAt 9 (.pointer (some t7))) sval (fun t8 =>
  K (true, (strEq t8 [])) w6) w6) w6) w4)
  (heldM (fun S10 w9 =>
  opH Pr S10 (nilSem (.pointer t5.1)) pav (fun t11 =>
  opH Pr S10 (Instr.loadAt 9 (.pointer (some t11))) sval (fun t12 =>
  False))) w4))) w4) w
def cmd_part_text_1_ann : Ann := (.s (.r [(0, .nl 3)]) (.s (.r [(3, .call rV), (4, .rd (rT2 rP rB))]) (.s (.s .d (.c (.s .d .d) .d)) (.s (.s .d (.c (.s (.r [(1, .rd rPA), (2, .rd rS)]) .d) .d)) (.s (.h (.take 0 (.take 1 (.take 2 (.take 3 (.take 4 (.one 5 (.take 6 (.take 7 .done)))))))) [(3, .rd rPA), (4, .rd rS), (5, .call rB)]) .d)))))
theorem cmd_part_text_1_calls {c : Option Addr} {f : Int} {K : (Bool × Bool) → World → Prop} {w : World} (h : cmd_part_text_1 c f K w) : callV Pr (tval2 Value.bool Value.bool) 185 #[(.agg ⟨[(.int .i64 1), (.int .i64 4294967296), .nilFunc, (.func (.func 200) #[] #[])]⟩), (.pointer c), (.int .i64 f)] w K :=
  calls_of Pr_plain Pr_mixed Pr_func185 cmd_part_text_1_ann (rT2 rB rB) (args := [(.agg ⟨[(.int .i64 1), (.int .i64 4294967296), .nilFunc, (.func (.func 200) #[] #[])]⟩), (.pointer c), (.int .i64 f)]) (by kernel_rfl) h

/- (changeover/cmd.part).text -/
def cmd_part_text_2 (c : Option Addr) (f : Int) (K : (Bool × Bool) → World → Prop) (w : World) : Prop :=
  newV (fun b1 w2 =>
  callV Pr vval 201 #[(.pointer c)] w2 fun t3 w4 =>
  kp b1 w2 w4 <|
  opRd Pr (Instr.typeAssert t3 20 206 true) (tval2 Value.pointer Value.bool) (fun t5 =>
  ifB (!t5.2)
  (K (true, true) w4)
  (ifB ((bAnd .i64 f 2) == 0)
  (drewM (fun w6 =>
  opRd Pr (nilSem (.pointer t5.1)) pav (fun t7 =>
  opRd Pr (Instr.loadAt 9 (.pointer (some t7))) sval (fun t8 =>
  K (true, (strEq t8 [])) w6) w6) w6) w4)
  (heldM (fun S10 w9 =>
  opH Pr S10 (nilSem (.pointer t5.1)) pav (fun t11 =>
  opH Pr S10 (Instr.loadAt 9 (.pointer (some t11))) sval (fun t12 =>
  callV Pr Value.bool 157 #[(sval t12)] w9 fun t13 w14 =>
  kp b1 w9 w14 <|
  (S10 w14) ∧
  (K (t13, true) w14)))) w4))) w4) w
def cmd_part_text_2_ann : Ann := (.s (.r [(0, .nl 3)]) (.s (.r [(3, .call rV), (4, .rd (rT2 rP rB))]) (.s (.s .d (.c (.s .d .d) .d)) (.s (.s .d (.c (.s (.r [(1, .rd rPA), (2, .rd rS)]) .d) .d)) (.s (.h (.take 0 (.take 1 (.take 2 (.take 3 (.take 4 (.one 5 (.take 6 (.take 7 .done)))))))) [(3, .rd rPA), (4, .rd rS), (5, .call rB)]) .d)))))
theorem cmd_part_text_2_calls {c : Option Addr} {f : Int} {K : (Bool × Bool) → World → Prop} {w : World} (h : cmd_part_text_2 c f K w) : callV Pr (tval2 Value.bool Value.bool) 185 #[(.agg ⟨[(.int .i64 2), (.int .i64 0), (.func (.func 157) #[] #[]), (.func (.func 201) #[] #[])]⟩), (.pointer c), (.int .i64 f)] w K :=
  calls_of Pr_plain Pr_mixed Pr_func185 cmd_part_text_2_ann (rT2 rB rB) (args := [(.agg ⟨[(.int .i64 2), (.int .i64 0), (.func (.func 157) #[] #[]), (.func (.func 201) #[] #[])]⟩), (.pointer c), (.int .i64 f)]) (by kernel_rfl) h

/- (changeover/cmd.part).text -/
def cmd_part_text_3 (c : Option Addr) (f : Int) (K : (Bool × Bool) → World → Prop) (w : World) : Prop :=
  newV (fun b1 w2 =>
  callV Pr vval 202 #[(.pointer c)] w2 fun t3 w4 =>
  kp b1 w2 w4 <|
  opRd Pr (Instr.typeAssert t3 20 206 true) (tval2 Value.pointer Value.bool) (fun t5 =>
  ifB (!t5.2)
  (K (true, true) w4)
  (ifB ((bAnd .i64 f 4) == 0)
  (drewM (fun w6 =>
  opRd Pr (nilSem (.pointer t5.1)) pav (fun t7 =>
  opRd Pr (Instr.loadAt 9 (.pointer (some t7))) sval (fun t8 =>
  K (true, (strEq t8 [])) w6) w6) w6) w4)
  (heldM (fun S10 w9 =>
  opH Pr S10 (nilSem (.pointer t5.1)) pav (fun t11 =>
  opH Pr S10 (Instr.loadAt 9 (.pointer (some t11))) sval (fun t12 =>
  callV Pr Value.bool 158 #[(sval t12)] w9 fun t13 w14 =>
  kp b1 w9 w14 <|
  (S10 w14) ∧
  (K (t13, true) w14)))) w4))) w4) w
def cmd_part_text_3_ann : Ann := (.s (.r [(0, .nl 3)]) (.s (.r [(3, .call rV), (4, .rd (rT2 rP rB))]) (.s (.s .d (.c (.s .d .d) .d)) (.s (.s .d (.c (.s (.r [(1, .rd rPA), (2, .rd rS)]) .d) .d)) (.s (.h (.take 0 (.take 1 (.take 2 (.take 3 (.take 4 (.one 5 (.take 6 (.take 7 .done)))))))) [(3, .rd rPA), (4, .rd rS), (5, .call rB)]) .d)))))
theorem cmd_part_text_3_calls {c : Option Addr} {f : Int} {K : (Bool × Bool) → World → Prop} {w : World} (h : cmd_part_text_3 c f K w) : callV Pr (tval2 Value.bool Value.bool) 185 #[(.agg ⟨[(.int .i64 4), (.int .i64 0), (.func (.func 158) #[] #[]), (.func (.func 202) #[] #[])]⟩), (.pointer c), (.int .i64 f)] w K :=
  calls_of Pr_plain Pr_mixed Pr_func185 cmd_part_text_3_ann (rT2 rB rB) (args := [(.agg ⟨[(.int .i64 4), (.int .i64 0), (.func (.func 158) #[] #[]), (.func (.func 202) #[] #[])]⟩), (.pointer c), (.int .i64 f)]) (by kernel_rfl) h

/- (changeover/cmd.part).text -/
def cmd_part_text_4 (c : Option Addr) (f : Int) (K : (Bool × Bool) → World → Prop) (w : World) : Prop :=
  newV (fun b1 w2 =>
  callV Pr vval 203 #[(.pointer c)] w2 fun t3 w4 =>
  kp b1 w2 w4 <|
  opRd Pr (Instr.typeAssert t3 20 206 true) (tval2 Value.pointer Value.bool) (fun t5 =>
  ifB (!t5.2)
  (K (true, true) w4)
  (ifB ((bAnd .i64 f 8) == 0)
  (drewM (fun w6 =>
  opRd Pr (nilSem (.pointer t5.1)) pav (fun t7 =>
  opRd Pr (Instr.loadAt 9 (.pointer (some t7))) sval (fun t8 =>
  K (true, (strEq t8 [])) w6) w6) w6) w4)
  (heldM (fun S10 w9 =>
  opH Pr S10 (nilSem (.pointer t5.1)) pav (fun t11 =>
  opH Pr S10 (Instr.loadAt 9 (.pointer (some t11))) sval (fun t12 =>
  callV Pr Value.bool 158 #[(sval t12)] w9 fun t13 w14 =>
  kp b1 w9 w14 <|
  (S10 w14) ∧
  (K (t13, true) w14)))) w4))) w4) w
def cmd_part_text_4_ann : Ann := (.s (.r [(0, .nl 3)]) (.s (.r [(3, .call rV), (4, .rd (rT2 rP rB))]) (.s (.s .d (.c (.s .d .d) .d)) (.s (.s .d (.c (.s (.r [(1, .rd rPA), (2, .rd rS)]) .d) .d)) (.s (.h (.take 0 (.take 1 (.take 2 (.take 3 (.take 4 (.one 5 (.take 6 (.take 7 .done)))))))) [(3, .rd rPA), (4, .rd rS), (5, .call rB)]) .d)))))
theorem cmd_part_text_4_calls {c : Option Addr} {f : Int} {K : (Bool × Bool) → World → Prop} {w : World} (h : cmd_part_text_4 c f K w) : callV Pr (tval2 Value.bool Value.bool) 185 #[(.agg ⟨[(.int .i64 8), (.int .i64 0), (.func (.func 158) #[] #[]), (.func (.func 203) #[] #[])]⟩), (.pointer c), (.int .i64 f)] w K :=
  calls_of Pr_plain Pr_mixed Pr_func185 cmd_part_text_4_ann (rT2 rB rB) (args := [(.agg ⟨[(.int .i64 8), (.int .i64 0), (.func (.func 158) #[] #[]), (.func (.func 203) #[] #[])]⟩), (.pointer c), (.int .i64 f)]) (by kernel_rfl) h

/- (changeover/cmd.part).text -/
def cmd_part_text_5 (c : Option Addr) (f : Int) (K : (Bool × Bool) → World → Prop) (w : World) : Prop :=
  newV (fun b1 w2 =>
  callV Pr vval 204 #[(.pointer c)] w2 fun t3 w4 =>
  kp b1 w2 w4 <|
  opRd Pr (Instr.typeAssert t3 20 206 true) (tval2 Value.pointer Value.bool) (fun t5 =>
  ifB (!t5.2)
  (K (true, true) w4)
  (ifB ((bAnd .i64 f 16) == 0)
  (drewM (fun w6 =>
  opRd Pr (nilSem (.pointer t5.1)) pav (fun t7 =>
  opRd Pr (Instr.loadAt 9 (.pointer (some t7))) sval (fun t8 =>
  K (true, (strEq t8 [])) w6) w6) w6) w4)
  (heldM (fun S10 w9 =>
  opH Pr S10 (nilSem (.pointer t5.1)) pav (fun t11 =>
  opH Pr S10 (Instr.loadAt 9 (.pointer (some t11))) sval (fun t12 =>
  False))) w4))) w4) w
def cmd_part_text_5_ann : Ann := (.s (.r [(0, .nl 3)]) (.s (.r [(3, .call rV), (4, .rd (rT2 rP rB))]) (.s (.s .d (.c (.s .d .d) .d)) (.s (.s .d (.c (.s (.r [(1, .rd rPA), (2, .rd rS)]) .d) .d)) (.s (.h (.take 0 (.take 1 (.take 2 (.take 3 (.take 4 (.one 5 (.take 6 (.take 7 .done)))))))) [(3, .rd rPA), (4, .rd rS), (5, .call rB)]) .d)))))
theorem cmd_part_text_5_calls {c : Option Addr} {f : Int} {K : (Bool × Bool) → World → Prop} {w : World} (h : cmd_part_text_5 c f K w) : callV Pr (tval2 Value.bool Value.bool) 185 #[(.agg ⟨[(.int .i64 16), (.int .i64 9), .nilFunc, (.func (.func 204) #[] #[])]⟩), (.pointer c), (.int .i64 f)] w K :=
  calls_of Pr_plain Pr_mixed Pr_func185 cmd_part_text_5_ann (rT2 rB rB) (args := [(.agg ⟨[(.int .i64 16), (.int .i64 9), .nilFunc, (.func (.func 204) #[] #[])]⟩), (.pointer c), (.int .i64 f)]) (by kernel_rfl) h

/- (changeover/cmd.part).write -/
def cmd_part_write_0 (w_ : Option Addr) (c : Option Addr) (K : Unit → World → Prop) (w : World) : Prop :=
  newV (fun b1 w2 =>
  callV Pr vval 199 #[(.pointer c)] w2 fun t3 w4 =>
  kp b1 w2 w4 <|
  opRd Pr (Instr.typeAssert t3 20 162 true) (tval2 Value.pointer Value.bool) (fun t5 =>
  ifB t5.2
  (opRd Pr (nilSem (.pointer t5.1)) pav (fun t6 =>
  opRd Pr (Instr.loadAt 3 (.pointer (some t6))) (Value.int .i64) (fun t7 =>
  callV Pr uval 75 #[(.pointer w_), (.int .i64 t7)] w4 fun t8 w9 =>
  kp b1 w4 w9 <|
  K () w9) w4) w4)
  (callV Pr vval 199 #[(.pointer c)] w4 fun t10 w11 =>
  kp b1 w4 w11 <|
  opRd Pr (Instr.typeAssert t10 20 206 false) Value.pointer (fun t12 =>
  opRd Pr (nilSem (.pointer t12)) pav (fun t13 =>
  opRd Pr (Instr.loadAt 9 (.pointer (some t13))) sval (fun t14 =>
  callV Pr uval 76 #[(.pointer w_), (sval t14)] w11 fun t15 w16 =>
  kp b1 w11 w16 <|
  K () w16) w11) w11) w11)) w4) w
def cmd_part_write_0_ann : Ann := (.s (.r [(0, .nl 3)]) (.s (.s (.r [(3, .call rV), (4, .rd (rT2 rP rB))]) (.s .d (.c (.s (.r [(2, .rd rPA), (3, .rd (rI .i64)), (4, .call rU)]) .d) .d))) (.r [(4, .call rV), (5, .rd rP), (6, .rd rPA), (7, .rd rS), (8, .call rU)])))
theorem cmd_part_write_0_calls {w_ : Option Addr} {c : Option Addr} {K : Unit → World → Prop} {w : World} (h : cmd_part_write_0 w_ c K w) : callV Pr uval 182 #[(.agg ⟨[(.int .i64 1), (.int .i64 8), .nilFunc, (.func (.func 199) #[] #[])]⟩), (.pointer w_), (.pointer c)] w K :=
  calls_of Pr_plain Pr_mixed Pr_func182 cmd_part_write_0_ann rU (args := [(.agg ⟨[(.int .i64 1), (.int .i64 8), .nilFunc, (.func (.func 199) #[] #[])]⟩), (.pointer w_), (.pointer c)]) (by kernel_rfl) h

/- (changeover/cmd.part).write -/
def cmd_part_write_1 (w_ : Option Addr) (c : Option Addr) (K : Unit → World → Prop) (w : World) : Prop :=
  newV (fun b1 w2 =>
  callV Pr vval 200 #[(.pointer c)] w2 fun t3 w4 =>
  kp b1 w2 w4 <|
  opRd Pr (Instr.typeAssert t3 20 162 true) (tval2 Value.pointer Value.bool) (fun t5 =>
  ifB t5.2
  (opRd Pr (nilSem (.pointer t5.1)) pav (fun t6 =>
  opRd Pr (Instr.loadAt 3 (.pointer (some t6))) (Value.int .i64) (fun t7 =>
  callV Pr uval 75 #[(.pointer w_), (.int .i64 t7)] w4 fun t8 w9 =>
  kp b1 w4 w9 <|
  K () w9) w4) w4)
  (callV Pr vval 200 #[(.pointer c)] w4 fun t10 w11 =>
  kp b1 w4 w11 <|
  opRd Pr (Instr.typeAssert t10 20 206 false) Value.pointer (fun t12 =>
  opRd Pr (nilSem (.pointer t12)) pav (fun t13 =>
  opRd Pr (Instr.loadAt 9 (.pointer (some t13))) sval (fun t14 =>
  callV Pr uval 76 #[(.pointer w_), (sval t14)] w11 fun t15 w16 =>
  kp b1 w11 w16 <|
  K () w16) w11) w11) w11)) w4) w
def cmd_part_write_1_ann : Ann := (.s (.r [(0, .nl 3)]) (.s (.s (.r [(3, .call rV), (4, .rd (rT2 rP rB))]) (.s .d (.c (.s (.r [(2, .rd rPA), (3, .rd (rI .i64)), (4, .call rU)]) .d) .d))) (.r [(4, .call rV), (5, .rd rP), (6, .rd rPA), (7, .rd rS), (8, .call rU)])))
theorem cmd_part_write_1_calls {w_ : Option Addr} {c : Option Addr} {K : Unit → World → Prop} {w : World} (h : cmd_part_write_1 w_ c K w) : callV Pr uval 182 #[(.agg ⟨[(.int .i64 1), (.int .i64 4294967296), .nilFunc, (.func (.func 200) #[] #[])]⟩), (.pointer w_), (.pointer c)] w K :=
  calls_of Pr_plain Pr_mixed Pr_func182 cmd_part_write_1_ann rU (args := [(.agg ⟨[(.int .i64 1), (.int .i64 4294967296), .nilFunc, (.func (.func 200) #[] #[])]⟩), (.pointer w_), (.pointer c)]) (by kernel_rfl) h

/- (changeover/cmd.part).write -/
def cmd_part_write_2 (w_ : Option Addr) (c : Option Addr) (K : Unit → World → Prop) (w : World) : Prop :=
  newV (fun b1 w2 =>
  callV Pr vval 201 #[(.pointer c)] w2 fun t3 w4 =>
  kp b1 w2 w4 <|
  opRd Pr (Instr.typeAssert t3 20 162 true) (tval2 Value.pointer Value.bool) (fun t5 =>
  ifB t5.2
  (opRd Pr (nilSem (.pointer t5.1)) pav (fun t6 =>
  opRd Pr (Instr.loadAt 3 (.pointer (some t6))) (Value.int .i64) (fun t7 =>
  callV Pr uval 75 #[(.pointer w_), (.int .i64 t7)] w4 fun t8 w9 =>
  kp b1 w4 w9 <|
  K () w9) w4) w4)
  (callV Pr vval 201 #[(.pointer c)] w4 fun t10 w11 =>
  kp b1 w4 w11 <|
  opRd Pr (Instr.typeAssert t10 20 206 false) Value.pointer (fun t12 =>
  opRd Pr (nilSem (.pointer t12)) pav (fun t13 =>
  opRd Pr (Instr.loadAt 9 (.pointer (some t13))) sval (fun t14 =>
  callV Pr uval 76 #[(.pointer w_), (sval t14)] w11 fun t15 w16 =>
  kp b1 w11 w16 <|
  K () w16) w11) w11) w11)) w4) w
def cmd_part_write_2_ann : Ann := (.s (.r [(0, .nl 3)]) (.s (.s (.r [(3, .call rV), (4, .rd (rT2 rP rB))]) (.s .d (.c (.s (.r [(2, .rd rPA), (3, .rd (rI .i64)), (4, .call rU)]) .d) .d))) (.r [(4, .call rV), (5, .rd rP), (6, .rd rPA), (7, .rd rS), (8, .call rU)])))
theorem cmd_part_write_2_calls {w_ : Option Addr} {c : Option Addr} {K : Unit → World → Prop} {w : World} (h : cmd_part_write_2 w_ c K w) : callV Pr uval 182 #[(.agg ⟨[(.int .i64 2), (.int .i64 0), (.func (.func 157) #[] #[]), (.func (.func 201) #[] #[])]⟩), (.pointer w_), (.pointer c)] w K :=
  calls_of Pr_plain Pr_mixed Pr_func182 cmd_part_write_2_ann rU (args := [(.agg ⟨[(.int .i64 2), (.int .i64 0), (.func (.func 157) #[] #[]), (.func (.func 201) #[] #[])]⟩), (.pointer w_), (.pointer c)]) (by kernel_rfl) h

/- (changeover/cmd.part).write -/
def cmd_part_write_3 (w_ : Option Addr) (c : Option Addr) (K : Unit → World → Prop) (w : World) : Prop :=
  newV (fun b1 w2 =>
  callV Pr vval 202 #[(.pointer c)] w2 fun t3 w4 =>
  kp b1 w2 w4 <|
  opRd Pr (Instr.typeAssert t3 20 162 true) (tval2 Value.pointer Value.bool) (fun t5 =>
  ifB t5.2
  (opRd Pr (nilSem (.pointer t5.1)) pav (fun t6 =>
  opRd Pr (Instr.loadAt 3 (.pointer (some t6))) (Value.int .i64) (fun t7 =>
  callV Pr uval 75 #[(.pointer w_), (.int .i64 t7)] w4 fun t8 w9 =>
  kp b1 w4 w9 <|
  K () w9) w4) w4)
  (callV Pr vval 202 #[(.pointer c)] w4 fun t10 w11 =>
  kp b1 w4 w11 <|
  opRd Pr (Instr.typeAssert t10 20 206 false) Value.pointer (fun t12 =>
  opRd Pr (nilSem (.pointer t12)) pav (fun t13 =>
  opRd Pr (Instr.loadAt 9 (.pointer (some t13))) sval (fun t14 =>
  callV Pr uval 76 #[(.pointer w_), (sval t14)] w11 fun t15 w16 =>
  kp b1 w11 w16 <|
  K () w16) w11) w11) w11)) w4) w
def cmd_part_write_3_ann : Ann := (.s (.r [(0, .nl 3)]) (.s (.s (.r [(3, .call rV), (4, .rd (rT2 rP rB))]) (.s .d (.c (.s (.r [(2, .rd rPA), (3, .rd (rI .i64)), (4, .call rU)]) .d) .d))) (.r [(4, .call rV), (5, .rd rP), (6, .rd rPA), (7, .rd rS), (8, .call rU)])))
theorem cmd_part_write_3_calls {w_ : Option Addr} {c : Option Addr} {K : Unit → World → Prop} {w : World} (h : cmd_part_write_3 w_ c K w) : callV Pr uval 182 #[(.agg ⟨[(.int .i64 4), (.int .i64 0), (.func (.func 158) #[] #[]), (.func (.func 202) #[] #[])]⟩), (.pointer w_), (.pointer c)] w K :=
  calls_of Pr_plain Pr_mixed Pr_func182 cmd_part_write_3_ann rU (args := [(.agg ⟨[(.int .i64 4), (.int .i64 0), (.func (.func 158) #[] #[]), (.func (.func 202) #[] #[])]⟩), (.pointer w_), (.pointer c)]) (by kernel_rfl) h

/- (changeover/cmd.part).write -/
def cmd_part_write_4 (w_ : Option Addr) (c : Option Addr) (K : Unit → World → Prop) (w : World) : Prop :=
  newV (fun b1 w2 =>
  callV Pr vval 203 #[(.pointer c)] w2 fun t3 w4 =>
  kp b1 w2 w4 <|
  opRd Pr (Instr.typeAssert t3 20 162 true) (tval2 Value.pointer Value.bool) (fun t5 =>
  ifB t5.2
  (opRd Pr (nilSem (.pointer t5.1)) pav (fun t6 =>
  opRd Pr (Instr.loadAt 3 (.pointer (some t6))) (Value.int .i64) (fun t7 =>
  callV Pr uval 75 #[(.pointer w_), (.int .i64 t7)] w4 fun t8 w9 =>
  kp b1 w4 w9 <|
  K () w9) w4) w4)
  (callV Pr vval 203 #[(.pointer c)] w4 fun t10 w11 =>
  kp b1 w4 w11 <|
  opRd Pr (Instr.typeAssert t10 20 206 false) Value.pointer (fun t12 =>
  opRd Pr (nilSem (.pointer t12)) pav (fun t13 =>
  opRd Pr (Instr.loadAt 9 (.pointer (some t13))) sval (fun t14 =>
  callV Pr uval 76 #[(.pointer w_), (sval t14)] w11 fun t15 w16 =>
  kp b1 w11 w16 <|
  K () w16) w11) w11) w11)) w4) w
def cmd_part_write_4_ann : Ann := (.s (.r [(0, .nl 3)]) (.s (.s (.r [(3, .call rV), (4, .rd (rT2 rP rB))]) (.s .d (.c (.s (.r [(2, .rd rPA), (3, .rd (rI .i64)), (4, .call rU)]) .d) .d))) (.r [(4, .call rV), (5, .rd rP), (6, .rd rPA), (7, .rd rS), (8, .call rU)])))
theorem cmd_part_write_4_calls {w_ : Option Addr} {c : Option Addr} {K : Unit → World → Prop} {w : World} (h : cmd_part_write_4 w_ c K w) : callV Pr uval 182 #[(.agg ⟨[(.int .i64 8), (.int .i64 0), (.func (.func 158) #[] #[]), (.func (.func 203) #[] #[])]⟩), (.pointer w_), (.pointer c)] w K :=
  calls_of Pr_plain Pr_mixed Pr_func182 cmd_part_write_4_ann rU (args := [(.agg ⟨[(.int .i64 8), (.int .i64 0), (.func (.func 158) #[] #[]), (.func (.func 203) #[] #[])]⟩), (.pointer w_), (.pointer c)]) (by kernel_rfl) h

/- (changeover/cmd.part).write -/
def cmd_part_write_5 (w_ : Option Addr) (c : Option Addr) (K : Unit → World → Prop) (w : World) : Prop :=
  newV (fun b1 w2 =>
  callV Pr vval 204 #[(.pointer c)] w2 fun t3 w4 =>
  kp b1 w2 w4 <|
  opRd Pr (Instr.typeAssert t3 20 162 true) (tval2 Value.pointer Value.bool) (fun t5 =>
  ifB t5.2
  (opRd Pr (nilSem (.pointer t5.1)) pav (fun t6 =>
  opRd Pr (Instr.loadAt 3 (.pointer (some t6))) (Value.int .i64) (fun t7 =>
  callV Pr uval 75 #[(.pointer w_), (.int .i64 t7)] w4 fun t8 w9 =>
  kp b1 w4 w9 <|
  K () w9) w4) w4)
  (callV Pr vval 204 #[(.pointer c)] w4 fun t10 w11 =>
  kp b1 w4 w11 <|
  opRd Pr (Instr.typeAssert t10 20 206 false) Value.pointer (fun t12 =>
  opRd Pr (nilSem (.pointer t12)) pav (fun t13 =>
  opRd Pr (Instr.loadAt 9 (.pointer (some t13))) sval (fun t14 =>
  callV Pr uval 76 #[(.pointer w_), (sval t14)] w11 fun t15 w16 =>
  kp b1 w11 w16 <|
  K () w16) w11) w11) w11)) w4) w
def cmd_part_write_5_ann : Ann := (.s (.r [(0, .nl 3)]) (.s (.s (.r [(3, .call rV), (4, .rd (rT2 rP rB))]) (.s .d (.c (.s (.r [(2, .rd rPA), (3, .rd (rI .i64)), (4, .call rU)]) .d) .d))) (.r [(4, .call rV), (5, .rd rP), (6, .rd rPA), (7, .rd rS), (8, .call rU)])))
theorem cmd_part_write_5_calls {w_ : Option Addr} {c : Option Addr} {K : Unit → World → Prop} {w : World} (h : cmd_part_write_5 w_ c K w) : callV Pr uval 182 #[(.agg ⟨[(.int .i64 16), (.int .i64 9), .nilFunc, (.func (.func 204) #[] #[])]⟩), (.pointer w_), (.pointer c)] w K :=
  calls_of Pr_plain Pr_mixed Pr_func182 cmd_part_write_5_ann rU (args := [(.agg ⟨[(.int .i64 16), (.int .i64 9), .nilFunc, (.func (.func 204) #[] #[])]⟩), (.pointer w_), (.pointer c)]) (by kernel_rfl) h

/- (changeover/cmd.part).read -/
def cmd_part_read_0 (r : Option Addr) (c : Option Addr) (K : Unit → World → Prop) (w : World) : Prop :=
  newV (fun b1 w2 =>
  callV Pr vval 199 #[(.pointer c)] w2 fun t3 w4 =>
  kp b1 w2 w4 <|
  opRd Pr (Instr.typeAssert t3 20 162 true) (tval2 Value.pointer Value.bool) (fun t5 =>
  ifB t5.2
  (callV Pr (Value.int .i64) 82 #[(.pointer r), (.int .i64 9223372036854775807)] w4 fun t6 w7 =>
  kp b1 w4 w7 <|
  opRd Pr (nilSem (.pointer t5.1)) pav (fun t8 =>
  opUn Pr (Instr.storeAt 3 (.pointer (some t8)) (.int .i64 t6)) (fun w9 =>
  kp b1 w7 w9 <|
  K () w9) w7) w7)
  (heldM (fun S11 w10 =>
  callV Pr vval 199 #[(.pointer c)] w10 fun t12 w13 =>
  kp b1 w10 w13 <|
  (S11 w13) ∧
  (opH Pr S11 (Instr.typeAssert t12 20 206 false) Value.pointer (fun t14 =>
  callV Pr sval 86 #[(.pointer r), (.int .i64 1048576)] w13 fun t15 w16 =>
  kp b1 w13 w16 <|
  (S11 w16) ∧
  (opH Pr S11 (nilSem (.pointer t14)) pav (fun t17 =>
  opUn Pr (Instr.storeAt 9 (.pointer (some t17)) (sval t15)) (fun w18 =>
  kp b1 w16 w18 <|
  (S11 w18) ∧
  (K () w18)) w16))))) w4)) w4) w
def cmd_part_read_0_ann : Ann := (.s (.r [(0, .nl 3)]) (.s (.s (.r [(3, .call rV), (4, .rd (rT2 rP rB))]) (.s .d (.c (.s (.r [(2, .call (rI .i64)), (3, .rd rPA), (4, .un)]) .d) .d))) (.h (.take 0 (.take 1 (.take 2 (.take 5 (.one 3 (.take 4 (.one 6 (.take 7 (.one 8 .done))))))))) [(3, .call rV), (4, .rd rP), (6, .call rS), (7, .rd rPA), (8, .un)])))
theorem cmd_part_read_0_calls {r : Option Addr} {c : Option Addr} {K : Unit → World → Prop} {w : World} (h : cmd_part_read_0 r c K w) : callV Pr uval 193 #[(.agg ⟨[(.int .i64 1), (.int .i64 8), .nilFunc, (.func (.func 199) #[] #[])]⟩), (.pointer r), (.pointer c)] w K :=
  calls_of Pr_plain Pr_mixed Pr_func193 cmd_part_read_0_ann rU (args := [(.agg ⟨[(.int .i64 1), (.int .i64 8), .nilFunc, (.func (.func 199) #[] #[])]⟩), (.pointer r), (.pointer c)]) (by kernel_rfl) h

/- (changeover/cmd.part).read -/
def cmd_part_read_1 (r : Option Addr) (c : Option Addr) (K : Unit → World → Prop) (w : World) : Prop :=
  newV (fun b1 w2 =>
  callV Pr vval 200 #[(.pointer c)] w2 fun t3 w4 =>
  kp b1 w2 w4 <|
  opRd Pr (Instr.typeAssert t3 20 162 true) (tval2 Value.pointer Value.bool) (fun t5 =>
  ifB t5.2
  (callV Pr (Value.int .i64) 82 #[(.pointer r), (.int .i64 9223372036854775807)] w4 fun t6 w7 =>
  kp b1 w4 w7 <|
  opRd Pr (nilSem (.pointer t5.1)) pav (fun t8 =>
  opUn Pr (Instr.storeAt 3 (.pointer (some t8)) (.int .i64 t6)) (fun w9 =>
  kp b1 w7 w9 <|
  K () w9) w7) w7)
  (heldM (fun S11 w10 =>
  callV Pr vval 200 #[(.pointer c)] w10 fun t12 w13 =>
  kp b1 w10 w13 <|
  (S11 w13) ∧
  (opH Pr S11 (Instr.typeAssert t12 20 206 false) Value.pointer (fun t14 =>
  callV Pr sval 86 #[(.pointer r), (.int .i64 1048576)] w13 fun t15 w16 =>
  kp b1 w13 w16 <|
  (S11 w16) ∧
  (opH Pr S11 (nilSem (.pointer t14)) pav (fun t17 =>
  opUn Pr (Instr.storeAt 9 (.pointer (some t17)) (sval t15)) (fun w18 =>
  kp b1 w16 w18 <|
  (S11 w18) ∧
  (K () w18)) w16))))) w4)) w4) w
def cmd_part_read_1_ann : Ann := (.s (.r [(0, .nl 3)]) (.s (.s (.r [(3, .call rV), (4, .rd (rT2 rP rB))]) (.s .d (.c (.s (.r [(2, .call (rI .i64)), (3, .rd rPA), (4, .un)]) .d) .d))) (.h (.take 0 (.take 1 (.take 2 (.take 5 (.one 3 (.take 4 (.one 6 (.take 7 (.one 8 .done))))))))) [(3, .call rV), (4, .rd rP), (6, .call rS), (7, .rd rPA), (8, .un)])))
theorem cmd_part_read_1_calls {r : Option Addr} {c : Option Addr} {K : Unit → World → Prop} {w : World} (h : cmd_part_read_1 r c K w) : callV Pr uval 193 #[(.agg ⟨[(.int .i64 1), (.int .i64 4294967296), .nilFunc, (.func (.func 200) #[] #[])]⟩), (.pointer r), (.pointer c)] w K :=
  calls_of Pr_plain Pr_mixed Pr_func193 cmd_part_read_1_ann rU (args := [(.agg ⟨[(.int .i64 1), (.int .i64 4294967296), .nilFunc, (.func (.func 200) #[] #[])]⟩), (.pointer r), (.pointer c)]) (by kernel_rfl) h

/- (changeover/cmd.part).read -/
def cmd_part_read_2 (r : Option Addr) (c : Option Addr) (K : Unit → World → Prop) (w : World) : Prop :=
  newV (fun b1 w2 =>
  callV Pr vval 201 #[(.pointer c)] w2 fun t3 w4 =>
  kp b1 w2 w4 <|
  opRd Pr (Instr.typeAssert t3 20 162 true) (tval2 Value.pointer Value.bool) (fun t5 =>
  ifB t5.2
  (callV Pr (Value.int .i64) 82 #[(.pointer r), (.int .i64 9223372036854775807)] w4 fun t6 w7 =>
  kp b1 w4 w7 <|
  opRd Pr (nilSem (.pointer t5.1)) pav (fun t8 =>
  opUn Pr (Instr.storeAt 3 (.pointer (some t8)) (.int .i64 t6)) (fun w9 =>
  kp b1 w7 w9 <|
  K () w9) w7) w7)
  (heldM (fun S11 w10 =>
  callV Pr vval 201 #[(.pointer c)] w10 fun t12 w13 =>
  kp b1 w10 w13 <|
  (S11 w13) ∧
  (opH Pr S11 (Instr.typeAssert t12 20 206 false) Value.pointer (fun t14 =>
  callV Pr sval 86 #[(.pointer r), (.int .i64 1048576)] w13 fun t15 w16 =>
  kp b1 w13 w16 <|
  (S11 w16) ∧
  (opH Pr S11 (nilSem (.pointer t14)) pav (fun t17 =>
  opUn Pr (Instr.storeAt 9 (.pointer (some t17)) (sval t15)) (fun w18 =>
  kp b1 w16 w18 <|
  (S11 w18) ∧
  (K () w18)) w16))))) w4)) w4) w
def cmd_part_read_2_ann : Ann := (.s (.r [(0, .nl 3)]) (.s (.s (.r [(3, .call rV), (4, .rd (rT2 rP rB))]) (.s .d (.c (.s (.r [(2, .call (rI .i64)), (3, .rd rPA), (4, .un)]) .d) .d))) (.h (.take 0 (.take 1 (.take 2 (.take 5 (.one 3 (.take 4 (.one 6 (.take 7 (.one 8 .done))))))))) [(3, .call rV), (4, .rd rP), (6, .call rS), (7, .rd rPA), (8, .un)])))
theorem cmd_part_read_2_calls {r : Option Addr} {c : Option Addr} {K : Unit → World → Prop} {w : World} (h : cmd_part_read_2 r c K w) : callV Pr uval 193 #[(.agg ⟨[(.int .i64 2), (.int .i64 0), (.func (.func 157) #[] #[]), (.func (.func 201) #[] #[])]⟩), (.pointer r), (.pointer c)] w K :=
  calls_of Pr_plain Pr_mixed Pr_func193 cmd_part_read_2_ann rU (args := [(.agg ⟨[(.int .i64 2), (.int .i64 0), (.func (.func 157) #[] #[]), (.func (.func 201) #[] #[])]⟩), (.pointer r), (.pointer c)]) (by kernel_rfl) h

/- (changeover/cmd.part).read -/
def cmd_part_read_3 (r : Option Addr) (c : Option Addr) (K : Unit → World → Prop) (w : World) : Prop :=
  newV (fun b1 w2 =>
  callV Pr vval 202 #[(.pointer c)] w2 fun t3 w4 =>
  kp b1 w2 w4 <|
  opRd Pr (Instr.typeAssert t3 20 162 true) (tval2 Value.pointer Value.bool) (fun t5 =>
  ifB t5.2
  (callV Pr (Value.int .i64) 82 #[(.pointer r), (.int .i64 9223372036854775807)] w4 fun t6 w7 =>
  kp b1 w4 w7 <|
  opRd Pr (nilSem (.pointer t5.1)) pav (fun t8 =>
  opUn Pr (Instr.storeAt 3 (.pointer (some t8)) (.int .i64 t6)) (fun w9 =>
  kp b1 w7 w9 <|
  K () w9) w7) w7)
  (heldM (fun S11 w10 =>
  callV Pr vval 202 #[(.pointer c)] w10 fun t12 w13 =>
  kp b1 w10 w13 <|
  (S11 w13) ∧
  (opH Pr S11 (Instr.typeAssert t12 20 206 false) Value.pointer (fun t14 =>
  callV Pr sval 86 #[(.pointer r), (.int .i64 1048576)] w13 fun t15 w16 =>
  kp b1 w13 w16 <|
  (S11 w16) ∧
  (opH Pr S11 (nilSem (.pointer t14)) pav (fun t17 =>
  opUn Pr (Instr.storeAt 9 (.pointer (some t17)) (sval t15)) (fun w18 =>
  kp b1 w16 w18 <|
  (S11 w18) ∧
  (K () w18)) w16))))) w4)) w4) w
def cmd_part_read_3_ann : Ann := (.s (.r [(0, .nl 3)]) (.s (.s (.r [(3, .call rV), (4, .rd (rT2 rP rB))]) (.s .d (.c (.s (.r [(2, .call (rI .i64)), (3, .rd rPA), (4, .un)]) .d) .d))) (.h (.take 0 (.take 1 (.take 2 (.take 5 (.one 3 (.take 4 (.one 6 (.take 7 (.one 8 .done))))))))) [(3, .call rV), (4, .rd rP), (6, .call rS), (7, .rd rPA), (8, .un)])))
theorem cmd_part_read_3_calls {r : Option Addr} {c : Option Addr} {K : Unit → World → Prop} {w : World} (h : cmd_part_read_3 r c K w) : callV Pr uval 193 #[(.agg ⟨[(.int .i64 4), (.int .i64 0), (.func (.func 158) #[] #[]), (.func (.func 202) #[] #[])]⟩), (.pointer r), (.pointer c)] w K :=
  calls_of Pr_plain Pr_mixed Pr_func193 cmd_part_read_3_ann rU (args := [(.agg ⟨[(.int .i64 4), (.int .i64 0), (.func (.func 158) #[] #[]), (.func (.func 202) #[] #[])]⟩), (.pointer r), (.pointer c)]) (by kernel_rfl) h

/- (changeover/cmd.part).read -/
def cmd_part_read_4 (r : Option Addr) (c : Option Addr) (K : Unit → World → Prop) (w : World) : Prop :=
  newV (fun b1 w2 =>
  callV Pr vval 203 #[(.pointer c)] w2 fun t3 w4 =>
  kp b1 w2 w4 <|
  opRd Pr (Instr.typeAssert t3 20 162 true) (tval2 Value.pointer Value.bool) (fun t5 =>
  ifB t5.2
  (callV Pr (Value.int .i64) 82 #[(.pointer r), (.int .i64 9223372036854775807)] w4 fun t6 w7 =>
  kp b1 w4 w7 <|
  opRd Pr (nilSem (.pointer t5.1)) pav (fun t8 =>
  opUn Pr (Instr.storeAt 3 (.pointer (some t8)) (.int .i64 t6)) (fun w9 =>
  kp b1 w7 w9 <|
  K () w9) w7) w7)
  (heldM (fun S11 w10 =>
  callV Pr vval 203 #[(.pointer c)] w10 fun t12 w13 =>
  kp b1 w10 w13 <|
  (S11 w13) ∧
  (opH Pr S11 (Instr.typeAssert t12 20 206 false) Value.pointer (fun t14 =>
  callV Pr sval 86 #[(.pointer r), (.int .i64 1048576)] w13 fun t15 w16 =>
  kp b1 w13 w16 <|
  (S11 w16) ∧
  (opH Pr S11 (nilSem (.pointer t14)) pav (fun t17 =>
  opUn Pr (Instr.storeAt 9 (.pointer (some t17)) (sval t15)) (fun w18 =>
  kp b1 w16 w18 <|
  (S11 w18) ∧
  (K () w18)) w16))))) w4)) w4) w
def cmd_part_read_4_ann : Ann := (.s (.r [(0, .nl 3)]) (.s (.s (.r [(3, .call rV), (4, .rd (rT2 rP rB))]) (.s .d (.c (.s (.r [(2, .call (rI .i64)), (3, .rd rPA), (4, .un)]) .d) .d))) (.h (.take 0 (.take 1 (.take 2 (.take 5 (.one 3 (.take 4 (.one 6 (.take 7 (.one 8 .done))))))))) [(3, .call rV), (4, .rd rP), (6, .call rS), (7, .rd rPA), (8, .un)])))
theorem cmd_part_read_4_calls {r : Option Addr} {c : Option Addr} {K : Unit → World → Prop} {w : World} (h : cmd_part_read_4 r c K w) : callV Pr uval 193 #[(.agg ⟨[(.int .i64 8), (.int .i64 0), (.func (.func 158) #[] #[]), (.func (.func 203) #[] #[])]⟩), (.pointer r), (.pointer c)] w K :=
  calls_of Pr_plain Pr_mixed Pr_func193 cmd_part_read_4_ann rU (args := [(.agg ⟨[(.int .i64 8), (.int .i64 0), (.func (.func 158) #[] #[]), (.func (.func 203) #[] #[])]⟩), (.pointer r), (.pointer c)]) (by kernel_rfl) h

/- (changeover/cmd.part).read -/
def cmd_part_read_5 (r : Option Addr) (c : Option Addr) (K : Unit → World → Prop) (w : World) : Prop :=
  newV (fun b1 w2 =>
  callV Pr vval 204 #[(.pointer c)] w2 fun t3 w4 =>
  kp b1 w2 w4 <|
  opRd Pr (Instr.typeAssert t3 20 162 true) (tval2 Value.pointer Value.bool) (fun t5 =>
  ifB t5.2
  (callV Pr (Value.int .i64) 82 #[(.pointer r), (.int .i64 9223372036854775807)] w4 fun t6 w7 =>
  kp b1 w4 w7 <|
  opRd Pr (nilSem (.pointer t5.1)) pav (fun t8 =>
  opUn Pr (Instr.storeAt 3 (.pointer (some t8)) (.int .i64 t6)) (fun w9 =>
  kp b1 w7 w9 <|
  K () w9) w7) w7)
  (heldM (fun S11 w10 =>
  callV Pr vval 204 #[(.pointer c)] w10 fun t12 w13 =>
  kp b1 w10 w13 <|
  (S11 w13) ∧
  (opH Pr S11 (Instr.typeAssert t12 20 206 false) Value.pointer (fun t14 =>
  callV Pr sval 86 #[(.pointer r), (.int .i64 1048576)] w13 fun t15 w16 =>
  kp b1 w13 w16 <|
  (S11 w16) ∧
  (opH Pr S11 (nilSem (.pointer t14)) pav (fun t17 =>
  opUn Pr (Instr.storeAt 9 (.pointer (some t17)) (sval t15)) (fun w18 =>
  kp b1 w16 w18 <|
  (S11 w18) ∧
  (K () w18)) w16))))) w4)) w4) w
def cmd_part_read_5_ann : Ann := (.s (.r [(0, .nl 3)]) (.s (.s (.r [(3, .call rV), (4, .rd (rT2 rP rB))]) (.s .d (.c (.s (.r [(2, .call (rI .i64)), (3, .rd rPA), (4, .un)]) .d) .d))) (.h (.take 0 (.take 1 (.take 2 (.take 5 (.one 3 (.take 4 (.one 6 (.take 7 (.one 8 .done))))))))) [(3, .call rV), (4, .rd rP), (6, .call rS), (7, .rd rPA), (8, .un)])))
theorem cmd_part_read_5_calls {r : Option Addr} {c : Option Addr} {K : Unit → World → Prop} {w : World} (h : cmd_part_read_5 r c K w) : callV Pr uval 193 #[(.agg ⟨[(.int .i64 16), (.int .i64 9), .nilFunc, (.func (.func 204) #[] #[])]⟩), (.pointer r), (.pointer c)] w K :=
  calls_of Pr_plain Pr_mixed Pr_func193 cmd_part_read_5_ann rU (args := [(.agg ⟨[(.int .i64 16), (.int .i64 9), .nilFunc, (.func (.func 204) #[] #[])]⟩), (.pointer r), (.pointer c)]) (by kernel_rfl) h

/- changeover/pack.read[int] -/
def pack_read_int_Number (r : Option Addr) (c134x0 : Addr) (c134x1 : Addr) (K : Int → World → Prop) (w : World) : Prop :=
  opRd Pr (binSem .eql 114 (.tmp 7) (.const (.pointer none)) (.pointer r) (.pointer none)) Value.bool (fun t1 =>
  ifB t1
  (K 0 w)
  (opRd Pr (nilSem (.pointer r)) pav (fun t2 =>
  opRd Pr (Instr.loadAt 24 (.pointer (some (t2.add 2)))) (Value.int .i64) (fun t3 =>
  ifB (t3 != 0)
  (K 0 w)
  (callV Pr (Value.int .i64) 134 #[(.pointer (some c134x0)), (.pointer (some c134x1))] w fun x4 w5 =>
  opRd Pr (nilSem (.pointer r)) pav (fun t6 =>
  opRd Pr (Instr.loadAt 24 (.pointer (some (t6.add 2)))) (Value.int .i64) (fun t7 =>
  ifB (t7 != 0)
  (K 0 w5)
  (K x4 w5)) w5) w5)) w) w)) w
def pack_read_int_Number_ann : Ann := (.s .d (.s .d (.s (.s (.r [(1, .rd rB), (4, .rd rPA), (6, .rd (rI .i64))]) (.c (.s .d .d) .d)) (.s (.r [(1, .call (rI .i64))]) (.s (.s (.r [(1, .rd rPA), (3, .rd (rI .i64))]) (.c (.s .d .d) .d)) (.s .d .d))))))
theorem pack_read_int_Number_calls {r : Option Addr} {c134x0 : Addr} {c134x1 : Addr} {K : Int → World → Prop} {w : World} (h : pack_read_int_Number r c134x0 c134x1 K w) : callV Pr (Value.int .i64) 133 #[(.pointer r), (.func (.func 134) #[] #[(.pointer (some c134x0)), (.pointer (some c134x1))])] w K :=
  calls_of Pr_plain Pr_mixed Pr_func133 pack_read_int_Number_ann (rI .i64) (args := [(.pointer r), (.func (.func 134) #[] #[(.pointer (some c134x0)), (.pointer (some c134x1))])]) (by kernel_rfl) h

/- changeover/pack.read[int] -/
def pack_read_int_Count (r : Option Addr) (c166x0 : Addr) (c166x1 : Addr) (K : Int → World → Prop) (w : World) : Prop :=
  opRd Pr (binSem .eql 114 (.tmp 7) (.const (.pointer none)) (.pointer r) (.pointer none)) Value.bool (fun t1 =>
  ifB t1
  (K 0 w)
  (opRd Pr (nilSem (.pointer r)) pav (fun t2 =>
  opRd Pr (Instr.loadAt 24 (.pointer (some (t2.add 2)))) (Value.int .i64) (fun t3 =>
  ifB (t3 != 0)
  (K 0 w)
  (callV Pr (Value.int .i64) 166 #[(.pointer (some c166x0)), (.pointer (some c166x1))] w fun x4 w5 =>
  opRd Pr (nilSem (.pointer r)) pav (fun t6 =>
  opRd Pr (Instr.loadAt 24 (.pointer (some (t6.add 2)))) (Value.int .i64) (fun t7 =>
  ifB (t7 != 0)
  (K 0 w5)
  (K x4 w5)) w5) w5)) w) w)) w
def pack_read_int_Count_ann : Ann := (.s .d (.s .d (.s (.s (.r [(1, .rd rB), (4, .rd rPA), (6, .rd (rI .i64))]) (.c (.s .d .d) .d)) (.s (.r [(1, .call (rI .i64))]) (.s (.s (.r [(1, .rd rPA), (3, .rd (rI .i64))]) (.c (.s .d .d) .d)) (.s .d .d))))))
theorem pack_read_int_Count_calls {r : Option Addr} {c166x0 : Addr} {c166x1 : Addr} {K : Int → World → Prop} {w : World} (h : pack_read_int_Count r c166x0 c166x1 K w) : callV Pr (Value.int .i64) 133 #[(.pointer r), (.func (.func 166) #[] #[(.pointer (some c166x0)), (.pointer (some c166x1))])] w K :=
  calls_of Pr_plain Pr_mixed Pr_func133 pack_read_int_Count_ann (rI .i64) (args := [(.pointer r), (.func (.func 166) #[] #[(.pointer (some c166x0)), (.pointer (some c166x1))])]) (by kernel_rfl) h

/- changeover/pack.read[[]byte] -/
def pack_read_byte_Raw (r : Option Addr) (c169x0 : Addr) (c169x1 : Addr) (K : Sl → World → Prop) (w : World) : Prop :=
  opRd Pr (binSem .eql 114 (.tmp 7) (.const (.pointer none)) (.pointer r) (.pointer none)) Value.bool (fun t1 =>
  ifB t1
  (K Sl.nil w)
  (opRd Pr (nilSem (.pointer r)) pav (fun t2 =>
  opRd Pr (Instr.loadAt 24 (.pointer (some (t2.add 2)))) (Value.int .i64) (fun t3 =>
  ifB (t3 != 0)
  (K Sl.nil w)
  (callV Pr Sl.val 169 #[(.pointer (some c169x0)), (.pointer (some c169x1))] w fun x4 w5 =>
  opRd Pr (nilSem (.pointer r)) pav (fun t6 =>
  opRd Pr (Instr.loadAt 24 (.pointer (some (t6.add 2)))) (Value.int .i64) (fun t7 =>
  ifB (t7 != 0)
  (K Sl.nil w5)
  (K x4 w5)) w5) w5)) w) w)) w
def pack_read_byte_Raw_ann : Ann := (.s .d (.s .d (.s (.s (.r [(1, .rd rB), (4, .rd rPA), (6, .rd (rI .i64))]) (.c (.s .d .d) .d)) (.s (.r [(1, .call rSl)]) (.s (.s (.r [(1, .rd rPA), (3, .rd (rI .i64))]) (.c (.s .d .d) .d)) (.s .d .d))))))
theorem pack_read_byte_Raw_calls {r : Option Addr} {c169x0 : Addr} {c169x1 : Addr} {K : Sl → World → Prop} {w : World} (h : pack_read_byte_Raw r c169x0 c169x1 K w) : callV Pr Sl.val 168 #[(.pointer r), (.func (.func 169) #[] #[(.pointer (some c169x0)), (.pointer (some c169x1))])] w K :=
  calls_of Pr_plain Pr_mixed Pr_func168 pack_read_byte_Raw_ann rSl (args := [(.pointer r), (.func (.func 169) #[] #[(.pointer (some c169x0)), (.pointer (some c169x1))])]) (by kernel_rfl) h

/- changeover/pack.read[bool] -/
def pack_read_bool_flag (r : Option Addr) (c_r : Option Addr) (K : Bool → World → Prop) (w : World) : Prop :=
  opRd Pr (binSem .eql 114 (.tmp 7) (.const (.pointer none)) (.pointer r) (.pointer none)) Value.bool (fun t1 =>
  ifB t1
  (K false w)
  (opRd Pr (nilSem (.pointer r)) pav (fun t2 =>
  opRd Pr (Instr.loadAt 24 (.pointer (some (t2.add 2)))) (Value.int .i64) (fun t3 =>
  ifB (t3 != 0)
  (K false w)
  (callV Pr Value.bool 171 #[(.pointer c_r)] w fun x4 w5 =>
  opRd Pr (nilSem (.pointer r)) pav (fun t6 =>
  opRd Pr (Instr.loadAt 24 (.pointer (some (t6.add 2)))) (Value.int .i64) (fun t7 =>
  ifB (t7 != 0)
  (K false w5)
  (K x4 w5)) w5) w5)) w) w)) w
def pack_read_bool_flag_ann : Ann := (.s .d (.s .d (.s (.s (.r [(1, .rd rB), (4, .rd rPA), (6, .rd (rI .i64))]) (.c (.s .d .d) .d)) (.s (.r [(1, .call rB)]) (.s (.s (.r [(1, .rd rPA), (3, .rd (rI .i64))]) (.c (.s .d .d) .d)) (.s .d .d))))))
theorem pack_read_bool_flag_calls {r : Option Addr} {c_r : Option Addr} {K : Bool → World → Prop} {w : World} (h : pack_read_bool_flag r c_r K w) : callV Pr Value.bool 172 #[(.pointer r), (.func (.func 171) #[(.pointer c_r)] #[])] w K :=
  calls_of Pr_plain Pr_mixed Pr_func172 pack_read_bool_flag_ann rB (args := [(.pointer r), (.func (.func 171) #[(.pointer c_r)] #[])]) (by kernel_rfl) h

/- changeover/runes.all -/
def runes_all_Plain (s : List UInt8) (K : Bool → World → Prop) (w : World) : Prop :=
  opTy Pr (Instr.range 9 (sval s)) pav (fun t1 w2 =>
  loop0 (fun k3 w4 =>
  opAl Pr (Instr.next (.pointer (some t1)) true 0) (nxval (Value.int .i64) (Value.int .i32)) endval (fun t5 w6 =>
  callV Pr Value.bool 189 #[(.int .i32 t5.2)] w6 fun t7 w8 =>
  ifB (!t7)
  (K false w8)
  (k3 w8)) (fun _ w9 =>
  K true w9) w4) w2) w
def runes_all_Plain_ann : Ann := (.s .d (.s (.s (.r [(1, .ty rPA)]) (.b (.l [] (.s (.r [(0, .alt (rNx (rI .i64) (rI .i32)) rEnd)]) (.s (.c .d .d) (.b (.s .d (.s (.r [(2, .call rB)]) (.c (.s .d .d) .d))))))))) (.s .d .d)))
theorem runes_all_Plain_calls {s : List UInt8} {K : Bool → World → Prop} {w : World} (h : runes_all_Plain s K w) : callV Pr Value.bool 188 #[(sval s), (.func (.func 189) #[] #[])] w K :=
  calls_of Pr_plain Pr_mixed Pr_func188 runes_all_Plain_ann rB (args := [(sval s), (.func (.func 189) #[] #[])]) (by kernel_rfl) h

/- changeover/runes.all -/
def runes_all_Val (s : List UInt8) (K : Bool → World → Prop) (w : World) : Prop :=
  opTy Pr (Instr.range 9 (sval s)) pav (fun t1 w2 =>
  loop0 (fun k3 w4 =>
  opAl Pr (Instr.next (.pointer (some t1)) true 0) (nxval (Value.int .i64) (Value.int .i32)) endval (fun t5 w6 =>
  callV Pr Value.bool 190 #[(.int .i32 t5.2)] w6 fun t7 w8 =>
  ifB (!t7)
  (K false w8)
  (k3 w8)) (fun _ w9 =>
  K true w9) w4) w2) w
def runes_all_Val_ann : Ann := (.s .d (.s (.s (.r [(1, .ty rPA)]) (.b (.l [] (.s (.r [(0, .alt (rNx (rI .i64) (rI .i32)) rEnd)]) (.s (.c .d .d) (.b (.s .d (.s (.r [(2, .call rB)]) (.c (.s .d .d) .d))))))))) (.s .d .d)))
theorem runes_all_Val_calls {s : List UInt8} {K : Bool → World → Prop} {w : World} (h : runes_all_Val s K w) : callV Pr Value.bool 188 #[(sval s), (.func (.func 190) #[] #[])] w K :=
  calls_of Pr_plain Pr_mixed Pr_func188 runes_all_Val_ann rB (args := [(sval s), (.func (.func 190) #[] #[])]) (by kernel_rfl) h

/- slices.IndexFunc[[]changeover/api.Entry,changeover/api.Entry] -/
def slices_IndexFunc_api_Entry_api_Entry_Has (s : Sl) (c175x0 : Addr) (K : Int → World → Prop) (w : World) : Prop :=
  loop1 (0 : Int) (fun t1 k2 w3 =>
  ifB (decide (t1 < (s.len : Int)))
  (opRd Pr (Instr.indexAt 38 s.val (.int .i64 t1)) pav (fun t4 =>
  opRd Pr (Instr.loadAt 93 (.pointer (some t4))) ApiEntry.val (fun t5 =>
  callV Pr Value.bool 175 #[(.agg ⟨t5.cs⟩), (.pointer (some c175x0))] w3 fun t6 w7 =>
  ifB t6
  (K t1 w7)
  (k2 (i64 (t1 + 1)) w7)) w3) w3)
  (K (-1) w3)) w
def slices_IndexFunc_api_Entry_api_Entry_Has_ann : Ann := (.s .d (.s (.s .d (.b (.l [(.s 8, (rI .i64))] (.s .d (.s (.c .d .d) (.s (.b (.s .d (.s (.r [(3, .rd rPA), (4, .rd rApiEntry), (5, .call rB)]) (.c (.s .d .d) .d)))) .d)))))) (.s .d .d)))
theorem slices_IndexFunc_api_Entry_api_Entry_Has_calls {s : Sl} {c175x0 : Addr} {K : Int → World → Prop} {w : World} (h : slices_IndexFunc_api_Entry_api_Entry_Has s c175x0 K w) : callV Pr (Value.int .i64) 194 #[s.val, (.func (.func 175) #[] #[(.pointer (some c175x0))])] w K :=
  calls_of Pr_plain Pr_mixed Pr_func194 slices_IndexFunc_api_Entry_api_Entry_Has_ann (rI .i64) (args := [s.val, (.func (.func 175) #[] #[(.pointer (some c175x0))])]) (by kernel_rfl) h

/- slices.IndexFunc[[]changeover/api.Session,changeover/api.Session] -/
def slices_IndexFunc_api_Session_api_Session_Check (s : Sl) (K : Int → World → Prop) (w : World) : Prop :=
  loop1 (0 : Int) (fun t1 k2 w3 =>
  ifB (decide (t1 < (s.len : Int)))
  (opRd Pr (Instr.indexAt 46 s.val (.int .i64 t1)) pav (fun t4 =>
  opRd Pr (Instr.loadAt 110 (.pointer (some t4))) ApiSession.val (fun t5 =>
  callV Pr Value.bool 122 #[(.agg ⟨t5.cs⟩)] w3 fun t6 w7 =>
  ifB t6
  (K t1 w7)
  (k2 (i64 (t1 + 1)) w7)) w3) w3)
  (K (-1) w3)) w
def slices_IndexFunc_api_Session_api_Session_Check_ann : Ann := (.s .d (.s (.s .d (.b (.l [(.s 8, (rI .i64))] (.s .d (.s (.c .d .d) (.s (.b (.s .d (.s (.r [(3, .rd rPA), (4, .rd rApiSession), (5, .call rB)]) (.c (.s .d .d) .d)))) .d)))))) (.s .d .d)))
theorem slices_IndexFunc_api_Session_api_Session_Check_calls {s : Sl} {K : Int → World → Prop} {w : World} (h : slices_IndexFunc_api_Session_api_Session_Check s K w) : callV Pr (Value.int .i64) 156 #[s.val, (.func (.func 122) #[] #[])] w K :=
  calls_of Pr_plain Pr_mixed Pr_func156 slices_IndexFunc_api_Session_api_Session_Check_ann (rI .i64) (args := [s.val, (.func (.func 122) #[] #[])]) (by kernel_rfl) h

/- slices.IndexFunc[[]changeover/api.Pair,changeover/api.Pair] -/
def slices_IndexFunc_api_Pair_api_Pair_Check (s : Sl) (K : Int → World → Prop) (w : World) : Prop :=
  loop1 (0 : Int) (fun t1 k2 w3 =>
  ifB (decide (t1 < (s.len : Int)))
  (opRd Pr (Instr.indexAt 45 s.val (.int .i64 t1)) pav (fun t4 =>
  opRd Pr (Instr.loadAt 105 (.pointer (some t4))) ApiPair.val (fun t5 =>
  callV Pr Value.bool 159 #[(.agg ⟨t5.cs⟩)] w3 fun t6 w7 =>
  ifB t6
  (K t1 w7)
  (k2 (i64 (t1 + 1)) w7)) w3) w3)
  (K (-1) w3)) w
def slices_IndexFunc_api_Pair_api_Pair_Check_ann : Ann := (.s .d (.s (.s .d (.b (.l [(.s 8, (rI .i64))] (.s .d (.s (.c .d .d) (.s (.b (.s .d (.s (.r [(3, .rd rPA), (4, .rd rApiPair), (5, .call rB)]) (.c (.s .d .d) .d)))) .d)))))) (.s .d .d)))
theorem slices_IndexFunc_api_Pair_api_Pair_Check_calls {s : Sl} {K : Int → World → Prop} {w : World} (h : slices_IndexFunc_api_Pair_api_Pair_Check s K w) : callV Pr (Value.int .i64) 191 #[s.val, (.func (.func 159) #[] #[])] w K :=
  calls_of Pr_plain Pr_mixed Pr_func191 slices_IndexFunc_api_Pair_api_Pair_Check_ann (rI .i64) (args := [s.val, (.func (.func 159) #[] #[])]) (by kernel_rfl) h

/- changeover/snapone.list[changeover/api.Pair] -/
def snapone_list_api_Pair_1 (r : Option Addr) (most : Int) (c85x0 : Addr) (K : Sl → World → Prop) (w : World) : Prop :=
  callV Pr (Value.int .i64) 136 #[(.pointer r), (.int .i64 most)] w fun t1 w2 =>
  loop2 (Sl.nil : Sl) (0 : Int) (fun out3 t4 k5 w6 =>
  ifB (decide (t4 < t1))
  (callV Pr ApiPair.val 85 #[(.pointer (some c85x0))] w6 fun t7 w8 =>
  opTy Pr (Instr.buildSlice 45 1 #[(0, (.agg ⟨t7.cs⟩))]) Sl.val (fun t9 w10 =>
  opTy Pr (Builtin.append_ #[45, 45] 45 #[out3.val, t9.val]) Sl.val (fun out11 w12 =>
  k5 out11 (i64 (t4 + 1)) w12) w10) w8)
  (K out3 w6)) w2
def snapone_list_api_Pair_1_ann : Ann := (.s .d (.s .d (.s (.s (.r [(2, .call (rI .i64))]) (.b (.l [(.s 7, rSl), (.s 11, (rI .i64))] (.s .d (.s (.c .d .d) (.s (.b (.r [(2, .call rApiPair), (3, .ty rSl), (4, .ty rSl)])) .d)))))) (.s .d .d))))
theorem snapone_list_api_Pair_1_calls {r : Option Addr} {most : Int} {c85x0 : Addr} {K : Sl → World → Prop} {w : World} (h : snapone_list_api_Pair_1 r most c85x0 K w) : callV Pr Sl.val 84 #[(.pointer r), (.int .i64 most), (.func (.func 85) #[] #[(.pointer (some c85x0))])] w K :=
  calls_of Pr_plain Pr_mixed Pr_func84 snapone_list_api_Pair_1_ann rSl (args := [(.pointer r), (.int .i64 most), (.func (.func 85) #[] #[(.pointer (some c85x0))])]) (by kernel_rfl) h

/- changeover/snapone.list[changeover/api.Session] -/
def snapone_list_api_Session_2 (r : Option Addr) (most : Int) (c88x0 : Addr) (K : Sl → World → Prop) (w : World) : Prop :=
  callV Pr (Value.int .i64) 136 #[(.pointer r), (.int .i64 most)] w fun t1 w2 =>
  loop2 (Sl.nil : Sl) (0 : Int) (fun out3 t4 k5 w6 =>
  ifB (decide (t4 < t1))
  (callV Pr ApiSession.val 88 #[(.pointer (some c88x0))] w6 fun t7 w8 =>
  opTy Pr (Instr.buildSlice 46 1 #[(0, (.agg ⟨t7.cs⟩))]) Sl.val (fun t9 w10 =>
  opTy Pr (Builtin.append_ #[46, 46] 46 #[out3.val, t9.val]) Sl.val (fun out11 w12 =>
  k5 out11 (i64 (t4 + 1)) w12) w10) w8)
  (K out3 w6)) w2
def snapone_list_api_Session_2_ann : Ann := (.s .d (.s .d (.s (.s (.r [(2, .call (rI .i64))]) (.b (.l [(.s 7, rSl), (.s 11, (rI .i64))] (.s .d (.s (.c .d .d) (.s (.b (.r [(2, .call rApiSession), (3, .ty rSl), (4, .ty rSl)])) .d)))))) (.s .d .d))))
theorem snapone_list_api_Session_2_calls {r : Option Addr} {most : Int} {c88x0 : Addr} {K : Sl → World → Prop} {w : World} (h : snapone_list_api_Session_2 r most c88x0 K w) : callV Pr Sl.val 87 #[(.pointer r), (.int .i64 most), (.func (.func 88) #[] #[(.pointer (some c88x0))])] w K :=
  calls_of Pr_plain Pr_mixed Pr_func87 snapone_list_api_Session_2_ann rSl (args := [(.pointer r), (.int .i64 most), (.func (.func 88) #[] #[(.pointer (some c88x0))])]) (by kernel_rfl) h

/- changeover/snaptwo.times -/
def snaptwo_times_1 (r : Option Addr) (most : Int) (c98x0 : Addr) (c98x1 : Addr) (K : Unit → World → Prop) (w : World) : Prop :=
  callV Pr (Value.int .i64) 136 #[(.pointer r), (.int .i64 most)] w fun t1 w2 =>
  loop1 (0 : Int) (fun t3 k4 w5 =>
  ifB (decide (t3 < t1))
  (callV Pr uval 98 #[(.pointer (some c98x0)), (.pointer (some c98x1))] w5 fun t6 w7 =>
  k4 (i64 (t3 + 1)) w7)
  (K () w5)) w2
def snaptwo_times_1_ann : Ann := (.s (.r [(2, .call (rI .i64))]) (.b (.l [(.s 9, (rI .i64))] (.s .d (.s (.c .d .d) (.s (.b (.r [(1, .call rU)])) .d))))))
theorem snaptwo_times_1_calls {r : Option Addr} {most : Int} {c98x0 : Addr} {c98x1 : Addr} {K : Unit → World → Prop} {w : World} (h : snaptwo_times_1 r most c98x0 c98x1 K w) : callV Pr uval 97 #[(.pointer r), (.int .i64 most), (.func (.func 98) #[] #[(.pointer (some c98x0)), (.pointer (some c98x1))])] w K :=
  calls_of Pr_plain Pr_mixed Pr_func97 snaptwo_times_1_ann rU (args := [(.pointer r), (.int .i64 most), (.func (.func 98) #[] #[(.pointer (some c98x0)), (.pointer (some c98x1))])]) (by kernel_rfl) h

/- changeover/snaptwo.times -/
def snaptwo_times_2 (r : Option Addr) (most : Int) (c99x0 : Addr) (c99x1 : Addr) (K : Unit → World → Prop) (w : World) : Prop :=
  callV Pr (Value.int .i64) 136 #[(.pointer r), (.int .i64 most)] w fun t1 w2 =>
  loop1 (0 : Int) (fun t3 k4 w5 =>
  ifB (decide (t3 < t1))
  (callV Pr uval 99 #[(.pointer (some c99x0)), (.pointer (some c99x1))] w5 fun t6 w7 =>
  k4 (i64 (t3 + 1)) w7)
  (K () w5)) w2
def snaptwo_times_2_ann : Ann := (.s (.r [(2, .call (rI .i64))]) (.b (.l [(.s 9, (rI .i64))] (.s .d (.s (.c .d .d) (.s (.b (.r [(1, .call rU)])) .d))))))
theorem snaptwo_times_2_calls {r : Option Addr} {most : Int} {c99x0 : Addr} {c99x1 : Addr} {K : Unit → World → Prop} {w : World} (h : snaptwo_times_2 r most c99x0 c99x1 K w) : callV Pr uval 97 #[(.pointer r), (.int .i64 most), (.func (.func 99) #[] #[(.pointer (some c99x0)), (.pointer (some c99x1))])] w K :=
  calls_of Pr_plain Pr_mixed Pr_func97 snaptwo_times_2_ann rU (args := [(.pointer r), (.int .i64 most), (.func (.func 99) #[] #[(.pointer (some c99x0)), (.pointer (some c99x1))])]) (by kernel_rfl) h

end Go.Chg
