/-
  Functions of the program, told by a program of ours (gen.py), each held by the kernel to what is to be shown of its code.
-/
import Derived.Test.YtlapfdcocakloaaGreatDoorTy
import Derived.Test.YtlapfdcocakloaaGreatDoorFnsA
set_option maxRecDepth 100000
set_option linter.unusedVariables false
namespace Go.Chg
open Go.Vc

/- changeover/quote.byteAs -/
def quote_byteAs (c : Int) (K : (List UInt8) → World → Prop) (w : World) : Prop :=
  drewM (fun w1 =>
  opRd Pr (Instr.sliceAt 9 (sval cs16_37011) (some (.int .u8 (shR .u8 c 4))) (some (.int .u8 (IntKind.u8.wrap ((shR .u8 c 4) + 1)))) none) sval (fun t2 =>
  opRd Pr (binSem .add 9 (.const (sval [92, 120])) (.tmp 8) (sval [92, 120]) (sval t2)) sval (fun t3 =>
  opRd Pr (Instr.sliceAt 9 (sval cs16_37011) (some (.int .u8 (bAnd .u8 c 15))) (some (.int .u8 (IntKind.u8.wrap ((bAnd .u8 c 15) + 1)))) none) sval (fun t4 =>
  opRd Pr (binSem .add 9 (.tmp 9) (.tmp 15) (sval t3) (sval t4)) sval (fun t5 =>
  K t5 w1) w1) w1) w1) w1) w
def quote_byteAs_ann : Ann := (.s .d (.s (.r [(5, .rd rS), (6, .rd rS), (12, .rd rS), (13, .rd rS)]) .d))
theorem quote_byteAs_calls {c : Int} {K : (List UInt8) → World → Prop} {w : World} (h : quote_byteAs c K w) : callV Pr sval 138 #[(.int .u8 c)] w K :=
  calls_of Pr_plain Pr_mixed Pr_func138 quote_byteAs_ann rS (args := [(.int .u8 c)]) (by kernel_rfl) h

/- (*strings.Builder).Grow -/
def strings_Builder_Grow (b : Option Addr) (n : Int) (K : Unit → World → Prop) (w : World) : Prop :=
  callV Pr uval 136 #[(.pointer b)] w fun t1 w2 =>
  ifB (decide (n < 0))
  (False)
  (drewM (fun w3 =>
  opRd Pr (nilSem (.pointer b)) pav (fun t4 =>
  opRd Pr (Instr.loadAt 25 (.pointer (some (t4.add 1)))) Sl.val (fun t5 =>
  opRd Pr (nilSem (.pointer b)) pav (fun t6 =>
  opRd Pr (Instr.loadAt 25 (.pointer (some (t6.add 1)))) Sl.val (fun t7 =>
  ifB (decide ((i64 ((t5.cap : Int) - (t7.len : Int))) < n))
  (callV Pr uval 157 #[(.pointer b), (.int .i64 n)] w3 fun t8 w9 =>
  K () w9)
  (K () w3)) w3) w3) w3) w3) w2)
def strings_Builder_Grow_ann : Ann := (.s (.r [(1, .call rU)]) (.s (.s .d (.c .d .d)) (.s (.r [(1, .rd rPA), (3, .rd rSl), (6, .rd rPA), (8, .rd rSl)]) (.c (.r [(2, .call rU)]) .d))))
theorem strings_Builder_Grow_calls {b : Option Addr} {n : Int} {K : Unit → World → Prop} {w : World} (h : strings_Builder_Grow b n K w) : callV Pr uval 139 #[(.pointer b), (.int .i64 n)] w K :=
  calls_of Pr_plain Pr_mixed Pr_func139 strings_Builder_Grow_ann rU (args := [(.pointer b), (.int .i64 n)]) (by kernel_rfl) h

/- changeover/ballot.node -/
def ballot_node (n : Int) (K : Bool → World → Prop) (w : World) : Prop :=
  ifB (decide (n ≥ 1))
  (K (decide (n ≤ 9)) w)
  (K false w)
def ballot_node_ann : Ann := (.s .d (.s .d .d))
theorem ballot_node_calls {n : Int} {K : Bool → World → Prop} {w : World} (h : ballot_node n K w) : callV Pr Value.bool 140 #[(.int .i64 n)] w K :=
  calls_of Pr_plain Pr_mixed Pr_func140 ballot_node_ann rB (args := [(.int .i64 n)]) (by kernel_rfl) h

/- (*changeover/pack.Reader).Count$1 -/
def pack_Reader_Count_1 (c_x0 : Addr) (c_x1 : Addr) (K : Int → World → Prop) (w : World) : Prop :=
  opRd Pr (Instr.loadAt 53 (.pointer (some c_x0))) Value.pointer (fun t1 =>
  opRd Pr (Instr.loadAt 3 (.pointer (some c_x1))) (Value.int .i64) (fun t2 =>
  callV Pr (Value.int .i64) 143 #[(.pointer t1), (.int .i64 t2)] w fun t3 w4 =>
  K t3 w4) w) w
def pack_Reader_Count_1_ann : Ann := (.s .d (.s (.r [(0, .rd rP), (1, .rd (rI .i64)), (2, .call (rI .i64))]) .d))
theorem pack_Reader_Count_1_calls {c_x0 : Addr} {c_x1 : Addr} {K : Int → World → Prop} {w : World} (h : pack_Reader_Count_1 c_x0 c_x1 K w) : callV Pr (Value.int .i64) 142 #[(.pointer (some c_x0)), (.pointer (some c_x1))] w K :=
  calls_of Pr_plain Pr_mixed Pr_func142 pack_Reader_Count_1_ann (rI .i64) (args := [(.pointer (some c_x0)), (.pointer (some c_x1))]) (by kernel_rfl) h

/- (*changeover/pack.Reader).counted -/
def pack_Reader_counted (r : Option Addr) (most : Int) (K : Int → World → Prop) (w : World) : Prop :=
  callV Pr (Value.int .i64) 100 #[(.pointer r), (.int .i64 most)] w fun n1 w2 =>
  opRd Pr (nilSem (.pointer r)) pav (fun t3 =>
  opRd Pr (Instr.loadAt 29 (.pointer (some (t3.add 2)))) (Value.int .i64) (fun t4 =>
  ifB (t4 == 0)
  (callV Pr (Value.int .i64) 82 #[(.pointer r)] w2 fun t5 w6 =>
  ifB (decide (n1 > t5))
  (callV Pr uval 129 #[(.pointer r), (.int .i64 1)] w6 fun t7 w8 =>
  K n1 w8)
  (K n1 w6))
  (K n1 w2)) w2) w2
def pack_Reader_counted_ann : Ann := (.s .d (.s (.r [(2, .call (rI .i64))]) (.s (.s (.r [(1, .rd rPA), (3, .rd (rI .i64)), (8, .call (rI .i64))]) (.c (.r [(1, .call rU)]) .d)) (.s .d .d))))
theorem pack_Reader_counted_calls {r : Option Addr} {most : Int} {K : Int → World → Prop} {w : World} (h : pack_Reader_counted r most K w) : callV Pr (Value.int .i64) 143 #[(.pointer r), (.int .i64 most)] w K :=
  calls_of Pr_plain Pr_mixed Pr_func143 pack_Reader_counted_ann (rI .i64) (args := [(.pointer r), (.int .i64 most)]) (by kernel_rfl) h

/- changeover/runes.Bad -/
def runes_Bad (s : List UInt8) (K : Int → World → Prop) (w : World) : Prop :=
  opTy Pr (Instr.range 9 (sval s)) pav (fun t1 w2 =>
  loop0 (fun k3 w4 =>
  opAl Pr (Instr.next (.pointer (some t1)) true 0) (nxval (Value.int .i64) (Value.int .i32)) endval (fun t5 w6 =>
  ifB (t5.2 != 65533)
  (k3 w6)
  (opRd Pr (Instr.sliceAt 9 (sval s) (some (.int .i64 t5.1)) none none) sval (fun t7 =>
  callV Pr (tval2 (Value.int .i32) (Value.int .i64)) 109 #[(sval t7)] w6 fun t8 w9 =>
  ifB (t8.2 == 1)
  (K t5.1 w9)
  (k3 w9)) w6)) (fun _ w10 =>
  K (-1) w10) w4) w2) w
def runes_Bad_ann : Ann := (.s .d (.s (.s (.r [(1, .ty rPA)]) (.b (.l [] (.s (.r [(0, .alt (rNx (rI .i64) (rI .i32)) rEnd)]) (.s (.c .d .d) (.b (.s .d (.s (.s .d (.c .d .d)) (.s (.r [(2, .rd rS), (3, .call (rT2 (rI .i32) (rI .i64)))]) (.s .d (.c (.s .d .d) .d))))))))))) (.s .d .d)))
theorem runes_Bad_calls {s : List UInt8} {K : Int → World → Prop} {w : World} (h : runes_Bad s K w) : callV Pr (Value.int .i64) 144 #[(sval s)] w K :=
  calls_of Pr_plain Pr_mixed Pr_func144 runes_Bad_ann (rI .i64) (args := [(sval s)]) (by kernel_rfl) h

/- internal/stringslite.Cut -/
def internal_stringslite_Cut (s : List UInt8) (sep : List UInt8) (K : ((List UInt8) × (List UInt8) × Bool) → World → Prop) (w : World) : Prop :=
  callV Pr (Value.int .i64) 158 #[(sval s), (sval sep)] w fun i1 w2 =>
  ifB (decide (i1 ≥ 0))
  (drewM (fun w3 =>
  opRd Pr (Instr.sliceAt 9 (sval s) none (some (.int .i64 i1)) none) sval (fun before4 =>
  opRd Pr (Instr.sliceAt 9 (sval s) (some (.int .i64 (i64 (i1 + ((sep : List UInt8).length : Int))))) none none) sval (fun after5 =>
  K (before4, after5, true) w3) w3) w3) w2)
  (K (s, [], false) w2)
def internal_stringslite_Cut_ann : Ann := (.s .d (.s (.s (.r [(2, .call (rI .i64))]) (.s .d (.c (.s (.r [(2, .rd rS), (8, .rd rS)]) .d) .d))) (.s .d .d)))
theorem internal_stringslite_Cut_calls {s : List UInt8} {sep : List UInt8} {K : ((List UInt8) × (List UInt8) × Bool) → World → Prop} {w : World} (h : internal_stringslite_Cut s sep K w) : callV Pr (tval3 sval sval Value.bool) 145 #[(sval s), (sval sep)] w K :=
  calls_of Pr_plain Pr_mixed Pr_func145 internal_stringslite_Cut_ann (rT3 rS rS rB) (args := [(sval s), (sval sep)]) (by kernel_rfl) h

/- internal/strconv.ParseInt -/
def internal_strconv_ParseInt (s : List UInt8) (base : Int) (bitSize : Int) (K : (Int × Value) → World → Prop) (w : World) : Prop :=
  ifB (strEq s [])
  (K (0, (.iface 167 (.int .i64 2))) w)
  (join2 (fun (j1 : (List UInt8) → Bool → World → Prop) =>
  opRd Pr (Instr.index 9 (sval s) (.int .i64 0)) (Value.int .u8) (fun t2 =>
  ifB (t2 == 43)
  (opRd Pr (Instr.sliceAt 9 (sval s) (some (.int .i64 1)) none none) sval (fun s3 =>
  j1 s3 false w) w)
  (ifB (t2 == 45)
  (opRd Pr (Instr.sliceAt 9 (sval s) (some (.int .i64 1)) none none) sval (fun s4 =>
  j1 s4 true w) w)
  (j1 s false w))) w)
  (fun s5 neg6 w7 =>
  callV Pr (tval2 (Value.int .u64) vval) 159 #[(sval s5), (.int .i64 base), (.int .i64 bitSize)] w7 fun t8 w9 =>
  join0 (fun (j10 : World → Prop) =>
  opRd Pr (binSem .neq 130 (.tmp 32) (.const .nilIface) t8.2 .nilIface) Value.bool (fun t11 =>
  ifB t11
  (opRd Pr (binSem .neq 130 (.tmp 35) (.tmp 36) t8.2 (.iface 167 (.int .i64 1))) Value.bool (fun t12 =>
  ifB t12
  (K (0, t8.2) w9)
  (j10 w9)) w9)
  (j10 w9)) w9)
  (fun w13 =>
  join1 (fun (j14 : Int → World → Prop) =>
  ifB (bitSize == 0)
  (j14 64 w13)
  (j14 bitSize w13))
  (fun bitSize15 w16 =>
  opRd Pr (binSem .shl 166 (.const (.int .u64 1)) (.tmp 44) (.int .u64 1) (.int .u64 (IntKind.u64.wrap (i64 (bitSize15 - 1))))) (Value.int .u64) (fun cutoff17 =>
  join0 (fun (j18 : World → Prop) =>
  ifB (!neg6)
  (ifB (decide (t8.1 ≥ cutoff17))
  (K ((IntKind.i64.wrap (IntKind.u64.wrap (cutoff17 - 1))), (.iface 167 (.int .i64 1))) w16)
  (j18 w16))
  (j18 w16))
  (fun w19 =>
  join0 (fun (j20 : World → Prop) =>
  ifB neg6
  (ifB (decide (t8.1 > cutoff17))
  (K ((IntKind.i64.wrap (0 - (IntKind.i64.wrap cutoff17))), (.iface 167 (.int .i64 1))) w19)
  (j20 w19))
  (j20 w19))
  (fun w21 =>
  ifB neg6
  (K ((IntKind.i64.wrap (0 - (IntKind.i64.wrap t8.1))), .nilIface) w21)
  (K ((IntKind.i64.wrap t8.1), .nilIface) w21)))) w16))))
def internal_strconv_ParseInt_ann : Ann := (.s .d (.s (.s .d (.c (.s .d .d) .d)) (.s .d (.sj [(.s 0, rS), (.s 8, rB)] (.s (.r [(1, .rd (rI .u8))]) (.b (.s .d (.c (.r [(1, .rd rS)]) (.s .d (.c (.s (.r [(1, .rd rS)]) .d) .d)))))) (.s .d (.s (.r [(3, .call (rT2 (rI .u64) rV))]) (.sj [] (.s (.r [(1, .rd rB), (5, .rd rB)]) (.c (.s .d .d) .d)) (.sj [(.s 2, (rI .i64))] (.s .d (.c .d .d)) (.s (.r [(3, .rd (rI .u64))]) (.sj [] (.s .d (.c (.s .d .d) .d)) (.sj [] (.s .d (.c (.s .d .d) .d)) (.s .d (.s (.s .d (.c .d .d)) (.s .d .d))))))))))))))
theorem internal_strconv_ParseInt_calls {s : List UInt8} {base : Int} {bitSize : Int} {K : (Int × Value) → World → Prop} {w : World} (h : internal_strconv_ParseInt s base bitSize K w) : callV Pr (tval2 (Value.int .i64) vval) 146 #[(sval s), (.int .i64 base), (.int .i64 bitSize)] w K :=
  calls_of Pr_plain Pr_mixed Pr_func146 internal_strconv_ParseInt_ann (rT2 (rI .i64) rV) (args := [(sval s), (.int .i64 base), (.int .i64 bitSize)]) (by kernel_rfl) h

/- changeover/quote.digit -/
def quote_digit (c : Int) (K : Int → World → Prop) (w : World) : Prop :=
  callV Pr (Value.int .i64) 162 #[(sval cs16_37011), (.int .u8 c)] w fun t1 w2 =>
  K t1 w2
def quote_digit_ann : Ann := (.s .d (.s (.r [(1, .call (rI .i64))]) .d))
theorem quote_digit_calls {c : Int} {K : Int → World → Prop} {w : World} (h : quote_digit c K w) : callV Pr (Value.int .i64) 151 #[(.int .u8 c)] w K :=
  calls_of Pr_plain Pr_mixed Pr_func151 quote_digit_ann (rI .i64) (args := [(.int .u8 c)]) (by kernel_rfl) h

/- internal/strconv.small -/
def internal_strconv_small (i : Int) (K : (List UInt8) → World → Prop) (w : World) : Prop :=
  ifB (decide (i < 10))
  (opRd Pr (Instr.sliceAt 9 (sval cs36_19037) (some (.int .i64 i)) (some (.int .i64 (i64 (i + 1)))) none) sval (fun t1 =>
  K t1 w) w)
  (opRd Pr (Instr.sliceAt 9 (sval cs200_63933) (some (.int .i64 (i64 (i * 2)))) (some (.int .i64 (i64 ((i64 (i * 2)) + 2)))) none) sval (fun t2 =>
  K t2 w) w)
def internal_strconv_small_ann : Ann := (.s .d (.s (.s .d (.c (.s (.r [(3, .rd rS)]) .d) .d)) (.s (.r [(5, .rd rS)]) .d)))
theorem internal_strconv_small_calls {i : Int} {K : (List UInt8) → World → Prop} {w : World} (h : internal_strconv_small i K w) : callV Pr sval 152 #[(.int .i64 i)] w K :=
  calls_of Pr_plain Pr_mixed Pr_func152 internal_strconv_small_ann rS (args := [(.int .i64 i)]) (by kernel_rfl) h

/- internal/strconv.numDigits -/
def internal_strconv_numDigits (d : Int) (K : Int → World → Prop) (w : World) : Prop :=
  callV Pr (Value.int .i64) 164 #[(.int .u64 d)] w fun t1 w2 =>
  callV Pr (Value.int .i64) 163 #[(.int .i64 t1)] w2 fun nd3 w4 =>
  opRd Pr (Instr.indexAt 193 (.pointer (some g_internal_strconv_uint64pow10)) (.int .i64 nd3)) pav (fun t5 =>
  opRd Pr (Instr.loadAt 166 (.pointer (some t5))) (Value.int .u64) (fun t6 =>
  callV Pr (Value.int .i64) 165 #[(.bool (decide (d ≥ t6)))] w4 fun t7 w8 =>
  K (i64 (nd3 + t7)) w8) w4) w4
def internal_strconv_numDigits_ann : Ann := (.s .d (.s (.r [(1, .call (rI .i64)), (2, .call (rI .i64))]) (.s (.r [(3, .rd rPA), (4, .rd (rI .u64)), (6, .call (rI .i64))]) .d)))
theorem internal_strconv_numDigits_calls {d : Int} {K : Int → World → Prop} {w : World} (h : internal_strconv_numDigits d K w) : callV Pr (Value.int .i64) 153 #[(.int .u64 d)] w K :=
  calls_of Pr_plain Pr_mixed Pr_func153 internal_strconv_numDigits_ann (rI .i64) (args := [(.int .u64 d)]) (by kernel_rfl) h

/- internal/strconv.formatBase10 -/
def internal_strconv_formatBase10 (a : Sl) (u : Int) (K : Unit → World → Prop) (w : World) : Prop :=
  loop2 (u : Int) ((a.len : Int) : Int) (fun u1 nd2 k3 w4 =>
  ifB (decide (nd2 ≥ 8))
  (heldM (fun S6 w5 =>
  opH Pr S6 (Instr.index 9 (sval cs200_63933) (.int .u32 (IntKind.u32.wrap ((IntKind.u32.wrap ((Int.tmod (Int.tmod (IntKind.u32.wrap (Int.tmod u1 100000000)) 10000) 100) * 2)) + 1)))) (Value.int .u8) (fun t7 =>
  opH Pr S6 (Instr.index 9 (sval cs200_63933) (.int .u32 (IntKind.u32.wrap ((Int.tmod (Int.tmod (IntKind.u32.wrap (Int.tmod u1 100000000)) 10000) 100) * 2)))) (Value.int .u8) (fun t8 =>
  opH Pr S6 (Instr.indexAt 25 a.val (.int .i64 (i64 (nd2 - 1)))) pav (fun t9 =>
  opUn Pr (Instr.storeAt 5 (.pointer (some t9)) (.int .u8 t7)) (fun w10 =>
  (S6 w10) ∧
  (opH Pr S6 (Instr.indexAt 25 a.val (.int .i64 (i64 (nd2 - 2)))) pav (fun t11 =>
  opUn Pr (Instr.storeAt 5 (.pointer (some t11)) (.int .u8 t8)) (fun w12 =>
  (S6 w12) ∧
  (heldM (fun S14 w13 =>
  opH Pr S14 (Instr.index 9 (sval cs200_63933) (.int .u32 (IntKind.u32.wrap ((IntKind.u32.wrap ((IntKind.u32.wrap (Int.tdiv (Int.tmod (IntKind.u32.wrap (Int.tmod u1 100000000)) 10000) 100)) * 2)) + 1)))) (Value.int .u8) (fun t15 =>
  opH Pr S14 (Instr.index 9 (sval cs200_63933) (.int .u32 (IntKind.u32.wrap ((IntKind.u32.wrap (Int.tdiv (Int.tmod (IntKind.u32.wrap (Int.tmod u1 100000000)) 10000) 100)) * 2)))) (Value.int .u8) (fun t16 =>
  opH Pr S14 (Instr.indexAt 25 a.val (.int .i64 (i64 (nd2 - 3)))) pav (fun t17 =>
  opUn Pr (Instr.storeAt 5 (.pointer (some t17)) (.int .u8 t15)) (fun w18 =>
  (S14 w18) ∧
  (opH Pr S14 (Instr.indexAt 25 a.val (.int .i64 (i64 (nd2 - 4)))) pav (fun t19 =>
  opUn Pr (Instr.storeAt 5 (.pointer (some t19)) (.int .u8 t16)) (fun w20 =>
  (S14 w20) ∧
  (heldM (fun S22 w21 =>
  opH Pr S22 (Instr.index 9 (sval cs200_63933) (.int .u32 (IntKind.u32.wrap ((IntKind.u32.wrap ((Int.tmod (IntKind.u32.wrap (Int.tdiv (IntKind.u32.wrap (Int.tmod u1 100000000)) 10000)) 100) * 2)) + 1)))) (Value.int .u8) (fun t23 =>
  opH Pr S22 (Instr.index 9 (sval cs200_63933) (.int .u32 (IntKind.u32.wrap ((Int.tmod (IntKind.u32.wrap (Int.tdiv (IntKind.u32.wrap (Int.tmod u1 100000000)) 10000)) 100) * 2)))) (Value.int .u8) (fun t24 =>
  opH Pr S22 (Instr.indexAt 25 a.val (.int .i64 (i64 (nd2 - 5)))) pav (fun t25 =>
  opUn Pr (Instr.storeAt 5 (.pointer (some t25)) (.int .u8 t23)) (fun w26 =>
  (S22 w26) ∧
  (opH Pr S22 (Instr.indexAt 25 a.val (.int .i64 (i64 (nd2 - 6)))) pav (fun t27 =>
  opUn Pr (Instr.storeAt 5 (.pointer (some t27)) (.int .u8 t24)) (fun w28 =>
  (S22 w28) ∧
  (heldM (fun S30 w29 =>
  opH Pr S30 (Instr.index 9 (sval cs200_63933) (.int .u32 (IntKind.u32.wrap ((IntKind.u32.wrap ((IntKind.u32.wrap (Int.tdiv (IntKind.u32.wrap (Int.tdiv (IntKind.u32.wrap (Int.tmod u1 100000000)) 10000)) 100)) * 2)) + 1)))) (Value.int .u8) (fun t31 =>
  opH Pr S30 (Instr.index 9 (sval cs200_63933) (.int .u32 (IntKind.u32.wrap ((IntKind.u32.wrap (Int.tdiv (IntKind.u32.wrap (Int.tdiv (IntKind.u32.wrap (Int.tmod u1 100000000)) 10000)) 100)) * 2)))) (Value.int .u8) (fun t32 =>
  opH Pr S30 (Instr.indexAt 25 a.val (.int .i64 (i64 (nd2 - 7)))) pav (fun t33 =>
  opUn Pr (Instr.storeAt 5 (.pointer (some t33)) (.int .u8 t31)) (fun w34 =>
  (S30 w34) ∧
  (opH Pr S30 (Instr.indexAt 25 a.val (.int .i64 (i64 (nd2 - 8)))) pav (fun t35 =>
  opUn Pr (Instr.storeAt 5 (.pointer (some t35)) (.int .u8 t32)) (fun w36 =>
  (S30 w36) ∧
  (k3 (IntKind.u64.wrap (Int.tdiv u1 100000000)) (i64 (nd2 - 8)) w36)) w34))) w29)))) w28)) w26))) w21)))) w20)) w18))) w13)))) w12)) w10))) w5)))) w4)
  (join2 (fun (j37 : Int → Int → World → Prop) =>
  ifB (decide (nd2 ≥ 4))
  (heldM (fun S39 w38 =>
  opH Pr S39 (Instr.index 9 (sval cs200_63933) (.int .u32 (IntKind.u32.wrap ((IntKind.u32.wrap ((Int.tmod (Int.tmod (IntKind.u32.wrap u1) 10000) 100) * 2)) + 1)))) (Value.int .u8) (fun t40 =>
  opH Pr S39 (Instr.index 9 (sval cs200_63933) (.int .u32 (IntKind.u32.wrap ((Int.tmod (Int.tmod (IntKind.u32.wrap u1) 10000) 100) * 2)))) (Value.int .u8) (fun t41 =>
  opH Pr S39 (Instr.indexAt 25 a.val (.int .i64 (i64 (nd2 - 1)))) pav (fun t42 =>
  opUn Pr (Instr.storeAt 5 (.pointer (some t42)) (.int .u8 t40)) (fun w43 =>
  (S39 w43) ∧
  (opH Pr S39 (Instr.indexAt 25 a.val (.int .i64 (i64 (nd2 - 2)))) pav (fun t44 =>
  opUn Pr (Instr.storeAt 5 (.pointer (some t44)) (.int .u8 t41)) (fun w45 =>
  (S39 w45) ∧
  (heldM (fun S47 w46 =>
  opH Pr S47 (Instr.index 9 (sval cs200_63933) (.int .u32 (IntKind.u32.wrap ((IntKind.u32.wrap ((IntKind.u32.wrap (Int.tdiv (Int.tmod (IntKind.u32.wrap u1) 10000) 100)) * 2)) + 1)))) (Value.int .u8) (fun t48 =>
  opH Pr S47 (Instr.index 9 (sval cs200_63933) (.int .u32 (IntKind.u32.wrap ((IntKind.u32.wrap (Int.tdiv (Int.tmod (IntKind.u32.wrap u1) 10000) 100)) * 2)))) (Value.int .u8) (fun t49 =>
  opH Pr S47 (Instr.indexAt 25 a.val (.int .i64 (i64 (nd2 - 3)))) pav (fun t50 =>
  opUn Pr (Instr.storeAt 5 (.pointer (some t50)) (.int .u8 t48)) (fun w51 =>
  (S47 w51) ∧
  (opH Pr S47 (Instr.indexAt 25 a.val (.int .i64 (i64 (nd2 - 4)))) pav (fun t52 =>
  opUn Pr (Instr.storeAt 5 (.pointer (some t52)) (.int .u8 t49)) (fun w53 =>
  (S47 w53) ∧
  (j37 (i64 (nd2 - 4)) (IntKind.u32.wrap (Int.tdiv (IntKind.u32.wrap u1) 10000)) w53)) w51))) w46)))) w45)) w43))) w38)))) w4)
  (j37 nd2 (IntKind.u32.wrap u1) w4))
  (fun nd54 x55 w56 =>
  ifB (decide (nd54 ≥ 2))
  (heldM (fun S58 w57 =>
  opH Pr S58 (Instr.index 9 (sval cs200_63933) (.int .u32 (IntKind.u32.wrap ((IntKind.u32.wrap ((Int.tmod x55 100) * 2)) + 1)))) (Value.int .u8) (fun t59 =>
  opH Pr S58 (Instr.index 9 (sval cs200_63933) (.int .u32 (IntKind.u32.wrap ((Int.tmod x55 100) * 2)))) (Value.int .u8) (fun t60 =>
  opH Pr S58 (Instr.indexAt 25 a.val (.int .i64 (i64 (nd54 - 1)))) pav (fun t61 =>
  opUn Pr (Instr.storeAt 5 (.pointer (some t61)) (.int .u8 t59)) (fun w62 =>
  (S58 w62) ∧
  (opH Pr S58 (Instr.indexAt 25 a.val (.int .i64 (i64 (nd54 - 2)))) pav (fun t63 =>
  opUn Pr (Instr.storeAt 5 (.pointer (some t63)) (.int .u8 t60)) (fun w64 =>
  (S58 w64) ∧
  (ifB (decide ((i64 (nd54 - 2)) > 0))
  (opRd Pr (Instr.indexAt 25 a.val (.int .i64 0)) pav (fun t65 =>
  opUn Pr (Instr.storeAt 5 (.pointer (some t65)) (.int .u8 (IntKind.u8.wrap (IntKind.u32.wrap (48 + (IntKind.u32.wrap (Int.tdiv x55 100))))))) (fun w66 =>
  K () w66) w64) w64)
  (K () w64))) w62))) w57)))) w56)
  (ifB (decide (nd54 > 0))
  (opRd Pr (Instr.indexAt 25 a.val (.int .i64 0)) pav (fun t67 =>
  opUn Pr (Instr.storeAt 5 (.pointer (some t67)) (.int .u8 (IntKind.u8.wrap (IntKind.u32.wrap (48 + x55))))) (fun w68 =>
  K () w68) w56) w56)
  (K () w56))))) w
def internal_strconv_formatBase10_ann : Ann := (.s .d (.s (.b (.l [(.s 1, (rI .u64)), (.s 4, (rI .i64))] (.s (.s .d (.c .d .d)) (.b (.s .d (.s .d (.s .d (.s .d (.s .d (.s (.h (.take 0 (.take 1 (.take 2 (.take 3 (.take 4 (.take 5 (.take 6 (.take 7 (.take 8 (.take 9 (.take 10 (.take 11 (.one 12 (.take 13 (.one 14 .done))))))))))))))) [(8, .rd (rI .u8)), (10, .rd (rI .u8)), (11, .rd rPA), (12, .un), (13, .rd rPA), (14, .un)]) (.s (.h (.take 0 (.take 1 (.take 2 (.take 3 (.take 4 (.take 5 (.take 6 (.take 7 (.take 8 (.take 9 (.take 10 (.take 11 (.one 12 (.take 13 (.one 14 .done))))))))))))))) [(8, .rd (rI .u8)), (10, .rd (rI .u8)), (11, .rd rPA), (12, .un), (13, .rd rPA), (14, .un)]) (.s (.h (.take 0 (.take 1 (.take 2 (.take 3 (.take 4 (.take 5 (.take 6 (.take 7 (.take 8 (.take 9 (.take 10 (.take 11 (.one 12 (.take 13 (.one 14 .done))))))))))))))) [(8, .rd (rI .u8)), (10, .rd (rI .u8)), (11, .rd rPA), (12, .un), (13, .rd rPA), (14, .un)]) (.s (.h (.take 0 (.take 1 (.take 2 (.take 3 (.take 4 (.take 5 (.take 6 (.take 7 (.take 8 (.take 9 (.take 10 (.take 11 (.one 12 (.take 13 (.one 14 .done))))))))))))))) [(8, .rd (rI .u8)), (10, .rd (rI .u8)), (11, .rd rPA), (12, .un), (13, .rd rPA), (14, .un)]) .d))))))))))))) (.s .d (.sj [(.s 4, (rI .i64)), (.s 12, (rI .u32))] (.s .d (.c (.s .d (.s .d (.s .d (.s (.h (.take 0 (.take 1 (.take 2 (.take 3 (.take 4 (.take 5 (.take 6 (.take 7 (.take 8 (.take 9 (.take 10 (.take 11 (.one 12 (.take 13 (.one 14 .done))))))))))))))) [(8, .rd (rI .u8)), (10, .rd (rI .u8)), (11, .rd rPA), (12, .un), (13, .rd rPA), (14, .un)]) (.s (.h (.take 0 (.take 1 (.take 2 (.take 3 (.take 4 (.take 5 (.take 6 (.take 7 (.take 8 (.take 9 (.take 10 (.take 11 (.one 12 (.take 13 (.one 14 .done))))))))))))))) [(8, .rd (rI .u8)), (10, .rd (rI .u8)), (11, .rd rPA), (12, .un), (13, .rd rPA), (14, .un)]) .d))))) .d)) (.s (.s .d (.c (.s .d (.s .d (.s (.h (.take 0 (.take 1 (.take 2 (.take 3 (.take 4 (.take 5 (.take 6 (.take 7 (.take 8 (.take 9 (.take 10 (.take 11 (.one 12 (.take 13 (.one 14 .done))))))))))))))) [(8, .rd (rI .u8)), (10, .rd (rI .u8)), (11, .rd rPA), (12, .un), (13, .rd rPA), (14, .un)]) .d))) .d)) (.s .d (.c (.r [(4, .rd rPA), (5, .un)]) .d)))))))
theorem internal_strconv_formatBase10_calls {a : Sl} {u : Int} {K : Unit → World → Prop} {w : World} (h : internal_strconv_formatBase10 a u K w) : callV Pr uval 154 #[a.val, (.int .u64 u)] w K :=
  calls_of Pr_plain Pr_mixed Pr_func154 internal_strconv_formatBase10_ann rU (args := [a.val, (.int .u64 u)]) (by kernel_rfl) h

/- internal/strconv.formatBits -/
def internal_strconv_formatBits (dst : Sl) (u : Int) (base : Int) (neg : Bool) (append : Bool) (K : (Sl × (List UInt8)) → World → Prop) (w : World) : Prop :=
  ifB (decide (base < 2))
  (False)
  (ifB (base == 10)
  (False)
  (ifB (decide (base > 36))
  (False)
  (opTy Pr (Instr.alloc 195 true (.tuple #[])) pav (fun a1 w2 =>
  join1 (fun (j3 : Int → World → Prop) =>
  ifB neg
  (j3 (IntKind.u64.wrap (0 - u)) w2)
  (j3 u w2))
  (fun u4 w5 =>
  join1 (fun (j6 : Int → World → Prop) =>
  callV Pr Value.bool 166 #[(.int .i64 base)] w5 fun t7 w8 =>
  ifB t7
  (callV Pr (Value.int .i64) 167 #[(.int .u64 (IntKind.u64.wrap base))] w8 fun t9 w10 =>
  loop2 (u4 : Int) (65 : Int) (fun u11 i12 k13 w14 =>
  ifB (decide (u11 ≥ (IntKind.u64.wrap base)))
  (opRd Pr (Instr.index 9 (sval cs36_19037) (.int .u64 (bAnd .u64 u11 (IntKind.u64.wrap ((IntKind.u64.wrap base) - 1))))) (Value.int .u8) (fun t15 =>
  opRd Pr (Instr.indexAt 195 (.pointer (some a1)) (.int .i64 (i64 (i12 - 1)))) pav (fun t16 =>
  opUn Pr (Instr.storeAt 5 (.pointer (some t16)) (.int .u8 t15)) (fun w17 =>
  opRd Pr (binSem .shr 166 (.tmp 55) (.tmp 56) (.int .u64 u11) (.int .u64 (IntKind.u64.wrap t9))) (Value.int .u64) (fun u18 =>
  k13 u18 (i64 (i12 - 1)) w17) w17) w14) w14) w14)
  (opRd Pr (Instr.index 9 (sval cs36_19037) (.int .u64 u11)) (Value.int .u8) (fun t19 =>
  opRd Pr (Instr.indexAt 195 (.pointer (some a1)) (.int .i64 (i64 (i12 - 1)))) pav (fun t20 =>
  opUn Pr (Instr.storeAt 5 (.pointer (some t20)) (.int .u8 t19)) (fun w21 =>
  j6 (i64 (i12 - 1)) w21) w14) w14) w14)) w10)
  (loop2 (u4 : Int) (65 : Int) (fun u22 i23 k24 w25 =>
  ifB (decide (u22 ≥ (IntKind.u64.wrap base)))
  (opRd Pr (binSem .quo 166 (.tmp 71) (.tmp 72) (.int .u64 u22) (.int .u64 (IntKind.u64.wrap base))) (Value.int .u64) (fun q26 =>
  opRd Pr (Instr.index 9 (sval cs36_19037) (.int .u64 (IntKind.u64.wrap (u22 - (IntKind.u64.wrap (q26 * (IntKind.u64.wrap base))))))) (Value.int .u8) (fun t27 =>
  opRd Pr (Instr.indexAt 195 (.pointer (some a1)) (.int .i64 (i64 (i23 - 1)))) pav (fun t28 =>
  opUn Pr (Instr.storeAt 5 (.pointer (some t28)) (.int .u8 t27)) (fun w29 =>
  k24 q26 (i64 (i23 - 1)) w29) w25) w25) w25) w25)
  (opRd Pr (Instr.index 9 (sval cs36_19037) (.int .u64 u22)) (Value.int .u8) (fun t30 =>
  opRd Pr (Instr.indexAt 195 (.pointer (some a1)) (.int .i64 (i64 (i23 - 1)))) pav (fun t31 =>
  opUn Pr (Instr.storeAt 5 (.pointer (some t31)) (.int .u8 t30)) (fun w32 =>
  j6 (i64 (i23 - 1)) w32) w25) w25) w25)) w8))
  (fun i33 w34 =>
  join1 (fun (j35 : Int → World → Prop) =>
  ifB neg
  (opRd Pr (Instr.indexAt 195 (.pointer (some a1)) (.int .i64 (i64 (i33 - 1)))) pav (fun t36 =>
  opUn Pr (Instr.storeAt 5 (.pointer (some t36)) (.int .u8 45)) (fun w37 =>
  j35 (i64 (i33 - 1)) w37) w34) w34)
  (j35 i33 w34))
  (fun i38 w39 =>
  ifB append
  (opRd Pr (Instr.sliceAt 195 (.pointer (some a1)) (some (.int .i64 i38)) none none) Sl.val (fun t40 =>
  opTy Pr (Builtin.append_ #[25, 25] 25 #[dst.val, t40.val]) Sl.val (fun d41 w42 =>
  K (d41, []) w42) w39) w39)
  (opRd Pr (Instr.sliceAt 195 (.pointer (some a1)) (some (.int .i64 i38)) none none) Sl.val (fun t43 =>
  opRd Pr (convert 25 9 t43.val) sval (fun s44 =>
  K (Sl.nil, s44) w39) w39) w39))))) w)))
def internal_strconv_formatBits_ann : Ann := (.s .d (.s (.s .d (.c .d .d)) (.s (.r [(0, .ty rPA)]) (.s .d (.sj [(.s 1, (rI .u64))] (.s .d (.c .d .d)) (.sj [(.s 13, (rI .i64))] (.s (.r [(1, .call rB)]) (.c (.s (.r [(2, .call (rI .i64))]) (.s .d (.s .d (.s (.b (.l [(.s 1, (rI .u64)), (.s 13, (rI .i64))] (.s (.s .d (.c .d .d)) (.b (.s .d (.s (.r [(4, .rd (rI .u8)), (5, .rd rPA), (6, .un)]) (.r [(2, .rd (rI .u64))]))))))) (.s .d (.r [(2, .rd (rI .u8)), (3, .rd rPA), (4, .un)])))))) (.s .d (.s (.b (.l [(.s 1, (rI .u64)), (.s 13, (rI .i64))] (.s (.s .d (.c .d .d)) (.b (.s .d (.s (.r [(2, .rd (rI .u64))]) (.s (.r [(6, .rd (rI .u8)), (7, .rd rPA), (8, .un)]) .d))))))) (.s .d (.r [(2, .rd (rI .u8)), (3, .rd rPA), (4, .un)])))))) (.sj [(.s 13, (rI .i64))] (.s .d (.c (.s .d (.r [(1, .rd rPA), (2, .un)])) .d)) (.s (.s .d (.c (.s (.r [(2, .rd rSl), (3, .ty rSl)]) .d) .d)) (.s (.r [(1, .rd rSl), (2, .rd rS)]) .d)))))))))
theorem internal_strconv_formatBits_calls {dst : Sl} {u : Int} {base : Int} {neg : Bool} {append : Bool} {K : (Sl × (List UInt8)) → World → Prop} {w : World} (h : internal_strconv_formatBits dst u base neg append K w) : callV Pr (tval2 Sl.val sval) 155 #[dst.val, (.int .u64 u), (.int .i64 base), (.bool neg), (.bool append)] w K :=
  calls_of Pr_plain Pr_mixed Pr_func155 internal_strconv_formatBits_ann (rT2 rSl rS) (args := [dst.val, (.int .u64 u), (.int .i64 base), (.bool neg), (.bool append)]) (by kernel_rfl) h

/- (*strings.Builder).grow -/
def strings_Builder_grow (b : Option Addr) (n : Int) (K : Unit → World → Prop) (w : World) : Prop :=
  heldM (fun S2 w1 =>
  opH Pr S2 (nilSem (.pointer b)) pav (fun t3 =>
  opH Pr S2 (Instr.loadAt 25 (.pointer (some (t3.add 1)))) Sl.val (fun t4 =>
  opH Pr S2 (nilSem (.pointer b)) pav (fun t5 =>
  opH Pr S2 (Instr.loadAt 25 (.pointer (some (t5.add 1)))) Sl.val (fun t6 =>
  opEx Pr 168 #[(.int .i64 (i64 ((i64 (2 * (t4.cap : Int))) + n)))] Sl.val (fun t7 w8 =>
  (S2 w8) ∧
  (opH Pr S2 (Instr.sliceAt 25 t7.val none (some (.int .i64 (t6.len : Int))) none) Sl.val (fun buf9 =>
  opRd Pr (nilSem (.pointer b)) pav (fun t10 =>
  opRd Pr (Instr.loadAt 25 (.pointer (some (t10.add 1)))) Sl.val (fun t11 =>
  opTy Pr (Builtin.copy_ #[25, 25] 3 #[buf9.val, t11.val]) (Value.int .i64) (fun t12 w13 =>
  opRd Pr (nilSem (.pointer b)) pav (fun t14 =>
  opUn Pr (Instr.storeAt 25 (.pointer (some (t14.add 1))) buf9.val) (fun w15 =>
  K () w15) w13) w13) w8) w8) w8))) w1))))) w
def strings_Builder_grow_ann : Ann := (.s (.h (.take 0 (.take 1 (.take 2 (.take 3 (.take 4 (.take 5 (.take 6 (.take 7 (.take 9 (.take 10 (.take 11 (.take 12 (.take 13 (.one 8 (.take 14 (.take 15 .done)))))))))))))))) [(1, .rd rPA), (3, .rd rSl), (8, .ext rSl), (10, .rd rPA), (12, .rd rSl), (14, .rd rSl)]) (.s (.r [(2, .rd rPA), (4, .rd rSl), (5, .ty (rI .i64))]) (.r [(2, .rd rPA), (4, .un)])))
theorem strings_Builder_grow_calls {b : Option Addr} {n : Int} {K : Unit → World → Prop} {w : World} (h : strings_Builder_grow b n K w) : callV Pr uval 157 #[(.pointer b), (.int .i64 n)] w K :=
  calls_of Pr_plain Pr_mixed Pr_func157 strings_Builder_grow_ann rU (args := [(.pointer b), (.int .i64 n)]) (by kernel_rfl) h

/- internal/stringslite.Index -/
def internal_stringslite_Index (s : List UInt8) (substr : List UInt8) (K : Int → World → Prop) (w : World) : Prop :=
  join0 (fun (j1 : World → Prop) =>
  ifB (((substr : List UInt8).length : Int) == 0)
  (K 0 w)
  (ifB (strEq substr s)
  (K 0 w)
  (ifB (((substr : List UInt8).length : Int) == 1)
  (opRd Pr (Instr.index 9 (sval substr) (.int .i64 0)) (Value.int .u8) (fun t2 =>
  callV Pr (Value.int .i64) 169 #[(sval s), (.int .u8 t2)] w fun t3 w4 =>
  K t3 w4) w)
  (ifB (decide (((substr : List UInt8).length : Int) ≥ ((s : List UInt8).length : Int)))
  (K (-1) w)
  (opRd Pr (Instr.loadAt 3 (.pointer (some g_internal_bytealg_MaxLen))) (Value.int .i64) (fun t5 =>
  ifB (decide (((substr : List UInt8).length : Int) ≤ t5))
  (ifB (decide (((s : List UInt8).length : Int) ≤ 64))
  (opEx Pr 170 #[(sval s), (sval substr)] (Value.int .i64) (fun t6 w7 =>
  K t6 w7) w)
  (j1 w))
  (j1 w)) w)))))
  (fun w8 =>
  opRd Pr (Instr.index 9 (sval substr) (.int .i64 0)) (Value.int .u8) (fun c09 =>
  opRd Pr (Instr.index 9 (sval substr) (.int .i64 1)) (Value.int .u8) (fun c110 =>
  loop2 (0 : Int) (0 : Int) (fun i11 fails12 k13 w14 =>
  ifB (decide (i11 < (i64 ((i64 (((s : List UInt8).length : Int) - ((substr : List UInt8).length : Int))) + 1))))
  (join1 (fun (j15 : Int → World → Prop) =>
  opRd Pr (Instr.index 9 (sval s) (.int .i64 i11)) (Value.int .u8) (fun t16 =>
  ifB (t16 != c09)
  (opRd Pr (Instr.sliceAt 9 (sval s) (some (.int .i64 (i64 (i11 + 1)))) (some (.int .i64 (i64 ((i64 (((s : List UInt8).length : Int) - ((substr : List UInt8).length : Int))) + 1)))) none) sval (fun t17 =>
  callV Pr (Value.int .i64) 169 #[(sval t17), (.int .u8 c09)] w14 fun o18 w19 =>
  ifB (decide (o18 < 0))
  (K (-1) w19)
  (j15 (i64 (i11 + (i64 (o18 + 1)))) w19)) w14)
  (j15 i11 w14)) w14)
  (fun i20 w21 =>
  join0 (fun (j22 : World → Prop) =>
  opRd Pr (Instr.index 9 (sval s) (.int .i64 (i64 (i20 + 1)))) (Value.int .u8) (fun t23 =>
  ifB (t23 == c110)
  (opRd Pr (Instr.sliceAt 9 (sval s) (some (.int .i64 i20)) (some (.int .i64 (i64 (i20 + ((substr : List UInt8).length : Int))))) none) sval (fun t24 =>
  ifB (strEq t24 substr)
  (K i20 w21)
  (j22 w21)) w21)
  (j22 w21)) w21)
  (fun w25 =>
  opRd Pr (Instr.loadAt 3 (.pointer (some g_internal_bytealg_MaxLen))) (Value.int .i64) (fun t26 =>
  ifB (decide (((substr : List UInt8).length : Int) ≤ t26))
  (callV Pr (Value.int .i64) 171 #[(.int .i64 (i64 (i20 + 1)))] w25 fun t27 w28 =>
  ifB (decide ((i64 (fails12 + 1)) > t27))
  (opRd Pr (Instr.sliceAt 9 (sval s) (some (.int .i64 (i64 (i20 + 1)))) none none) sval (fun t29 =>
  opEx Pr 170 #[(sval t29), (sval substr)] (Value.int .i64) (fun r30 w31 =>
  ifB (decide (r30 ≥ 0))
  (K (i64 (r30 + (i64 (i20 + 1)))) w31)
  (K (-1) w31)) w28) w28)
  (opRd Pr (Instr.loadAt 3 (.pointer (some g_internal_bytealg_MaxLen))) (Value.int .i64) (fun t32 =>
  ifB (decide (((substr : List UInt8).length : Int) > t32))
  (ifB (decide ((i64 (fails12 + 1)) ≥ (i64 (4 + (shR .i64 (i64 (i20 + 1)) 4)))))
  (ifB (decide ((i64 (i20 + 1)) < (i64 ((i64 (((s : List UInt8).length : Int) - ((substr : List UInt8).length : Int))) + 1))))
  (opRd Pr (Instr.sliceAt 9 (sval s) (some (.int .i64 (i64 (i20 + 1)))) none none) sval (fun t33 =>
  callV Pr (Value.int .i64) 172 #[(sval t33), (sval substr)] w28 fun j34 w35 =>
  ifB (decide (j34 < 0))
  (K (-1) w35)
  (K (i64 ((i64 (i20 + 1)) + j34)) w35)) w28)
  (k13 (i64 (i20 + 1)) (i64 (fails12 + 1)) w28))
  (k13 (i64 (i20 + 1)) (i64 (fails12 + 1)) w28))
  (k13 (i64 (i20 + 1)) (i64 (fails12 + 1)) w28)) w28))
  (opRd Pr (Instr.loadAt 3 (.pointer (some g_internal_bytealg_MaxLen))) (Value.int .i64) (fun t36 =>
  ifB (decide (((substr : List UInt8).length : Int) > t36))
  (ifB (decide ((i64 (fails12 + 1)) ≥ (i64 (4 + (shR .i64 (i64 (i20 + 1)) 4)))))
  (ifB (decide ((i64 (i20 + 1)) < (i64 ((i64 (((s : List UInt8).length : Int) - ((substr : List UInt8).length : Int))) + 1))))
  (opRd Pr (Instr.sliceAt 9 (sval s) (some (.int .i64 (i64 (i20 + 1)))) none none) sval (fun t37 =>
  callV Pr (Value.int .i64) 172 #[(sval t37), (sval substr)] w25 fun j38 w39 =>
  ifB (decide (j38 < 0))
  (K (-1) w39)
  (K (i64 ((i64 (i20 + 1)) + j38)) w39)) w25)
  (k13 (i64 (i20 + 1)) (i64 (fails12 + 1)) w25))
  (k13 (i64 (i20 + 1)) (i64 (fails12 + 1)) w25))
  (k13 (i64 (i20 + 1)) (i64 (fails12 + 1)) w25)) w25)) w25)))
  (K (-1) w14)) w8) w8) w8)
def internal_stringslite_Index_ann : Ann := (.s .d (.s .d (.sj [] (.b (.s .d (.c (.s .d .d) (.s .d (.c (.s (.r [(2, .rd (rI .u8)), (3, .call (rI .i64))]) .d) (.s .d (.c (.s .d .d) (.s (.r [(1, .rd (rI .i64))]) (.c (.s (.r [(2, .ext (rI .i64))]) .d) .d))))))))) (.s (.r [(1, .rd (rI .u8))]) (.s (.r [(1, .rd (rI .u8))]) (.s .d (.s .d (.s .d (.s (.b (.l [(.s 8, (rI .i64)), (.s 10, (rI .i64))] (.s (.s .d (.c .d .d)) (.b (.sj [(.s 8, (rI .i64))] (.s (.r [(2, .rd (rI .u8))]) (.c (.s (.r [(4, .rd rS), (6, .call (rI .i64))]) (.s (.s .d (.c (.s .d .d) .d)) .d)) .d)) (.sj [] (.s (.r [(3, .rd (rI .u8)), (12, .rd rS)]) (.c (.s .d .d) .d)) (.s .d (.s .d (.s (.r [(1, .rd (rI .i64)), (6, .call (rI .i64))]) (.c (.s (.r [(2, .rd rS), (4, .ext (rI .i64))]) (.s (.s .d (.c (.s .d .d) .d)) (.s .d .d))) (.s (.r [(1, .rd (rI .i64))]) (.c (.s (.r [(2, .rd rS), (4, .call (rI .i64))]) (.s (.s .d (.c (.s .d .d) .d)) (.s .d .d))) .d)))))))))))) (.s .d .d))))))))))
theorem internal_stringslite_Index_calls {s : List UInt8} {substr : List UInt8} {K : Int → World → Prop} {w : World} (h : internal_stringslite_Index s substr K w) : callV Pr (Value.int .i64) 158 #[(sval s), (sval substr)] w K :=
  calls_of Pr_plain Pr_mixed Pr_func158 internal_stringslite_Index_ann (rI .i64) (args := [(sval s), (sval substr)]) (by kernel_rfl) h

/- internal/strconv.ParseUint -/
def internal_strconv_ParseUint (s : List UInt8) (base : Int) (bitSize : Int) (K : (Int × Value) → World → Prop) (w : World) : Prop :=
  ifB (strEq s [])
  (K (0, (.iface 167 (.int .i64 2))) w)
  (join2 (fun (j1 : (List UInt8) → Int → World → Prop) =>
  ifB (decide ((2 : Int) ≤ base))
  (ifB (decide (base ≤ 36))
  (j1 s base w)
  (ifB (base == 0)
  (opRd Pr (Instr.index 9 (sval s) (.int .i64 0)) (Value.int .u8) (fun t2 =>
  ifB (t2 == 48)
  (ifB (decide (((s : List UInt8).length : Int) ≥ 3))
  (opRd Pr (Instr.index 9 (sval s) (.int .i64 1)) (Value.int .u8) (fun t3 =>
  callV Pr (Value.int .u8) 173 #[(.int .u8 t3)] w fun t4 w5 =>
  ifB (t4 == 98)
  (opRd Pr (Instr.sliceAt 9 (sval s) (some (.int .i64 2)) none none) sval (fun s6 =>
  j1 s6 2 w5) w5)
  (ifB (decide (((s : List UInt8).length : Int) ≥ 3))
  (opRd Pr (Instr.index 9 (sval s) (.int .i64 1)) (Value.int .u8) (fun t7 =>
  callV Pr (Value.int .u8) 173 #[(.int .u8 t7)] w5 fun t8 w9 =>
  ifB (t8 == 111)
  (opRd Pr (Instr.sliceAt 9 (sval s) (some (.int .i64 2)) none none) sval (fun s10 =>
  j1 s10 8 w9) w9)
  (ifB (decide (((s : List UInt8).length : Int) ≥ 3))
  (opRd Pr (Instr.index 9 (sval s) (.int .i64 1)) (Value.int .u8) (fun t11 =>
  callV Pr (Value.int .u8) 173 #[(.int .u8 t11)] w9 fun t12 w13 =>
  ifB (t12 == 120)
  (opRd Pr (Instr.sliceAt 9 (sval s) (some (.int .i64 2)) none none) sval (fun s14 =>
  j1 s14 16 w13) w13)
  (opRd Pr (Instr.sliceAt 9 (sval s) (some (.int .i64 1)) none none) sval (fun s15 =>
  j1 s15 8 w13) w13)) w9)
  (opRd Pr (Instr.sliceAt 9 (sval s) (some (.int .i64 1)) none none) sval (fun s16 =>
  j1 s16 8 w9) w9))) w5)
  (ifB (decide (((s : List UInt8).length : Int) ≥ 3))
  (opRd Pr (Instr.index 9 (sval s) (.int .i64 1)) (Value.int .u8) (fun t17 =>
  callV Pr (Value.int .u8) 173 #[(.int .u8 t17)] w5 fun t18 w19 =>
  ifB (t18 == 120)
  (opRd Pr (Instr.sliceAt 9 (sval s) (some (.int .i64 2)) none none) sval (fun s20 =>
  j1 s20 16 w19) w19)
  (opRd Pr (Instr.sliceAt 9 (sval s) (some (.int .i64 1)) none none) sval (fun s21 =>
  j1 s21 8 w19) w19)) w5)
  (opRd Pr (Instr.sliceAt 9 (sval s) (some (.int .i64 1)) none none) sval (fun s22 =>
  j1 s22 8 w5) w5)))) w)
  (ifB (decide (((s : List UInt8).length : Int) ≥ 3))
  (opRd Pr (Instr.index 9 (sval s) (.int .i64 1)) (Value.int .u8) (fun t23 =>
  callV Pr (Value.int .u8) 173 #[(.int .u8 t23)] w fun t24 w25 =>
  ifB (t24 == 111)
  (opRd Pr (Instr.sliceAt 9 (sval s) (some (.int .i64 2)) none none) sval (fun s26 =>
  j1 s26 8 w25) w25)
  (ifB (decide (((s : List UInt8).length : Int) ≥ 3))
  (opRd Pr (Instr.index 9 (sval s) (.int .i64 1)) (Value.int .u8) (fun t27 =>
  callV Pr (Value.int .u8) 173 #[(.int .u8 t27)] w25 fun t28 w29 =>
  ifB (t28 == 120)
  (opRd Pr (Instr.sliceAt 9 (sval s) (some (.int .i64 2)) none none) sval (fun s30 =>
  j1 s30 16 w29) w29)
  (opRd Pr (Instr.sliceAt 9 (sval s) (some (.int .i64 1)) none none) sval (fun s31 =>
  j1 s31 8 w29) w29)) w25)
  (opRd Pr (Instr.sliceAt 9 (sval s) (some (.int .i64 1)) none none) sval (fun s32 =>
  j1 s32 8 w25) w25))) w)
  (ifB (decide (((s : List UInt8).length : Int) ≥ 3))
  (opRd Pr (Instr.index 9 (sval s) (.int .i64 1)) (Value.int .u8) (fun t33 =>
  callV Pr (Value.int .u8) 173 #[(.int .u8 t33)] w fun t34 w35 =>
  ifB (t34 == 120)
  (opRd Pr (Instr.sliceAt 9 (sval s) (some (.int .i64 2)) none none) sval (fun s36 =>
  j1 s36 16 w35) w35)
  (opRd Pr (Instr.sliceAt 9 (sval s) (some (.int .i64 1)) none none) sval (fun s37 =>
  j1 s37 8 w35) w35)) w)
  (opRd Pr (Instr.sliceAt 9 (sval s) (some (.int .i64 1)) none none) sval (fun s38 =>
  j1 s38 8 w) w))))
  (j1 s 10 w)) w)
  (K (0, (.iface 167 (.int .i64 3))) w)))
  (ifB (base == 0)
  (opRd Pr (Instr.index 9 (sval s) (.int .i64 0)) (Value.int .u8) (fun t39 =>
  ifB (t39 == 48)
  (ifB (decide (((s : List UInt8).length : Int) ≥ 3))
  (opRd Pr (Instr.index 9 (sval s) (.int .i64 1)) (Value.int .u8) (fun t40 =>
  callV Pr (Value.int .u8) 173 #[(.int .u8 t40)] w fun t41 w42 =>
  ifB (t41 == 98)
  (opRd Pr (Instr.sliceAt 9 (sval s) (some (.int .i64 2)) none none) sval (fun s43 =>
  j1 s43 2 w42) w42)
  (ifB (decide (((s : List UInt8).length : Int) ≥ 3))
  (opRd Pr (Instr.index 9 (sval s) (.int .i64 1)) (Value.int .u8) (fun t44 =>
  callV Pr (Value.int .u8) 173 #[(.int .u8 t44)] w42 fun t45 w46 =>
  ifB (t45 == 111)
  (opRd Pr (Instr.sliceAt 9 (sval s) (some (.int .i64 2)) none none) sval (fun s47 =>
  j1 s47 8 w46) w46)
  (ifB (decide (((s : List UInt8).length : Int) ≥ 3))
  (opRd Pr (Instr.index 9 (sval s) (.int .i64 1)) (Value.int .u8) (fun t48 =>
  callV Pr (Value.int .u8) 173 #[(.int .u8 t48)] w46 fun t49 w50 =>
  ifB (t49 == 120)
  (opRd Pr (Instr.sliceAt 9 (sval s) (some (.int .i64 2)) none none) sval (fun s51 =>
  j1 s51 16 w50) w50)
  (opRd Pr (Instr.sliceAt 9 (sval s) (some (.int .i64 1)) none none) sval (fun s52 =>
  j1 s52 8 w50) w50)) w46)
  (opRd Pr (Instr.sliceAt 9 (sval s) (some (.int .i64 1)) none none) sval (fun s53 =>
  j1 s53 8 w46) w46))) w42)
  (ifB (decide (((s : List UInt8).length : Int) ≥ 3))
  (opRd Pr (Instr.index 9 (sval s) (.int .i64 1)) (Value.int .u8) (fun t54 =>
  callV Pr (Value.int .u8) 173 #[(.int .u8 t54)] w42 fun t55 w56 =>
  ifB (t55 == 120)
  (opRd Pr (Instr.sliceAt 9 (sval s) (some (.int .i64 2)) none none) sval (fun s57 =>
  j1 s57 16 w56) w56)
  (opRd Pr (Instr.sliceAt 9 (sval s) (some (.int .i64 1)) none none) sval (fun s58 =>
  j1 s58 8 w56) w56)) w42)
  (opRd Pr (Instr.sliceAt 9 (sval s) (some (.int .i64 1)) none none) sval (fun s59 =>
  j1 s59 8 w42) w42)))) w)
  (ifB (decide (((s : List UInt8).length : Int) ≥ 3))
  (opRd Pr (Instr.index 9 (sval s) (.int .i64 1)) (Value.int .u8) (fun t60 =>
  callV Pr (Value.int .u8) 173 #[(.int .u8 t60)] w fun t61 w62 =>
  ifB (t61 == 111)
  (opRd Pr (Instr.sliceAt 9 (sval s) (some (.int .i64 2)) none none) sval (fun s63 =>
  j1 s63 8 w62) w62)
  (ifB (decide (((s : List UInt8).length : Int) ≥ 3))
  (opRd Pr (Instr.index 9 (sval s) (.int .i64 1)) (Value.int .u8) (fun t64 =>
  callV Pr (Value.int .u8) 173 #[(.int .u8 t64)] w62 fun t65 w66 =>
  ifB (t65 == 120)
  (opRd Pr (Instr.sliceAt 9 (sval s) (some (.int .i64 2)) none none) sval (fun s67 =>
  j1 s67 16 w66) w66)
  (opRd Pr (Instr.sliceAt 9 (sval s) (some (.int .i64 1)) none none) sval (fun s68 =>
  j1 s68 8 w66) w66)) w62)
  (opRd Pr (Instr.sliceAt 9 (sval s) (some (.int .i64 1)) none none) sval (fun s69 =>
  j1 s69 8 w62) w62))) w)
  (ifB (decide (((s : List UInt8).length : Int) ≥ 3))
  (opRd Pr (Instr.index 9 (sval s) (.int .i64 1)) (Value.int .u8) (fun t70 =>
  callV Pr (Value.int .u8) 173 #[(.int .u8 t70)] w fun t71 w72 =>
  ifB (t71 == 120)
  (opRd Pr (Instr.sliceAt 9 (sval s) (some (.int .i64 2)) none none) sval (fun s73 =>
  j1 s73 16 w72) w72)
  (opRd Pr (Instr.sliceAt 9 (sval s) (some (.int .i64 1)) none none) sval (fun s74 =>
  j1 s74 8 w72) w72)) w)
  (opRd Pr (Instr.sliceAt 9 (sval s) (some (.int .i64 1)) none none) sval (fun s75 =>
  j1 s75 8 w) w))))
  (j1 s 10 w)) w)
  (K (0, (.iface 167 (.int .i64 3))) w)))
  (fun s76 base77 w78 =>
  join1 (fun (j79 : Int → World → Prop) =>
  ifB (bitSize == 0)
  (j79 64 w78)
  (ifB (decide (bitSize < 0))
  (K (0, (.iface 167 (.int .i64 4))) w78)
  (ifB (decide (bitSize > 64))
  (K (0, (.iface 167 (.int .i64 4))) w78)
  (j79 bitSize w78))))
  (fun bitSize80 w81 =>
  join1 (fun (j82 : Int → World → Prop) =>
  ifB (base77 == 10)
  (j82 1844674407370955162 w81)
  (ifB (base77 == 16)
  (j82 1152921504606846976 w81)
  (opRd Pr (binSem .quo 166 (.const (.int .u64 18446744073709551615)) (.tmp 87) (.int .u64 18446744073709551615) (.int .u64 (IntKind.u64.wrap base77))) (Value.int .u64) (fun t83 =>
  j82 (IntKind.u64.wrap (t83 + 1)) w81) w81)))
  (fun cutoff84 w85 =>
  opRd Pr (binSem .shl 166 (.const (.int .u64 1)) (.tmp 95) (.int .u64 1) (.int .u64 (IntKind.u64.wrap bitSize80))) (Value.int .u64) (fun t86 =>
  opTy Pr (convert 9 25 (sval s76)) Sl.val (fun t87 w88 =>
  loop3 (false : Bool) (0 : Int) (0 : Int) (fun underscores89 n90 t91 k92 w93 =>
  ifB (decide (t91 < (t87.len : Int)))
  (opRd Pr (Instr.indexAt 25 t87.val (.int .i64 t91)) pav (fun t94 =>
  opRd Pr (Instr.loadAt 5 (.pointer (some t94))) (Value.int .u8) (fun c95 =>
  join2 (fun (j96 : Bool → Int → World → Prop) =>
  ifB (c95 == 95)
  (ifB (base == 0)
  (k92 true n90 (i64 (t91 + 1)) w93)
  (ifB (decide ((48 : Int) ≤ c95))
  (ifB (decide (c95 ≤ 57))
  (j96 underscores89 (IntKind.u8.wrap (c95 - 48)) w93)
  (callV Pr (Value.int .u8) 173 #[(.int .u8 c95)] w93 fun t97 w98 =>
  ifB (decide ((97 : Int) ≤ t97))
  (callV Pr (Value.int .u8) 173 #[(.int .u8 c95)] w98 fun t99 w100 =>
  ifB (decide (t99 ≤ 122))
  (callV Pr (Value.int .u8) 173 #[(.int .u8 c95)] w100 fun t101 w102 =>
  j96 underscores89 (IntKind.u8.wrap ((IntKind.u8.wrap (t101 - 97)) + 10)) w102)
  (K (0, (.iface 167 (.int .i64 2))) w100))
  (K (0, (.iface 167 (.int .i64 2))) w98)))
  (callV Pr (Value.int .u8) 173 #[(.int .u8 c95)] w93 fun t103 w104 =>
  ifB (decide ((97 : Int) ≤ t103))
  (callV Pr (Value.int .u8) 173 #[(.int .u8 c95)] w104 fun t105 w106 =>
  ifB (decide (t105 ≤ 122))
  (callV Pr (Value.int .u8) 173 #[(.int .u8 c95)] w106 fun t107 w108 =>
  j96 underscores89 (IntKind.u8.wrap ((IntKind.u8.wrap (t107 - 97)) + 10)) w108)
  (K (0, (.iface 167 (.int .i64 2))) w106))
  (K (0, (.iface 167 (.int .i64 2))) w104))))
  (ifB (decide ((48 : Int) ≤ c95))
  (ifB (decide (c95 ≤ 57))
  (j96 underscores89 (IntKind.u8.wrap (c95 - 48)) w93)
  (callV Pr (Value.int .u8) 173 #[(.int .u8 c95)] w93 fun t109 w110 =>
  ifB (decide ((97 : Int) ≤ t109))
  (callV Pr (Value.int .u8) 173 #[(.int .u8 c95)] w110 fun t111 w112 =>
  ifB (decide (t111 ≤ 122))
  (callV Pr (Value.int .u8) 173 #[(.int .u8 c95)] w112 fun t113 w114 =>
  j96 underscores89 (IntKind.u8.wrap ((IntKind.u8.wrap (t113 - 97)) + 10)) w114)
  (K (0, (.iface 167 (.int .i64 2))) w112))
  (K (0, (.iface 167 (.int .i64 2))) w110)))
  (callV Pr (Value.int .u8) 173 #[(.int .u8 c95)] w93 fun t115 w116 =>
  ifB (decide ((97 : Int) ≤ t115))
  (callV Pr (Value.int .u8) 173 #[(.int .u8 c95)] w116 fun t117 w118 =>
  ifB (decide (t117 ≤ 122))
  (callV Pr (Value.int .u8) 173 #[(.int .u8 c95)] w118 fun t119 w120 =>
  j96 underscores89 (IntKind.u8.wrap ((IntKind.u8.wrap (t119 - 97)) + 10)) w120)
  (K (0, (.iface 167 (.int .i64 2))) w118))
  (K (0, (.iface 167 (.int .i64 2))) w116))))
  (fun underscores121 d122 w123 =>
  ifB (decide (d122 ≥ (IntKind.u8.wrap base77)))
  (K (0, (.iface 167 (.int .i64 2))) w123)
  (ifB (decide (n90 ≥ cutoff84))
  (K ((IntKind.u64.wrap (t86 - 1)), (.iface 167 (.int .i64 1))) w123)
  (ifB (decide ((IntKind.u64.wrap ((IntKind.u64.wrap (n90 * (IntKind.u64.wrap base77))) + (IntKind.u64.wrap d122))) < (IntKind.u64.wrap (n90 * (IntKind.u64.wrap base77)))))
  (K ((IntKind.u64.wrap (t86 - 1)), (.iface 167 (.int .i64 1))) w123)
  (ifB (decide ((IntKind.u64.wrap ((IntKind.u64.wrap (n90 * (IntKind.u64.wrap base77))) + (IntKind.u64.wrap d122))) > (IntKind.u64.wrap (t86 - 1))))
  (K ((IntKind.u64.wrap (t86 - 1)), (.iface 167 (.int .i64 1))) w123)
  (k92 underscores121 (IntKind.u64.wrap ((IntKind.u64.wrap (n90 * (IntKind.u64.wrap base77))) + (IntKind.u64.wrap d122))) (i64 (t91 + 1)) w123)))))) w93) w93)
  (ifB underscores89
  (callV Pr Value.bool 174 #[(sval s)] w93 fun t124 w125 =>
  ifB (!t124)
  (K (0, (.iface 167 (.int .i64 2))) w125)
  (K (n90, .nilIface) w125))
  (K (n90, .nilIface) w93))) w88) w85) w85))))
def internal_strconv_ParseUint_ann : Ann := (.s .d (.s (.s .d (.c (.s .d .d) .d)) (.s .d (.s .d (.sj [(.s 0, rS), (.s 1, (rI .i64))] (.b (.s .d (.c .d (.s .d (.c (.s .d (.s (.r [(1, .rd (rI .u8))]) (.c (.b (.s (.r [(5, .rd (rI .u8)), (6, .call (rI .u8))]) (.c (.s .d (.r [(1, .rd rS)])) (.s (.r [(5, .rd (rI .u8)), (6, .call (rI .u8))]) (.c (.s .d (.r [(1, .rd rS)])) (.s (.r [(5, .rd (rI .u8)), (6, .call (rI .u8))]) (.c (.s .d (.r [(1, .rd rS)])) (.s .d (.r [(1, .rd rS)]))))))))) .d))) (.s .d .d)))))) (.sj [(.s 2, (rI .i64))] (.s .d (.c .d (.s .d (.c (.s .d .d) .d)))) (.s .d (.sj [(.s 10, (rI .u64))] (.s .d (.b (.s .d (.c .d (.s .d (.c .d (.r [(2, .rd (rI .u64))]))))))) (.s (.r [(2, .rd (rI .u64))]) (.s .d (.s .d (.s (.s (.r [(1, .ty rSl)]) (.b (.l [(.s 12, rB), (.s 13, (rI .u64)), (.s 101, (rI .i64))] (.s .d (.s (.c .d .d) (.s (.b (.s (.r [(0, .rd rPA), (1, .rd (rI .u8))]) (.s .d (.sj [(.s 12, rB), (.s 16, (rI .u8))] (.b (.s .d (.c (.s .d .d) (.s .d (.c .d (.s (.r [(1, .call (rI .u8)), (5, .call (rI .u8))]) (.c (.r [(1, .call (rI .u8))]) (.s .d .d)))))))) (.s (.s .d (.c (.s .d .d) .d)) (.s (.s .d (.c (.s .d .d) .d)) (.s .d (.s .d (.s (.s .d (.c (.s .d .d) .d)) .d))))))))) .d)))))) (.s (.s (.r [(3, .call rB)]) (.c (.s .d .d) .d)) (.s .d .d))))))))))))))
theorem internal_strconv_ParseUint_calls {s : List UInt8} {base : Int} {bitSize : Int} {K : (Int × Value) → World → Prop} {w : World} (h : internal_strconv_ParseUint s base bitSize K w) : callV Pr (tval2 (Value.int .u64) vval) 159 #[(sval s), (.int .i64 base), (.int .i64 bitSize)] w K :=
  calls_of Pr_plain Pr_mixed Pr_func159 internal_strconv_ParseUint_ann (rT2 (rI .u64) rV) (args := [(sval s), (.int .i64 base), (.int .i64 bitSize)]) (by kernel_rfl) h

/- internal/stringslite.Clone -/
def internal_stringslite_Clone (s : List UInt8) (K : (List UInt8) → World → Prop) (w : World) : Prop :=
  ifB (((s : List UInt8).length : Int) == 0)
  (K [] w)
  (opTy Pr (Instr.makeSlice 25 (.int .i64 ((s : List UInt8).length : Int)) (.int .i64 ((s : List UInt8).length : Int))) Sl.val (fun b1 w2 =>
  opTy Pr (Builtin.copy_ #[25, 9] 3 #[b1.val, (sval s)]) (Value.int .i64) (fun t3 w4 =>
  opRd Pr (Instr.indexAt 25 b1.val (.int .i64 0)) pav (fun t5 =>
  opTy Pr (Builtin.unsafeString_ #[164, 3] 9 #[(.pointer (some t5)), (.int .i64 (b1.len : Int))]) sval (fun t6 w7 =>
  K t6 w7) w4) w4) w2) w)
def internal_stringslite_Clone_ann : Ann := (.s .d (.s (.s .d (.c (.s .d .d) .d)) (.s (.r [(2, .ty rSl)]) (.s (.r [(2, .ty (rI .i64))]) (.s (.r [(1, .rd rPA), (4, .ty rS)]) .d)))))
theorem internal_stringslite_Clone_calls {s : List UInt8} {K : (List UInt8) → World → Prop} {w : World} (h : internal_stringslite_Clone s K w) : callV Pr sval 160 #[(sval s)] w K :=
  calls_of Pr_plain Pr_mixed Pr_func160 internal_stringslite_Clone_ann rS (args := [(sval s)]) (by kernel_rfl) h

/- errors.New -/
def errors_New (text : List UInt8) (K : Value → World → Prop) (w : World) : Prop :=
  opTy Pr (Instr.box 200 (.agg ⟨[(sval text)]⟩)) pav (fun t1 w2 =>
  K (.iface 198 (.pointer (some t1))) w2) w
def errors_New_ann : Ann := (.s .d (.s (.r [(2, .ty rPA)]) .d))
theorem errors_New_calls {text : List UInt8} {K : Value → World → Prop} {w : World} (h : errors_New text K w) : callV Pr vval 161 #[(sval text)] w K :=
  calls_of Pr_plain Pr_mixed Pr_func161 errors_New_ann rV (args := [(sval text)]) (by kernel_rfl) h

/- strings.IndexByte -/
def strings_IndexByte (s : List UInt8) (c : Int) (K : Int → World → Prop) (w : World) : Prop :=
  callV Pr (Value.int .i64) 169 #[(sval s), (.int .u8 c)] w fun t1 w2 =>
  K t1 w2
def strings_IndexByte_ann : Ann := (.s .d (.s (.r [(2, .call (rI .i64))]) .d))
theorem strings_IndexByte_calls {s : List UInt8} {c : Int} {K : Int → World → Prop} {w : World} (h : strings_IndexByte s c K w) : callV Pr (Value.int .i64) 162 #[(sval s), (.int .u8 c)] w K :=
  calls_of Pr_plain Pr_mixed Pr_func162 strings_IndexByte_ann (rI .i64) (args := [(sval s), (.int .u8 c)]) (by kernel_rfl) h

/- internal/strconv.log10Pow2 -/
def internal_strconv_log10Pow2 (x : Int) (K : Int → World → Prop) (w : World) : Prop :=
  K (shR .i64 (i64 (x * 78913)) 18) w
def internal_strconv_log10Pow2_ann : Ann := (.s .d (.s .d .d))
theorem internal_strconv_log10Pow2_calls {x : Int} {K : Int → World → Prop} {w : World} (h : internal_strconv_log10Pow2 x K w) : callV Pr (Value.int .i64) 163 #[(.int .i64 x)] w K :=
  calls_of Pr_plain Pr_mixed Pr_func163 internal_strconv_log10Pow2_ann (rI .i64) (args := [(.int .i64 x)]) (by kernel_rfl) h

/- math/bits.Len64 -/
def math_bits_Len64 (x : Int) (K : Int → World → Prop) (w : World) : Prop :=
  join2 (fun (j1 : Int → Int → World → Prop) =>
  ifB (decide (x ≥ 4294967296))
  (j1 (shR .u64 x 32) 32 w)
  (j1 x 0 w))
  (fun x2 n3 w4 =>
  join2 (fun (j5 : Int → Int → World → Prop) =>
  ifB (decide (x2 ≥ 65536))
  (j5 (shR .u64 x2 16) (i64 (n3 + 16)) w4)
  (j5 x2 n3 w4))
  (fun x6 n7 w8 =>
  ifB (decide (x6 ≥ 256))
  (opRd Pr (Instr.index 9 (sval cs256_85724) (.int .u8 (IntKind.u8.wrap (shR .u64 x6 8)))) (Value.int .u8) (fun t9 =>
  K (i64 ((i64 (n7 + 8)) + (IntKind.i64.wrap t9))) w8) w8)
  (opRd Pr (Instr.index 9 (sval cs256_85724) (.int .u8 (IntKind.u8.wrap x6))) (Value.int .u8) (fun t10 =>
  K (i64 (n7 + (IntKind.i64.wrap t10))) w8) w8)))
def math_bits_Len64_ann : Ann := (.s .d (.sj [(.s 0, (rI .u64)), (.s 2, (rI .i64))] (.s .d (.c (.s .d .d) .d)) (.sj [(.s 0, (rI .u64)), (.s 2, (rI .i64))] (.s .d (.c (.s .d .d) .d)) (.s (.s .d (.c (.s .d .d) .d)) (.s (.r [(3, .rd (rI .u8))]) .d)))))
theorem math_bits_Len64_calls {x : Int} {K : Int → World → Prop} {w : World} (h : math_bits_Len64 x K w) : callV Pr (Value.int .i64) 164 #[(.int .u64 x)] w K :=
  calls_of Pr_plain Pr_mixed Pr_func164 math_bits_Len64_ann (rI .i64) (args := [(.int .u64 x)]) (by kernel_rfl) h

/- internal/strconv.bool2[int] -/
def internal_strconv_bool2_int (b : Bool) (K : Int → World → Prop) (w : World) : Prop :=
  ifB b
  (K 1 w)
  (K 0 w)
def internal_strconv_bool2_int_ann : Ann := (.s .d (.s (.s .d (.c (.s .d .d) .d)) (.s .d .d)))
theorem internal_strconv_bool2_int_calls {b : Bool} {K : Int → World → Prop} {w : World} (h : internal_strconv_bool2_int b K w) : callV Pr (Value.int .i64) 165 #[(.bool b)] w K :=
  calls_of Pr_plain Pr_mixed Pr_func165 internal_strconv_bool2_int_ann (rI .i64) (args := [(.bool b)]) (by kernel_rfl) h

/- internal/strconv.isPowerOfTwo -/
def internal_strconv_isPowerOfTwo (x : Int) (K : Bool → World → Prop) (w : World) : Prop :=
  K ((bAnd .i64 x (i64 (x - 1))) == 0) w
def internal_strconv_isPowerOfTwo_ann : Ann := (.s .d (.s .d .d))
theorem internal_strconv_isPowerOfTwo_calls {x : Int} {K : Bool → World → Prop} {w : World} (h : internal_strconv_isPowerOfTwo x K w) : callV Pr Value.bool 166 #[(.int .i64 x)] w K :=
  calls_of Pr_plain Pr_mixed Pr_func166 internal_strconv_isPowerOfTwo_ann rB (args := [(.int .i64 x)]) (by kernel_rfl) h

/- math/bits.TrailingZeros -/
def math_bits_TrailingZeros (x : Int) (K : Int → World → Prop) (w : World) : Prop :=
  callV Pr (Value.int .i64) 176 #[(.int .u64 x)] w fun t1 w2 =>
  K t1 w2
def math_bits_TrailingZeros_ann : Ann := (.s .d (.s (.c (.s .d .d) .d) (.s (.r [(1, .call (rI .i64))]) .d)))
theorem math_bits_TrailingZeros_calls {x : Int} {K : Int → World → Prop} {w : World} (h : math_bits_TrailingZeros x K w) : callV Pr (Value.int .i64) 167 #[(.int .u64 x)] w K :=
  calls_of Pr_plain Pr_mixed Pr_func167 math_bits_TrailingZeros_ann (rI .i64) (args := [(.int .u64 x)]) (by kernel_rfl) h

/- internal/stringslite.IndexByte -/
def internal_stringslite_IndexByte (s : List UInt8) (c : Int) (K : Int → World → Prop) (w : World) : Prop :=
  opEx Pr 177 #[(sval s), (.int .u8 c)] (Value.int .i64) (fun t1 w2 =>
  K t1 w2) w
def internal_stringslite_IndexByte_ann : Ann := (.s .d (.s (.r [(2, .ext (rI .i64))]) .d))
theorem internal_stringslite_IndexByte_calls {s : List UInt8} {c : Int} {K : Int → World → Prop} {w : World} (h : internal_stringslite_IndexByte s c K w) : callV Pr (Value.int .i64) 169 #[(sval s), (.int .u8 c)] w K :=
  calls_of Pr_plain Pr_mixed Pr_func169 internal_stringslite_IndexByte_ann (rI .i64) (args := [(sval s), (.int .u8 c)]) (by kernel_rfl) h

/- internal/bytealg.Cutover -/
def internal_bytealg_Cutover (n : Int) (K : Int → World → Prop) (w : World) : Prop :=
  K (IntKind.i64.wrap (Int.tdiv (i64 (n + 16)) 8)) w
def internal_bytealg_Cutover_ann : Ann := (.s .d (.s .d .d))
theorem internal_bytealg_Cutover_calls {n : Int} {K : Int → World → Prop} {w : World} (h : internal_bytealg_Cutover n K w) : callV Pr (Value.int .i64) 171 #[(.int .i64 n)] w K :=
  calls_of Pr_plain Pr_mixed Pr_func171 internal_bytealg_Cutover_ann (rI .i64) (args := [(.int .i64 n)]) (by kernel_rfl) h

/- internal/bytealg.IndexRabinKarp[string] -/
def internal_bytealg_IndexRabinKarp_string (s : List UInt8) (sep : List UInt8) (K : Int → World → Prop) (w : World) : Prop :=
  callV Pr (tval2 (Value.int .u32) (Value.int .u32)) 178 #[(sval sep)] w fun t1 w2 =>
  loop2 (0 : Int) (0 : Int) (fun h3 i4 k5 w6 =>
  ifB (decide (i4 < ((sep : List UInt8).length : Int)))
  (opRd Pr (Instr.index 9 (sval s) (.int .i64 i4)) (Value.int .u8) (fun t7 =>
  k5 (IntKind.u32.wrap ((IntKind.u32.wrap (h3 * 16777619)) + (IntKind.u32.wrap t7))) (i64 (i4 + 1)) w6) w6)
  (join0 (fun (j8 : World → Prop) =>
  ifB (h3 == t1.1)
  (opRd Pr (Instr.sliceAt 9 (sval s) none (some (.int .i64 ((sep : List UInt8).length : Int))) none) sval (fun t9 =>
  ifB (strEq t9 sep)
  (K 0 w6)
  (j8 w6)) w6)
  (j8 w6))
  (fun w10 =>
  loop2 (h3 : Int) (((sep : List UInt8).length : Int) : Int) (fun h11 i12 k13 w14 =>
  ifB (decide (i12 < ((s : List UInt8).length : Int)))
  (opRd Pr (Instr.index 9 (sval s) (.int .i64 i12)) (Value.int .u8) (fun t15 =>
  opRd Pr (Instr.index 9 (sval s) (.int .i64 (i64 (i12 - ((sep : List UInt8).length : Int))))) (Value.int .u8) (fun t16 =>
  ifB ((IntKind.u32.wrap ((IntKind.u32.wrap ((IntKind.u32.wrap (h11 * 16777619)) + (IntKind.u32.wrap t15))) - (IntKind.u32.wrap (t1.2 * (IntKind.u32.wrap t16))))) == t1.1)
  (opRd Pr (Instr.sliceAt 9 (sval s) (some (.int .i64 (i64 ((i64 (i12 + 1)) - ((sep : List UInt8).length : Int))))) (some (.int .i64 (i64 (i12 + 1)))) none) sval (fun t17 =>
  ifB (strEq t17 sep)
  (K (i64 ((i64 (i12 + 1)) - ((sep : List UInt8).length : Int))) w14)
  (k13 (IntKind.u32.wrap ((IntKind.u32.wrap ((IntKind.u32.wrap (h11 * 16777619)) + (IntKind.u32.wrap t15))) - (IntKind.u32.wrap (t1.2 * (IntKind.u32.wrap t16))))) (i64 (i12 + 1)) w14)) w14)
  (k13 (IntKind.u32.wrap ((IntKind.u32.wrap ((IntKind.u32.wrap (h11 * 16777619)) + (IntKind.u32.wrap t15))) - (IntKind.u32.wrap (t1.2 * (IntKind.u32.wrap t16))))) (i64 (i12 + 1)) w14)) w14) w14)
  (K (-1) w14)) w10))) w2
def internal_bytealg_IndexRabinKarp_string_ann : Ann := (.s .d (.s (.r [(1, .call (rT2 (rI .u32) (rI .u32)))]) (.s .d (.s .d (.s (.s .d (.b (.l [(.s 8, (rI .u32)), (.s 9, (rI .i64))] (.s (.s .d (.c .d .d)) (.s (.b (.r [(4, .rd (rI .u8))])) .d))))) (.sj [] (.s (.r [(6, .rd rS)]) (.c (.s .d .d) .d)) (.s (.s .d (.b (.l [(.s 8, (rI .u32)), (.s 10, (rI .i64))] (.s (.s .d (.c .d .d)) (.b (.s .d (.s (.r [(3, .rd (rI .u8))]) (.s (.r [(6, .rd (rI .u8))]) (.s .d (.s (.r [(9, .rd rS)]) (.c (.s .d .d) .d))))))))))) (.s .d .d))))))))
theorem internal_bytealg_IndexRabinKarp_string_calls {s : List UInt8} {sep : List UInt8} {K : Int → World → Prop} {w : World} (h : internal_bytealg_IndexRabinKarp_string s sep K w) : callV Pr (Value.int .i64) 172 #[(sval s), (sval sep)] w K :=
  calls_of Pr_plain Pr_mixed Pr_func172 internal_bytealg_IndexRabinKarp_string_ann (rI .i64) (args := [(sval s), (sval sep)]) (by kernel_rfl) h

/- internal/strconv.lower -/
def internal_strconv_lower (c : Int) (K : Int → World → Prop) (w : World) : Prop :=
  K (bOr .u8 c 32) w
def internal_strconv_lower_ann : Ann := (.s .d (.s .d .d))
theorem internal_strconv_lower_calls {c : Int} {K : Int → World → Prop} {w : World} (h : internal_strconv_lower c K w) : callV Pr (Value.int .u8) 173 #[(.int .u8 c)] w K :=
  calls_of Pr_plain Pr_mixed Pr_func173 internal_strconv_lower_ann (rI .u8) (args := [(.int .u8 c)]) (by kernel_rfl) h

/- internal/strconv.underscoreOK -/
def internal_strconv_underscoreOK (s : List UInt8) (K : Bool → World → Prop) (w : World) : Prop :=
  join1 (fun (j1 : (List UInt8) → World → Prop) =>
  ifB (decide (((s : List UInt8).length : Int) ≥ 1))
  (opRd Pr (Instr.index 9 (sval s) (.int .i64 0)) (Value.int .u8) (fun t2 =>
  ifB (t2 == 45)
  (opRd Pr (Instr.sliceAt 9 (sval s) (some (.int .i64 1)) none none) sval (fun s3 =>
  j1 s3 w) w)
  (opRd Pr (Instr.index 9 (sval s) (.int .i64 0)) (Value.int .u8) (fun t4 =>
  ifB (t4 == 43)
  (opRd Pr (Instr.sliceAt 9 (sval s) (some (.int .i64 1)) none none) sval (fun s5 =>
  j1 s5 w) w)
  (j1 s w)) w)) w)
  (j1 s w))
  (fun s6 w7 =>
  join3 (fun (j8 : Int → Int → Bool → World → Prop) =>
  ifB (decide (((s6 : List UInt8).length : Int) ≥ 2))
  (opRd Pr (Instr.index 9 (sval s6) (.int .i64 0)) (Value.int .u8) (fun t9 =>
  ifB (t9 == 48)
  (opRd Pr (Instr.index 9 (sval s6) (.int .i64 1)) (Value.int .u8) (fun t10 =>
  callV Pr (Value.int .u8) 173 #[(.int .u8 t10)] w7 fun t11 w12 =>
  ifB (t11 == 98)
  (opRd Pr (Instr.index 9 (sval s6) (.int .i64 1)) (Value.int .u8) (fun t13 =>
  callV Pr (Value.int .u8) 173 #[(.int .u8 t13)] w12 fun t14 w15 =>
  j8 48 2 (t14 == 120) w15) w12)
  (opRd Pr (Instr.index 9 (sval s6) (.int .i64 1)) (Value.int .u8) (fun t16 =>
  callV Pr (Value.int .u8) 173 #[(.int .u8 t16)] w12 fun t17 w18 =>
  ifB (t17 == 111)
  (opRd Pr (Instr.index 9 (sval s6) (.int .i64 1)) (Value.int .u8) (fun t19 =>
  callV Pr (Value.int .u8) 173 #[(.int .u8 t19)] w18 fun t20 w21 =>
  j8 48 2 (t20 == 120) w21) w18)
  (opRd Pr (Instr.index 9 (sval s6) (.int .i64 1)) (Value.int .u8) (fun t22 =>
  callV Pr (Value.int .u8) 173 #[(.int .u8 t22)] w18 fun t23 w24 =>
  ifB (t23 == 120)
  (opRd Pr (Instr.index 9 (sval s6) (.int .i64 1)) (Value.int .u8) (fun t25 =>
  callV Pr (Value.int .u8) 173 #[(.int .u8 t25)] w24 fun t26 w27 =>
  j8 48 2 (t26 == 120) w27) w24)
  (j8 94 0 false w24)) w18)) w12)) w7)
  (j8 94 0 false w7)) w7)
  (j8 94 0 false w7))
  (fun saw28 i29 hex30 w31 =>
  loop2 (saw28 : Int) (i29 : Int) (fun saw32 i33 k34 w35 =>
  ifB (decide (i33 < ((s6 : List UInt8).length : Int)))
  (join1 (fun (j36 : Int → World → Prop) =>
  opRd Pr (Instr.index 9 (sval s6) (.int .i64 i33)) (Value.int .u8) (fun t37 =>
  ifB (decide ((48 : Int) ≤ t37))
  (opRd Pr (Instr.index 9 (sval s6) (.int .i64 i33)) (Value.int .u8) (fun t38 =>
  ifB (decide (t38 ≤ 57))
  (k34 48 (i64 (i33 + 1)) w35)
  (ifB hex30
  (opRd Pr (Instr.index 9 (sval s6) (.int .i64 i33)) (Value.int .u8) (fun t39 =>
  callV Pr (Value.int .u8) 173 #[(.int .u8 t39)] w35 fun t40 w41 =>
  ifB (decide ((97 : Int) ≤ t40))
  (opRd Pr (Instr.index 9 (sval s6) (.int .i64 i33)) (Value.int .u8) (fun t42 =>
  callV Pr (Value.int .u8) 173 #[(.int .u8 t42)] w41 fun t43 w44 =>
  ifB (decide (t43 ≤ 102))
  (k34 48 (i64 (i33 + 1)) w44)
  (j36 saw32 w44)) w41)
  (j36 saw32 w41)) w35)
  (j36 saw32 w35))) w35)
  (ifB hex30
  (opRd Pr (Instr.index 9 (sval s6) (.int .i64 i33)) (Value.int .u8) (fun t45 =>
  callV Pr (Value.int .u8) 173 #[(.int .u8 t45)] w35 fun t46 w47 =>
  ifB (decide ((97 : Int) ≤ t46))
  (opRd Pr (Instr.index 9 (sval s6) (.int .i64 i33)) (Value.int .u8) (fun t48 =>
  callV Pr (Value.int .u8) 173 #[(.int .u8 t48)] w47 fun t49 w50 =>
  ifB (decide (t49 ≤ 102))
  (k34 48 (i64 (i33 + 1)) w50)
  (j36 saw32 w50)) w47)
  (j36 saw32 w47)) w35)
  (j36 saw32 w35))) w35)
  (fun saw51 w52 =>
  opRd Pr (Instr.index 9 (sval s6) (.int .i64 i33)) (Value.int .u8) (fun t53 =>
  ifB (t53 == 95)
  (ifB (saw51 != 48)
  (K false w52)
  (k34 95 (i64 (i33 + 1)) w52))
  (ifB (saw51 == 95)
  (K false w52)
  (k34 33 (i64 (i33 + 1)) w52))) w52))
  (K (saw32 != 95) w35)) w31))
def internal_strconv_underscoreOK_ann : Ann := (.s .d (.s .d (.s .d (.sj [(.s 0, rS)] (.s (.r [(5, .rd (rI .u8)), (9, .rd (rI .u8))]) (.c (.r [(1, .rd rS)]) .d)) (.s .d (.sj [(.s 3, (rI .i32)), (.s 4, (rI .i64)), (.s 5, rB)] (.s (.r [(5, .rd (rI .u8)), (10, .rd (rI .u8)), (11, .call (rI .u8)), (15, .rd (rI .u8)), (16, .call (rI .u8)), (21, .rd (rI .u8)), (22, .call (rI .u8))]) (.c (.s .d (.s .d (.r [(1, .rd (rI .u8)), (2, .call (rI .u8))]))) .d)) (.s (.b (.l [(.s 3, (rI .i32)), (.s 4, (rI .i64))] (.s (.s .d (.c .d .d)) (.s (.b (.sj [(.s 3, (rI .i32))] (.s (.r [(2, .rd (rI .u8)), (7, .rd (rI .u8)), (15, .rd (rI .u8)), (16, .call (rI .u8)), (22, .rd (rI .u8)), (23, .call (rI .u8))]) (.c (.s .d .d) .d)) (.s (.s (.r [(2, .rd (rI .u8))]) (.c (.s (.s .d (.c (.s .d .d) .d)) (.s .d .d)) .d)) (.s (.s .d (.c (.s .d .d) .d)) .d)))) .d)))) (.s .d .d))))))))
theorem internal_strconv_underscoreOK_calls {s : List UInt8} {K : Bool → World → Prop} {w : World} (h : internal_strconv_underscoreOK s K w) : callV Pr Value.bool 174 #[(sval s)] w K :=
  calls_of Pr_plain Pr_mixed Pr_func174 internal_strconv_underscoreOK_ann rB (args := [(sval s)]) (by kernel_rfl) h

/- math/bits.TrailingZeros32 -/
def math_bits_TrailingZeros32 (x : Int) (K : Int → World → Prop) (w : World) : Prop :=
  ifB (x == 0)
  (K 32 w)
  (opRd Pr (Instr.indexAt 204 (.pointer (some g_math_bits_deBruijn32tab)) (.int .u32 (shR .u32 (IntKind.u32.wrap ((bAnd .u32 x (IntKind.u32.wrap (0 - x))) * 125613361)) 27))) pav (fun t1 =>
  opRd Pr (Instr.loadAt 5 (.pointer (some t1))) (Value.int .u8) (fun t2 =>
  K (IntKind.i64.wrap t2) w) w) w)
def math_bits_TrailingZeros32_ann : Ann := (.s .d (.s (.s .d (.c (.s .d .d) .d)) (.s (.r [(6, .rd rPA), (7, .rd (rI .u8))]) .d)))
theorem math_bits_TrailingZeros32_calls {x : Int} {K : Int → World → Prop} {w : World} (h : math_bits_TrailingZeros32 x K w) : callV Pr (Value.int .i64) 175 #[(.int .u32 x)] w K :=
  calls_of Pr_plain Pr_mixed Pr_func175 math_bits_TrailingZeros32_ann (rI .i64) (args := [(.int .u32 x)]) (by kernel_rfl) h

/- math/bits.TrailingZeros64 -/
def math_bits_TrailingZeros64 (x : Int) (K : Int → World → Prop) (w : World) : Prop :=
  ifB (x == 0)
  (K 64 w)
  (opRd Pr (Instr.indexAt 205 (.pointer (some g_math_bits_deBruijn64tab)) (.int .u64 (shR .u64 (IntKind.u64.wrap ((bAnd .u64 x (IntKind.u64.wrap (0 - x))) * 285870213051353865)) 58))) pav (fun t1 =>
  opRd Pr (Instr.loadAt 5 (.pointer (some t1))) (Value.int .u8) (fun t2 =>
  K (IntKind.i64.wrap t2) w) w) w)
def math_bits_TrailingZeros64_ann : Ann := (.s .d (.s (.s .d (.c (.s .d .d) .d)) (.s (.r [(6, .rd rPA), (7, .rd (rI .u8))]) .d)))
theorem math_bits_TrailingZeros64_calls {x : Int} {K : Int → World → Prop} {w : World} (h : math_bits_TrailingZeros64 x K w) : callV Pr (Value.int .i64) 176 #[(.int .u64 x)] w K :=
  calls_of Pr_plain Pr_mixed Pr_func176 math_bits_TrailingZeros64_ann (rI .i64) (args := [(.int .u64 x)]) (by kernel_rfl) h

/- internal/bytealg.hashStr[string] -/
def internal_bytealg_hashStr_string (sep : List UInt8) (K : (Int × Int) → World → Prop) (w : World) : Prop :=
  loop2 (0 : Int) (0 : Int) (fun hash1 i2 k3 w4 =>
  ifB (decide (i2 < ((sep : List UInt8).length : Int)))
  (opRd Pr (Instr.index 9 (sval sep) (.int .i64 i2)) (Value.int .u8) (fun t5 =>
  k3 (IntKind.u32.wrap ((IntKind.u32.wrap (hash1 * 16777619)) + (IntKind.u32.wrap t5))) (i64 (i2 + 1)) w4) w4)
  (loop3 (1 : Int) (16777619 : Int) (((sep : List UInt8).length : Int) : Int) (fun pow6 sq7 i8 k9 w10 =>
  ifB (decide (i8 > 0))
  (ifB ((bAnd .i64 i8 1) != 0)
  (k9 (IntKind.u32.wrap (pow6 * sq7)) (IntKind.u32.wrap (sq7 * sq7)) (shR .i64 i8 1) w10)
  (k9 pow6 (IntKind.u32.wrap (sq7 * sq7)) (shR .i64 i8 1) w10))
  (K (hash1, pow6) w10)) w4)) w
def internal_bytealg_hashStr_string_ann : Ann := (.s .d (.s .d (.s (.s .d (.b (.l [(.s 4, (rI .u32)), (.s 5, (rI .i64))] (.s (.s .d (.c .d .d)) (.s (.b (.r [(4, .rd (rI .u8))])) .d))))) (.s .d (.s (.s .d (.b (.l [(.s 6, (rI .u32)), (.s 7, (rI .u32)), (.s 8, (rI .i64))] (.s (.s .d (.c .d .d)) (.s (.b (.s (.s .d (.c .d .d)) .d)) .d))))) (.s .d .d))))))
theorem internal_bytealg_hashStr_string_calls {sep : List UInt8} {K : (Int × Int) → World → Prop} {w : World} (h : internal_bytealg_hashStr_string sep K w) : callV Pr (tval2 (Value.int .u32) (Value.int .u32)) 178 #[(sval sep)] w K :=
  calls_of Pr_plain Pr_mixed Pr_func178 internal_bytealg_hashStr_string_ann (rT2 (rI .u32) (rI .u32)) (args := [(sval sep)]) (by kernel_rfl) h

/- gosem.cut.vars -/
def gosem_cut_vars (K : Unit → World → Prop) (w : World) : Prop :=
  opUn Pr (Instr.storeAt 204 (.pointer (some g_math_bits_deBruijn32tab)) (.agg ⟨[(.int .u8 0), (.int .u8 1), (.int .u8 28), (.int .u8 2), (.int .u8 29), (.int .u8 14), (.int .u8 24), (.int .u8 3), (.int .u8 30), (.int .u8 22), (.int .u8 20), (.int .u8 15), (.int .u8 25), (.int .u8 17), (.int .u8 4), (.int .u8 8), (.int .u8 31), (.int .u8 27), (.int .u8 13), (.int .u8 23), (.int .u8 21), (.int .u8 19), (.int .u8 16), (.int .u8 7), (.int .u8 26), (.int .u8 12), (.int .u8 18), (.int .u8 6), (.int .u8 11), (.int .u8 5), (.int .u8 10), (.int .u8 9)]⟩)) (fun w1 =>
  opUn Pr (Instr.storeAt 205 (.pointer (some g_math_bits_deBruijn64tab)) (.agg ⟨[(.int .u8 0), (.int .u8 1), (.int .u8 56), (.int .u8 2), (.int .u8 57), (.int .u8 49), (.int .u8 28), (.int .u8 3), (.int .u8 61), (.int .u8 58), (.int .u8 42), (.int .u8 50), (.int .u8 38), (.int .u8 29), (.int .u8 17), (.int .u8 4), (.int .u8 62), (.int .u8 47), (.int .u8 59), (.int .u8 36), (.int .u8 45), (.int .u8 43), (.int .u8 51), (.int .u8 22), (.int .u8 53), (.int .u8 39), (.int .u8 33), (.int .u8 30), (.int .u8 24), (.int .u8 18), (.int .u8 12), (.int .u8 5), (.int .u8 63), (.int .u8 55), (.int .u8 48), (.int .u8 27), (.int .u8 60), (.int .u8 41), (.int .u8 37), (.int .u8 16), (.int .u8 46), (.int .u8 35), (.int .u8 44), (.int .u8 21), (.int .u8 52), (.int .u8 32), (.int .u8 23), (.int .u8 11), (.int .u8 54), (.int .u8 26), (.int .u8 40), (.int .u8 15), (.int .u8 34), (.int .u8 20), (.int .u8 31), (.int .u8 10), (.int .u8 25), (.int .u8 14), (.int .u8 19), (.int .u8 9), (.int .u8 13), (.int .u8 8), (.int .u8 7), (.int .u8 6)]⟩)) (fun w2 =>
  opUn Pr (Instr.storeAt 193 (.pointer (some g_internal_strconv_uint64pow10)) (.agg ⟨[(.int .u64 1), (.int .u64 10), (.int .u64 100), (.int .u64 1000), (.int .u64 10000), (.int .u64 100000), (.int .u64 1000000), (.int .u64 10000000), (.int .u64 100000000), (.int .u64 1000000000), (.int .u64 10000000000), (.int .u64 100000000000), (.int .u64 1000000000000), (.int .u64 10000000000000), (.int .u64 100000000000000), (.int .u64 1000000000000000), (.int .u64 10000000000000000), (.int .u64 100000000000000000), (.int .u64 1000000000000000000), (.int .u64 10000000000000000000)]⟩)) (fun w3 =>
  opUn Pr (Instr.storeAt 184 (.pointer (some g_unicode_utf8_acceptRanges)) (.agg ⟨[(.int .u8 128), (.int .u8 191), (.int .u8 160), (.int .u8 191), (.int .u8 128), (.int .u8 159), (.int .u8 144), (.int .u8 191), (.int .u8 128), (.int .u8 143), (.int .u8 0), (.int .u8 0), (.int .u8 0), (.int .u8 0), (.int .u8 0), (.int .u8 0), (.int .u8 0), (.int .u8 0), (.int .u8 0), (.int .u8 0), (.int .u8 0), (.int .u8 0), (.int .u8 0), (.int .u8 0), (.int .u8 0), (.int .u8 0), (.int .u8 0), (.int .u8 0), (.int .u8 0), (.int .u8 0), (.int .u8 0), (.int .u8 0)]⟩)) (fun w4 =>
  callV Pr vval 161 #[(sval cs18_78615)] w4 fun t5 w6 =>
  opUn Pr (Instr.storeAt 130 (.pointer (some g_strconv_ErrRange)) t5) (fun w7 =>
  callV Pr vval 161 #[(sval cs14_36949)] w7 fun t8 w9 =>
  opUn Pr (Instr.storeAt 130 (.pointer (some g_strconv_ErrSyntax)) t8) (fun w10 =>
  K () w10) w9) w6) w3) w2) w1) w
def gosem_cut_vars_ann : Ann := (.s (.r [(1, .un)]) (.s (.r [(1, .un)]) (.s (.r [(1, .un)]) (.s (.r [(6, .un)]) (.s (.r [(0, .call rV), (1, .un)]) (.r [(0, .call rV), (1, .un)]))))))
theorem gosem_cut_vars_calls {K : Unit → World → Prop} {w : World} (h : gosem_cut_vars K w) : callV Pr uval 210 #[] w K :=
  calls_of Pr_plain Pr_mixed Pr_func210 gosem_cut_vars_ann rU (args := []) (by kernel_rfl) h

/- (changeover/cmd.part).number -/
def cmd_part_number_0 (c : Option Addr) (f : Int) (K : (Bool × Bool) → World → Prop) (w : World) : Prop :=
  newV (fun b1 w2 =>
  callV Pr vval 88 #[(.pointer c)] w2 fun t3 w4 =>
  kp b1 w2 w4 <|
  opRd Pr (Instr.typeAssert t3 20 98 true) (tval2 Value.pointer Value.bool) (fun t5 =>
  ifB (!t5.2)
  (K (true, true) w4)
  (ifB ((bAnd .i64 f 1) == 0)
  (drewM (fun w6 =>
  opRd Pr (nilSem (.pointer t5.1)) pav (fun t7 =>
  opRd Pr (Instr.loadAt 3 (.pointer (some t7))) (Value.int .i64) (fun t8 =>
  K (true, (t8 == 0)) w6) w6) w6) w4)
  (drewM (fun w9 =>
  opRd Pr (nilSem (.pointer t5.1)) pav (fun t10 =>
  opRd Pr (Instr.loadAt 3 (.pointer (some t10))) (Value.int .i64) (fun t11 =>
  ifB (decide (t11 ≥ 1))
  (opRd Pr (nilSem (.pointer t5.1)) pav (fun t12 =>
  opRd Pr (Instr.loadAt 3 (.pointer (some t12))) (Value.int .i64) (fun t13 =>
  K ((decide (t13 ≤ 8)), true) w9) w9) w9)
  (K (false, true) w9)) w9) w9) w4))) w4) w
def cmd_part_number_0_ann : Ann := (.s (.r [(0, .nl 3)]) (.s (.r [(3, .call rV), (4, .rd (rT2 rP rB))]) (.s (.s .d (.c (.s .d .d) .d)) (.s (.s .d (.c (.s (.r [(1, .rd rPA), (2, .rd (rI .i64))]) .d) .d)) (.s (.r [(1, .rd rPA), (2, .rd (rI .i64)), (6, .rd rPA), (7, .rd (rI .i64))]) .d)))))
theorem cmd_part_number_0_calls {c : Option Addr} {f : Int} {K : (Bool × Bool) → World → Prop} {w : World} (h : cmd_part_number_0 c f K w) : callV Pr (tval2 Value.bool Value.bool) 105 #[(.agg ⟨[(.int .i64 1), (.int .i64 8), .nilFunc, (.func (.func 88) #[] #[])]⟩), (.pointer c), (.int .i64 f)] w K :=
  calls_of Pr_plain Pr_mixed Pr_func105 cmd_part_number_0_ann (rT2 rB rB) (args := [(.agg ⟨[(.int .i64 1), (.int .i64 8), .nilFunc, (.func (.func 88) #[] #[])]⟩), (.pointer c), (.int .i64 f)]) (by kernel_rfl) h

/- (changeover/cmd.part).number -/
def cmd_part_number_1 (c : Option Addr) (f : Int) (K : (Bool × Bool) → World → Prop) (w : World) : Prop :=
  newV (fun b1 w2 =>
  callV Pr vval 89 #[(.pointer c)] w2 fun t3 w4 =>
  kp b1 w2 w4 <|
  opRd Pr (Instr.typeAssert t3 20 98 true) (tval2 Value.pointer Value.bool) (fun t5 =>
  ifB (!t5.2)
  (K (true, true) w4)
  (ifB ((bAnd .i64 f 1) == 0)
  (drewM (fun w6 =>
  opRd Pr (nilSem (.pointer t5.1)) pav (fun t7 =>
  opRd Pr (Instr.loadAt 3 (.pointer (some t7))) (Value.int .i64) (fun t8 =>
  K (true, (t8 == 0)) w6) w6) w6) w4)
  (drewM (fun w9 =>
  opRd Pr (nilSem (.pointer t5.1)) pav (fun t10 =>
  opRd Pr (Instr.loadAt 3 (.pointer (some t10))) (Value.int .i64) (fun t11 =>
  ifB (decide (t11 ≥ 1))
  (opRd Pr (nilSem (.pointer t5.1)) pav (fun t12 =>
  opRd Pr (Instr.loadAt 3 (.pointer (some t12))) (Value.int .i64) (fun t13 =>
  K ((decide (t13 ≤ 4294967296)), true) w9) w9) w9)
  (K (false, true) w9)) w9) w9) w4))) w4) w
def cmd_part_number_1_ann : Ann := (.s (.r [(0, .nl 3)]) (.s (.r [(3, .call rV), (4, .rd (rT2 rP rB))]) (.s (.s .d (.c (.s .d .d) .d)) (.s (.s .d (.c (.s (.r [(1, .rd rPA), (2, .rd (rI .i64))]) .d) .d)) (.s (.r [(1, .rd rPA), (2, .rd (rI .i64)), (6, .rd rPA), (7, .rd (rI .i64))]) .d)))))
theorem cmd_part_number_1_calls {c : Option Addr} {f : Int} {K : (Bool × Bool) → World → Prop} {w : World} (h : cmd_part_number_1 c f K w) : callV Pr (tval2 Value.bool Value.bool) 105 #[(.agg ⟨[(.int .i64 1), (.int .i64 4294967296), .nilFunc, (.func (.func 89) #[] #[])]⟩), (.pointer c), (.int .i64 f)] w K :=
  calls_of Pr_plain Pr_mixed Pr_func105 cmd_part_number_1_ann (rT2 rB rB) (args := [(.agg ⟨[(.int .i64 1), (.int .i64 4294967296), .nilFunc, (.func (.func 89) #[] #[])]⟩), (.pointer c), (.int .i64 f)]) (by kernel_rfl) h

/- (changeover/cmd.part).number -/
def cmd_part_number_2 (c : Option Addr) (f : Int) (K : (Bool × Bool) → World → Prop) (w : World) : Prop :=
  newV (fun b1 w2 =>
  callV Pr vval 91 #[(.pointer c)] w2 fun t3 w4 =>
  kp b1 w2 w4 <|
  opRd Pr (Instr.typeAssert t3 20 98 true) (tval2 Value.pointer Value.bool) (fun t5 =>
  ifB (!t5.2)
  (K (true, true) w4)
  (ifB ((bAnd .i64 f 2) == 0)
  (drewM (fun w6 =>
  opRd Pr (nilSem (.pointer t5.1)) pav (fun t7 =>
  opRd Pr (Instr.loadAt 3 (.pointer (some t7))) (Value.int .i64) (fun t8 =>
  K (true, (t8 == 0)) w6) w6) w6) w4)
  (drewM (fun w9 =>
  opRd Pr (nilSem (.pointer t5.1)) pav (fun t10 =>
  opRd Pr (Instr.loadAt 3 (.pointer (some t10))) (Value.int .i64) (fun t11 =>
  ifB (decide (t11 ≥ 1))
  (opRd Pr (nilSem (.pointer t5.1)) pav (fun t12 =>
  opRd Pr (Instr.loadAt 3 (.pointer (some t12))) (Value.int .i64) (fun t13 =>
  K ((decide (t13 ≤ 0)), true) w9) w9) w9)
  (K (false, true) w9)) w9) w9) w4))) w4) w
def cmd_part_number_2_ann : Ann := (.s (.r [(0, .nl 3)]) (.s (.r [(3, .call rV), (4, .rd (rT2 rP rB))]) (.s (.s .d (.c (.s .d .d) .d)) (.s (.s .d (.c (.s (.r [(1, .rd rPA), (2, .rd (rI .i64))]) .d) .d)) (.s (.r [(1, .rd rPA), (2, .rd (rI .i64)), (6, .rd rPA), (7, .rd (rI .i64))]) .d)))))
theorem cmd_part_number_2_calls {c : Option Addr} {f : Int} {K : (Bool × Bool) → World → Prop} {w : World} (h : cmd_part_number_2 c f K w) : callV Pr (tval2 Value.bool Value.bool) 105 #[(.agg ⟨[(.int .i64 2), (.int .i64 0), (.func (.func 90) #[] #[]), (.func (.func 91) #[] #[])]⟩), (.pointer c), (.int .i64 f)] w K :=
  calls_of Pr_plain Pr_mixed Pr_func105 cmd_part_number_2_ann (rT2 rB rB) (args := [(.agg ⟨[(.int .i64 2), (.int .i64 0), (.func (.func 90) #[] #[]), (.func (.func 91) #[] #[])]⟩), (.pointer c), (.int .i64 f)]) (by kernel_rfl) h

/- (changeover/cmd.part).number -/
def cmd_part_number_3 (c : Option Addr) (f : Int) (K : (Bool × Bool) → World → Prop) (w : World) : Prop :=
  newV (fun b1 w2 =>
  callV Pr vval 93 #[(.pointer c)] w2 fun t3 w4 =>
  kp b1 w2 w4 <|
  opRd Pr (Instr.typeAssert t3 20 98 true) (tval2 Value.pointer Value.bool) (fun t5 =>
  ifB (!t5.2)
  (K (true, true) w4)
  (ifB ((bAnd .i64 f 4) == 0)
  (drewM (fun w6 =>
  opRd Pr (nilSem (.pointer t5.1)) pav (fun t7 =>
  opRd Pr (Instr.loadAt 3 (.pointer (some t7))) (Value.int .i64) (fun t8 =>
  K (true, (t8 == 0)) w6) w6) w6) w4)
  (drewM (fun w9 =>
  opRd Pr (nilSem (.pointer t5.1)) pav (fun t10 =>
  opRd Pr (Instr.loadAt 3 (.pointer (some t10))) (Value.int .i64) (fun t11 =>
  ifB (decide (t11 ≥ 1))
  (opRd Pr (nilSem (.pointer t5.1)) pav (fun t12 =>
  opRd Pr (Instr.loadAt 3 (.pointer (some t12))) (Value.int .i64) (fun t13 =>
  K ((decide (t13 ≤ 0)), true) w9) w9) w9)
  (K (false, true) w9)) w9) w9) w4))) w4) w
def cmd_part_number_3_ann : Ann := (.s (.r [(0, .nl 3)]) (.s (.r [(3, .call rV), (4, .rd (rT2 rP rB))]) (.s (.s .d (.c (.s .d .d) .d)) (.s (.s .d (.c (.s (.r [(1, .rd rPA), (2, .rd (rI .i64))]) .d) .d)) (.s (.r [(1, .rd rPA), (2, .rd (rI .i64)), (6, .rd rPA), (7, .rd (rI .i64))]) .d)))))
theorem cmd_part_number_3_calls {c : Option Addr} {f : Int} {K : (Bool × Bool) → World → Prop} {w : World} (h : cmd_part_number_3 c f K w) : callV Pr (tval2 Value.bool Value.bool) 105 #[(.agg ⟨[(.int .i64 4), (.int .i64 0), (.func (.func 92) #[] #[]), (.func (.func 93) #[] #[])]⟩), (.pointer c), (.int .i64 f)] w K :=
  calls_of Pr_plain Pr_mixed Pr_func105 cmd_part_number_3_ann (rT2 rB rB) (args := [(.agg ⟨[(.int .i64 4), (.int .i64 0), (.func (.func 92) #[] #[]), (.func (.func 93) #[] #[])]⟩), (.pointer c), (.int .i64 f)]) (by kernel_rfl) h

/- (changeover/cmd.part).number -/
def cmd_part_number_4 (c : Option Addr) (f : Int) (K : (Bool × Bool) → World → Prop) (w : World) : Prop :=
  newV (fun b1 w2 =>
  callV Pr vval 94 #[(.pointer c)] w2 fun t3 w4 =>
  kp b1 w2 w4 <|
  opRd Pr (Instr.typeAssert t3 20 98 true) (tval2 Value.pointer Value.bool) (fun t5 =>
  ifB (!t5.2)
  (K (true, true) w4)
  (ifB ((bAnd .i64 f 8) == 0)
  (drewM (fun w6 =>
  opRd Pr (nilSem (.pointer t5.1)) pav (fun t7 =>
  opRd Pr (Instr.loadAt 3 (.pointer (some t7))) (Value.int .i64) (fun t8 =>
  K (true, (t8 == 0)) w6) w6) w6) w4)
  (drewM (fun w9 =>
  opRd Pr (nilSem (.pointer t5.1)) pav (fun t10 =>
  opRd Pr (Instr.loadAt 3 (.pointer (some t10))) (Value.int .i64) (fun t11 =>
  ifB (decide (t11 ≥ 1))
  (opRd Pr (nilSem (.pointer t5.1)) pav (fun t12 =>
  opRd Pr (Instr.loadAt 3 (.pointer (some t12))) (Value.int .i64) (fun t13 =>
  K ((decide (t13 ≤ 0)), true) w9) w9) w9)
  (K (false, true) w9)) w9) w9) w4))) w4) w
def cmd_part_number_4_ann : Ann := (.s (.r [(0, .nl 3)]) (.s (.r [(3, .call rV), (4, .rd (rT2 rP rB))]) (.s (.s .d (.c (.s .d .d) .d)) (.s (.s .d (.c (.s (.r [(1, .rd rPA), (2, .rd (rI .i64))]) .d) .d)) (.s (.r [(1, .rd rPA), (2, .rd (rI .i64)), (6, .rd rPA), (7, .rd (rI .i64))]) .d)))))
theorem cmd_part_number_4_calls {c : Option Addr} {f : Int} {K : (Bool × Bool) → World → Prop} {w : World} (h : cmd_part_number_4 c f K w) : callV Pr (tval2 Value.bool Value.bool) 105 #[(.agg ⟨[(.int .i64 8), (.int .i64 0), (.func (.func 92) #[] #[]), (.func (.func 94) #[] #[])]⟩), (.pointer c), (.int .i64 f)] w K :=
  calls_of Pr_plain Pr_mixed Pr_func105 cmd_part_number_4_ann (rT2 rB rB) (args := [(.agg ⟨[(.int .i64 8), (.int .i64 0), (.func (.func 92) #[] #[]), (.func (.func 94) #[] #[])]⟩), (.pointer c), (.int .i64 f)]) (by kernel_rfl) h

/- (changeover/cmd.part).number -/
def cmd_part_number_5 (c : Option Addr) (f : Int) (K : (Bool × Bool) → World → Prop) (w : World) : Prop :=
  newV (fun b1 w2 =>
  callV Pr vval 95 #[(.pointer c)] w2 fun t3 w4 =>
  kp b1 w2 w4 <|
  opRd Pr (Instr.typeAssert t3 20 98 true) (tval2 Value.pointer Value.bool) (fun t5 =>
  ifB (!t5.2)
  (K (true, true) w4)
  (ifB ((bAnd .i64 f 16) == 0)
  (drewM (fun w6 =>
  opRd Pr (nilSem (.pointer t5.1)) pav (fun t7 =>
  opRd Pr (Instr.loadAt 3 (.pointer (some t7))) (Value.int .i64) (fun t8 =>
  K (true, (t8 == 0)) w6) w6) w6) w4)
  (drewM (fun w9 =>
  opRd Pr (nilSem (.pointer t5.1)) pav (fun t10 =>
  opRd Pr (Instr.loadAt 3 (.pointer (some t10))) (Value.int .i64) (fun t11 =>
  ifB (decide (t11 ≥ 1))
  (opRd Pr (nilSem (.pointer t5.1)) pav (fun t12 =>
  opRd Pr (Instr.loadAt 3 (.pointer (some t12))) (Value.int .i64) (fun t13 =>
  K ((decide (t13 ≤ 9)), true) w9) w9) w9)
  (K (false, true) w9)) w9) w9) w4))) w4) w
def cmd_part_number_5_ann : Ann := (.s (.r [(0, .nl 3)]) (.s (.r [(3, .call rV), (4, .rd (rT2 rP rB))]) (.s (.s .d (.c (.s .d .d) .d)) (.s (.s .d (.c (.s (.r [(1, .rd rPA), (2, .rd (rI .i64))]) .d) .d)) (.s (.r [(1, .rd rPA), (2, .rd (rI .i64)), (6, .rd rPA), (7, .rd (rI .i64))]) .d)))))
theorem cmd_part_number_5_calls {c : Option Addr} {f : Int} {K : (Bool × Bool) → World → Prop} {w : World} (h : cmd_part_number_5 c f K w) : callV Pr (tval2 Value.bool Value.bool) 105 #[(.agg ⟨[(.int .i64 16), (.int .i64 9), .nilFunc, (.func (.func 95) #[] #[])]⟩), (.pointer c), (.int .i64 f)] w K :=
  calls_of Pr_plain Pr_mixed Pr_func105 cmd_part_number_5_ann (rT2 rB rB) (args := [(.agg ⟨[(.int .i64 16), (.int .i64 9), .nilFunc, (.func (.func 95) #[] #[])]⟩), (.pointer c), (.int .i64 f)]) (by kernel_rfl) h

/- (changeover/cmd.part).text -/
def cmd_part_text_0 (c : Option Addr) (f : Int) (K : (Bool × Bool) → World → Prop) (w : World) : Prop :=
  newV (fun b1 w2 =>
  callV Pr vval 88 #[(.pointer c)] w2 fun t3 w4 =>
  kp b1 w2 w4 <|
  opRd Pr (Instr.typeAssert t3 20 99 true) (tval2 Value.pointer Value.bool) (fun t5 =>
  ifB (!t5.2)
  (K (true, true) w4)
  (ifB ((bAnd .i64 f 1) == 0)
  (drewM (fun w6 =>
  opRd Pr (nilSem (.pointer t5.1)) pav (fun t7 =>
  opRd Pr (Instr.loadAt 9 (.pointer (some t7))) sval (fun t8 =>
  K (true, (strEq t8 [])) w6) w6) w6) w4)
  (heldM (fun S10 w9 =>
  opH Pr S10 (nilSem (.pointer t5.1)) pav (fun t11 =>
  opH Pr S10 (Instr.loadAt 9 (.pointer (some t11))) sval (fun t12 =>
  False))) w4))) w4) w
def cmd_part_text_0_ann : Ann := (.s (.r [(0, .nl 3)]) (.s (.r [(3, .call rV), (4, .rd (rT2 rP rB))]) (.s (.s .d (.c (.s .d .d) .d)) (.s (.s .d (.c (.s (.r [(1, .rd rPA), (2, .rd rS)]) .d) .d)) (.s (.h (.take 0 (.take 1 (.take 2 (.take 3 (.take 4 (.one 5 (.take 6 (.take 7 .done)))))))) [(3, .rd rPA), (4, .rd rS), (5, .call rB)]) .d)))))
theorem cmd_part_text_0_calls {c : Option Addr} {f : Int} {K : (Bool × Bool) → World → Prop} {w : World} (h : cmd_part_text_0 c f K w) : callV Pr (tval2 Value.bool Value.bool) 106 #[(.agg ⟨[(.int .i64 1), (.int .i64 8), .nilFunc, (.func (.func 88) #[] #[])]⟩), (.pointer c), (.int .i64 f)] w K :=
  calls_of Pr_plain Pr_mixed Pr_func106 cmd_part_text_0_ann (rT2 rB rB) (args := [(.agg ⟨[(.int .i64 1), (.int .i64 8), .nilFunc, (.func (.func 88) #[] #[])]⟩), (.pointer c), (.int .i64 f)]) (by kernel_rfl) h

/- (changeover/cmd.part).text -/
def cmd_part_text_1 (c : Option Addr) (f : Int) (K : (Bool × Bool) → World → Prop) (w : World) : Prop :=
  newV (fun b1 w2 =>
  callV Pr vval 89 #[(.pointer c)] w2 fun t3 w4 =>
  kp b1 w2 w4 <|
  opRd Pr (Instr.typeAssert t3 20 99 true) (tval2 Value.pointer Value.bool) (fun t5 =>
  ifB (!t5.2)
  (K (true, true) w4)
  (ifB ((bAnd .i64 f 1) == 0)
  (drewM (fun w6 =>
  opRd Pr (nilSem (.pointer t5.1)) pav (fun t7 =>
  opRd Pr (Instr.loadAt 9 (.pointer (some t7))) sval (fun t8 =>
  K (true, (strEq t8 [])) w6) w6) w6) w4)
  (heldM (fun S10 w9 =>
  opH Pr S10 (nilSem (.pointer t5.1)) pav (fun t11 =>
  opH Pr S10 (Instr.loadAt 9 (.pointer (some t11))) sval (fun t12 =>
  False))) w4))) w4) w
def cmd_part_text_1_ann : Ann := (.s (.r [(0, .nl 3)]) (.s (.r [(3, .call rV), (4, .rd (rT2 rP rB))]) (.s (.s .d (.c (.s .d .d) .d)) (.s (.s .d (.c (.s (.r [(1, .rd rPA), (2, .rd rS)]) .d) .d)) (.s (.h (.take 0 (.take 1 (.take 2 (.take 3 (.take 4 (.one 5 (.take 6 (.take 7 .done)))))))) [(3, .rd rPA), (4, .rd rS), (5, .call rB)]) .d)))))
theorem cmd_part_text_1_calls {c : Option Addr} {f : Int} {K : (Bool × Bool) → World → Prop} {w : World} (h : cmd_part_text_1 c f K w) : callV Pr (tval2 Value.bool Value.bool) 106 #[(.agg ⟨[(.int .i64 1), (.int .i64 4294967296), .nilFunc, (.func (.func 89) #[] #[])]⟩), (.pointer c), (.int .i64 f)] w K :=
  calls_of Pr_plain Pr_mixed Pr_func106 cmd_part_text_1_ann (rT2 rB rB) (args := [(.agg ⟨[(.int .i64 1), (.int .i64 4294967296), .nilFunc, (.func (.func 89) #[] #[])]⟩), (.pointer c), (.int .i64 f)]) (by kernel_rfl) h

/- (changeover/cmd.part).text -/
def cmd_part_text_2 (c : Option Addr) (f : Int) (K : (Bool × Bool) → World → Prop) (w : World) : Prop :=
  newV (fun b1 w2 =>
  callV Pr vval 91 #[(.pointer c)] w2 fun t3 w4 =>
  kp b1 w2 w4 <|
  opRd Pr (Instr.typeAssert t3 20 99 true) (tval2 Value.pointer Value.bool) (fun t5 =>
  ifB (!t5.2)
  (K (true, true) w4)
  (ifB ((bAnd .i64 f 2) == 0)
  (drewM (fun w6 =>
  opRd Pr (nilSem (.pointer t5.1)) pav (fun t7 =>
  opRd Pr (Instr.loadAt 9 (.pointer (some t7))) sval (fun t8 =>
  K (true, (strEq t8 [])) w6) w6) w6) w4)
  (heldM (fun S10 w9 =>
  opH Pr S10 (nilSem (.pointer t5.1)) pav (fun t11 =>
  opH Pr S10 (Instr.loadAt 9 (.pointer (some t11))) sval (fun t12 =>
  callV Pr Value.bool 90 #[(sval t12)] w9 fun t13 w14 =>
  kp b1 w9 w14 <|
  (S10 w14) ∧
  (K (t13, true) w14)))) w4))) w4) w
def cmd_part_text_2_ann : Ann := (.s (.r [(0, .nl 3)]) (.s (.r [(3, .call rV), (4, .rd (rT2 rP rB))]) (.s (.s .d (.c (.s .d .d) .d)) (.s (.s .d (.c (.s (.r [(1, .rd rPA), (2, .rd rS)]) .d) .d)) (.s (.h (.take 0 (.take 1 (.take 2 (.take 3 (.take 4 (.one 5 (.take 6 (.take 7 .done)))))))) [(3, .rd rPA), (4, .rd rS), (5, .call rB)]) .d)))))
theorem cmd_part_text_2_calls {c : Option Addr} {f : Int} {K : (Bool × Bool) → World → Prop} {w : World} (h : cmd_part_text_2 c f K w) : callV Pr (tval2 Value.bool Value.bool) 106 #[(.agg ⟨[(.int .i64 2), (.int .i64 0), (.func (.func 90) #[] #[]), (.func (.func 91) #[] #[])]⟩), (.pointer c), (.int .i64 f)] w K :=
  calls_of Pr_plain Pr_mixed Pr_func106 cmd_part_text_2_ann (rT2 rB rB) (args := [(.agg ⟨[(.int .i64 2), (.int .i64 0), (.func (.func 90) #[] #[]), (.func (.func 91) #[] #[])]⟩), (.pointer c), (.int .i64 f)]) (by kernel_rfl) h

/- (changeover/cmd.part).text -/
def cmd_part_text_3 (c : Option Addr) (f : Int) (K : (Bool × Bool) → World → Prop) (w : World) : Prop :=
  newV (fun b1 w2 =>
  callV Pr vval 93 #[(.pointer c)] w2 fun t3 w4 =>
  kp b1 w2 w4 <|
  opRd Pr (Instr.typeAssert t3 20 99 true) (tval2 Value.pointer Value.bool) (fun t5 =>
  ifB (!t5.2)
  (K (true, true) w4)
  (ifB ((bAnd .i64 f 4) == 0)
  (drewM (fun w6 =>
  opRd Pr (nilSem (.pointer t5.1)) pav (fun t7 =>
  opRd Pr (Instr.loadAt 9 (.pointer (some t7))) sval (fun t8 =>
  K (true, (strEq t8 [])) w6) w6) w6) w4)
  (heldM (fun S10 w9 =>
  opH Pr S10 (nilSem (.pointer t5.1)) pav (fun t11 =>
  opH Pr S10 (Instr.loadAt 9 (.pointer (some t11))) sval (fun t12 =>
  callV Pr Value.bool 92 #[(sval t12)] w9 fun t13 w14 =>
  kp b1 w9 w14 <|
  (S10 w14) ∧
  (K (t13, true) w14)))) w4))) w4) w
def cmd_part_text_3_ann : Ann := (.s (.r [(0, .nl 3)]) (.s (.r [(3, .call rV), (4, .rd (rT2 rP rB))]) (.s (.s .d (.c (.s .d .d) .d)) (.s (.s .d (.c (.s (.r [(1, .rd rPA), (2, .rd rS)]) .d) .d)) (.s (.h (.take 0 (.take 1 (.take 2 (.take 3 (.take 4 (.one 5 (.take 6 (.take 7 .done)))))))) [(3, .rd rPA), (4, .rd rS), (5, .call rB)]) .d)))))
theorem cmd_part_text_3_calls {c : Option Addr} {f : Int} {K : (Bool × Bool) → World → Prop} {w : World} (h : cmd_part_text_3 c f K w) : callV Pr (tval2 Value.bool Value.bool) 106 #[(.agg ⟨[(.int .i64 4), (.int .i64 0), (.func (.func 92) #[] #[]), (.func (.func 93) #[] #[])]⟩), (.pointer c), (.int .i64 f)] w K :=
  calls_of Pr_plain Pr_mixed Pr_func106 cmd_part_text_3_ann (rT2 rB rB) (args := [(.agg ⟨[(.int .i64 4), (.int .i64 0), (.func (.func 92) #[] #[]), (.func (.func 93) #[] #[])]⟩), (.pointer c), (.int .i64 f)]) (by kernel_rfl) h

/- (changeover/cmd.part).text -/
def cmd_part_text_4 (c : Option Addr) (f : Int) (K : (Bool × Bool) → World → Prop) (w : World) : Prop :=
  newV (fun b1 w2 =>
  callV Pr vval 94 #[(.pointer c)] w2 fun t3 w4 =>
  kp b1 w2 w4 <|
  opRd Pr (Instr.typeAssert t3 20 99 true) (tval2 Value.pointer Value.bool) (fun t5 =>
  ifB (!t5.2)
  (K (true, true) w4)
  (ifB ((bAnd .i64 f 8) == 0)
  (drewM (fun w6 =>
  opRd Pr (nilSem (.pointer t5.1)) pav (fun t7 =>
  opRd Pr (Instr.loadAt 9 (.pointer (some t7))) sval (fun t8 =>
  K (true, (strEq t8 [])) w6) w6) w6) w4)
  (heldM (fun S10 w9 =>
  opH Pr S10 (nilSem (.pointer t5.1)) pav (fun t11 =>
  opH Pr S10 (Instr.loadAt 9 (.pointer (some t11))) sval (fun t12 =>
  callV Pr Value.bool 92 #[(sval t12)] w9 fun t13 w14 =>
  kp b1 w9 w14 <|
  (S10 w14) ∧
  (K (t13, true) w14)))) w4))) w4) w
def cmd_part_text_4_ann : Ann := (.s (.r [(0, .nl 3)]) (.s (.r [(3, .call rV), (4, .rd (rT2 rP rB))]) (.s (.s .d (.c (.s .d .d) .d)) (.s (.s .d (.c (.s (.r [(1, .rd rPA), (2, .rd rS)]) .d) .d)) (.s (.h (.take 0 (.take 1 (.take 2 (.take 3 (.take 4 (.one 5 (.take 6 (.take 7 .done)))))))) [(3, .rd rPA), (4, .rd rS), (5, .call rB)]) .d)))))
theorem cmd_part_text_4_calls {c : Option Addr} {f : Int} {K : (Bool × Bool) → World → Prop} {w : World} (h : cmd_part_text_4 c f K w) : callV Pr (tval2 Value.bool Value.bool) 106 #[(.agg ⟨[(.int .i64 8), (.int .i64 0), (.func (.func 92) #[] #[]), (.func (.func 94) #[] #[])]⟩), (.pointer c), (.int .i64 f)] w K :=
  calls_of Pr_plain Pr_mixed Pr_func106 cmd_part_text_4_ann (rT2 rB rB) (args := [(.agg ⟨[(.int .i64 8), (.int .i64 0), (.func (.func 92) #[] #[]), (.func (.func 94) #[] #[])]⟩), (.pointer c), (.int .i64 f)]) (by kernel_rfl) h

/- (changeover/cmd.part).text -/
def cmd_part_text_5 (c : Option Addr) (f : Int) (K : (Bool × Bool) → World → Prop) (w : World) : Prop :=
  newV (fun b1 w2 =>
  callV Pr vval 95 #[(.pointer c)] w2 fun t3 w4 =>
  kp b1 w2 w4 <|
  opRd Pr (Instr.typeAssert t3 20 99 true) (tval2 Value.pointer Value.bool) (fun t5 =>
  ifB (!t5.2)
  (K (true, true) w4)
  (ifB ((bAnd .i64 f 16) == 0)
  (drewM (fun w6 =>
  opRd Pr (nilSem (.pointer t5.1)) pav (fun t7 =>
  opRd Pr (Instr.loadAt 9 (.pointer (some t7))) sval (fun t8 =>
  K (true, (strEq t8 [])) w6) w6) w6) w4)
  (heldM (fun S10 w9 =>
  opH Pr S10 (nilSem (.pointer t5.1)) pav (fun t11 =>
  opH Pr S10 (Instr.loadAt 9 (.pointer (some t11))) sval (fun t12 =>
  False))) w4))) w4) w
def cmd_part_text_5_ann : Ann := (.s (.r [(0, .nl 3)]) (.s (.r [(3, .call rV), (4, .rd (rT2 rP rB))]) (.s (.s .d (.c (.s .d .d) .d)) (.s (.s .d (.c (.s (.r [(1, .rd rPA), (2, .rd rS)]) .d) .d)) (.s (.h (.take 0 (.take 1 (.take 2 (.take 3 (.take 4 (.one 5 (.take 6 (.take 7 .done)))))))) [(3, .rd rPA), (4, .rd rS), (5, .call rB)]) .d)))))
theorem cmd_part_text_5_calls {c : Option Addr} {f : Int} {K : (Bool × Bool) → World → Prop} {w : World} (h : cmd_part_text_5 c f K w) : callV Pr (tval2 Value.bool Value.bool) 106 #[(.agg ⟨[(.int .i64 16), (.int .i64 9), .nilFunc, (.func (.func 95) #[] #[])]⟩), (.pointer c), (.int .i64 f)] w K :=
  calls_of Pr_plain Pr_mixed Pr_func106 cmd_part_text_5_ann (rT2 rB rB) (args := [(.agg ⟨[(.int .i64 16), (.int .i64 9), .nilFunc, (.func (.func 95) #[] #[])]⟩), (.pointer c), (.int .i64 f)]) (by kernel_rfl) h

/- (changeover/cmd.part).write -/
def cmd_part_write_0 (w_ : Option Addr) (c : Option Addr) (K : Unit → World → Prop) (w : World) : Prop :=
  newV (fun b1 w2 =>
  callV Pr vval 88 #[(.pointer c)] w2 fun t3 w4 =>
  kp b1 w2 w4 <|
  opRd Pr (Instr.typeAssert t3 20 98 true) (tval2 Value.pointer Value.bool) (fun t5 =>
  ifB t5.2
  (opRd Pr (nilSem (.pointer t5.1)) pav (fun t6 =>
  opRd Pr (Instr.loadAt 3 (.pointer (some t6))) (Value.int .i64) (fun t7 =>
  callV Pr uval 35 #[(.pointer w_), (.int .i64 t7)] w4 fun t8 w9 =>
  kp b1 w4 w9 <|
  K () w9) w4) w4)
  (callV Pr vval 88 #[(.pointer c)] w4 fun t10 w11 =>
  kp b1 w4 w11 <|
  opRd Pr (Instr.typeAssert t10 20 99 false) Value.pointer (fun t12 =>
  opRd Pr (nilSem (.pointer t12)) pav (fun t13 =>
  opRd Pr (Instr.loadAt 9 (.pointer (some t13))) sval (fun t14 =>
  callV Pr uval 97 #[(.pointer w_), (sval t14)] w11 fun t15 w16 =>
  kp b1 w11 w16 <|
  K () w16) w11) w11) w11)) w4) w
def cmd_part_write_0_ann : Ann := (.s (.r [(0, .nl 3)]) (.s (.s (.r [(3, .call rV), (4, .rd (rT2 rP rB))]) (.s .d (.c (.s (.r [(2, .rd rPA), (3, .rd (rI .i64)), (4, .call rU)]) .d) .d))) (.r [(4, .call rV), (5, .rd rP), (6, .rd rPA), (7, .rd rS), (8, .call rU)])))
theorem cmd_part_write_0_calls {w_ : Option Addr} {c : Option Addr} {K : Unit → World → Prop} {w : World} (h : cmd_part_write_0 w_ c K w) : callV Pr uval 56 #[(.agg ⟨[(.int .i64 1), (.int .i64 8), .nilFunc, (.func (.func 88) #[] #[])]⟩), (.pointer w_), (.pointer c)] w K :=
  calls_of Pr_plain Pr_mixed Pr_func56 cmd_part_write_0_ann rU (args := [(.agg ⟨[(.int .i64 1), (.int .i64 8), .nilFunc, (.func (.func 88) #[] #[])]⟩), (.pointer w_), (.pointer c)]) (by kernel_rfl) h

/- (changeover/cmd.part).write -/
def cmd_part_write_1 (w_ : Option Addr) (c : Option Addr) (K : Unit → World → Prop) (w : World) : Prop :=
  newV (fun b1 w2 =>
  callV Pr vval 89 #[(.pointer c)] w2 fun t3 w4 =>
  kp b1 w2 w4 <|
  opRd Pr (Instr.typeAssert t3 20 98 true) (tval2 Value.pointer Value.bool) (fun t5 =>
  ifB t5.2
  (opRd Pr (nilSem (.pointer t5.1)) pav (fun t6 =>
  opRd Pr (Instr.loadAt 3 (.pointer (some t6))) (Value.int .i64) (fun t7 =>
  callV Pr uval 35 #[(.pointer w_), (.int .i64 t7)] w4 fun t8 w9 =>
  kp b1 w4 w9 <|
  K () w9) w4) w4)
  (callV Pr vval 89 #[(.pointer c)] w4 fun t10 w11 =>
  kp b1 w4 w11 <|
  opRd Pr (Instr.typeAssert t10 20 99 false) Value.pointer (fun t12 =>
  opRd Pr (nilSem (.pointer t12)) pav (fun t13 =>
  opRd Pr (Instr.loadAt 9 (.pointer (some t13))) sval (fun t14 =>
  callV Pr uval 97 #[(.pointer w_), (sval t14)] w11 fun t15 w16 =>
  kp b1 w11 w16 <|
  K () w16) w11) w11) w11)) w4) w
def cmd_part_write_1_ann : Ann := (.s (.r [(0, .nl 3)]) (.s (.s (.r [(3, .call rV), (4, .rd (rT2 rP rB))]) (.s .d (.c (.s (.r [(2, .rd rPA), (3, .rd (rI .i64)), (4, .call rU)]) .d) .d))) (.r [(4, .call rV), (5, .rd rP), (6, .rd rPA), (7, .rd rS), (8, .call rU)])))
theorem cmd_part_write_1_calls {w_ : Option Addr} {c : Option Addr} {K : Unit → World → Prop} {w : World} (h : cmd_part_write_1 w_ c K w) : callV Pr uval 56 #[(.agg ⟨[(.int .i64 1), (.int .i64 4294967296), .nilFunc, (.func (.func 89) #[] #[])]⟩), (.pointer w_), (.pointer c)] w K :=
  calls_of Pr_plain Pr_mixed Pr_func56 cmd_part_write_1_ann rU (args := [(.agg ⟨[(.int .i64 1), (.int .i64 4294967296), .nilFunc, (.func (.func 89) #[] #[])]⟩), (.pointer w_), (.pointer c)]) (by kernel_rfl) h

/- (changeover/cmd.part).write -/
def cmd_part_write_2 (w_ : Option Addr) (c : Option Addr) (K : Unit → World → Prop) (w : World) : Prop :=
  newV (fun b1 w2 =>
  callV Pr vval 91 #[(.pointer c)] w2 fun t3 w4 =>
  kp b1 w2 w4 <|
  opRd Pr (Instr.typeAssert t3 20 98 true) (tval2 Value.pointer Value.bool) (fun t5 =>
  ifB t5.2
  (opRd Pr (nilSem (.pointer t5.1)) pav (fun t6 =>
  opRd Pr (Instr.loadAt 3 (.pointer (some t6))) (Value.int .i64) (fun t7 =>
  callV Pr uval 35 #[(.pointer w_), (.int .i64 t7)] w4 fun t8 w9 =>
  kp b1 w4 w9 <|
  K () w9) w4) w4)
  (callV Pr vval 91 #[(.pointer c)] w4 fun t10 w11 =>
  kp b1 w4 w11 <|
  opRd Pr (Instr.typeAssert t10 20 99 false) Value.pointer (fun t12 =>
  opRd Pr (nilSem (.pointer t12)) pav (fun t13 =>
  opRd Pr (Instr.loadAt 9 (.pointer (some t13))) sval (fun t14 =>
  callV Pr uval 97 #[(.pointer w_), (sval t14)] w11 fun t15 w16 =>
  kp b1 w11 w16 <|
  K () w16) w11) w11) w11)) w4) w
def cmd_part_write_2_ann : Ann := (.s (.r [(0, .nl 3)]) (.s (.s (.r [(3, .call rV), (4, .rd (rT2 rP rB))]) (.s .d (.c (.s (.r [(2, .rd rPA), (3, .rd (rI .i64)), (4, .call rU)]) .d) .d))) (.r [(4, .call rV), (5, .rd rP), (6, .rd rPA), (7, .rd rS), (8, .call rU)])))
theorem cmd_part_write_2_calls {w_ : Option Addr} {c : Option Addr} {K : Unit → World → Prop} {w : World} (h : cmd_part_write_2 w_ c K w) : callV Pr uval 56 #[(.agg ⟨[(.int .i64 2), (.int .i64 0), (.func (.func 90) #[] #[]), (.func (.func 91) #[] #[])]⟩), (.pointer w_), (.pointer c)] w K :=
  calls_of Pr_plain Pr_mixed Pr_func56 cmd_part_write_2_ann rU (args := [(.agg ⟨[(.int .i64 2), (.int .i64 0), (.func (.func 90) #[] #[]), (.func (.func 91) #[] #[])]⟩), (.pointer w_), (.pointer c)]) (by kernel_rfl) h

/- (changeover/cmd.part).write -/
def cmd_part_write_3 (w_ : Option Addr) (c : Option Addr) (K : Unit → World → Prop) (w : World) : Prop :=
  newV (fun b1 w2 =>
  callV Pr vval 93 #[(.pointer c)] w2 fun t3 w4 =>
  kp b1 w2 w4 <|
  opRd Pr (Instr.typeAssert t3 20 98 true) (tval2 Value.pointer Value.bool) (fun t5 =>
  ifB t5.2
  (opRd Pr (nilSem (.pointer t5.1)) pav (fun t6 =>
  opRd Pr (Instr.loadAt 3 (.pointer (some t6))) (Value.int .i64) (fun t7 =>
  callV Pr uval 35 #[(.pointer w_), (.int .i64 t7)] w4 fun t8 w9 =>
  kp b1 w4 w9 <|
  K () w9) w4) w4)
  (callV Pr vval 93 #[(.pointer c)] w4 fun t10 w11 =>
  kp b1 w4 w11 <|
  opRd Pr (Instr.typeAssert t10 20 99 false) Value.pointer (fun t12 =>
  opRd Pr (nilSem (.pointer t12)) pav (fun t13 =>
  opRd Pr (Instr.loadAt 9 (.pointer (some t13))) sval (fun t14 =>
  callV Pr uval 97 #[(.pointer w_), (sval t14)] w11 fun t15 w16 =>
  kp b1 w11 w16 <|
  K () w16) w11) w11) w11)) w4) w
def cmd_part_write_3_ann : Ann := (.s (.r [(0, .nl 3)]) (.s (.s (.r [(3, .call rV), (4, .rd (rT2 rP rB))]) (.s .d (.c (.s (.r [(2, .rd rPA), (3, .rd (rI .i64)), (4, .call rU)]) .d) .d))) (.r [(4, .call rV), (5, .rd rP), (6, .rd rPA), (7, .rd rS), (8, .call rU)])))
theorem cmd_part_write_3_calls {w_ : Option Addr} {c : Option Addr} {K : Unit → World → Prop} {w : World} (h : cmd_part_write_3 w_ c K w) : callV Pr uval 56 #[(.agg ⟨[(.int .i64 4), (.int .i64 0), (.func (.func 92) #[] #[]), (.func (.func 93) #[] #[])]⟩), (.pointer w_), (.pointer c)] w K :=
  calls_of Pr_plain Pr_mixed Pr_func56 cmd_part_write_3_ann rU (args := [(.agg ⟨[(.int .i64 4), (.int .i64 0), (.func (.func 92) #[] #[]), (.func (.func 93) #[] #[])]⟩), (.pointer w_), (.pointer c)]) (by kernel_rfl) h

/- (changeover/cmd.part).write -/
def cmd_part_write_4 (w_ : Option Addr) (c : Option Addr) (K : Unit → World → Prop) (w : World) : Prop :=
  newV (fun b1 w2 =>
  callV Pr vval 94 #[(.pointer c)] w2 fun t3 w4 =>
  kp b1 w2 w4 <|
  opRd Pr (Instr.typeAssert t3 20 98 true) (tval2 Value.pointer Value.bool) (fun t5 =>
  ifB t5.2
  (opRd Pr (nilSem (.pointer t5.1)) pav (fun t6 =>
  opRd Pr (Instr.loadAt 3 (.pointer (some t6))) (Value.int .i64) (fun t7 =>
  callV Pr uval 35 #[(.pointer w_), (.int .i64 t7)] w4 fun t8 w9 =>
  kp b1 w4 w9 <|
  K () w9) w4) w4)
  (callV Pr vval 94 #[(.pointer c)] w4 fun t10 w11 =>
  kp b1 w4 w11 <|
  opRd Pr (Instr.typeAssert t10 20 99 false) Value.pointer (fun t12 =>
  opRd Pr (nilSem (.pointer t12)) pav (fun t13 =>
  opRd Pr (Instr.loadAt 9 (.pointer (some t13))) sval (fun t14 =>
  callV Pr uval 97 #[(.pointer w_), (sval t14)] w11 fun t15 w16 =>
  kp b1 w11 w16 <|
  K () w16) w11) w11) w11)) w4) w
def cmd_part_write_4_ann : Ann := (.s (.r [(0, .nl 3)]) (.s (.s (.r [(3, .call rV), (4, .rd (rT2 rP rB))]) (.s .d (.c (.s (.r [(2, .rd rPA), (3, .rd (rI .i64)), (4, .call rU)]) .d) .d))) (.r [(4, .call rV), (5, .rd rP), (6, .rd rPA), (7, .rd rS), (8, .call rU)])))
theorem cmd_part_write_4_calls {w_ : Option Addr} {c : Option Addr} {K : Unit → World → Prop} {w : World} (h : cmd_part_write_4 w_ c K w) : callV Pr uval 56 #[(.agg ⟨[(.int .i64 8), (.int .i64 0), (.func (.func 92) #[] #[]), (.func (.func 94) #[] #[])]⟩), (.pointer w_), (.pointer c)] w K :=
  calls_of Pr_plain Pr_mixed Pr_func56 cmd_part_write_4_ann rU (args := [(.agg ⟨[(.int .i64 8), (.int .i64 0), (.func (.func 92) #[] #[]), (.func (.func 94) #[] #[])]⟩), (.pointer w_), (.pointer c)]) (by kernel_rfl) h

/- (changeover/cmd.part).write -/
def cmd_part_write_5 (w_ : Option Addr) (c : Option Addr) (K : Unit → World → Prop) (w : World) : Prop :=
  newV (fun b1 w2 =>
  callV Pr vval 95 #[(.pointer c)] w2 fun t3 w4 =>
  kp b1 w2 w4 <|
  opRd Pr (Instr.typeAssert t3 20 98 true) (tval2 Value.pointer Value.bool) (fun t5 =>
  ifB t5.2
  (opRd Pr (nilSem (.pointer t5.1)) pav (fun t6 =>
  opRd Pr (Instr.loadAt 3 (.pointer (some t6))) (Value.int .i64) (fun t7 =>
  callV Pr uval 35 #[(.pointer w_), (.int .i64 t7)] w4 fun t8 w9 =>
  kp b1 w4 w9 <|
  K () w9) w4) w4)
  (callV Pr vval 95 #[(.pointer c)] w4 fun t10 w11 =>
  kp b1 w4 w11 <|
  opRd Pr (Instr.typeAssert t10 20 99 false) Value.pointer (fun t12 =>
  opRd Pr (nilSem (.pointer t12)) pav (fun t13 =>
  opRd Pr (Instr.loadAt 9 (.pointer (some t13))) sval (fun t14 =>
  callV Pr uval 97 #[(.pointer w_), (sval t14)] w11 fun t15 w16 =>
  kp b1 w11 w16 <|
  K () w16) w11) w11) w11)) w4) w
def cmd_part_write_5_ann : Ann := (.s (.r [(0, .nl 3)]) (.s (.s (.r [(3, .call rV), (4, .rd (rT2 rP rB))]) (.s .d (.c (.s (.r [(2, .rd rPA), (3, .rd (rI .i64)), (4, .call rU)]) .d) .d))) (.r [(4, .call rV), (5, .rd rP), (6, .rd rPA), (7, .rd rS), (8, .call rU)])))
theorem cmd_part_write_5_calls {w_ : Option Addr} {c : Option Addr} {K : Unit → World → Prop} {w : World} (h : cmd_part_write_5 w_ c K w) : callV Pr uval 56 #[(.agg ⟨[(.int .i64 16), (.int .i64 9), .nilFunc, (.func (.func 95) #[] #[])]⟩), (.pointer w_), (.pointer c)] w K :=
  calls_of Pr_plain Pr_mixed Pr_func56 cmd_part_write_5_ann rU (args := [(.agg ⟨[(.int .i64 16), (.int .i64 9), .nilFunc, (.func (.func 95) #[] #[])]⟩), (.pointer w_), (.pointer c)]) (by kernel_rfl) h

/- (changeover/cmd.part).read -/
def cmd_part_read_0 (r : Option Addr) (c : Option Addr) (K : Unit → World → Prop) (w : World) : Prop :=
  newV (fun b1 w2 =>
  callV Pr vval 88 #[(.pointer c)] w2 fun t3 w4 =>
  kp b1 w2 w4 <|
  opRd Pr (Instr.typeAssert t3 20 98 true) (tval2 Value.pointer Value.bool) (fun t5 =>
  ifB t5.2
  (callV Pr (Value.int .i64) 57 #[(.pointer r), (.int .i64 9223372036854775807)] w4 fun t6 w7 =>
  kp b1 w4 w7 <|
  opRd Pr (nilSem (.pointer t5.1)) pav (fun t8 =>
  opUn Pr (Instr.storeAt 3 (.pointer (some t8)) (.int .i64 t6)) (fun w9 =>
  kp b1 w7 w9 <|
  K () w9) w7) w7)
  (heldM (fun S11 w10 =>
  callV Pr vval 88 #[(.pointer c)] w10 fun t12 w13 =>
  kp b1 w10 w13 <|
  (S11 w13) ∧
  (opH Pr S11 (Instr.typeAssert t12 20 99 false) Value.pointer (fun t14 =>
  callV Pr sval 101 #[(.pointer r), (.int .i64 1048576)] w13 fun t15 w16 =>
  kp b1 w13 w16 <|
  (S11 w16) ∧
  (opH Pr S11 (nilSem (.pointer t14)) pav (fun t17 =>
  opUn Pr (Instr.storeAt 9 (.pointer (some t17)) (sval t15)) (fun w18 =>
  kp b1 w16 w18 <|
  (S11 w18) ∧
  (K () w18)) w16))))) w4)) w4) w
def cmd_part_read_0_ann : Ann := (.s (.r [(0, .nl 3)]) (.s (.s (.r [(3, .call rV), (4, .rd (rT2 rP rB))]) (.s .d (.c (.s (.r [(2, .call (rI .i64)), (3, .rd rPA), (4, .un)]) .d) .d))) (.h (.take 0 (.take 1 (.take 2 (.take 5 (.one 3 (.take 4 (.one 6 (.take 7 (.one 8 .done))))))))) [(3, .call rV), (4, .rd rP), (6, .call rS), (7, .rd rPA), (8, .un)])))
theorem cmd_part_read_0_calls {r : Option Addr} {c : Option Addr} {K : Unit → World → Prop} {w : World} (h : cmd_part_read_0 r c K w) : callV Pr uval 58 #[(.agg ⟨[(.int .i64 1), (.int .i64 8), .nilFunc, (.func (.func 88) #[] #[])]⟩), (.pointer r), (.pointer c)] w K :=
  calls_of Pr_plain Pr_mixed Pr_func58 cmd_part_read_0_ann rU (args := [(.agg ⟨[(.int .i64 1), (.int .i64 8), .nilFunc, (.func (.func 88) #[] #[])]⟩), (.pointer r), (.pointer c)]) (by kernel_rfl) h

/- (changeover/cmd.part).read -/
def cmd_part_read_1 (r : Option Addr) (c : Option Addr) (K : Unit → World → Prop) (w : World) : Prop :=
  newV (fun b1 w2 =>
  callV Pr vval 89 #[(.pointer c)] w2 fun t3 w4 =>
  kp b1 w2 w4 <|
  opRd Pr (Instr.typeAssert t3 20 98 true) (tval2 Value.pointer Value.bool) (fun t5 =>
  ifB t5.2
  (callV Pr (Value.int .i64) 57 #[(.pointer r), (.int .i64 9223372036854775807)] w4 fun t6 w7 =>
  kp b1 w4 w7 <|
  opRd Pr (nilSem (.pointer t5.1)) pav (fun t8 =>
  opUn Pr (Instr.storeAt 3 (.pointer (some t8)) (.int .i64 t6)) (fun w9 =>
  kp b1 w7 w9 <|
  K () w9) w7) w7)
  (heldM (fun S11 w10 =>
  callV Pr vval 89 #[(.pointer c)] w10 fun t12 w13 =>
  kp b1 w10 w13 <|
  (S11 w13) ∧
  (opH Pr S11 (Instr.typeAssert t12 20 99 false) Value.pointer (fun t14 =>
  callV Pr sval 101 #[(.pointer r), (.int .i64 1048576)] w13 fun t15 w16 =>
  kp b1 w13 w16 <|
  (S11 w16) ∧
  (opH Pr S11 (nilSem (.pointer t14)) pav (fun t17 =>
  opUn Pr (Instr.storeAt 9 (.pointer (some t17)) (sval t15)) (fun w18 =>
  kp b1 w16 w18 <|
  (S11 w18) ∧
  (K () w18)) w16))))) w4)) w4) w
def cmd_part_read_1_ann : Ann := (.s (.r [(0, .nl 3)]) (.s (.s (.r [(3, .call rV), (4, .rd (rT2 rP rB))]) (.s .d (.c (.s (.r [(2, .call (rI .i64)), (3, .rd rPA), (4, .un)]) .d) .d))) (.h (.take 0 (.take 1 (.take 2 (.take 5 (.one 3 (.take 4 (.one 6 (.take 7 (.one 8 .done))))))))) [(3, .call rV), (4, .rd rP), (6, .call rS), (7, .rd rPA), (8, .un)])))
theorem cmd_part_read_1_calls {r : Option Addr} {c : Option Addr} {K : Unit → World → Prop} {w : World} (h : cmd_part_read_1 r c K w) : callV Pr uval 58 #[(.agg ⟨[(.int .i64 1), (.int .i64 4294967296), .nilFunc, (.func (.func 89) #[] #[])]⟩), (.pointer r), (.pointer c)] w K :=
  calls_of Pr_plain Pr_mixed Pr_func58 cmd_part_read_1_ann rU (args := [(.agg ⟨[(.int .i64 1), (.int .i64 4294967296), .nilFunc, (.func (.func 89) #[] #[])]⟩), (.pointer r), (.pointer c)]) (by kernel_rfl) h

/- (changeover/cmd.part).read -/
def cmd_part_read_2 (r : Option Addr) (c : Option Addr) (K : Unit → World → Prop) (w : World) : Prop :=
  newV (fun b1 w2 =>
  callV Pr vval 91 #[(.pointer c)] w2 fun t3 w4 =>
  kp b1 w2 w4 <|
  opRd Pr (Instr.typeAssert t3 20 98 true) (tval2 Value.pointer Value.bool) (fun t5 =>
  ifB t5.2
  (callV Pr (Value.int .i64) 57 #[(.pointer r), (.int .i64 9223372036854775807)] w4 fun t6 w7 =>
  kp b1 w4 w7 <|
  opRd Pr (nilSem (.pointer t5.1)) pav (fun t8 =>
  opUn Pr (Instr.storeAt 3 (.pointer (some t8)) (.int .i64 t6)) (fun w9 =>
  kp b1 w7 w9 <|
  K () w9) w7) w7)
  (heldM (fun S11 w10 =>
  callV Pr vval 91 #[(.pointer c)] w10 fun t12 w13 =>
  kp b1 w10 w13 <|
  (S11 w13) ∧
  (opH Pr S11 (Instr.typeAssert t12 20 99 false) Value.pointer (fun t14 =>
  callV Pr sval 101 #[(.pointer r), (.int .i64 1048576)] w13 fun t15 w16 =>
  kp b1 w13 w16 <|
  (S11 w16) ∧
  (opH Pr S11 (nilSem (.pointer t14)) pav (fun t17 =>
  opUn Pr (Instr.storeAt 9 (.pointer (some t17)) (sval t15)) (fun w18 =>
  kp b1 w16 w18 <|
  (S11 w18) ∧
  (K () w18)) w16))))) w4)) w4) w
def cmd_part_read_2_ann : Ann := (.s (.r [(0, .nl 3)]) (.s (.s (.r [(3, .call rV), (4, .rd (rT2 rP rB))]) (.s .d (.c (.s (.r [(2, .call (rI .i64)), (3, .rd rPA), (4, .un)]) .d) .d))) (.h (.take 0 (.take 1 (.take 2 (.take 5 (.one 3 (.take 4 (.one 6 (.take 7 (.one 8 .done))))))))) [(3, .call rV), (4, .rd rP), (6, .call rS), (7, .rd rPA), (8, .un)])))
theorem cmd_part_read_2_calls {r : Option Addr} {c : Option Addr} {K : Unit → World → Prop} {w : World} (h : cmd_part_read_2 r c K w) : callV Pr uval 58 #[(.agg ⟨[(.int .i64 2), (.int .i64 0), (.func (.func 90) #[] #[]), (.func (.func 91) #[] #[])]⟩), (.pointer r), (.pointer c)] w K :=
  calls_of Pr_plain Pr_mixed Pr_func58 cmd_part_read_2_ann rU (args := [(.agg ⟨[(.int .i64 2), (.int .i64 0), (.func (.func 90) #[] #[]), (.func (.func 91) #[] #[])]⟩), (.pointer r), (.pointer c)]) (by kernel_rfl) h

/- (changeover/cmd.part).read -/
def cmd_part_read_3 (r : Option Addr) (c : Option Addr) (K : Unit → World → Prop) (w : World) : Prop :=
  newV (fun b1 w2 =>
  callV Pr vval 93 #[(.pointer c)] w2 fun t3 w4 =>
  kp b1 w2 w4 <|
  opRd Pr (Instr.typeAssert t3 20 98 true) (tval2 Value.pointer Value.bool) (fun t5 =>
  ifB t5.2
  (callV Pr (Value.int .i64) 57 #[(.pointer r), (.int .i64 9223372036854775807)] w4 fun t6 w7 =>
  kp b1 w4 w7 <|
  opRd Pr (nilSem (.pointer t5.1)) pav (fun t8 =>
  opUn Pr (Instr.storeAt 3 (.pointer (some t8)) (.int .i64 t6)) (fun w9 =>
  kp b1 w7 w9 <|
  K () w9) w7) w7)
  (heldM (fun S11 w10 =>
  callV Pr vval 93 #[(.pointer c)] w10 fun t12 w13 =>
  kp b1 w10 w13 <|
  (S11 w13) ∧
  (opH Pr S11 (Instr.typeAssert t12 20 99 false) Value.pointer (fun t14 =>
  callV Pr sval 101 #[(.pointer r), (.int .i64 1048576)] w13 fun t15 w16 =>
  kp b1 w13 w16 <|
  (S11 w16) ∧
  (opH Pr S11 (nilSem (.pointer t14)) pav (fun t17 =>
  opUn Pr (Instr.storeAt 9 (.pointer (some t17)) (sval t15)) (fun w18 =>
  kp b1 w16 w18 <|
  (S11 w18) ∧
  (K () w18)) w16))))) w4)) w4) w
def cmd_part_read_3_ann : Ann := (.s (.r [(0, .nl 3)]) (.s (.s (.r [(3, .call rV), (4, .rd (rT2 rP rB))]) (.s .d (.c (.s (.r [(2, .call (rI .i64)), (3, .rd rPA), (4, .un)]) .d) .d))) (.h (.take 0 (.take 1 (.take 2 (.take 5 (.one 3 (.take 4 (.one 6 (.take 7 (.one 8 .done))))))))) [(3, .call rV), (4, .rd rP), (6, .call rS), (7, .rd rPA), (8, .un)])))
theorem cmd_part_read_3_calls {r : Option Addr} {c : Option Addr} {K : Unit → World → Prop} {w : World} (h : cmd_part_read_3 r c K w) : callV Pr uval 58 #[(.agg ⟨[(.int .i64 4), (.int .i64 0), (.func (.func 92) #[] #[]), (.func (.func 93) #[] #[])]⟩), (.pointer r), (.pointer c)] w K :=
  calls_of Pr_plain Pr_mixed Pr_func58 cmd_part_read_3_ann rU (args := [(.agg ⟨[(.int .i64 4), (.int .i64 0), (.func (.func 92) #[] #[]), (.func (.func 93) #[] #[])]⟩), (.pointer r), (.pointer c)]) (by kernel_rfl) h

/- (changeover/cmd.part).read -/
def cmd_part_read_4 (r : Option Addr) (c : Option Addr) (K : Unit → World → Prop) (w : World) : Prop :=
  newV (fun b1 w2 =>
  callV Pr vval 94 #[(.pointer c)] w2 fun t3 w4 =>
  kp b1 w2 w4 <|
  opRd Pr (Instr.typeAssert t3 20 98 true) (tval2 Value.pointer Value.bool) (fun t5 =>
  ifB t5.2
  (callV Pr (Value.int .i64) 57 #[(.pointer r), (.int .i64 9223372036854775807)] w4 fun t6 w7 =>
  kp b1 w4 w7 <|
  opRd Pr (nilSem (.pointer t5.1)) pav (fun t8 =>
  opUn Pr (Instr.storeAt 3 (.pointer (some t8)) (.int .i64 t6)) (fun w9 =>
  kp b1 w7 w9 <|
  K () w9) w7) w7)
  (heldM (fun S11 w10 =>
  callV Pr vval 94 #[(.pointer c)] w10 fun t12 w13 =>
  kp b1 w10 w13 <|
  (S11 w13) ∧
  (opH Pr S11 (Instr.typeAssert t12 20 99 false) Value.pointer (fun t14 =>
  callV Pr sval 101 #[(.pointer r), (.int .i64 1048576)] w13 fun t15 w16 =>
  kp b1 w13 w16 <|
  (S11 w16) ∧
  (opH Pr S11 (nilSem (.pointer t14)) pav (fun t17 =>
  opUn Pr (Instr.storeAt 9 (.pointer (some t17)) (sval t15)) (fun w18 =>
  kp b1 w16 w18 <|
  (S11 w18) ∧
  (K () w18)) w16))))) w4)) w4) w
def cmd_part_read_4_ann : Ann := (.s (.r [(0, .nl 3)]) (.s (.s (.r [(3, .call rV), (4, .rd (rT2 rP rB))]) (.s .d (.c (.s (.r [(2, .call (rI .i64)), (3, .rd rPA), (4, .un)]) .d) .d))) (.h (.take 0 (.take 1 (.take 2 (.take 5 (.one 3 (.take 4 (.one 6 (.take 7 (.one 8 .done))))))))) [(3, .call rV), (4, .rd rP), (6, .call rS), (7, .rd rPA), (8, .un)])))
theorem cmd_part_read_4_calls {r : Option Addr} {c : Option Addr} {K : Unit → World → Prop} {w : World} (h : cmd_part_read_4 r c K w) : callV Pr uval 58 #[(.agg ⟨[(.int .i64 8), (.int .i64 0), (.func (.func 92) #[] #[]), (.func (.func 94) #[] #[])]⟩), (.pointer r), (.pointer c)] w K :=
  calls_of Pr_plain Pr_mixed Pr_func58 cmd_part_read_4_ann rU (args := [(.agg ⟨[(.int .i64 8), (.int .i64 0), (.func (.func 92) #[] #[]), (.func (.func 94) #[] #[])]⟩), (.pointer r), (.pointer c)]) (by kernel_rfl) h

/- (changeover/cmd.part).read -/
def cmd_part_read_5 (r : Option Addr) (c : Option Addr) (K : Unit → World → Prop) (w : World) : Prop :=
  newV (fun b1 w2 =>
  callV Pr vval 95 #[(.pointer c)] w2 fun t3 w4 =>
  kp b1 w2 w4 <|
  opRd Pr (Instr.typeAssert t3 20 98 true) (tval2 Value.pointer Value.bool) (fun t5 =>
  ifB t5.2
  (callV Pr (Value.int .i64) 57 #[(.pointer r), (.int .i64 9223372036854775807)] w4 fun t6 w7 =>
  kp b1 w4 w7 <|
  opRd Pr (nilSem (.pointer t5.1)) pav (fun t8 =>
  opUn Pr (Instr.storeAt 3 (.pointer (some t8)) (.int .i64 t6)) (fun w9 =>
  kp b1 w7 w9 <|
  K () w9) w7) w7)
  (heldM (fun S11 w10 =>
  callV Pr vval 95 #[(.pointer c)] w10 fun t12 w13 =>
  kp b1 w10 w13 <|
  (S11 w13) ∧
  (opH Pr S11 (Instr.typeAssert t12 20 99 false) Value.pointer (fun t14 =>
  callV Pr sval 101 #[(.pointer r), (.int .i64 1048576)] w13 fun t15 w16 =>
  kp b1 w13 w16 <|
  (S11 w16) ∧
  (opH Pr S11 (nilSem (.pointer t14)) pav (fun t17 =>
  opUn Pr (Instr.storeAt 9 (.pointer (some t17)) (sval t15)) (fun w18 =>
  kp b1 w16 w18 <|
  (S11 w18) ∧
  (K () w18)) w16))))) w4)) w4) w
def cmd_part_read_5_ann : Ann := (.s (.r [(0, .nl 3)]) (.s (.s (.r [(3, .call rV), (4, .rd (rT2 rP rB))]) (.s .d (.c (.s (.r [(2, .call (rI .i64)), (3, .rd rPA), (4, .un)]) .d) .d))) (.h (.take 0 (.take 1 (.take 2 (.take 5 (.one 3 (.take 4 (.one 6 (.take 7 (.one 8 .done))))))))) [(3, .call rV), (4, .rd rP), (6, .call rS), (7, .rd rPA), (8, .un)])))
theorem cmd_part_read_5_calls {r : Option Addr} {c : Option Addr} {K : Unit → World → Prop} {w : World} (h : cmd_part_read_5 r c K w) : callV Pr uval 58 #[(.agg ⟨[(.int .i64 16), (.int .i64 9), .nilFunc, (.func (.func 95) #[] #[])]⟩), (.pointer r), (.pointer c)] w K :=
  calls_of Pr_plain Pr_mixed Pr_func58 cmd_part_read_5_ann rU (args := [(.agg ⟨[(.int .i64 16), (.int .i64 9), .nilFunc, (.func (.func 95) #[] #[])]⟩), (.pointer r), (.pointer c)]) (by kernel_rfl) h

/- (changeover/cmd.part).fill -/
def cmd_part_fill_0 (c : Option Addr) (s : List UInt8) (K : Unit → World → Prop) (w : World) : Prop :=
  newV (fun b1 w2 =>
  callV Pr vval 88 #[(.pointer c)] w2 fun t3 w4 =>
  kp b1 w2 w4 <|
  opRd Pr (Instr.typeAssert t3 20 98 true) (tval2 Value.pointer Value.bool) (fun t5 =>
  ifB t5.2
  (callV Pr (tval2 (Value.int .i64) vval) 103 #[(sval s)] w4 fun t6 w7 =>
  kp b1 w4 w7 <|
  opRd Pr (nilSem (.pointer t5.1)) pav (fun t8 =>
  opUn Pr (Instr.storeAt 3 (.pointer (some t8)) (.int .i64 t6.1)) (fun w9 =>
  kp b1 w7 w9 <|
  K () w9) w7) w7)
  (opRd Pr (Instr.typeAssert t3 20 99 true) (tval2 Value.pointer Value.bool) (fun t10 =>
  ifB t10.2
  (callV Pr (tval2 sval (Value.int .i64)) 104 #[(sval s)] w4 fun t11 w12 =>
  kp b1 w4 w12 <|
  opRd Pr (nilSem (.pointer t10.1)) pav (fun t13 =>
  opUn Pr (Instr.storeAt 9 (.pointer (some t13)) (sval t11.1)) (fun w14 =>
  kp b1 w12 w14 <|
  K () w14) w12) w12)
  (K () w4)) w4)) w4) w
def cmd_part_fill_0_ann : Ann := (.s (.r [(0, .nl 3)]) (.s (.r [(3, .call rV)]) (.b (.s (.r [(0, .rd (rT2 rP rB))]) (.c (.s .d (.r [(2, .call (rT2 (rI .i64) rV)), (6, .rd rPA), (7, .un)])) (.s (.r [(0, .rd (rT2 rP rB))]) (.c (.s .d (.r [(2, .call (rT2 rS (rI .i64))), (6, .rd rPA), (7, .un)])) .d)))))))
theorem cmd_part_fill_0_calls {c : Option Addr} {s : List UInt8} {K : Unit → World → Prop} {w : World} (h : cmd_part_fill_0 c s K w) : callV Pr uval 64 #[(.agg ⟨[(.int .i64 1), (.int .i64 8), .nilFunc, (.func (.func 88) #[] #[])]⟩), (.pointer c), (sval s)] w K :=
  calls_of Pr_plain Pr_mixed Pr_func64 cmd_part_fill_0_ann rU (args := [(.agg ⟨[(.int .i64 1), (.int .i64 8), .nilFunc, (.func (.func 88) #[] #[])]⟩), (.pointer c), (sval s)]) (by kernel_rfl) h

/- (changeover/cmd.part).fill -/
def cmd_part_fill_1 (c : Option Addr) (s : List UInt8) (K : Unit → World → Prop) (w : World) : Prop :=
  newV (fun b1 w2 =>
  callV Pr vval 89 #[(.pointer c)] w2 fun t3 w4 =>
  kp b1 w2 w4 <|
  opRd Pr (Instr.typeAssert t3 20 98 true) (tval2 Value.pointer Value.bool) (fun t5 =>
  ifB t5.2
  (callV Pr (tval2 (Value.int .i64) vval) 103 #[(sval s)] w4 fun t6 w7 =>
  kp b1 w4 w7 <|
  opRd Pr (nilSem (.pointer t5.1)) pav (fun t8 =>
  opUn Pr (Instr.storeAt 3 (.pointer (some t8)) (.int .i64 t6.1)) (fun w9 =>
  kp b1 w7 w9 <|
  K () w9) w7) w7)
  (opRd Pr (Instr.typeAssert t3 20 99 true) (tval2 Value.pointer Value.bool) (fun t10 =>
  ifB t10.2
  (callV Pr (tval2 sval (Value.int .i64)) 104 #[(sval s)] w4 fun t11 w12 =>
  kp b1 w4 w12 <|
  opRd Pr (nilSem (.pointer t10.1)) pav (fun t13 =>
  opUn Pr (Instr.storeAt 9 (.pointer (some t13)) (sval t11.1)) (fun w14 =>
  kp b1 w12 w14 <|
  K () w14) w12) w12)
  (K () w4)) w4)) w4) w
def cmd_part_fill_1_ann : Ann := (.s (.r [(0, .nl 3)]) (.s (.r [(3, .call rV)]) (.b (.s (.r [(0, .rd (rT2 rP rB))]) (.c (.s .d (.r [(2, .call (rT2 (rI .i64) rV)), (6, .rd rPA), (7, .un)])) (.s (.r [(0, .rd (rT2 rP rB))]) (.c (.s .d (.r [(2, .call (rT2 rS (rI .i64))), (6, .rd rPA), (7, .un)])) .d)))))))
theorem cmd_part_fill_1_calls {c : Option Addr} {s : List UInt8} {K : Unit → World → Prop} {w : World} (h : cmd_part_fill_1 c s K w) : callV Pr uval 64 #[(.agg ⟨[(.int .i64 1), (.int .i64 4294967296), .nilFunc, (.func (.func 89) #[] #[])]⟩), (.pointer c), (sval s)] w K :=
  calls_of Pr_plain Pr_mixed Pr_func64 cmd_part_fill_1_ann rU (args := [(.agg ⟨[(.int .i64 1), (.int .i64 4294967296), .nilFunc, (.func (.func 89) #[] #[])]⟩), (.pointer c), (sval s)]) (by kernel_rfl) h

/- (changeover/cmd.part).fill -/
def cmd_part_fill_2 (c : Option Addr) (s : List UInt8) (K : Unit → World → Prop) (w : World) : Prop :=
  newV (fun b1 w2 =>
  callV Pr vval 91 #[(.pointer c)] w2 fun t3 w4 =>
  kp b1 w2 w4 <|
  opRd Pr (Instr.typeAssert t3 20 98 true) (tval2 Value.pointer Value.bool) (fun t5 =>
  ifB t5.2
  (callV Pr (tval2 (Value.int .i64) vval) 103 #[(sval s)] w4 fun t6 w7 =>
  kp b1 w4 w7 <|
  opRd Pr (nilSem (.pointer t5.1)) pav (fun t8 =>
  opUn Pr (Instr.storeAt 3 (.pointer (some t8)) (.int .i64 t6.1)) (fun w9 =>
  kp b1 w7 w9 <|
  K () w9) w7) w7)
  (opRd Pr (Instr.typeAssert t3 20 99 true) (tval2 Value.pointer Value.bool) (fun t10 =>
  ifB t10.2
  (callV Pr (tval2 sval (Value.int .i64)) 104 #[(sval s)] w4 fun t11 w12 =>
  kp b1 w4 w12 <|
  opRd Pr (nilSem (.pointer t10.1)) pav (fun t13 =>
  opUn Pr (Instr.storeAt 9 (.pointer (some t13)) (sval t11.1)) (fun w14 =>
  kp b1 w12 w14 <|
  K () w14) w12) w12)
  (K () w4)) w4)) w4) w
def cmd_part_fill_2_ann : Ann := (.s (.r [(0, .nl 3)]) (.s (.r [(3, .call rV)]) (.b (.s (.r [(0, .rd (rT2 rP rB))]) (.c (.s .d (.r [(2, .call (rT2 (rI .i64) rV)), (6, .rd rPA), (7, .un)])) (.s (.r [(0, .rd (rT2 rP rB))]) (.c (.s .d (.r [(2, .call (rT2 rS (rI .i64))), (6, .rd rPA), (7, .un)])) .d)))))))
theorem cmd_part_fill_2_calls {c : Option Addr} {s : List UInt8} {K : Unit → World → Prop} {w : World} (h : cmd_part_fill_2 c s K w) : callV Pr uval 64 #[(.agg ⟨[(.int .i64 2), (.int .i64 0), (.func (.func 90) #[] #[]), (.func (.func 91) #[] #[])]⟩), (.pointer c), (sval s)] w K :=
  calls_of Pr_plain Pr_mixed Pr_func64 cmd_part_fill_2_ann rU (args := [(.agg ⟨[(.int .i64 2), (.int .i64 0), (.func (.func 90) #[] #[]), (.func (.func 91) #[] #[])]⟩), (.pointer c), (sval s)]) (by kernel_rfl) h

/- (changeover/cmd.part).fill -/
def cmd_part_fill_3 (c : Option Addr) (s : List UInt8) (K : Unit → World → Prop) (w : World) : Prop :=
  newV (fun b1 w2 =>
  callV Pr vval 93 #[(.pointer c)] w2 fun t3 w4 =>
  kp b1 w2 w4 <|
  opRd Pr (Instr.typeAssert t3 20 98 true) (tval2 Value.pointer Value.bool) (fun t5 =>
  ifB t5.2
  (callV Pr (tval2 (Value.int .i64) vval) 103 #[(sval s)] w4 fun t6 w7 =>
  kp b1 w4 w7 <|
  opRd Pr (nilSem (.pointer t5.1)) pav (fun t8 =>
  opUn Pr (Instr.storeAt 3 (.pointer (some t8)) (.int .i64 t6.1)) (fun w9 =>
  kp b1 w7 w9 <|
  K () w9) w7) w7)
  (opRd Pr (Instr.typeAssert t3 20 99 true) (tval2 Value.pointer Value.bool) (fun t10 =>
  ifB t10.2
  (callV Pr (tval2 sval (Value.int .i64)) 104 #[(sval s)] w4 fun t11 w12 =>
  kp b1 w4 w12 <|
  opRd Pr (nilSem (.pointer t10.1)) pav (fun t13 =>
  opUn Pr (Instr.storeAt 9 (.pointer (some t13)) (sval t11.1)) (fun w14 =>
  kp b1 w12 w14 <|
  K () w14) w12) w12)
  (K () w4)) w4)) w4) w
def cmd_part_fill_3_ann : Ann := (.s (.r [(0, .nl 3)]) (.s (.r [(3, .call rV)]) (.b (.s (.r [(0, .rd (rT2 rP rB))]) (.c (.s .d (.r [(2, .call (rT2 (rI .i64) rV)), (6, .rd rPA), (7, .un)])) (.s (.r [(0, .rd (rT2 rP rB))]) (.c (.s .d (.r [(2, .call (rT2 rS (rI .i64))), (6, .rd rPA), (7, .un)])) .d)))))))
theorem cmd_part_fill_3_calls {c : Option Addr} {s : List UInt8} {K : Unit → World → Prop} {w : World} (h : cmd_part_fill_3 c s K w) : callV Pr uval 64 #[(.agg ⟨[(.int .i64 4), (.int .i64 0), (.func (.func 92) #[] #[]), (.func (.func 93) #[] #[])]⟩), (.pointer c), (sval s)] w K :=
  calls_of Pr_plain Pr_mixed Pr_func64 cmd_part_fill_3_ann rU (args := [(.agg ⟨[(.int .i64 4), (.int .i64 0), (.func (.func 92) #[] #[]), (.func (.func 93) #[] #[])]⟩), (.pointer c), (sval s)]) (by kernel_rfl) h

/- (changeover/cmd.part).fill -/
def cmd_part_fill_4 (c : Option Addr) (s : List UInt8) (K : Unit → World → Prop) (w : World) : Prop :=
  newV (fun b1 w2 =>
  callV Pr vval 94 #[(.pointer c)] w2 fun t3 w4 =>
  kp b1 w2 w4 <|
  opRd Pr (Instr.typeAssert t3 20 98 true) (tval2 Value.pointer Value.bool) (fun t5 =>
  ifB t5.2
  (callV Pr (tval2 (Value.int .i64) vval) 103 #[(sval s)] w4 fun t6 w7 =>
  kp b1 w4 w7 <|
  opRd Pr (nilSem (.pointer t5.1)) pav (fun t8 =>
  opUn Pr (Instr.storeAt 3 (.pointer (some t8)) (.int .i64 t6.1)) (fun w9 =>
  kp b1 w7 w9 <|
  K () w9) w7) w7)
  (opRd Pr (Instr.typeAssert t3 20 99 true) (tval2 Value.pointer Value.bool) (fun t10 =>
  ifB t10.2
  (callV Pr (tval2 sval (Value.int .i64)) 104 #[(sval s)] w4 fun t11 w12 =>
  kp b1 w4 w12 <|
  opRd Pr (nilSem (.pointer t10.1)) pav (fun t13 =>
  opUn Pr (Instr.storeAt 9 (.pointer (some t13)) (sval t11.1)) (fun w14 =>
  kp b1 w12 w14 <|
  K () w14) w12) w12)
  (K () w4)) w4)) w4) w
def cmd_part_fill_4_ann : Ann := (.s (.r [(0, .nl 3)]) (.s (.r [(3, .call rV)]) (.b (.s (.r [(0, .rd (rT2 rP rB))]) (.c (.s .d (.r [(2, .call (rT2 (rI .i64) rV)), (6, .rd rPA), (7, .un)])) (.s (.r [(0, .rd (rT2 rP rB))]) (.c (.s .d (.r [(2, .call (rT2 rS (rI .i64))), (6, .rd rPA), (7, .un)])) .d)))))))
theorem cmd_part_fill_4_calls {c : Option Addr} {s : List UInt8} {K : Unit → World → Prop} {w : World} (h : cmd_part_fill_4 c s K w) : callV Pr uval 64 #[(.agg ⟨[(.int .i64 8), (.int .i64 0), (.func (.func 92) #[] #[]), (.func (.func 94) #[] #[])]⟩), (.pointer c), (sval s)] w K :=
  calls_of Pr_plain Pr_mixed Pr_func64 cmd_part_fill_4_ann rU (args := [(.agg ⟨[(.int .i64 8), (.int .i64 0), (.func (.func 92) #[] #[]), (.func (.func 94) #[] #[])]⟩), (.pointer c), (sval s)]) (by kernel_rfl) h

/- (changeover/cmd.part).fill -/
def cmd_part_fill_5 (c : Option Addr) (s : List UInt8) (K : Unit → World → Prop) (w : World) : Prop :=
  newV (fun b1 w2 =>
  callV Pr vval 95 #[(.pointer c)] w2 fun t3 w4 =>
  kp b1 w2 w4 <|
  opRd Pr (Instr.typeAssert t3 20 98 true) (tval2 Value.pointer Value.bool) (fun t5 =>
  ifB t5.2
  (callV Pr (tval2 (Value.int .i64) vval) 103 #[(sval s)] w4 fun t6 w7 =>
  kp b1 w4 w7 <|
  opRd Pr (nilSem (.pointer t5.1)) pav (fun t8 =>
  opUn Pr (Instr.storeAt 3 (.pointer (some t8)) (.int .i64 t6.1)) (fun w9 =>
  kp b1 w7 w9 <|
  K () w9) w7) w7)
  (opRd Pr (Instr.typeAssert t3 20 99 true) (tval2 Value.pointer Value.bool) (fun t10 =>
  ifB t10.2
  (callV Pr (tval2 sval (Value.int .i64)) 104 #[(sval s)] w4 fun t11 w12 =>
  kp b1 w4 w12 <|
  opRd Pr (nilSem (.pointer t10.1)) pav (fun t13 =>
  opUn Pr (Instr.storeAt 9 (.pointer (some t13)) (sval t11.1)) (fun w14 =>
  kp b1 w12 w14 <|
  K () w14) w12) w12)
  (K () w4)) w4)) w4) w
def cmd_part_fill_5_ann : Ann := (.s (.r [(0, .nl 3)]) (.s (.r [(3, .call rV)]) (.b (.s (.r [(0, .rd (rT2 rP rB))]) (.c (.s .d (.r [(2, .call (rT2 (rI .i64) rV)), (6, .rd rPA), (7, .un)])) (.s (.r [(0, .rd (rT2 rP rB))]) (.c (.s .d (.r [(2, .call (rT2 rS (rI .i64))), (6, .rd rPA), (7, .un)])) .d)))))))
theorem cmd_part_fill_5_calls {c : Option Addr} {s : List UInt8} {K : Unit → World → Prop} {w : World} (h : cmd_part_fill_5 c s K w) : callV Pr uval 64 #[(.agg ⟨[(.int .i64 16), (.int .i64 9), .nilFunc, (.func (.func 95) #[] #[])]⟩), (.pointer c), (sval s)] w K :=
  calls_of Pr_plain Pr_mixed Pr_func64 cmd_part_fill_5_ann rU (args := [(.agg ⟨[(.int .i64 16), (.int .i64 9), .nilFunc, (.func (.func 95) #[] #[])]⟩), (.pointer c), (sval s)]) (by kernel_rfl) h

/- changeover/pack.read[int] -/
def pack_read_int_Number (r : Option Addr) (c99x0 : Addr) (c99x1 : Addr) (K : Int → World → Prop) (w : World) : Prop :=
  opRd Pr (binSem .eql 53 (.tmp 7) (.const (.pointer none)) (.pointer r) (.pointer none)) Value.bool (fun t1 =>
  ifB t1
  (K 0 w)
  (opRd Pr (nilSem (.pointer r)) pav (fun t2 =>
  opRd Pr (Instr.loadAt 29 (.pointer (some (t2.add 2)))) (Value.int .i64) (fun t3 =>
  ifB (t3 != 0)
  (K 0 w)
  (callV Pr (Value.int .i64) 99 #[(.pointer (some c99x0)), (.pointer (some c99x1))] w fun x4 w5 =>
  opRd Pr (nilSem (.pointer r)) pav (fun t6 =>
  opRd Pr (Instr.loadAt 29 (.pointer (some (t6.add 2)))) (Value.int .i64) (fun t7 =>
  ifB (t7 != 0)
  (K 0 w5)
  (K x4 w5)) w5) w5)) w) w)) w
def pack_read_int_Number_ann : Ann := (.s .d (.s .d (.s (.s (.r [(1, .rd rB), (4, .rd rPA), (6, .rd (rI .i64))]) (.c (.s .d .d) .d)) (.s (.r [(1, .call (rI .i64))]) (.s (.s (.r [(1, .rd rPA), (3, .rd (rI .i64))]) (.c (.s .d .d) .d)) (.s .d .d))))))
theorem pack_read_int_Number_calls {r : Option Addr} {c99x0 : Addr} {c99x1 : Addr} {K : Int → World → Prop} {w : World} (h : pack_read_int_Number r c99x0 c99x1 K w) : callV Pr (Value.int .i64) 98 #[(.pointer r), (.func (.func 99) #[] #[(.pointer (some c99x0)), (.pointer (some c99x1))])] w K :=
  calls_of Pr_plain Pr_mixed Pr_func98 pack_read_int_Number_ann (rI .i64) (args := [(.pointer r), (.func (.func 99) #[] #[(.pointer (some c99x0)), (.pointer (some c99x1))])]) (by kernel_rfl) h

/- changeover/pack.read[int] -/
def pack_read_int_Count (r : Option Addr) (c142x0 : Addr) (c142x1 : Addr) (K : Int → World → Prop) (w : World) : Prop :=
  opRd Pr (binSem .eql 53 (.tmp 7) (.const (.pointer none)) (.pointer r) (.pointer none)) Value.bool (fun t1 =>
  ifB t1
  (K 0 w)
  (opRd Pr (nilSem (.pointer r)) pav (fun t2 =>
  opRd Pr (Instr.loadAt 29 (.pointer (some (t2.add 2)))) (Value.int .i64) (fun t3 =>
  ifB (t3 != 0)
  (K 0 w)
  (callV Pr (Value.int .i64) 142 #[(.pointer (some c142x0)), (.pointer (some c142x1))] w fun x4 w5 =>
  opRd Pr (nilSem (.pointer r)) pav (fun t6 =>
  opRd Pr (Instr.loadAt 29 (.pointer (some (t6.add 2)))) (Value.int .i64) (fun t7 =>
  ifB (t7 != 0)
  (K 0 w5)
  (K x4 w5)) w5) w5)) w) w)) w
def pack_read_int_Count_ann : Ann := (.s .d (.s .d (.s (.s (.r [(1, .rd rB), (4, .rd rPA), (6, .rd (rI .i64))]) (.c (.s .d .d) .d)) (.s (.r [(1, .call (rI .i64))]) (.s (.s (.r [(1, .rd rPA), (3, .rd (rI .i64))]) (.c (.s .d .d) .d)) (.s .d .d))))))
theorem pack_read_int_Count_calls {r : Option Addr} {c142x0 : Addr} {c142x1 : Addr} {K : Int → World → Prop} {w : World} (h : pack_read_int_Count r c142x0 c142x1 K w) : callV Pr (Value.int .i64) 98 #[(.pointer r), (.func (.func 142) #[] #[(.pointer (some c142x0)), (.pointer (some c142x1))])] w K :=
  calls_of Pr_plain Pr_mixed Pr_func98 pack_read_int_Count_ann (rI .i64) (args := [(.pointer r), (.func (.func 142) #[] #[(.pointer (some c142x0)), (.pointer (some c142x1))])]) (by kernel_rfl) h

/- changeover/pack.read[[]byte] -/
def pack_read_byte_Raw (r : Option Addr) (c122x0 : Addr) (c122x1 : Addr) (K : Sl → World → Prop) (w : World) : Prop :=
  opRd Pr (binSem .eql 53 (.tmp 7) (.const (.pointer none)) (.pointer r) (.pointer none)) Value.bool (fun t1 =>
  ifB t1
  (K Sl.nil w)
  (opRd Pr (nilSem (.pointer r)) pav (fun t2 =>
  opRd Pr (Instr.loadAt 29 (.pointer (some (t2.add 2)))) (Value.int .i64) (fun t3 =>
  ifB (t3 != 0)
  (K Sl.nil w)
  (callV Pr Sl.val 122 #[(.pointer (some c122x0)), (.pointer (some c122x1))] w fun x4 w5 =>
  opRd Pr (nilSem (.pointer r)) pav (fun t6 =>
  opRd Pr (Instr.loadAt 29 (.pointer (some (t6.add 2)))) (Value.int .i64) (fun t7 =>
  ifB (t7 != 0)
  (K Sl.nil w5)
  (K x4 w5)) w5) w5)) w) w)) w
def pack_read_byte_Raw_ann : Ann := (.s .d (.s .d (.s (.s (.r [(1, .rd rB), (4, .rd rPA), (6, .rd (rI .i64))]) (.c (.s .d .d) .d)) (.s (.r [(1, .call rSl)]) (.s (.s (.r [(1, .rd rPA), (3, .rd (rI .i64))]) (.c (.s .d .d) .d)) (.s .d .d))))))
theorem pack_read_byte_Raw_calls {r : Option Addr} {c122x0 : Addr} {c122x1 : Addr} {K : Sl → World → Prop} {w : World} (h : pack_read_byte_Raw r c122x0 c122x1 K w) : callV Pr Sl.val 121 #[(.pointer r), (.func (.func 122) #[] #[(.pointer (some c122x0)), (.pointer (some c122x1))])] w K :=
  calls_of Pr_plain Pr_mixed Pr_func121 pack_read_byte_Raw_ann rSl (args := [(.pointer r), (.func (.func 122) #[] #[(.pointer (some c122x0)), (.pointer (some c122x1))])]) (by kernel_rfl) h

/- changeover/runes.all -/
def runes_all_Plain (s : List UInt8) (K : Bool → World → Prop) (w : World) : Prop :=
  opTy Pr (Instr.range 9 (sval s)) pav (fun t1 w2 =>
  loop0 (fun k3 w4 =>
  opAl Pr (Instr.next (.pointer (some t1)) true 0) (nxval (Value.int .i64) (Value.int .i32)) endval (fun t5 w6 =>
  callV Pr Value.bool 126 #[(.int .i32 t5.2)] w6 fun t7 w8 =>
  ifB (!t7)
  (K false w8)
  (k3 w8)) (fun _ w9 =>
  K true w9) w4) w2) w
def runes_all_Plain_ann : Ann := (.s .d (.s (.s (.r [(1, .ty rPA)]) (.b (.l [] (.s (.r [(0, .alt (rNx (rI .i64) (rI .i32)) rEnd)]) (.s (.c .d .d) (.b (.s .d (.s (.r [(2, .call rB)]) (.c (.s .d .d) .d))))))))) (.s .d .d)))
theorem runes_all_Plain_calls {s : List UInt8} {K : Bool → World → Prop} {w : World} (h : runes_all_Plain s K w) : callV Pr Value.bool 125 #[(sval s), (.func (.func 126) #[] #[])] w K :=
  calls_of Pr_plain Pr_mixed Pr_func125 runes_all_Plain_ann rB (args := [(sval s), (.func (.func 126) #[] #[])]) (by kernel_rfl) h

/- changeover/runes.all -/
def runes_all_Val (s : List UInt8) (K : Bool → World → Prop) (w : World) : Prop :=
  opTy Pr (Instr.range 9 (sval s)) pav (fun t1 w2 =>
  loop0 (fun k3 w4 =>
  opAl Pr (Instr.next (.pointer (some t1)) true 0) (nxval (Value.int .i64) (Value.int .i32)) endval (fun t5 w6 =>
  callV Pr Value.bool 127 #[(.int .i32 t5.2)] w6 fun t7 w8 =>
  ifB (!t7)
  (K false w8)
  (k3 w8)) (fun _ w9 =>
  K true w9) w4) w2) w
def runes_all_Val_ann : Ann := (.s .d (.s (.s (.r [(1, .ty rPA)]) (.b (.l [] (.s (.r [(0, .alt (rNx (rI .i64) (rI .i32)) rEnd)]) (.s (.c .d .d) (.b (.s .d (.s (.r [(2, .call rB)]) (.c (.s .d .d) .d))))))))) (.s .d .d)))
theorem runes_all_Val_calls {s : List UInt8} {K : Bool → World → Prop} {w : World} (h : runes_all_Val s K w) : callV Pr Value.bool 125 #[(sval s), (.func (.func 127) #[] #[])] w K :=
  calls_of Pr_plain Pr_mixed Pr_func125 runes_all_Val_ann rB (args := [(sval s), (.func (.func 127) #[] #[])]) (by kernel_rfl) h

/- slices.IndexFunc[[]changeover/api.Entry,changeover/api.Entry] -/
def slices_IndexFunc_api_Entry_api_Entry_Has (s : Sl) (c119x0 : Addr) (K : Int → World → Prop) (w : World) : Prop :=
  loop1 (0 : Int) (fun t1 k2 w3 =>
  ifB (decide (t1 < (s.len : Int)))
  (opRd Pr (Instr.indexAt 24 s.val (.int .i64 t1)) pav (fun t4 =>
  opRd Pr (Instr.loadAt 102 (.pointer (some t4))) ApiEntry.val (fun t5 =>
  callV Pr Value.bool 119 #[(.agg ⟨t5.cs⟩), (.pointer (some c119x0))] w3 fun t6 w7 =>
  ifB t6
  (K t1 w7)
  (k2 (i64 (t1 + 1)) w7)) w3) w3)
  (K (-1) w3)) w
def slices_IndexFunc_api_Entry_api_Entry_Has_ann : Ann := (.s .d (.s (.s .d (.b (.l [(.s 8, (rI .i64))] (.s .d (.s (.c .d .d) (.s (.b (.s .d (.s (.r [(3, .rd rPA), (4, .rd rApiEntry), (5, .call rB)]) (.c (.s .d .d) .d)))) .d)))))) (.s .d .d)))
theorem slices_IndexFunc_api_Entry_api_Entry_Has_calls {s : Sl} {c119x0 : Addr} {K : Int → World → Prop} {w : World} (h : slices_IndexFunc_api_Entry_api_Entry_Has s c119x0 K w) : callV Pr (Value.int .i64) 141 #[s.val, (.func (.func 119) #[] #[(.pointer (some c119x0))])] w K :=
  calls_of Pr_plain Pr_mixed Pr_func141 slices_IndexFunc_api_Entry_api_Entry_Has_ann (rI .i64) (args := [s.val, (.func (.func 119) #[] #[(.pointer (some c119x0))])]) (by kernel_rfl) h

end Go.Chg
