/-
  How the program's structs lie in memory, and how they read. Written by a program of ours (gen.py).
-/
import Derived.Test.YtnnoalpkldpjfaaDoorTy
import Derived.Test.YtnnoalpkldpjfaaDoorEqs
import Derived.Test.YtnnoalpkldpjfaaDoorMX
set_option linter.unusedVariables false
namespace Go.Chg
open Go.Vc
def eApiAnswer : Enc ApiAnswer := ⟨ApiAnswer.cs, 6, by decide, fun _ => rfl, fun x v hv => List.all_eq_true.1 (show (ApiAnswer.cs x).all Value.oneCell' = true from rfl) v hv⟩
def ApiAnswer.data (H : Type) (x : ApiAnswer) : DataW H := .agg [(.lit (.int .i64 x.Client)), (.lit (.int .i64 x.Seq)), (.lit (.int .i64 x.Err)), (.lit (.bool x.Found)), (.lit (.string x.Val)), (.lit (.int .i64 x.Rev))]
def ApiAnswer.wf (x : ApiAnswer) : Prop := wfI .i64 x.Client ∧ wfI .i64 x.Seq ∧ wfI .i64 x.Err ∧ True ∧ wfS x.Val ∧ wfI .i64 x.Rev
theorem ApiAnswer.flat : RdQ Pr 24 (flatQ ApiAnswer.cs ApiAnswer.data ApiAnswer.wf) := (rd_struct [(3, 0, 1), (3, 1, 1), (22, 2, 1), (4, 3, 1), (9, 4, 1), (3, 5, 1)] (Qs := [flatQ (fun n => [.int .i64 n]) (litI .i64) (wfI .i64), flatQ (fun n => [.int .i64 n]) (litI .i64) (wfI .i64), flatQ (fun n => [.int .i64 n]) (litI .i64) (wfI .i64), flatQ (fun b => [.bool b]) litB (fun _ => True), flatQ (fun l => [sval l]) litS wfS, flatQ (fun n => [.int .i64 n]) (litI .i64) (wfI .i64)]) (by kernel_rfl) ⟨rd_int (by kernel_rfl), rd_int (by kernel_rfl), rd_int (by kernel_rfl), rd_bool (by kernel_rfl), rd_text (by kernel_rfl), rd_int (by kernel_rfl), trivial⟩).mono fun H w cells d ⟨ds, hd, hc⟩ => by
  obtain ⟨_, _, _, _, rfl, rfl, ⟨x0, rfl, rfl, h0⟩, _, _, _, _, rfl, rfl, ⟨x1, rfl, rfl, h1⟩, _, _, _, _, rfl, rfl, ⟨x2, rfl, rfl, h2⟩, _, _, _, _, rfl, rfl, ⟨x3, rfl, rfl, h3⟩, _, _, _, _, rfl, rfl, ⟨x4, rfl, rfl, h4⟩, _, _, _, _, rfl, rfl, ⟨x5, rfl, rfl, h5⟩, rfl, rfl⟩ := hc
  exact ⟨⟨x0, x1, x2, x3, x4, x5⟩, rfl, hd, h0, h1, h2, h3, h4, h5⟩
def ApiAnswer.eqs (x y : ApiAnswer) : List Bool := [x.Client == y.Client, x.Seq == y.Seq, x.Err == y.Err, x.Found == y.Found, strEq x.Val y.Val, x.Rev == y.Rev]
theorem ApiAnswer.eqv {d : Nat} (x y : ApiAnswer) : EqV Pr (d + 2) 24 x.val y.val ((ApiAnswer.eqs x y).all id) := eqV_struct [(3, 0, 1), (3, 1, 1), (22, 2, 1), (4, 3, 1), (9, 4, 1), (3, 5, 1)] (by kernel_rfl) ⟨⟨_, _, part_one (by kernel_rfl) rfl, part_one (by kernel_rfl) rfl, eqV_int (by kernel_rfl)⟩, ⟨_, _, part_one (by kernel_rfl) rfl, part_one (by kernel_rfl) rfl, eqV_int (by kernel_rfl)⟩, ⟨_, _, part_one (by kernel_rfl) rfl, part_one (by kernel_rfl) rfl, eqV_int (by kernel_rfl)⟩, ⟨_, _, part_one (by kernel_rfl) rfl, part_one (by kernel_rfl) rfl, eqV_bool (by kernel_rfl)⟩, ⟨_, _, part_one (by kernel_rfl) rfl, part_one (by kernel_rfl) rfl, eqV_text (by kernel_rfl)⟩, ⟨_, _, part_one (by kernel_rfl) rfl, part_one (by kernel_rfl) rfl, eqV_int (by kernel_rfl)⟩, trivial⟩
theorem ApiAnswer.eqs_iff {x y : ApiAnswer} : (ApiAnswer.eqs x y).all id = true ↔ x = y := by
  cases x; cases y
  simp only [ApiAnswer.eqs, List.all_cons, List.all_nil, Bool.and_eq_true, id, beq_iff_eq, strEq_eq, decide_eq_true_eq, and_true, ApiAnswer.mk.injEq]

def eStringsBuilder : Enc StringsBuilder := ⟨StringsBuilder.cs, 2, by decide, fun _ => rfl, fun x v hv => List.all_eq_true.1 (show (StringsBuilder.cs x).all Value.oneCell' = true from rfl) v hv⟩
def eUtf8AcceptRange : Enc Utf8AcceptRange := ⟨Utf8AcceptRange.cs, 2, by decide, fun _ => rfl, fun x v hv => List.all_eq_true.1 (show (Utf8AcceptRange.cs x).all Value.oneCell' = true from rfl) v hv⟩
def Utf8AcceptRange.data (H : Type) (x : Utf8AcceptRange) : DataW H := .agg [(.lit (.int .u8 x.lo)), (.lit (.int .u8 x.hi))]
def Utf8AcceptRange.wf (x : Utf8AcceptRange) : Prop := wfI .u8 x.lo ∧ wfI .u8 x.hi
theorem Utf8AcceptRange.flat : RdQ Pr 97 (flatQ Utf8AcceptRange.cs Utf8AcceptRange.data Utf8AcceptRange.wf) := (rd_struct [(5, 0, 1), (5, 1, 1)] (Qs := [flatQ (fun n => [.int .u8 n]) (litI .u8) (wfI .u8), flatQ (fun n => [.int .u8 n]) (litI .u8) (wfI .u8)]) (by kernel_rfl) ⟨rd_int (by kernel_rfl), rd_int (by kernel_rfl), trivial⟩).mono fun H w cells d ⟨ds, hd, hc⟩ => by
  obtain ⟨_, _, _, _, rfl, rfl, ⟨x0, rfl, rfl, h0⟩, _, _, _, _, rfl, rfl, ⟨x1, rfl, rfl, h1⟩, rfl, rfl⟩ := hc
  exact ⟨⟨x0, x1⟩, rfl, hd, h0, h1⟩
def Utf8AcceptRange.eqs (x y : Utf8AcceptRange) : List Bool := [x.lo == y.lo, x.hi == y.hi]
theorem Utf8AcceptRange.eqv {d : Nat} (x y : Utf8AcceptRange) : EqV Pr (d + 2) 97 x.val y.val ((Utf8AcceptRange.eqs x y).all id) := eqV_struct [(5, 0, 1), (5, 1, 1)] (by kernel_rfl) ⟨⟨_, _, part_one (by kernel_rfl) rfl, part_one (by kernel_rfl) rfl, eqV_int (by kernel_rfl)⟩, ⟨_, _, part_one (by kernel_rfl) rfl, part_one (by kernel_rfl) rfl, eqV_int (by kernel_rfl)⟩, trivial⟩
theorem Utf8AcceptRange.eqs_iff {x y : Utf8AcceptRange} : (Utf8AcceptRange.eqs x y).all id = true ↔ x = y := by
  cases x; cases y
  simp only [Utf8AcceptRange.eqs, List.all_cons, List.all_nil, Bool.and_eq_true, id, beq_iff_eq, and_true, Utf8AcceptRange.mk.injEq]


end Go.Chg
