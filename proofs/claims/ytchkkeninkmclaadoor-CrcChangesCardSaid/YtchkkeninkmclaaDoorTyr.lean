/-
  How the program's structs lie in memory, and how they read. Written by a program of ours (gen.py).
-/
import Derived.Test.YtchkkeninkmclaaDoorTy
import Derived.Test.YtchkkeninkmclaaDoorEqs
import Derived.Test.YtchkkeninkmclaaDoorStd2
set_option linter.unusedVariables false
namespace Go.Chg
open Go.Vc
def eUtf8AcceptRange : Enc Utf8AcceptRange := ⟨Utf8AcceptRange.cs, 2, by decide, fun _ => rfl, fun x v hv => List.all_eq_true.1 (show (Utf8AcceptRange.cs x).all Value.oneCell' = true from rfl) v hv⟩
def Utf8AcceptRange.data (H : Type) (x : Utf8AcceptRange) : DataW H := .agg [(.lit (.int .u8 x.lo)), (.lit (.int .u8 x.hi))]
def Utf8AcceptRange.wf (x : Utf8AcceptRange) : Prop := wfI .u8 x.lo ∧ wfI .u8 x.hi
theorem Utf8AcceptRange.flat : RdQ Pr 54 (flatQ Utf8AcceptRange.cs Utf8AcceptRange.data Utf8AcceptRange.wf) := (rd_struct [(5, 0, 1), (5, 1, 1)] (Qs := [flatQ (fun n => [.int .u8 n]) (litI .u8) (wfI .u8), flatQ (fun n => [.int .u8 n]) (litI .u8) (wfI .u8)]) (by kernel_rfl) ⟨rd_int (by kernel_rfl), rd_int (by kernel_rfl), trivial⟩).mono fun H w cells d ⟨ds, hd, hc⟩ => by
  obtain ⟨_, _, _, _, rfl, rfl, ⟨x0, rfl, rfl, h0⟩, _, _, _, _, rfl, rfl, ⟨x1, rfl, rfl, h1⟩, rfl, rfl⟩ := hc
  exact ⟨⟨x0, x1⟩, rfl, hd, h0, h1⟩
def Utf8AcceptRange.eqs (x y : Utf8AcceptRange) : List Bool := [x.lo == y.lo, x.hi == y.hi]
theorem Utf8AcceptRange.eqv {d : Nat} (x y : Utf8AcceptRange) : EqV Pr (d + 2) 54 x.val y.val ((Utf8AcceptRange.eqs x y).all id) := eqV_struct [(5, 0, 1), (5, 1, 1)] (by kernel_rfl) ⟨⟨_, _, part_one (by kernel_rfl) rfl, part_one (by kernel_rfl) rfl, eqV_int (by kernel_rfl)⟩, ⟨_, _, part_one (by kernel_rfl) rfl, part_one (by kernel_rfl) rfl, eqV_int (by kernel_rfl)⟩, trivial⟩
theorem Utf8AcceptRange.eqs_iff {x y : Utf8AcceptRange} : (Utf8AcceptRange.eqs x y).all id = true ↔ x = y := by
  cases x; cases y
  simp only [Utf8AcceptRange.eqs, List.all_cons, List.all_nil, Bool.and_eq_true, id, beq_iff_eq, and_true, Utf8AcceptRange.mk.injEq]


end Go.Chg
