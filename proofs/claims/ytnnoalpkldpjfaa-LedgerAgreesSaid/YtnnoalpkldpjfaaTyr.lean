/-
  How the program's structs lie in memory, and how they read. Written by a program of ours (gen.py).
-/
import Derived.Test.YtnnoalpkldpjfaaTy
import Derived.Test.YtnnoalpkldpjfaaEqs
import Derived.Test.YtnnoalpkldpjfaaStd2
set_option linter.unusedVariables false
namespace Go.Chg
open Go.Vc
def eApiBallot : Enc ApiBallot := ⟨ApiBallot.cs, 2, by decide, fun _ => rfl, fun x v hv => List.all_eq_true.1 (show (ApiBallot.cs x).all Value.oneCell' = true from rfl) v hv⟩
def ApiBallot.data (H : Type) (x : ApiBallot) : DataW H := .agg [(.lit (.int .i64 x.Round)), (.lit (.int .i64 x.Node))]
def ApiBallot.wf (x : ApiBallot) : Prop := wfI .i64 x.Round ∧ wfI .i64 x.Node
theorem ApiBallot.flat : RdQ Pr 36 (flatQ ApiBallot.cs ApiBallot.data ApiBallot.wf) := (rd_struct [(3, 0, 1), (3, 1, 1)] (Qs := [flatQ (fun n => [.int .i64 n]) (litI .i64) (wfI .i64), flatQ (fun n => [.int .i64 n]) (litI .i64) (wfI .i64)]) (by kernel_rfl) ⟨rd_int (by kernel_rfl), rd_int (by kernel_rfl), trivial⟩).mono fun H w cells d ⟨ds, hd, hc⟩ => by
  obtain ⟨_, _, _, _, rfl, rfl, ⟨x0, rfl, rfl, h0⟩, _, _, _, _, rfl, rfl, ⟨x1, rfl, rfl, h1⟩, rfl, rfl⟩ := hc
  exact ⟨⟨x0, x1⟩, rfl, hd, h0, h1⟩
def ApiBallot.eqs (x y : ApiBallot) : List Bool := [x.Round == y.Round, x.Node == y.Node]
theorem ApiBallot.eqv {d : Nat} (x y : ApiBallot) : EqV Pr (d + 2) 36 x.val y.val ((ApiBallot.eqs x y).all id) := eqV_struct [(3, 0, 1), (3, 1, 1)] (by kernel_rfl) ⟨⟨_, _, part_one (by kernel_rfl) rfl, part_one (by kernel_rfl) rfl, eqV_int (by kernel_rfl)⟩, ⟨_, _, part_one (by kernel_rfl) rfl, part_one (by kernel_rfl) rfl, eqV_int (by kernel_rfl)⟩, trivial⟩
theorem ApiBallot.eqs_iff {x y : ApiBallot} : (ApiBallot.eqs x y).all id = true ↔ x = y := by
  cases x; cases y
  simp only [ApiBallot.eqs, List.all_cons, List.all_nil, Bool.and_eq_true, id, beq_iff_eq, and_true, ApiBallot.mk.injEq]

def eApiCmd : Enc ApiCmd := ⟨ApiCmd.cs, 7, by decide, fun _ => rfl, fun x v hv => List.all_eq_true.1 (show (ApiCmd.cs x).all Value.oneCell' = true from rfl) v hv⟩
def ApiCmd.data (H : Type) (x : ApiCmd) : DataW H := .agg [(.lit (.int .i64 x.Kind)), (.lit (.int .i64 x.Client)), (.lit (.int .i64 x.Seq)), (.lit (.string x.Key)), (.lit (.string x.Val)), (.lit (.string x.Old)), (.lit (.int .i64 x.Node))]
def ApiCmd.wf (x : ApiCmd) : Prop := wfI .i64 x.Kind ∧ wfI .i64 x.Client ∧ wfI .i64 x.Seq ∧ wfS x.Key ∧ wfS x.Val ∧ wfS x.Old ∧ wfI .i64 x.Node
theorem ApiCmd.flat : RdQ Pr 34 (flatQ ApiCmd.cs ApiCmd.data ApiCmd.wf) := (rd_struct [(3, 0, 1), (3, 1, 1), (3, 2, 1), (9, 3, 1), (9, 4, 1), (9, 5, 1), (3, 6, 1)] (Qs := [flatQ (fun n => [.int .i64 n]) (litI .i64) (wfI .i64), flatQ (fun n => [.int .i64 n]) (litI .i64) (wfI .i64), flatQ (fun n => [.int .i64 n]) (litI .i64) (wfI .i64), flatQ (fun l => [sval l]) litS wfS, flatQ (fun l => [sval l]) litS wfS, flatQ (fun l => [sval l]) litS wfS, flatQ (fun n => [.int .i64 n]) (litI .i64) (wfI .i64)]) (by kernel_rfl) ⟨rd_int (by kernel_rfl), rd_int (by kernel_rfl), rd_int (by kernel_rfl), rd_text (by kernel_rfl), rd_text (by kernel_rfl), rd_text (by kernel_rfl), rd_int (by kernel_rfl), trivial⟩).mono fun H w cells d ⟨ds, hd, hc⟩ => by
  obtain ⟨_, _, _, _, rfl, rfl, ⟨x0, rfl, rfl, h0⟩, _, _, _, _, rfl, rfl, ⟨x1, rfl, rfl, h1⟩, _, _, _, _, rfl, rfl, ⟨x2, rfl, rfl, h2⟩, _, _, _, _, rfl, rfl, ⟨x3, rfl, rfl, h3⟩, _, _, _, _, rfl, rfl, ⟨x4, rfl, rfl, h4⟩, _, _, _, _, rfl, rfl, ⟨x5, rfl, rfl, h5⟩, _, _, _, _, rfl, rfl, ⟨x6, rfl, rfl, h6⟩, rfl, rfl⟩ := hc
  exact ⟨⟨x0, x1, x2, x3, x4, x5, x6⟩, rfl, hd, h0, h1, h2, h3, h4, h5, h6⟩
def ApiCmd.eqs (x y : ApiCmd) : List Bool := [x.Kind == y.Kind, x.Client == y.Client, x.Seq == y.Seq, strEq x.Key y.Key, strEq x.Val y.Val, strEq x.Old y.Old, x.Node == y.Node]
theorem ApiCmd.eqv {d : Nat} (x y : ApiCmd) : EqV Pr (d + 2) 34 x.val y.val ((ApiCmd.eqs x y).all id) := eqV_struct [(3, 0, 1), (3, 1, 1), (3, 2, 1), (9, 3, 1), (9, 4, 1), (9, 5, 1), (3, 6, 1)] (by kernel_rfl) ⟨⟨_, _, part_one (by kernel_rfl) rfl, part_one (by kernel_rfl) rfl, eqV_int (by kernel_rfl)⟩, ⟨_, _, part_one (by kernel_rfl) rfl, part_one (by kernel_rfl) rfl, eqV_int (by kernel_rfl)⟩, ⟨_, _, part_one (by kernel_rfl) rfl, part_one (by kernel_rfl) rfl, eqV_int (by kernel_rfl)⟩, ⟨_, _, part_one (by kernel_rfl) rfl, part_one (by kernel_rfl) rfl, eqV_text (by kernel_rfl)⟩, ⟨_, _, part_one (by kernel_rfl) rfl, part_one (by kernel_rfl) rfl, eqV_text (by kernel_rfl)⟩, ⟨_, _, part_one (by kernel_rfl) rfl, part_one (by kernel_rfl) rfl, eqV_text (by kernel_rfl)⟩, ⟨_, _, part_one (by kernel_rfl) rfl, part_one (by kernel_rfl) rfl, eqV_int (by kernel_rfl)⟩, trivial⟩
theorem ApiCmd.eqs_iff {x y : ApiCmd} : (ApiCmd.eqs x y).all id = true ↔ x = y := by
  cases x; cases y
  simp only [ApiCmd.eqs, List.all_cons, List.all_nil, Bool.and_eq_true, id, beq_iff_eq, strEq_eq, decide_eq_true_eq, and_true, ApiCmd.mk.injEq]

def eApiEntry : Enc ApiEntry := ⟨ApiEntry.cs, 10, by decide, fun _ => rfl, fun x v hv => List.all_eq_true.1 (show (ApiEntry.cs x).all Value.oneCell' = true from rfl) v hv⟩
def ApiEntry.data (H : Type) (x : ApiEntry) : DataW H := .agg [(.lit (.int .i64 x.Index)), (ApiBallot.data H x.Ballot), (ApiCmd.data H x.Cmd)]
def ApiEntry.wf (x : ApiEntry) : Prop := wfI .i64 x.Index ∧ ApiBallot.wf x.Ballot ∧ ApiCmd.wf x.Cmd
theorem ApiEntry.flat : RdQ Pr 38 (flatQ ApiEntry.cs ApiEntry.data ApiEntry.wf) := (rd_struct [(3, 0, 1), (36, 1, 2), (34, 3, 7)] (Qs := [flatQ (fun n => [.int .i64 n]) (litI .i64) (wfI .i64), flatQ ApiBallot.cs ApiBallot.data ApiBallot.wf, flatQ ApiCmd.cs ApiCmd.data ApiCmd.wf]) (by kernel_rfl) ⟨rd_int (by kernel_rfl), ApiBallot.flat, ApiCmd.flat, trivial⟩).mono fun H w cells d ⟨ds, hd, hc⟩ => by
  obtain ⟨_, _, _, _, rfl, rfl, ⟨x0, rfl, rfl, h0⟩, _, _, _, _, rfl, rfl, ⟨x1, rfl, rfl, h1⟩, _, _, _, _, rfl, rfl, ⟨x2, rfl, rfl, h2⟩, rfl, rfl⟩ := hc
  exact ⟨⟨x0, x1, x2⟩, rfl, hd, h0, h1, h2⟩
def ApiEntry.eqs (x y : ApiEntry) : List Bool := [x.Index == y.Index, (ApiBallot.eqs x.Ballot y.Ballot).all id, (ApiCmd.eqs x.Cmd y.Cmd).all id]
theorem ApiEntry.eqv {d : Nat} (x y : ApiEntry) : EqV Pr (d + 3) 38 x.val y.val ((ApiEntry.eqs x y).all id) := eqV_struct [(3, 0, 1), (36, 1, 2), (34, 3, 7)] (by kernel_rfl) ⟨⟨_, _, part_one (by kernel_rfl) rfl, part_one (by kernel_rfl) rfl, eqV_int (by kernel_rfl)⟩, ⟨_, _, part_agg (n := 2) (ys := ApiBallot.cs x.Ballot) (by kernel_rfl) rfl, part_agg (n := 2) (ys := ApiBallot.cs y.Ballot) (by kernel_rfl) rfl, ApiBallot.eqv x.Ballot y.Ballot⟩, ⟨_, _, part_agg (n := 7) (ys := ApiCmd.cs x.Cmd) (by kernel_rfl) rfl, part_agg (n := 7) (ys := ApiCmd.cs y.Cmd) (by kernel_rfl) rfl, ApiCmd.eqv x.Cmd y.Cmd⟩, trivial⟩
theorem ApiEntry.eqs_iff {x y : ApiEntry} : (ApiEntry.eqs x y).all id = true ↔ x = y := by
  cases x; cases y
  simp only [ApiEntry.eqs, List.all_cons, List.all_nil, Bool.and_eq_true, id, beq_iff_eq, and_true, ApiEntry.mk.injEq, ApiBallot.eqs_iff, ApiCmd.eqs_iff]

theorem ov_slices_overlaps_api_Entry : OvOk Pr 37 := ov_ok (t := 22) (tb := 4) (e := 38) (n := 10) ext_slices_overlaps_api_Entry (by kernel_rfl) (by kernel_rfl) (by kernel_rfl) (by kernel_rfl) (by kernel_rfl) (by kernel_rfl)

end Go.Chg
