/-
  How the program's structs lie in memory, and how they read. Written by a program of ours (gen.py).
-/
import Derived.Test.YtnnoalpkldpjfaaGreatDoorTy
import Derived.Test.YtnnoalpkldpjfaaGreatDoorEqs
import Derived.Test.YtnnoalpkldpjfaaGreatDoorMX
set_option linter.unusedVariables false
namespace Go.Chg
open Go.Vc
def eApiCmd : Enc ApiCmd := ⟨ApiCmd.cs, 7, by decide, fun _ => rfl, fun x v hv => List.all_eq_true.1 (show (ApiCmd.cs x).all Value.oneCell' = true from rfl) v hv⟩
def ApiCmd.data (H : Type) (x : ApiCmd) : DataW H := .agg [(.lit (.int .i64 x.Kind)), (.lit (.int .i64 x.Client)), (.lit (.int .i64 x.Seq)), (.lit (.string x.Key)), (.lit (.string x.Val)), (.lit (.string x.Old)), (.lit (.int .i64 x.Node))]
def ApiCmd.wf (x : ApiCmd) : Prop := wfI .i64 x.Kind ∧ wfI .i64 x.Client ∧ wfI .i64 x.Seq ∧ wfS x.Key ∧ wfS x.Val ∧ wfS x.Old ∧ wfI .i64 x.Node
theorem ApiCmd.flat : RdQ Pr 23 (flatQ ApiCmd.cs ApiCmd.data ApiCmd.wf) := (rd_struct [(3, 0, 1), (3, 1, 1), (3, 2, 1), (9, 3, 1), (9, 4, 1), (9, 5, 1), (3, 6, 1)] (Qs := [flatQ (fun n => [.int .i64 n]) (litI .i64) (wfI .i64), flatQ (fun n => [.int .i64 n]) (litI .i64) (wfI .i64), flatQ (fun n => [.int .i64 n]) (litI .i64) (wfI .i64), flatQ (fun l => [sval l]) litS wfS, flatQ (fun l => [sval l]) litS wfS, flatQ (fun l => [sval l]) litS wfS, flatQ (fun n => [.int .i64 n]) (litI .i64) (wfI .i64)]) (by kernel_rfl) ⟨rd_int (by kernel_rfl), rd_int (by kernel_rfl), rd_int (by kernel_rfl), rd_text (by kernel_rfl), rd_text (by kernel_rfl), rd_text (by kernel_rfl), rd_int (by kernel_rfl), trivial⟩).mono fun H w cells d ⟨ds, hd, hc⟩ => by
  obtain ⟨_, _, _, _, rfl, rfl, ⟨x0, rfl, rfl, h0⟩, _, _, _, _, rfl, rfl, ⟨x1, rfl, rfl, h1⟩, _, _, _, _, rfl, rfl, ⟨x2, rfl, rfl, h2⟩, _, _, _, _, rfl, rfl, ⟨x3, rfl, rfl, h3⟩, _, _, _, _, rfl, rfl, ⟨x4, rfl, rfl, h4⟩, _, _, _, _, rfl, rfl, ⟨x5, rfl, rfl, h5⟩, _, _, _, _, rfl, rfl, ⟨x6, rfl, rfl, h6⟩, rfl, rfl⟩ := hc
  exact ⟨⟨x0, x1, x2, x3, x4, x5, x6⟩, rfl, hd, h0, h1, h2, h3, h4, h5, h6⟩
def ApiCmd.eqs (x y : ApiCmd) : List Bool := [x.Kind == y.Kind, x.Client == y.Client, x.Seq == y.Seq, strEq x.Key y.Key, strEq x.Val y.Val, strEq x.Old y.Old, x.Node == y.Node]
theorem ApiCmd.eqv {d : Nat} (x y : ApiCmd) : EqV Pr (d + 2) 23 x.val y.val ((ApiCmd.eqs x y).all id) := eqV_struct [(3, 0, 1), (3, 1, 1), (3, 2, 1), (9, 3, 1), (9, 4, 1), (9, 5, 1), (3, 6, 1)] (by kernel_rfl) ⟨⟨_, _, part_one (by kernel_rfl) rfl, part_one (by kernel_rfl) rfl, eqV_int (by kernel_rfl)⟩, ⟨_, _, part_one (by kernel_rfl) rfl, part_one (by kernel_rfl) rfl, eqV_int (by kernel_rfl)⟩, ⟨_, _, part_one (by kernel_rfl) rfl, part_one (by kernel_rfl) rfl, eqV_int (by kernel_rfl)⟩, ⟨_, _, part_one (by kernel_rfl) rfl, part_one (by kernel_rfl) rfl, eqV_text (by kernel_rfl)⟩, ⟨_, _, part_one (by kernel_rfl) rfl, part_one (by kernel_rfl) rfl, eqV_text (by kernel_rfl)⟩, ⟨_, _, part_one (by kernel_rfl) rfl, part_one (by kernel_rfl) rfl, eqV_text (by kernel_rfl)⟩, ⟨_, _, part_one (by kernel_rfl) rfl, part_one (by kernel_rfl) rfl, eqV_int (by kernel_rfl)⟩, trivial⟩
theorem ApiCmd.eqs_iff {x y : ApiCmd} : (ApiCmd.eqs x y).all id = true ↔ x = y := by
  cases x; cases y
  simp only [ApiCmd.eqs, List.all_cons, List.all_nil, Bool.and_eq_true, id, beq_iff_eq, strEq_eq, decide_eq_true_eq, and_true, ApiCmd.mk.injEq]

def eApiEvent : Enc ApiEvent := ⟨ApiEvent.cs, 11, by decide, fun _ => rfl, fun x v hv => List.all_eq_true.1 (show (ApiEvent.cs x).all Value.oneCell' = true from rfl) v hv⟩
def ApiEvent.data (H : Type) (x : ApiEvent) : DataW H := .agg [(.lit (.int .i64 x.Kind)), (.lit (.int .i64 x.Node)), (.lit (.int .i64 x.N)), (.lit (.int .i64 x.M)), (ApiCmd.data H x.Cmd)]
def ApiEvent.wf (x : ApiEvent) : Prop := wfI .i64 x.Kind ∧ wfI .i64 x.Node ∧ wfI .i64 x.N ∧ wfI .i64 x.M ∧ ApiCmd.wf x.Cmd
theorem ApiEvent.flat : RdQ Pr 33 (flatQ ApiEvent.cs ApiEvent.data ApiEvent.wf) := (rd_struct [(3, 0, 1), (3, 1, 1), (3, 2, 1), (3, 3, 1), (23, 4, 7)] (Qs := [flatQ (fun n => [.int .i64 n]) (litI .i64) (wfI .i64), flatQ (fun n => [.int .i64 n]) (litI .i64) (wfI .i64), flatQ (fun n => [.int .i64 n]) (litI .i64) (wfI .i64), flatQ (fun n => [.int .i64 n]) (litI .i64) (wfI .i64), flatQ ApiCmd.cs ApiCmd.data ApiCmd.wf]) (by kernel_rfl) ⟨rd_int (by kernel_rfl), rd_int (by kernel_rfl), rd_int (by kernel_rfl), rd_int (by kernel_rfl), ApiCmd.flat, trivial⟩).mono fun H w cells d ⟨ds, hd, hc⟩ => by
  obtain ⟨_, _, _, _, rfl, rfl, ⟨x0, rfl, rfl, h0⟩, _, _, _, _, rfl, rfl, ⟨x1, rfl, rfl, h1⟩, _, _, _, _, rfl, rfl, ⟨x2, rfl, rfl, h2⟩, _, _, _, _, rfl, rfl, ⟨x3, rfl, rfl, h3⟩, _, _, _, _, rfl, rfl, ⟨x4, rfl, rfl, h4⟩, rfl, rfl⟩ := hc
  exact ⟨⟨x0, x1, x2, x3, x4⟩, rfl, hd, h0, h1, h2, h3, h4⟩
def ApiEvent.eqs (x y : ApiEvent) : List Bool := [x.Kind == y.Kind, x.Node == y.Node, x.N == y.N, x.M == y.M, (ApiCmd.eqs x.Cmd y.Cmd).all id]
theorem ApiEvent.eqv {d : Nat} (x y : ApiEvent) : EqV Pr (d + 3) 33 x.val y.val ((ApiEvent.eqs x y).all id) := eqV_struct [(3, 0, 1), (3, 1, 1), (3, 2, 1), (3, 3, 1), (23, 4, 7)] (by kernel_rfl) ⟨⟨_, _, part_one (by kernel_rfl) rfl, part_one (by kernel_rfl) rfl, eqV_int (by kernel_rfl)⟩, ⟨_, _, part_one (by kernel_rfl) rfl, part_one (by kernel_rfl) rfl, eqV_int (by kernel_rfl)⟩, ⟨_, _, part_one (by kernel_rfl) rfl, part_one (by kernel_rfl) rfl, eqV_int (by kernel_rfl)⟩, ⟨_, _, part_one (by kernel_rfl) rfl, part_one (by kernel_rfl) rfl, eqV_int (by kernel_rfl)⟩, ⟨_, _, part_agg (n := 7) (ys := ApiCmd.cs x.Cmd) (by kernel_rfl) rfl, part_agg (n := 7) (ys := ApiCmd.cs y.Cmd) (by kernel_rfl) rfl, ApiCmd.eqv x.Cmd y.Cmd⟩, trivial⟩
theorem ApiEvent.eqs_iff {x y : ApiEvent} : (ApiEvent.eqs x y).all id = true ↔ x = y := by
  cases x; cases y
  simp only [ApiEvent.eqs, List.all_cons, List.all_nil, Bool.and_eq_true, id, beq_iff_eq, and_true, ApiEvent.mk.injEq, ApiCmd.eqs_iff]

def eCmdPart : Enc CmdPart := ⟨CmdPart.cs, 4, by decide, fun _ => rfl, fun x v hv => List.all_eq_true.1 (show (CmdPart.cs x).all Value.oneCell' = true from by rcases x with ⟨_, _, (_ | _), (_ | _)⟩ <;> rfl) v hv⟩
def eScriptKind : Enc ScriptKind := ⟨ScriptKind.cs, 2, by decide, fun _ => rfl, fun x v hv => List.all_eq_true.1 (show (ScriptKind.cs x).all Value.oneCell' = true from rfl) v hv⟩
def ScriptKind.data (H : Type) (x : ScriptKind) : DataW H := .agg [(.lit (.string x.name)), (.lit (.int .i64 x.has_))]
def ScriptKind.wf (x : ScriptKind) : Prop := wfS x.name ∧ wfI .i64 x.has_
theorem ScriptKind.flat : RdQ Pr 74 (flatQ ScriptKind.cs ScriptKind.data ScriptKind.wf) := (rd_struct [(9, 0, 1), (3, 1, 1)] (Qs := [flatQ (fun l => [sval l]) litS wfS, flatQ (fun n => [.int .i64 n]) (litI .i64) (wfI .i64)]) (by kernel_rfl) ⟨rd_text (by kernel_rfl), rd_int (by kernel_rfl), trivial⟩).mono fun H w cells d ⟨ds, hd, hc⟩ => by
  obtain ⟨_, _, _, _, rfl, rfl, ⟨x0, rfl, rfl, h0⟩, _, _, _, _, rfl, rfl, ⟨x1, rfl, rfl, h1⟩, rfl, rfl⟩ := hc
  exact ⟨⟨x0, x1⟩, rfl, hd, h0, h1⟩
def ScriptKind.eqs (x y : ScriptKind) : List Bool := [strEq x.name y.name, x.has_ == y.has_]
theorem ScriptKind.eqv {d : Nat} (x y : ScriptKind) : EqV Pr (d + 2) 74 x.val y.val ((ScriptKind.eqs x y).all id) := eqV_struct [(9, 0, 1), (3, 1, 1)] (by kernel_rfl) ⟨⟨_, _, part_one (by kernel_rfl) rfl, part_one (by kernel_rfl) rfl, eqV_text (by kernel_rfl)⟩, ⟨_, _, part_one (by kernel_rfl) rfl, part_one (by kernel_rfl) rfl, eqV_int (by kernel_rfl)⟩, trivial⟩
theorem ScriptKind.eqs_iff {x y : ScriptKind} : (ScriptKind.eqs x y).all id = true ↔ x = y := by
  cases x; cases y
  simp only [ScriptKind.eqs, List.all_cons, List.all_nil, Bool.and_eq_true, id, beq_iff_eq, strEq_eq, decide_eq_true_eq, and_true, ScriptKind.mk.injEq]

def eStringsBuilder : Enc StringsBuilder := ⟨StringsBuilder.cs, 2, by decide, fun _ => rfl, fun x v hv => List.all_eq_true.1 (show (StringsBuilder.cs x).all Value.oneCell' = true from rfl) v hv⟩
def eUtf8AcceptRange : Enc Utf8AcceptRange := ⟨Utf8AcceptRange.cs, 2, by decide, fun _ => rfl, fun x v hv => List.all_eq_true.1 (show (Utf8AcceptRange.cs x).all Value.oneCell' = true from rfl) v hv⟩
def Utf8AcceptRange.data (H : Type) (x : Utf8AcceptRange) : DataW H := .agg [(.lit (.int .u8 x.lo)), (.lit (.int .u8 x.hi))]
def Utf8AcceptRange.wf (x : Utf8AcceptRange) : Prop := wfI .u8 x.lo ∧ wfI .u8 x.hi
theorem Utf8AcceptRange.flat : RdQ Pr 160 (flatQ Utf8AcceptRange.cs Utf8AcceptRange.data Utf8AcceptRange.wf) := (rd_struct [(5, 0, 1), (5, 1, 1)] (Qs := [flatQ (fun n => [.int .u8 n]) (litI .u8) (wfI .u8), flatQ (fun n => [.int .u8 n]) (litI .u8) (wfI .u8)]) (by kernel_rfl) ⟨rd_int (by kernel_rfl), rd_int (by kernel_rfl), trivial⟩).mono fun H w cells d ⟨ds, hd, hc⟩ => by
  obtain ⟨_, _, _, _, rfl, rfl, ⟨x0, rfl, rfl, h0⟩, _, _, _, _, rfl, rfl, ⟨x1, rfl, rfl, h1⟩, rfl, rfl⟩ := hc
  exact ⟨⟨x0, x1⟩, rfl, hd, h0, h1⟩
def Utf8AcceptRange.eqs (x y : Utf8AcceptRange) : List Bool := [x.lo == y.lo, x.hi == y.hi]
theorem Utf8AcceptRange.eqv {d : Nat} (x y : Utf8AcceptRange) : EqV Pr (d + 2) 160 x.val y.val ((Utf8AcceptRange.eqs x y).all id) := eqV_struct [(5, 0, 1), (5, 1, 1)] (by kernel_rfl) ⟨⟨_, _, part_one (by kernel_rfl) rfl, part_one (by kernel_rfl) rfl, eqV_int (by kernel_rfl)⟩, ⟨_, _, part_one (by kernel_rfl) rfl, part_one (by kernel_rfl) rfl, eqV_int (by kernel_rfl)⟩, trivial⟩
theorem Utf8AcceptRange.eqs_iff {x y : Utf8AcceptRange} : (Utf8AcceptRange.eqs x y).all id = true ↔ x = y := by
  cases x; cases y
  simp only [Utf8AcceptRange.eqs, List.all_cons, List.all_nil, Bool.and_eq_true, id, beq_iff_eq, and_true, Utf8AcceptRange.mk.injEq]


end Go.Chg
