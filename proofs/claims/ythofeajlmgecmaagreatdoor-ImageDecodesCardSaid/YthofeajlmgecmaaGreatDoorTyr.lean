/-
  How the program's structs lie in memory, and how they read. Written by a program of ours (gen.py).
-/
import Derived.Test.YthofeajlmgecmaaGreatDoorTy
import Derived.Test.YthofeajlmgecmaaGreatDoorEqs
import Derived.Test.YthofeajlmgecmaaGreatDoorMX
set_option linter.unusedVariables false
namespace Go.Chg
open Go.Vc
def eApiState : Enc ApiState := ⟨ApiState.cs, 3, by decide, fun _ => rfl, fun x v hv => List.all_eq_true.1 (show (ApiState.cs x).all Value.oneCell' = true from rfl) v hv⟩
def eApiPair : Enc ApiPair := ⟨ApiPair.cs, 3, by decide, fun _ => rfl, fun x v hv => List.all_eq_true.1 (show (ApiPair.cs x).all Value.oneCell' = true from rfl) v hv⟩
def ApiPair.data (H : Type) (x : ApiPair) : DataW H := .agg [(.lit (.string x.Key)), (.lit (.string x.Val)), (.lit (.int .i64 x.Rev))]
def ApiPair.wf (x : ApiPair) : Prop := wfS x.Key ∧ wfS x.Val ∧ wfI .i64 x.Rev
theorem ApiPair.flat : RdQ Pr 131 (flatQ ApiPair.cs ApiPair.data ApiPair.wf) := (rd_struct [(9, 0, 1), (9, 1, 1), (3, 2, 1)] (Qs := [flatQ (fun l => [sval l]) litS wfS, flatQ (fun l => [sval l]) litS wfS, flatQ (fun n => [.int .i64 n]) (litI .i64) (wfI .i64)]) (by kernel_rfl) ⟨rd_text (by kernel_rfl), rd_text (by kernel_rfl), rd_int (by kernel_rfl), trivial⟩).mono fun H w cells d ⟨ds, hd, hc⟩ => by
  obtain ⟨_, _, _, _, rfl, rfl, ⟨x0, rfl, rfl, h0⟩, _, _, _, _, rfl, rfl, ⟨x1, rfl, rfl, h1⟩, _, _, _, _, rfl, rfl, ⟨x2, rfl, rfl, h2⟩, rfl, rfl⟩ := hc
  exact ⟨⟨x0, x1, x2⟩, rfl, hd, h0, h1, h2⟩
def ApiPair.eqs (x y : ApiPair) : List Bool := [strEq x.Key y.Key, strEq x.Val y.Val, x.Rev == y.Rev]
theorem ApiPair.eqv {d : Nat} (x y : ApiPair) : EqV Pr (d + 2) 131 x.val y.val ((ApiPair.eqs x y).all id) := eqV_struct [(9, 0, 1), (9, 1, 1), (3, 2, 1)] (by kernel_rfl) ⟨⟨_, _, part_one (by kernel_rfl) rfl, part_one (by kernel_rfl) rfl, eqV_text (by kernel_rfl)⟩, ⟨_, _, part_one (by kernel_rfl) rfl, part_one (by kernel_rfl) rfl, eqV_text (by kernel_rfl)⟩, ⟨_, _, part_one (by kernel_rfl) rfl, part_one (by kernel_rfl) rfl, eqV_int (by kernel_rfl)⟩, trivial⟩
theorem ApiPair.eqs_iff {x y : ApiPair} : (ApiPair.eqs x y).all id = true ↔ x = y := by
  cases x; cases y
  simp only [ApiPair.eqs, List.all_cons, List.all_nil, Bool.and_eq_true, id, beq_iff_eq, strEq_eq, decide_eq_true_eq, and_true, ApiPair.mk.injEq]

def eApiAnswer : Enc ApiAnswer := ⟨ApiAnswer.cs, 6, by decide, fun _ => rfl, fun x v hv => List.all_eq_true.1 (show (ApiAnswer.cs x).all Value.oneCell' = true from rfl) v hv⟩
def ApiAnswer.data (H : Type) (x : ApiAnswer) : DataW H := .agg [(.lit (.int .i64 x.Client)), (.lit (.int .i64 x.Seq)), (.lit (.int .i64 x.Err)), (.lit (.bool x.Found)), (.lit (.string x.Val)), (.lit (.int .i64 x.Rev))]
def ApiAnswer.wf (x : ApiAnswer) : Prop := wfI .i64 x.Client ∧ wfI .i64 x.Seq ∧ wfI .i64 x.Err ∧ True ∧ wfS x.Val ∧ wfI .i64 x.Rev
theorem ApiAnswer.flat : RdQ Pr 134 (flatQ ApiAnswer.cs ApiAnswer.data ApiAnswer.wf) := (rd_struct [(3, 0, 1), (3, 1, 1), (31, 2, 1), (4, 3, 1), (9, 4, 1), (3, 5, 1)] (Qs := [flatQ (fun n => [.int .i64 n]) (litI .i64) (wfI .i64), flatQ (fun n => [.int .i64 n]) (litI .i64) (wfI .i64), flatQ (fun n => [.int .i64 n]) (litI .i64) (wfI .i64), flatQ (fun b => [.bool b]) litB (fun _ => True), flatQ (fun l => [sval l]) litS wfS, flatQ (fun n => [.int .i64 n]) (litI .i64) (wfI .i64)]) (by kernel_rfl) ⟨rd_int (by kernel_rfl), rd_int (by kernel_rfl), rd_int (by kernel_rfl), rd_bool (by kernel_rfl), rd_text (by kernel_rfl), rd_int (by kernel_rfl), trivial⟩).mono fun H w cells d ⟨ds, hd, hc⟩ => by
  obtain ⟨_, _, _, _, rfl, rfl, ⟨x0, rfl, rfl, h0⟩, _, _, _, _, rfl, rfl, ⟨x1, rfl, rfl, h1⟩, _, _, _, _, rfl, rfl, ⟨x2, rfl, rfl, h2⟩, _, _, _, _, rfl, rfl, ⟨x3, rfl, rfl, h3⟩, _, _, _, _, rfl, rfl, ⟨x4, rfl, rfl, h4⟩, _, _, _, _, rfl, rfl, ⟨x5, rfl, rfl, h5⟩, rfl, rfl⟩ := hc
  exact ⟨⟨x0, x1, x2, x3, x4, x5⟩, rfl, hd, h0, h1, h2, h3, h4, h5⟩
def ApiAnswer.eqs (x y : ApiAnswer) : List Bool := [x.Client == y.Client, x.Seq == y.Seq, x.Err == y.Err, x.Found == y.Found, strEq x.Val y.Val, x.Rev == y.Rev]
theorem ApiAnswer.eqv {d : Nat} (x y : ApiAnswer) : EqV Pr (d + 2) 134 x.val y.val ((ApiAnswer.eqs x y).all id) := eqV_struct [(3, 0, 1), (3, 1, 1), (31, 2, 1), (4, 3, 1), (9, 4, 1), (3, 5, 1)] (by kernel_rfl) ⟨⟨_, _, part_one (by kernel_rfl) rfl, part_one (by kernel_rfl) rfl, eqV_int (by kernel_rfl)⟩, ⟨_, _, part_one (by kernel_rfl) rfl, part_one (by kernel_rfl) rfl, eqV_int (by kernel_rfl)⟩, ⟨_, _, part_one (by kernel_rfl) rfl, part_one (by kernel_rfl) rfl, eqV_int (by kernel_rfl)⟩, ⟨_, _, part_one (by kernel_rfl) rfl, part_one (by kernel_rfl) rfl, eqV_bool (by kernel_rfl)⟩, ⟨_, _, part_one (by kernel_rfl) rfl, part_one (by kernel_rfl) rfl, eqV_text (by kernel_rfl)⟩, ⟨_, _, part_one (by kernel_rfl) rfl, part_one (by kernel_rfl) rfl, eqV_int (by kernel_rfl)⟩, trivial⟩
theorem ApiAnswer.eqs_iff {x y : ApiAnswer} : (ApiAnswer.eqs x y).all id = true ↔ x = y := by
  cases x; cases y
  simp only [ApiAnswer.eqs, List.all_cons, List.all_nil, Bool.and_eq_true, id, beq_iff_eq, strEq_eq, decide_eq_true_eq, and_true, ApiAnswer.mk.injEq]

def eApiSession : Enc ApiSession := ⟨ApiSession.cs, 8, by decide, fun _ => rfl, fun x v hv => List.all_eq_true.1 (show (ApiSession.cs x).all Value.oneCell' = true from rfl) v hv⟩
def ApiSession.data (H : Type) (x : ApiSession) : DataW H := .agg [(.lit (.int .i64 x.Client)), (.lit (.int .i64 x.Seq)), (ApiAnswer.data H x.Last)]
def ApiSession.wf (x : ApiSession) : Prop := wfI .i64 x.Client ∧ wfI .i64 x.Seq ∧ ApiAnswer.wf x.Last
theorem ApiSession.flat : RdQ Pr 136 (flatQ ApiSession.cs ApiSession.data ApiSession.wf) := (rd_struct [(3, 0, 1), (3, 1, 1), (134, 2, 6)] (Qs := [flatQ (fun n => [.int .i64 n]) (litI .i64) (wfI .i64), flatQ (fun n => [.int .i64 n]) (litI .i64) (wfI .i64), flatQ ApiAnswer.cs ApiAnswer.data ApiAnswer.wf]) (by kernel_rfl) ⟨rd_int (by kernel_rfl), rd_int (by kernel_rfl), ApiAnswer.flat, trivial⟩).mono fun H w cells d ⟨ds, hd, hc⟩ => by
  obtain ⟨_, _, _, _, rfl, rfl, ⟨x0, rfl, rfl, h0⟩, _, _, _, _, rfl, rfl, ⟨x1, rfl, rfl, h1⟩, _, _, _, _, rfl, rfl, ⟨x2, rfl, rfl, h2⟩, rfl, rfl⟩ := hc
  exact ⟨⟨x0, x1, x2⟩, rfl, hd, h0, h1, h2⟩
def ApiSession.eqs (x y : ApiSession) : List Bool := [x.Client == y.Client, x.Seq == y.Seq, (ApiAnswer.eqs x.Last y.Last).all id]
theorem ApiSession.eqv {d : Nat} (x y : ApiSession) : EqV Pr (d + 3) 136 x.val y.val ((ApiSession.eqs x y).all id) := eqV_struct [(3, 0, 1), (3, 1, 1), (134, 2, 6)] (by kernel_rfl) ⟨⟨_, _, part_one (by kernel_rfl) rfl, part_one (by kernel_rfl) rfl, eqV_int (by kernel_rfl)⟩, ⟨_, _, part_one (by kernel_rfl) rfl, part_one (by kernel_rfl) rfl, eqV_int (by kernel_rfl)⟩, ⟨_, _, part_agg (n := 6) (ys := ApiAnswer.cs x.Last) (by kernel_rfl) rfl, part_agg (n := 6) (ys := ApiAnswer.cs y.Last) (by kernel_rfl) rfl, ApiAnswer.eqv x.Last y.Last⟩, trivial⟩
theorem ApiSession.eqs_iff {x y : ApiSession} : (ApiSession.eqs x y).all id = true ↔ x = y := by
  cases x; cases y
  simp only [ApiSession.eqs, List.all_cons, List.all_nil, Bool.and_eq_true, id, beq_iff_eq, and_true, ApiSession.mk.injEq, ApiAnswer.eqs_iff]

theorem ApiState.deep : RdQ Pr 28 (fun H w cells d => ∃ (x : ApiState) (l1 : List ApiPair) (l2 : List ApiSession), cells = x.cs ∧ wfI .i64 x.Schema ∧ IsSl eApiPair w x.Pairs l1 ∧ (∀ y ∈ l1, (ApiPair.wf) y) ∧ IsSl eApiSession w x.Sessions l2 ∧ (∀ y ∈ l2, (ApiSession.wf) y)) := (rd_struct [(3, 0, 1), (25, 1, 1), (26, 2, 1)] (Qs := [flatQ (fun n => [.int .i64 n]) (litI .i64) (wfI .i64), slQ eApiPair (ApiPair.data) (ApiPair.wf), slQ eApiSession (ApiSession.data) (ApiSession.wf)]) (by kernel_rfl) ⟨rd_int (by kernel_rfl), rd_slice (by kernel_rfl) ApiPair.flat, rd_slice (by kernel_rfl) ApiSession.flat, trivial⟩).mono fun H w cells d ⟨ds, hd, hc⟩ => by
  obtain ⟨_, _, _, _, rfl, rfl, ⟨x0, rfl, rfl, h0⟩, _, _, _, _, rfl, rfl, ⟨x1, l1, rfl, h1, k1, _⟩, _, _, _, _, rfl, rfl, ⟨x2, l2, rfl, h2, k2, _⟩, rfl, rfl⟩ := hc
  exact ⟨⟨x0, x1, x2⟩, l1, l2, rfl, h0, h1, k1, h2, k2⟩

def eApiImage : Enc ApiImage := ⟨ApiImage.cs, 6, by decide, fun _ => rfl, fun x v hv => List.all_eq_true.1 (show (ApiImage.cs x).all Value.oneCell' = true from rfl) v hv⟩
def eApiConf : Enc ApiConf := ⟨ApiConf.cs, 2, by decide, fun _ => rfl, fun x v hv => List.all_eq_true.1 (show (ApiConf.cs x).all Value.oneCell' = true from rfl) v hv⟩
theorem ApiConf.deep : RdQ Pr 75 (fun H w cells d => ∃ (x : ApiConf) (l1 : List Int), cells = x.cs ∧ wfI .i64 x.From ∧ IsSl (eK .i64) w x.Members l1 ∧ (∀ y ∈ l1, (wfI .i64) y)) := (rd_struct [(3, 0, 1), (73, 1, 1)] (Qs := [flatQ (fun n => [.int .i64 n]) (litI .i64) (wfI .i64), slQ (eK .i64) (litI .i64) (wfI .i64)]) (by kernel_rfl) ⟨rd_int (by kernel_rfl), rd_slice (by kernel_rfl) (rd_int (t := 3) (by kernel_rfl)), trivial⟩).mono fun H w cells d ⟨ds, hd, hc⟩ => by
  obtain ⟨_, _, _, _, rfl, rfl, ⟨x0, rfl, rfl, h0⟩, _, _, _, _, rfl, rfl, ⟨x1, l1, rfl, h1, k1, _⟩, rfl, rfl⟩ := hc
  exact ⟨⟨x0, x1⟩, l1, rfl, h0, h1, k1⟩

def eUtf8AcceptRange : Enc Utf8AcceptRange := ⟨Utf8AcceptRange.cs, 2, by decide, fun _ => rfl, fun x v hv => List.all_eq_true.1 (show (Utf8AcceptRange.cs x).all Value.oneCell' = true from rfl) v hv⟩
def Utf8AcceptRange.data (H : Type) (x : Utf8AcceptRange) : DataW H := .agg [(.lit (.int .u8 x.lo)), (.lit (.int .u8 x.hi))]
def Utf8AcceptRange.wf (x : Utf8AcceptRange) : Prop := wfI .u8 x.lo ∧ wfI .u8 x.hi
theorem Utf8AcceptRange.flat : RdQ Pr 239 (flatQ Utf8AcceptRange.cs Utf8AcceptRange.data Utf8AcceptRange.wf) := (rd_struct [(5, 0, 1), (5, 1, 1)] (Qs := [flatQ (fun n => [.int .u8 n]) (litI .u8) (wfI .u8), flatQ (fun n => [.int .u8 n]) (litI .u8) (wfI .u8)]) (by kernel_rfl) ⟨rd_int (by kernel_rfl), rd_int (by kernel_rfl), trivial⟩).mono fun H w cells d ⟨ds, hd, hc⟩ => by
  obtain ⟨_, _, _, _, rfl, rfl, ⟨x0, rfl, rfl, h0⟩, _, _, _, _, rfl, rfl, ⟨x1, rfl, rfl, h1⟩, rfl, rfl⟩ := hc
  exact ⟨⟨x0, x1⟩, rfl, hd, h0, h1⟩
def Utf8AcceptRange.eqs (x y : Utf8AcceptRange) : List Bool := [x.lo == y.lo, x.hi == y.hi]
theorem Utf8AcceptRange.eqv {d : Nat} (x y : Utf8AcceptRange) : EqV Pr (d + 2) 239 x.val y.val ((Utf8AcceptRange.eqs x y).all id) := eqV_struct [(5, 0, 1), (5, 1, 1)] (by kernel_rfl) ⟨⟨_, _, part_one (by kernel_rfl) rfl, part_one (by kernel_rfl) rfl, eqV_int (by kernel_rfl)⟩, ⟨_, _, part_one (by kernel_rfl) rfl, part_one (by kernel_rfl) rfl, eqV_int (by kernel_rfl)⟩, trivial⟩
theorem Utf8AcceptRange.eqs_iff {x y : Utf8AcceptRange} : (Utf8AcceptRange.eqs x y).all id = true ↔ x = y := by
  cases x; cases y
  simp only [Utf8AcceptRange.eqs, List.all_cons, List.all_nil, Bool.and_eq_true, id, beq_iff_eq, and_true, Utf8AcceptRange.mk.injEq]


end Go.Chg
