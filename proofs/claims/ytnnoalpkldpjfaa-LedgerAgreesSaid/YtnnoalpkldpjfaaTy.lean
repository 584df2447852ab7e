/-
  The types of the program's values, as Lean types, and facts about the program. Written by a program of ours (gen.py).
-/
import Derived.Test.YtnnoalpkldpjfaaProg
import Derived.Test.YtnnoalpkldpjfaaOwn
import Derived.Test.YtnnoalpkldpjfaaRng2
namespace Go.Chg
open Go.Vc
noncomputable abbrev Pr : Program := Go.Proofs.Try.prog
theorem Pr_plain : Plain Pr := plain_of (by kernel_rfl)
theorem Pr_mixed : Pr.follows .mixedOrders = true := by kernel_rfl
theorem Pr_func2 : Pr.funcs[2]? = some Go.Proofs.Try.f2 := Go.Proofs.Try.func2
theorem Pr_func3 : Pr.funcs[3]? = some Go.Proofs.Try.f3 := Go.Proofs.Try.func3
theorem Pr_func4 : Pr.funcs[4]? = some Go.Proofs.Try.f4 := Go.Proofs.Try.func4
theorem Pr_func5 : Pr.funcs[5]? = some Go.Proofs.Try.f5 := Go.Proofs.Try.func5
theorem Pr_func6 : Pr.funcs[6]? = some Go.Proofs.Try.f6 := Go.Proofs.Try.func6
theorem Pr_func7 : Pr.funcs[7]? = some Go.Proofs.Try.f7 := Go.Proofs.Try.func7
theorem Pr_func8 : Pr.funcs[8]? = some Go.Proofs.Try.f8 := Go.Proofs.Try.func8
theorem Pr_func9 : Pr.funcs[9]? = some Go.Proofs.Try.f9 := Go.Proofs.Try.func9
theorem Pr_func10 : Pr.funcs[10]? = some Go.Proofs.Try.f10 := Go.Proofs.Try.func10
theorem Pr_func11 : Pr.funcs[11]? = some Go.Proofs.Try.f11 := Go.Proofs.Try.func11
theorem Pr_func12 : Pr.funcs[12]? = some Go.Proofs.Try.f12 := Go.Proofs.Try.func12
theorem Pr_func13 : Pr.funcs[13]? = some Go.Proofs.Try.f13 := Go.Proofs.Try.func13
theorem Pr_func14 : Pr.funcs[14]? = some Go.Proofs.Try.f14 := Go.Proofs.Try.func14
theorem Pr_func15 : Pr.funcs[15]? = some Go.Proofs.Try.f15 := Go.Proofs.Try.func15
theorem Pr_func16 : Pr.funcs[16]? = some Go.Proofs.Try.f16 := Go.Proofs.Try.func16
theorem Pr_func17 : Pr.funcs[17]? = some Go.Proofs.Try.f17 := Go.Proofs.Try.func17
theorem Pr_func18 : Pr.funcs[18]? = some Go.Proofs.Try.f18 := Go.Proofs.Try.func18
theorem Pr_func19 : Pr.funcs[19]? = some Go.Proofs.Try.f19 := Go.Proofs.Try.func19
theorem Pr_func20 : Pr.funcs[20]? = some Go.Proofs.Try.f20 := Go.Proofs.Try.func20
theorem Pr_func21 : Pr.funcs[21]? = some Go.Proofs.Try.f21 := Go.Proofs.Try.func21
theorem Pr_func22 : Pr.funcs[22]? = some Go.Proofs.Try.f22 := Go.Proofs.Try.func22
theorem Pr_func23 : Pr.funcs[23]? = some Go.Proofs.Try.f23 := Go.Proofs.Try.func23
theorem Pr_func24 : Pr.funcs[24]? = some Go.Proofs.Try.f24 := Go.Proofs.Try.func24
theorem Pr_func25 : Pr.funcs[25]? = some Go.Proofs.Try.f25 := Go.Proofs.Try.func25
theorem Pr_func26 : Pr.funcs[26]? = some Go.Proofs.Try.f26 := Go.Proofs.Try.func26
theorem Pr_func27 : Pr.funcs[27]? = some Go.Proofs.Try.f27 := Go.Proofs.Try.func27
theorem Pr_func28 : Pr.funcs[28]? = some Go.Proofs.Try.f28 := Go.Proofs.Try.func28
theorem Pr_func29 : Pr.funcs[29]? = some Go.Proofs.Try.f29 := Go.Proofs.Try.func29
theorem Pr_func30 : Pr.funcs[30]? = some Go.Proofs.Try.f30 := Go.Proofs.Try.func30
theorem Pr_func31 : Pr.funcs[31]? = some Go.Proofs.Try.f31 := Go.Proofs.Try.func31
theorem Pr_func32 : Pr.funcs[32]? = some Go.Proofs.Try.f32 := Go.Proofs.Try.func32
theorem Pr_func33 : Pr.funcs[33]? = some Go.Proofs.Try.f33 := Go.Proofs.Try.func33
theorem Pr_func34 : Pr.funcs[34]? = some Go.Proofs.Try.f34 := Go.Proofs.Try.func34
theorem Pr_func35 : Pr.funcs[35]? = some Go.Proofs.Try.f35 := Go.Proofs.Try.func35
theorem Pr_func36 : Pr.funcs[36]? = some Go.Proofs.Try.f36 := Go.Proofs.Try.func36
theorem ext_slices_overlaps_api_Entry : Pr.funcs[37]? = some Go.Proofs.Try.f37 := Go.Proofs.Try.func37
theorem Pr_func38 : Pr.funcs[38]? = some Go.Proofs.Try.f38 := Go.Proofs.Try.func38
theorem Pr_func39 : Pr.funcs[39]? = some Go.Proofs.Try.f39 := Go.Proofs.Try.func39
theorem Pr_func40 : Pr.funcs[40]? = some Go.Proofs.Try.f40 := Go.Proofs.Try.func40
theorem Pr_func41 : Pr.funcs[41]? = some Go.Proofs.Try.f41 := Go.Proofs.Try.func41
abbrev fid_law32_LedgerNext : Nat := 3
abbrev fid_law32_LedgerAgrees : Nat := 4
abbrev fid_ref12_Large : Nat := 5
abbrev fid_ref12_Rise : Nat := 6
abbrev fid_law32_awake : Nat := 7
abbrev fid_ledger_Ready : Nat := 8
abbrev fid_ref12_Same : Nat := 9
abbrev fid_ref32_Ready : Nat := 10
abbrev fid_ref01_Ints : Nat := 11
abbrev fid_ledger_Holes : Nat := 12
abbrev fid_ref32_Holes : Nat := 13
abbrev fid_ledger_Top : Nat := 14
abbrev fid_ref32_Top : Nat := 15
abbrev fid_ledger_Merge : Nat := 16
abbrev fid_ledger_Agree : Nat := 17
abbrev fid_ref32_Agree : Nat := 18
abbrev fid_ref32_Merge : Nat := 19
abbrev fid_ledger_above : Nat := 20
abbrev fid_ledger_behind : Nat := 21
abbrev fid_entry_From : Nat := 22
abbrev fid_slices_Clone_api_Entry_api_Entry : Nat := 23
abbrev fid_entry_Find : Nat := 24
abbrev fid_entry_With : Nat := 25
abbrev fid_slices_ContainsFunc_api_Entry_api_Entry : Nat := 26
abbrev fid_ledger_Agree_1 : Nat := 27
abbrev fid_ref12_Find : Nat := 28
abbrev fid_ref12_With : Nat := 29
abbrev fid_ledger_behind_1 : Nat := 30
abbrev fid_entry_place : Nat := 31
abbrev fid_slices_Insert_api_Entry_api_Entry : Nat := 32
abbrev fid_slices_IndexFunc_api_Entry_api_Entry : Nat := 33
abbrev fid_slices_BinarySearchFunc_api_Entry_api_Entry_int : Nat := 34
abbrev fid_entry_place_1 : Nat := 35
abbrev fid_cmp_Compare_int : Nat := 36
abbrev fid_slices_overlaps_api_Entry : Nat := 37
abbrev fid_slices_rotateRight_api_Entry : Nat := 38
abbrev fid_cmp_isNaN_int : Nat := 39
abbrev fid_slices_rotateLeft_api_Entry : Nat := 40
abbrev fid_slices_Reverse_api_Entry_api_Entry : Nat := 41
structure ApiBallot where
  Round : Int
  Node : Int
def ApiBallot.cs (x : ApiBallot) : List Value := [(.int .i64 x.Round), (.int .i64 x.Node)]
def ApiBallot.val (x : ApiBallot) : Value := .agg ⟨x.cs⟩
def ApiBallot.un : List Value → Option ApiBallot
  | [v0, v1] => (unI .i64 v0).bind fun a0 => (unI .i64 v1).bind fun a1 => some (ApiBallot.mk a0 a1)
  | _ => none
theorem ApiBallot.ok : ∀ l x, ApiBallot.un l = some x → l = x.cs := fun l x h => by
  unfold ApiBallot.un at h
  split at h
  · simp only [Option.bind_eq_some_iff, Option.some.injEq] at h
    obtain ⟨a0, h0, a1, h1, rfl⟩ := h
    rw [unI_ok .i64 _ _ h0, unI_ok .i64 _ _ h1]; rfl
  · cases h
def ApiBallot.unv : Value → Option ApiBallot
  | .agg a => ApiBallot.un a.toList
  | _ => none
def rApiBallot : RTy := ⟨ApiBallot, ApiBallot.val, ApiBallot.cs, ApiBallot.unv, ApiBallot.un, fun v x h => (by cases v <;> first | (have := ApiBallot.ok _ _ h; exact congrArg Value.agg (Array.toList_inj.1 this)) | cases h), ApiBallot.ok⟩

structure ApiCmd where
  Kind : Int
  Client : Int
  Seq : Int
  Key : List UInt8
  Val : List UInt8
  Old : List UInt8
  Node : Int
def ApiCmd.cs (x : ApiCmd) : List Value := [(.int .i64 x.Kind), (.int .i64 x.Client), (.int .i64 x.Seq), (sval x.Key), (sval x.Val), (sval x.Old), (.int .i64 x.Node)]
def ApiCmd.val (x : ApiCmd) : Value := .agg ⟨x.cs⟩
def ApiCmd.un : List Value → Option ApiCmd
  | [v0, v1, v2, v3, v4, v5, v6] => (unI .i64 v0).bind fun a0 => (unI .i64 v1).bind fun a1 => (unI .i64 v2).bind fun a2 => (unS v3).bind fun a3 => (unS v4).bind fun a4 => (unS v5).bind fun a5 => (unI .i64 v6).bind fun a6 => some (ApiCmd.mk a0 a1 a2 a3 a4 a5 a6)
  | _ => none
theorem ApiCmd.ok : ∀ l x, ApiCmd.un l = some x → l = x.cs := fun l x h => by
  unfold ApiCmd.un at h
  split at h
  · simp only [Option.bind_eq_some_iff, Option.some.injEq] at h
    obtain ⟨a0, h0, a1, h1, a2, h2, a3, h3, a4, h4, a5, h5, a6, h6, rfl⟩ := h
    rw [unI_ok .i64 _ _ h0, unI_ok .i64 _ _ h1, unI_ok .i64 _ _ h2, unS_ok _ _ h3, unS_ok _ _ h4, unS_ok _ _ h5, unI_ok .i64 _ _ h6]; rfl
  · cases h
def ApiCmd.unv : Value → Option ApiCmd
  | .agg a => ApiCmd.un a.toList
  | _ => none
def rApiCmd : RTy := ⟨ApiCmd, ApiCmd.val, ApiCmd.cs, ApiCmd.unv, ApiCmd.un, fun v x h => (by cases v <;> first | (have := ApiCmd.ok _ _ h; exact congrArg Value.agg (Array.toList_inj.1 this)) | cases h), ApiCmd.ok⟩

structure ApiEntry where
  Index : Int
  Ballot : ApiBallot
  Cmd : ApiCmd
def ApiEntry.cs (x : ApiEntry) : List Value := [(.int .i64 x.Index), (.int .i64 x.Ballot.Round), (.int .i64 x.Ballot.Node), (.int .i64 x.Cmd.Kind), (.int .i64 x.Cmd.Client), (.int .i64 x.Cmd.Seq), (sval x.Cmd.Key), (sval x.Cmd.Val), (sval x.Cmd.Old), (.int .i64 x.Cmd.Node)]
def ApiEntry.val (x : ApiEntry) : Value := .agg ⟨x.cs⟩
def ApiEntry.un : List Value → Option ApiEntry
  | [v0, v1, v2, v3, v4, v5, v6, v7, v8, v9] => (unI .i64 v0).bind fun a0 => (unI .i64 v1).bind fun a1 => (unI .i64 v2).bind fun a2 => (unI .i64 v3).bind fun a3 => (unI .i64 v4).bind fun a4 => (unI .i64 v5).bind fun a5 => (unS v6).bind fun a6 => (unS v7).bind fun a7 => (unS v8).bind fun a8 => (unI .i64 v9).bind fun a9 => some (ApiEntry.mk a0 (ApiBallot.mk a1 a2) (ApiCmd.mk a3 a4 a5 a6 a7 a8 a9))
  | _ => none
theorem ApiEntry.ok : ∀ l x, ApiEntry.un l = some x → l = x.cs := fun l x h => by
  unfold ApiEntry.un at h
  split at h
  · simp only [Option.bind_eq_some_iff, Option.some.injEq] at h
    obtain ⟨a0, h0, a1, h1, a2, h2, a3, h3, a4, h4, a5, h5, a6, h6, a7, h7, a8, h8, a9, h9, rfl⟩ := h
    rw [unI_ok .i64 _ _ h0, unI_ok .i64 _ _ h1, unI_ok .i64 _ _ h2, unI_ok .i64 _ _ h3, unI_ok .i64 _ _ h4, unI_ok .i64 _ _ h5, unS_ok _ _ h6, unS_ok _ _ h7, unS_ok _ _ h8, unI_ok .i64 _ _ h9]; rfl
  · cases h
def ApiEntry.unv : Value → Option ApiEntry
  | .agg a => ApiEntry.un a.toList
  | _ => none
def rApiEntry : RTy := ⟨ApiEntry, ApiEntry.val, ApiEntry.cs, ApiEntry.unv, ApiEntry.un, fun v x h => (by cases v <;> first | (have := ApiEntry.ok _ _ h; exact congrArg Value.agg (Array.toList_inj.1 this)) | cases h), ApiEntry.ok⟩

end Go.Chg
