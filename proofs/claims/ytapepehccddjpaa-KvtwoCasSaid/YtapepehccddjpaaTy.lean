/-
  The types of the program's values, as Lean types, and facts about the program. Written by a program of ours (gen.py).
-/
import Derived.Test.YtapepehccddjpaaProg
import Derived.Test.YtapepehccddjpaaOwn
namespace Go.Chg
open Go.Vc
noncomputable abbrev Pr : Program := Go.Proofs.Try.prog
theorem Pr_plain : Plain Pr := plain_of (by kernel_rfl)
theorem Pr_mixed : Pr.follows .mixedOrders = true := by kernel_rfl
theorem Pr_func2 : Pr.funcs[2]? = some Go.Proofs.Try.f2 := Go.Proofs.Try.func2
theorem Pr_func3 : Pr.funcs[3]? = some Go.Proofs.Try.f3 := Go.Proofs.Try.func3
theorem Pr_func4 : Pr.funcs[4]? = some Go.Proofs.Try.f4 := Go.Proofs.Try.func4
theorem Pr_func5 : Pr.funcs[5]? = some Go.Proofs.Try.f5 := Go.Proofs.Try.func5
theorem Pr_func6 : Pr.funcs[6]? = some Go.Proofs.Try.f6 := Go.Proofs.Try.func6
theorem Pr_func7 : Pr.funcs[7]? = some Go.Proofs.Try.f7 := Go.Proofs.Try.func7
theorem Pr_func8 : Pr.funcs[8]? = some Go.Proofs.Try.f8 := Go.Proofs.Try.func8
theorem Pr_func9 : Pr.funcs[9]? = some Go.Proofs.Try.f9 := Go.Proofs.Try.func9
theorem Pr_func10 : Pr.funcs[10]? = some Go.Proofs.Try.f10 := Go.Proofs.Try.func10
theorem Pr_func11 : Pr.funcs[11]? = some Go.Proofs.Try.f11 := Go.Proofs.Try.func11
theorem Pr_func12 : Pr.funcs[12]? = some Go.Proofs.Try.f12 := Go.Proofs.Try.func12
theorem Pr_func13 : Pr.funcs[13]? = some Go.Proofs.Try.f13 := Go.Proofs.Try.func13
theorem Pr_func14 : Pr.funcs[14]? = some Go.Proofs.Try.f14 := Go.Proofs.Try.func14
theorem Pr_func15 : Pr.funcs[15]? = some Go.Proofs.Try.f15 := Go.Proofs.Try.func15
theorem Pr_func16 : Pr.funcs[16]? = some Go.Proofs.Try.f16 := Go.Proofs.Try.func16
theorem Pr_func17 : Pr.funcs[17]? = some Go.Proofs.Try.f17 := Go.Proofs.Try.func17
theorem Pr_func18 : Pr.funcs[18]? = some Go.Proofs.Try.f18 := Go.Proofs.Try.func18
theorem Pr_func19 : Pr.funcs[19]? = some Go.Proofs.Try.f19 := Go.Proofs.Try.func19
theorem Pr_func20 : Pr.funcs[20]? = some Go.Proofs.Try.f20 := Go.Proofs.Try.func20
theorem Pr_func21 : Pr.funcs[21]? = some Go.Proofs.Try.f21 := Go.Proofs.Try.func21
theorem Pr_func22 : Pr.funcs[22]? = some Go.Proofs.Try.f22 := Go.Proofs.Try.func22
theorem Pr_func23 : Pr.funcs[23]? = some Go.Proofs.Try.f23 := Go.Proofs.Try.func23
theorem Pr_func24 : Pr.funcs[24]? = some Go.Proofs.Try.f24 := Go.Proofs.Try.func24
theorem Pr_func25 : Pr.funcs[25]? = some Go.Proofs.Try.f25 := Go.Proofs.Try.func25
theorem Pr_func26 : Pr.funcs[26]? = some Go.Proofs.Try.f26 := Go.Proofs.Try.func26
theorem Pr_func27 : Pr.funcs[27]? = some Go.Proofs.Try.f27 := Go.Proofs.Try.func27
theorem Pr_func28 : Pr.funcs[28]? = some Go.Proofs.Try.f28 := Go.Proofs.Try.func28
theorem Pr_func29 : Pr.funcs[29]? = some Go.Proofs.Try.f29 := Go.Proofs.Try.func29
theorem Pr_func30 : Pr.funcs[30]? = some Go.Proofs.Try.f30 := Go.Proofs.Try.func30
theorem Pr_func31 : Pr.funcs[31]? = some Go.Proofs.Try.f31 := Go.Proofs.Try.func31
theorem Pr_func32 : Pr.funcs[32]? = some Go.Proofs.Try.f32 := Go.Proofs.Try.func32
theorem Pr_func33 : Pr.funcs[33]? = some Go.Proofs.Try.f33 := Go.Proofs.Try.func33
theorem Pr_func34 : Pr.funcs[34]? = some Go.Proofs.Try.f34 := Go.Proofs.Try.func34
theorem Pr_func35 : Pr.funcs[35]? = some Go.Proofs.Try.f35 := Go.Proofs.Try.func35
theorem Pr_func36 : Pr.funcs[36]? = some Go.Proofs.Try.f36 := Go.Proofs.Try.func36
theorem Pr_func37 : Pr.funcs[37]? = some Go.Proofs.Try.f37 := Go.Proofs.Try.func37
theorem Pr_func38 : Pr.funcs[38]? = some Go.Proofs.Try.f38 := Go.Proofs.Try.func38
theorem Pr_func39 : Pr.funcs[39]? = some Go.Proofs.Try.f39 := Go.Proofs.Try.func39
theorem Pr_func40 : Pr.funcs[40]? = some Go.Proofs.Try.f40 := Go.Proofs.Try.func40
theorem Pr_func41 : Pr.funcs[41]? = some Go.Proofs.Try.f41 := Go.Proofs.Try.func41
theorem Pr_func42 : Pr.funcs[42]? = some Go.Proofs.Try.f42 := Go.Proofs.Try.func42
theorem Pr_func43 : Pr.funcs[43]? = some Go.Proofs.Try.f43 := Go.Proofs.Try.func43
theorem Pr_func44 : Pr.funcs[44]? = some Go.Proofs.Try.f44 := Go.Proofs.Try.func44
theorem Pr_func45 : Pr.funcs[45]? = some Go.Proofs.Try.f45 := Go.Proofs.Try.func45
theorem Pr_func46 : Pr.funcs[46]? = some Go.Proofs.Try.f46 := Go.Proofs.Try.func46
theorem Pr_func47 : Pr.funcs[47]? = some Go.Proofs.Try.f47 := Go.Proofs.Try.func47
theorem Pr_func48 : Pr.funcs[48]? = some Go.Proofs.Try.f48 := Go.Proofs.Try.func48
theorem Pr_func49 : Pr.funcs[49]? = some Go.Proofs.Try.f49 := Go.Proofs.Try.func49
theorem Pr_func50 : Pr.funcs[50]? = some Go.Proofs.Try.f50 := Go.Proofs.Try.func50
theorem Pr_func51 : Pr.funcs[51]? = some Go.Proofs.Try.f51 := Go.Proofs.Try.func51
theorem Pr_func52 : Pr.funcs[52]? = some Go.Proofs.Try.f52 := Go.Proofs.Try.func52
theorem Pr_func53 : Pr.funcs[53]? = some Go.Proofs.Try.f53 := Go.Proofs.Try.func53
theorem Pr_func54 : Pr.funcs[54]? = some Go.Proofs.Try.f54 := Go.Proofs.Try.func54
theorem Pr_func55 : Pr.funcs[55]? = some Go.Proofs.Try.f55 := Go.Proofs.Try.func55
theorem Pr_func56 : Pr.funcs[56]? = some Go.Proofs.Try.f56 := Go.Proofs.Try.func56
theorem Pr_func57 : Pr.funcs[57]? = some Go.Proofs.Try.f57 := Go.Proofs.Try.func57
theorem Pr_func58 : Pr.funcs[58]? = some Go.Proofs.Try.f58 := Go.Proofs.Try.func58
theorem Pr_func59 : Pr.funcs[59]? = some Go.Proofs.Try.f59 := Go.Proofs.Try.func59
theorem Pr_func60 : Pr.funcs[60]? = some Go.Proofs.Try.f60 := Go.Proofs.Try.func60
theorem Pr_func61 : Pr.funcs[61]? = some Go.Proofs.Try.f61 := Go.Proofs.Try.func61
theorem Pr_func62 : Pr.funcs[62]? = some Go.Proofs.Try.f62 := Go.Proofs.Try.func62
theorem Pr_func63 : Pr.funcs[63]? = some Go.Proofs.Try.f63 := Go.Proofs.Try.func63
theorem Pr_func64 : Pr.funcs[64]? = some Go.Proofs.Try.f64 := Go.Proofs.Try.func64
theorem Pr_func65 : Pr.funcs[65]? = some Go.Proofs.Try.f65 := Go.Proofs.Try.func65
theorem ext_slices_overlaps_api_Session : Pr.funcs[66]? = some Go.Proofs.Try.f66 := Go.Proofs.Try.func66
theorem Pr_func67 : Pr.funcs[67]? = some Go.Proofs.Try.f67 := Go.Proofs.Try.func67
theorem Pr_func68 : Pr.funcs[68]? = some Go.Proofs.Try.f68 := Go.Proofs.Try.func68
theorem Pr_func69 : Pr.funcs[69]? = some Go.Proofs.Try.f69 := Go.Proofs.Try.func69
theorem Pr_func70 : Pr.funcs[70]? = some Go.Proofs.Try.f70 := Go.Proofs.Try.func70
theorem Pr_func71 : Pr.funcs[71]? = some Go.Proofs.Try.f71 := Go.Proofs.Try.func71
theorem Pr_func72 : Pr.funcs[72]? = some Go.Proofs.Try.f72 := Go.Proofs.Try.func72
theorem Pr_func73 : Pr.funcs[73]? = some Go.Proofs.Try.f73 := Go.Proofs.Try.func73
theorem Pr_func74 : Pr.funcs[74]? = some Go.Proofs.Try.f74 := Go.Proofs.Try.func74
theorem Pr_func75 : Pr.funcs[75]? = some Go.Proofs.Try.f75 := Go.Proofs.Try.func75
theorem Pr_func76 : Pr.funcs[76]? = some Go.Proofs.Try.f76 := Go.Proofs.Try.func76
theorem Pr_func77 : Pr.funcs[77]? = some Go.Proofs.Try.f77 := Go.Proofs.Try.func77
theorem Pr_func78 : Pr.funcs[78]? = some Go.Proofs.Try.f78 := Go.Proofs.Try.func78
theorem Pr_func79 : Pr.funcs[79]? = some Go.Proofs.Try.f79 := Go.Proofs.Try.func79
theorem Pr_func80 : Pr.funcs[80]? = some Go.Proofs.Try.f80 := Go.Proofs.Try.func80
theorem Pr_func81 : Pr.funcs[81]? = some Go.Proofs.Try.f81 := Go.Proofs.Try.func81
theorem Pr_func82 : Pr.funcs[82]? = some Go.Proofs.Try.f82 := Go.Proofs.Try.func82
theorem Pr_func83 : Pr.funcs[83]? = some Go.Proofs.Try.f83 := Go.Proofs.Try.func83
theorem Pr_func84 : Pr.funcs[84]? = some Go.Proofs.Try.f84 := Go.Proofs.Try.func84
theorem Pr_func85 : Pr.funcs[85]? = some Go.Proofs.Try.f85 := Go.Proofs.Try.func85
theorem ext_slices_overlaps_api_Pair : Pr.funcs[86]? = some Go.Proofs.Try.f86 := Go.Proofs.Try.func86
theorem Pr_func87 : Pr.funcs[87]? = some Go.Proofs.Try.f87 := Go.Proofs.Try.func87
theorem Pr_func88 : Pr.funcs[88]? = some Go.Proofs.Try.f88 := Go.Proofs.Try.func88
theorem Pr_func89 : Pr.funcs[89]? = some Go.Proofs.Try.f89 := Go.Proofs.Try.func89
theorem Pr_func90 : Pr.funcs[90]? = some Go.Proofs.Try.f90 := Go.Proofs.Try.func90
theorem Pr_func91 : Pr.funcs[91]? = some Go.Proofs.Try.f91 := Go.Proofs.Try.func91
theorem ext_slices_overlaps_api_Entry : Pr.funcs[92]? = some Go.Proofs.Try.f92 := Go.Proofs.Try.func92
theorem Pr_func93 : Pr.funcs[93]? = some Go.Proofs.Try.f93 := Go.Proofs.Try.func93
theorem Pr_func94 : Pr.funcs[94]? = some Go.Proofs.Try.f94 := Go.Proofs.Try.func94
theorem Pr_func95 : Pr.funcs[95]? = some Go.Proofs.Try.f95 := Go.Proofs.Try.func95
theorem ext_internal_bytealg_abigen_runtime_cmpstring : Pr.funcs[96]? = some Go.Proofs.Try.f96 := Go.Proofs.Try.func96
theorem Pr_func97 : Pr.funcs[97]? = some Go.Proofs.Try.f97 := Go.Proofs.Try.func97
theorem Pr_func98 : Pr.funcs[98]? = some Go.Proofs.Try.f98 := Go.Proofs.Try.func98
theorem Pr_func99 : Pr.funcs[99]? = some Go.Proofs.Try.f99 := Go.Proofs.Try.func99
abbrev g_internal_bytealg_MaxLen : Addr := ⟨0, 0, none⟩
abbrev cs0 : List UInt8 := [97, 98, 99, 100, 101, 102, 103, 104, 105, 106, 107, 108, 109, 110, 111, 112, 113, 114, 115, 116, 117, 118, 119, 120, 121, 122, 65, 66, 67, 68, 69, 70, 71, 72, 73, 74, 75, 76, 77, 78, 79, 80, 81, 82, 83, 84, 85, 86, 87, 88, 89, 90, 48, 49, 50, 51, 52, 53, 54, 55, 56, 57, 45, 95, 46, 58]
structure ApiAnswer where
  Client : Int
  Seq : Int
  Err : Int
  Found : Bool
  Val : List UInt8
  Rev : Int
def ApiAnswer.cs (x : ApiAnswer) : List Value := [(.int .i64 x.Client), (.int .i64 x.Seq), (.int .i64 x.Err), (.bool x.Found), (sval x.Val), (.int .i64 x.Rev)]
def ApiAnswer.val (x : ApiAnswer) : Value := .agg ⟨x.cs⟩
def ApiAnswer.un : List Value → Option ApiAnswer
  | [v0, v1, v2, v3, v4, v5] => (unI .i64 v0).bind fun a0 => (unI .i64 v1).bind fun a1 => (unI .i64 v2).bind fun a2 => (unB v3).bind fun a3 => (unS v4).bind fun a4 => (unI .i64 v5).bind fun a5 => some (ApiAnswer.mk a0 a1 a2 a3 a4 a5)
  | _ => none
theorem ApiAnswer.ok : ∀ l x, ApiAnswer.un l = some x → l = x.cs := fun l x h => by
  unfold ApiAnswer.un at h
  split at h
  · simp only [Option.bind_eq_some_iff, Option.some.injEq] at h
    obtain ⟨a0, h0, a1, h1, a2, h2, a3, h3, a4, h4, a5, h5, rfl⟩ := h
    rw [unI_ok .i64 _ _ h0, unI_ok .i64 _ _ h1, unI_ok .i64 _ _ h2, unB_ok _ _ h3, unS_ok _ _ h4, unI_ok .i64 _ _ h5]; rfl
  · cases h
def ApiAnswer.unv : Value → Option ApiAnswer
  | .agg a => ApiAnswer.un a.toList
  | _ => none
def rApiAnswer : RTy := ⟨ApiAnswer, ApiAnswer.val, ApiAnswer.cs, ApiAnswer.unv, ApiAnswer.un, fun v x h => (by cases v <;> first | (have := ApiAnswer.ok _ _ h; exact congrArg Value.agg (Array.toList_inj.1 this)) | cases h), ApiAnswer.ok⟩

structure ApiPair where
  Key : List UInt8
  Val : List UInt8
  Rev : Int
def ApiPair.cs (x : ApiPair) : List Value := [(sval x.Key), (sval x.Val), (.int .i64 x.Rev)]
def ApiPair.val (x : ApiPair) : Value := .agg ⟨x.cs⟩
def ApiPair.un : List Value → Option ApiPair
  | [v0, v1, v2] => (unS v0).bind fun a0 => (unS v1).bind fun a1 => (unI .i64 v2).bind fun a2 => some (ApiPair.mk a0 a1 a2)
  | _ => none
theorem ApiPair.ok : ∀ l x, ApiPair.un l = some x → l = x.cs := fun l x h => by
  unfold ApiPair.un at h
  split at h
  · simp only [Option.bind_eq_some_iff, Option.some.injEq] at h
    obtain ⟨a0, h0, a1, h1, a2, h2, rfl⟩ := h
    rw [unS_ok _ _ h0, unS_ok _ _ h1, unI_ok .i64 _ _ h2]; rfl
  · cases h
def ApiPair.unv : Value → Option ApiPair
  | .agg a => ApiPair.un a.toList
  | _ => none
def rApiPair : RTy := ⟨ApiPair, ApiPair.val, ApiPair.cs, ApiPair.unv, ApiPair.un, fun v x h => (by cases v <;> first | (have := ApiPair.ok _ _ h; exact congrArg Value.agg (Array.toList_inj.1 this)) | cases h), ApiPair.ok⟩

structure ApiCmd where
  Kind : Int
  Client : Int
  Seq : Int
  Key : List UInt8
  Val : List UInt8
  Old : List UInt8
  Node : Int
def ApiCmd.cs (x : ApiCmd) : List Value := [(.int .i64 x.Kind), (.int .i64 x.Client), (.int .i64 x.Seq), (sval x.Key), (sval x.Val), (sval x.Old), (.int .i64 x.Node)]
def ApiCmd.val (x : ApiCmd) : Value := .agg ⟨x.cs⟩
def ApiCmd.un : List Value → Option ApiCmd
  | [v0, v1, v2, v3, v4, v5, v6] => (unI .i64 v0).bind fun a0 => (unI .i64 v1).bind fun a1 => (unI .i64 v2).bind fun a2 => (unS v3).bind fun a3 => (unS v4).bind fun a4 => (unS v5).bind fun a5 => (unI .i64 v6).bind fun a6 => some (ApiCmd.mk a0 a1 a2 a3 a4 a5 a6)
  | _ => none
theorem ApiCmd.ok : ∀ l x, ApiCmd.un l = some x → l = x.cs := fun l x h => by
  unfold ApiCmd.un at h
  split at h
  · simp only [Option.bind_eq_some_iff, Option.some.injEq] at h
    obtain ⟨a0, h0, a1, h1, a2, h2, a3, h3, a4, h4, a5, h5, a6, h6, rfl⟩ := h
    rw [unI_ok .i64 _ _ h0, unI_ok .i64 _ _ h1, unI_ok .i64 _ _ h2, unS_ok _ _ h3, unS_ok _ _ h4, unS_ok _ _ h5, unI_ok .i64 _ _ h6]; rfl
  · cases h
def ApiCmd.unv : Value → Option ApiCmd
  | .agg a => ApiCmd.un a.toList
  | _ => none
def rApiCmd : RTy := ⟨ApiCmd, ApiCmd.val, ApiCmd.cs, ApiCmd.unv, ApiCmd.un, fun v x h => (by cases v <;> first | (have := ApiCmd.ok _ _ h; exact congrArg Value.agg (Array.toList_inj.1 this)) | cases h), ApiCmd.ok⟩

structure ApiSession where
  Client : Int
  Seq : Int
  Last : ApiAnswer
def ApiSession.cs (x : ApiSession) : List Value := [(.int .i64 x.Client), (.int .i64 x.Seq), (.int .i64 x.Last.Client), (.int .i64 x.Last.Seq), (.int .i64 x.Last.Err), (.bool x.Last.Found), (sval x.Last.Val), (.int .i64 x.Last.Rev)]
def ApiSession.val (x : ApiSession) : Value := .agg ⟨x.cs⟩
def ApiSession.un : List Value → Option ApiSession
  | [v0, v1, v2, v3, v4, v5, v6, v7] => (unI .i64 v0).bind fun a0 => (unI .i64 v1).bind fun a1 => (unI .i64 v2).bind fun a2 => (unI .i64 v3).bind fun a3 => (unI .i64 v4).bind fun a4 => (unB v5).bind fun a5 => (unS v6).bind fun a6 => (unI .i64 v7).bind fun a7 => some (ApiSession.mk a0 a1 (ApiAnswer.mk a2 a3 a4 a5 a6 a7))
  | _ => none
theorem ApiSession.ok : ∀ l x, ApiSession.un l = some x → l = x.cs := fun l x h => by
  unfold ApiSession.un at h
  split at h
  · simp only [Option.bind_eq_some_iff, Option.some.injEq] at h
    obtain ⟨a0, h0, a1, h1, a2, h2, a3, h3, a4, h4, a5, h5, a6, h6, a7, h7, rfl⟩ := h
    rw [unI_ok .i64 _ _ h0, unI_ok .i64 _ _ h1, unI_ok .i64 _ _ h2, unI_ok .i64 _ _ h3, unI_ok .i64 _ _ h4, unB_ok _ _ h5, unS_ok _ _ h6, unI_ok .i64 _ _ h7]; rfl
  · cases h
def ApiSession.unv : Value → Option ApiSession
  | .agg a => ApiSession.un a.toList
  | _ => none
def rApiSession : RTy := ⟨ApiSession, ApiSession.val, ApiSession.cs, ApiSession.unv, ApiSession.un, fun v x h => (by cases v <;> first | (have := ApiSession.ok _ _ h; exact congrArg Value.agg (Array.toList_inj.1 this)) | cases h), ApiSession.ok⟩

structure ApiBallot where
  Round : Int
  Node : Int
def ApiBallot.cs (x : ApiBallot) : List Value := [(.int .i64 x.Round), (.int .i64 x.Node)]
def ApiBallot.val (x : ApiBallot) : Value := .agg ⟨x.cs⟩
def ApiBallot.un : List Value → Option ApiBallot
  | [v0, v1] => (unI .i64 v0).bind fun a0 => (unI .i64 v1).bind fun a1 => some (ApiBallot.mk a0 a1)
  | _ => none
theorem ApiBallot.ok : ∀ l x, ApiBallot.un l = some x → l = x.cs := fun l x h => by
  unfold ApiBallot.un at h
  split at h
  · simp only [Option.bind_eq_some_iff, Option.some.injEq] at h
    obtain ⟨a0, h0, a1, h1, rfl⟩ := h
    rw [unI_ok .i64 _ _ h0, unI_ok .i64 _ _ h1]; rfl
  · cases h
def ApiBallot.unv : Value → Option ApiBallot
  | .agg a => ApiBallot.un a.toList
  | _ => none
def rApiBallot : RTy := ⟨ApiBallot, ApiBallot.val, ApiBallot.cs, ApiBallot.unv, ApiBallot.un, fun v x h => (by cases v <;> first | (have := ApiBallot.ok _ _ h; exact congrArg Value.agg (Array.toList_inj.1 this)) | cases h), ApiBallot.ok⟩

structure ApiEntry where
  Index : Int
  Ballot : ApiBallot
  Cmd : ApiCmd
def ApiEntry.cs (x : ApiEntry) : List Value := [(.int .i64 x.Index), (.int .i64 x.Ballot.Round), (.int .i64 x.Ballot.Node), (.int .i64 x.Cmd.Kind), (.int .i64 x.Cmd.Client), (.int .i64 x.Cmd.Seq), (sval x.Cmd.Key), (sval x.Cmd.Val), (sval x.Cmd.Old), (.int .i64 x.Cmd.Node)]
def ApiEntry.val (x : ApiEntry) : Value := .agg ⟨x.cs⟩
def ApiEntry.un : List Value → Option ApiEntry
  | [v0, v1, v2, v3, v4, v5, v6, v7, v8, v9] => (unI .i64 v0).bind fun a0 => (unI .i64 v1).bind fun a1 => (unI .i64 v2).bind fun a2 => (unI .i64 v3).bind fun a3 => (unI .i64 v4).bind fun a4 => (unI .i64 v5).bind fun a5 => (unS v6).bind fun a6 => (unS v7).bind fun a7 => (unS v8).bind fun a8 => (unI .i64 v9).bind fun a9 => some (ApiEntry.mk a0 (ApiBallot.mk a1 a2) (ApiCmd.mk a3 a4 a5 a6 a7 a8 a9))
  | _ => none
theorem ApiEntry.ok : ∀ l x, ApiEntry.un l = some x → l = x.cs := fun l x h => by
  unfold ApiEntry.un at h
  split at h
  · simp only [Option.bind_eq_some_iff, Option.some.injEq] at h
    obtain ⟨a0, h0, a1, h1, a2, h2, a3, h3, a4, h4, a5, h5, a6, h6, a7, h7, a8, h8, a9, h9, rfl⟩ := h
    rw [unI_ok .i64 _ _ h0, unI_ok .i64 _ _ h1, unI_ok .i64 _ _ h2, unI_ok .i64 _ _ h3, unI_ok .i64 _ _ h4, unI_ok .i64 _ _ h5, unS_ok _ _ h6, unS_ok _ _ h7, unS_ok _ _ h8, unI_ok .i64 _ _ h9]; rfl
  · cases h
def ApiEntry.unv : Value → Option ApiEntry
  | .agg a => ApiEntry.un a.toList
  | _ => none
def rApiEntry : RTy := ⟨ApiEntry, ApiEntry.val, ApiEntry.cs, ApiEntry.unv, ApiEntry.un, fun v x h => (by cases v <;> first | (have := ApiEntry.ok _ _ h; exact congrArg Value.agg (Array.toList_inj.1 this)) | cases h), ApiEntry.ok⟩

end Go.Chg
