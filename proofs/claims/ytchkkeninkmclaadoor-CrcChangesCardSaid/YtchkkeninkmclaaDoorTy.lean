/-
  The types of the program's values, as Lean types, and facts about the program. Written by a program of ours (gen.py).
-/
import Derived.Test.YtchkkeninkmclaaDoorProg
import Derived.Test.YtchkkeninkmclaaDoorOwn
namespace Go.Chg
open Go.Vc
noncomputable abbrev Pr : Program := Go.Proofs.Tryd.prog
theorem Pr_plain : Plain Pr := plain_of (by kernel_rfl)
theorem Pr_mixed : Pr.follows .mixedOrders = true := by kernel_rfl
theorem Pr_func2 : Pr.funcs[2]? = some Go.Proofs.Tryd.f2 := Go.Proofs.Tryd.func2
theorem Pr_func3 : Pr.funcs[3]? = some Go.Proofs.Tryd.f3 := Go.Proofs.Tryd.func3
theorem Pr_func4 : Pr.funcs[4]? = some Go.Proofs.Tryd.f4 := Go.Proofs.Tryd.func4
theorem Pr_func5 : Pr.funcs[5]? = some Go.Proofs.Tryd.f5 := Go.Proofs.Tryd.func5
theorem Pr_func6 : Pr.funcs[6]? = some Go.Proofs.Tryd.f6 := Go.Proofs.Tryd.func6
theorem Pr_func7 : Pr.funcs[7]? = some Go.Proofs.Tryd.f7 := Go.Proofs.Tryd.func7
theorem Pr_func8 : Pr.funcs[8]? = some Go.Proofs.Tryd.f8 := Go.Proofs.Tryd.func8
theorem Pr_func9 : Pr.funcs[9]? = some Go.Proofs.Tryd.f9 := Go.Proofs.Tryd.func9
theorem Pr_func10 : Pr.funcs[10]? = some Go.Proofs.Tryd.f10 := Go.Proofs.Tryd.func10
theorem Pr_func11 : Pr.funcs[11]? = some Go.Proofs.Tryd.f11 := Go.Proofs.Tryd.func11
theorem Pr_func12 : Pr.funcs[12]? = some Go.Proofs.Tryd.f12 := Go.Proofs.Tryd.func12
theorem Pr_func13 : Pr.funcs[13]? = some Go.Proofs.Tryd.f13 := Go.Proofs.Tryd.func13
theorem Pr_func14 : Pr.funcs[14]? = some Go.Proofs.Tryd.f14 := Go.Proofs.Tryd.func14
theorem Pr_func15 : Pr.funcs[15]? = some Go.Proofs.Tryd.f15 := Go.Proofs.Tryd.func15
theorem Pr_func16 : Pr.funcs[16]? = some Go.Proofs.Tryd.f16 := Go.Proofs.Tryd.func16
theorem Pr_func17 : Pr.funcs[17]? = some Go.Proofs.Tryd.f17 := Go.Proofs.Tryd.func17
theorem Pr_func18 : Pr.funcs[18]? = some Go.Proofs.Tryd.f18 := Go.Proofs.Tryd.func18
theorem Pr_func19 : Pr.funcs[19]? = some Go.Proofs.Tryd.f19 := Go.Proofs.Tryd.func19
theorem Pr_func20 : Pr.funcs[20]? = some Go.Proofs.Tryd.f20 := Go.Proofs.Tryd.func20
theorem Pr_func21 : Pr.funcs[21]? = some Go.Proofs.Tryd.f21 := Go.Proofs.Tryd.func21
theorem Pr_func22 : Pr.funcs[22]? = some Go.Proofs.Tryd.f22 := Go.Proofs.Tryd.func22
theorem Pr_func23 : Pr.funcs[23]? = some Go.Proofs.Tryd.f23 := Go.Proofs.Tryd.func23
theorem Pr_func24 : Pr.funcs[24]? = some Go.Proofs.Tryd.f24 := Go.Proofs.Tryd.func24
theorem Pr_func25 : Pr.funcs[25]? = some Go.Proofs.Tryd.f25 := Go.Proofs.Tryd.func25
theorem Pr_func26 : Pr.funcs[26]? = some Go.Proofs.Tryd.f26 := Go.Proofs.Tryd.func26
theorem Pr_func27 : Pr.funcs[27]? = some Go.Proofs.Tryd.f27 := Go.Proofs.Tryd.func27
theorem Pr_func28 : Pr.funcs[28]? = some Go.Proofs.Tryd.f28 := Go.Proofs.Tryd.func28
theorem Pr_func29 : Pr.funcs[29]? = some Go.Proofs.Tryd.f29 := Go.Proofs.Tryd.func29
theorem Pr_func30 : Pr.funcs[30]? = some Go.Proofs.Tryd.f30 := Go.Proofs.Tryd.func30
theorem Pr_func31 : Pr.funcs[31]? = some Go.Proofs.Tryd.f31 := Go.Proofs.Tryd.func31
theorem Pr_func32 : Pr.funcs[32]? = some Go.Proofs.Tryd.f32 := Go.Proofs.Tryd.func32
theorem Pr_func33 : Pr.funcs[33]? = some Go.Proofs.Tryd.f33 := Go.Proofs.Tryd.func33
theorem Pr_func34 : Pr.funcs[34]? = some Go.Proofs.Tryd.f34 := Go.Proofs.Tryd.func34
theorem Pr_func35 : Pr.funcs[35]? = some Go.Proofs.Tryd.f35 := Go.Proofs.Tryd.func35
theorem Pr_func36 : Pr.funcs[36]? = some Go.Proofs.Tryd.f36 := Go.Proofs.Tryd.func36
theorem Pr_func37 : Pr.funcs[37]? = some Go.Proofs.Tryd.f37 := Go.Proofs.Tryd.func37
theorem Pr_func38 : Pr.funcs[38]? = some Go.Proofs.Tryd.f38 := Go.Proofs.Tryd.func38
theorem Pr_func39 : Pr.funcs[39]? = some Go.Proofs.Tryd.f39 := Go.Proofs.Tryd.func39
theorem Pr_func40 : Pr.funcs[40]? = some Go.Proofs.Tryd.f40 := Go.Proofs.Tryd.func40
theorem Pr_func41 : Pr.funcs[41]? = some Go.Proofs.Tryd.f41 := Go.Proofs.Tryd.func41
theorem Pr_func42 : Pr.funcs[42]? = some Go.Proofs.Tryd.f42 := Go.Proofs.Tryd.func42
theorem Pr_func43 : Pr.funcs[43]? = some Go.Proofs.Tryd.f43 := Go.Proofs.Tryd.func43
theorem Pr_func44 : Pr.funcs[44]? = some Go.Proofs.Tryd.f44 := Go.Proofs.Tryd.func44
theorem Pr_func45 : Pr.funcs[45]? = some Go.Proofs.Tryd.f45 := Go.Proofs.Tryd.func45
theorem Pr_func46 : Pr.funcs[46]? = some Go.Proofs.Tryd.f46 := Go.Proofs.Tryd.func46
theorem Pr_func47 : Pr.funcs[47]? = some Go.Proofs.Tryd.f47 := Go.Proofs.Tryd.func47
theorem Pr_func48 : Pr.funcs[48]? = some Go.Proofs.Tryd.f48 := Go.Proofs.Tryd.func48
theorem Pr_func49 : Pr.funcs[49]? = some Go.Proofs.Tryd.f49 := Go.Proofs.Tryd.func49
theorem Pr_func50 : Pr.funcs[50]? = some Go.Proofs.Tryd.f50 := Go.Proofs.Tryd.func50
theorem Pr_func75 : Pr.funcs[75]? = some Go.Proofs.Tryd.f75 := Go.Proofs.Tryd.func75
abbrev g_crc_table : Addr := ⟨0, 0, none⟩
abbrev g_unicode_utf8_first : Addr := ⟨1, 0, none⟩
abbrev g_unicode_utf8_acceptRanges : Addr := ⟨2, 0, none⟩
abbrev g_internal_strconv_uint64pow10 : Addr := ⟨3, 0, none⟩
abbrev g_math_bits_deBruijn32tab : Addr := ⟨4, 0, none⟩
abbrev g_math_bits_deBruijn64tab : Addr := ⟨5, 0, none⟩
abbrev cs0 : List UInt8 := [97, 98, 99, 100, 101, 102, 103, 104, 105, 106, 107, 108, 109, 110, 111, 112, 113, 114, 115, 116, 117, 118, 119, 120, 121, 122, 65, 66, 67, 68, 69, 70, 71, 72, 73, 74, 75, 76, 77, 78, 79, 80, 81, 82, 83, 84, 85, 86, 87, 88, 89, 90, 48, 49, 50, 51, 52, 53, 54, 55, 56, 57, 45, 95, 46, 58]
abbrev cs1 : List UInt8 := [48, 49, 50, 51, 52, 53, 54, 55, 56, 57, 97, 98, 99, 100, 101, 102]
abbrev cs2 : List UInt8 := [48, 49, 50, 51, 52, 53, 54, 55, 56, 57, 97, 98, 99, 100, 101, 102, 103, 104, 105, 106, 107, 108, 109, 110, 111, 112, 113, 114, 115, 116, 117, 118, 119, 120, 121, 122]
abbrev cs3 : List UInt8 := [48, 48, 48, 49, 48, 50, 48, 51, 48, 52, 48, 53, 48, 54, 48, 55, 48, 56, 48, 57, 49, 48, 49, 49, 49, 50, 49, 51, 49, 52, 49, 53, 49, 54, 49, 55, 49, 56, 49, 57, 50, 48, 50, 49, 50, 50, 50, 51, 50, 52, 50, 53, 50, 54, 50, 55, 50, 56, 50, 57, 51, 48, 51, 49, 51, 50, 51, 51, 51, 52, 51, 53, 51, 54, 51, 55, 51, 56, 51, 57, 52, 48, 52, 49, 52, 50, 52, 51, 52, 52, 52, 53, 52, 54, 52, 55, 52, 56, 52, 57, 53, 48, 53, 49, 53, 50, 53, 51, 53, 52, 53, 53, 53, 54, 53, 55, 53, 56, 53, 57, 54, 48, 54, 49, 54, 50, 54, 51, 54, 52, 54, 53, 54, 54, 54, 55, 54, 56, 54, 57, 55, 48, 55, 49, 55, 50, 55, 51, 55, 52, 55, 53, 55, 54, 55, 55, 55, 56, 55, 57, 56, 48, 56, 49, 56, 50, 56, 51, 56, 52, 56, 53, 56, 54, 56, 55, 56, 56, 56, 57, 57, 48, 57, 49, 57, 50, 57, 51, 57, 52, 57, 53, 57, 54, 57, 55, 57, 56, 57, 57]
abbrev cs4 : List UInt8 := [115, 116, 114, 99, 111, 110, 118, 58, 32, 105, 108, 108, 101, 103, 97, 108, 32, 65, 112, 112, 101, 110, 100, 73, 110, 116, 47, 70, 111, 114, 109, 97, 116, 73, 110, 116, 32, 98, 97, 115, 101]
abbrev cs5 : List UInt8 := [0, 1, 2, 2, 3, 3, 3, 3, 4, 4, 4, 4, 4, 4, 4, 4, 5, 5, 5, 5, 5, 5, 5, 5, 5, 5, 5, 5, 5, 5, 5, 5, 6, 6, 6, 6, 6, 6, 6, 6, 6, 6, 6, 6, 6, 6, 6, 6, 6, 6, 6, 6, 6, 6, 6, 6, 6, 6, 6, 6, 6, 6, 6, 6, 7, 7, 7, 7, 7, 7, 7, 7, 7, 7, 7, 7, 7, 7, 7, 7, 7, 7, 7, 7, 7, 7, 7, 7, 7, 7, 7, 7, 7, 7, 7, 7, 7, 7, 7, 7, 7, 7, 7, 7, 7, 7, 7, 7, 7, 7, 7, 7, 7, 7, 7, 7, 7, 7, 7, 7, 7, 7, 7, 7, 7, 7, 7, 7, 8, 8, 8, 8, 8, 8, 8, 8, 8, 8, 8, 8, 8, 8, 8, 8, 8, 8, 8, 8, 8, 8, 8, 8, 8, 8, 8, 8, 8, 8, 8, 8, 8, 8, 8, 8, 8, 8, 8, 8, 8, 8, 8, 8, 8, 8, 8, 8, 8, 8, 8, 8, 8, 8, 8, 8, 8, 8, 8, 8, 8, 8, 8, 8, 8, 8, 8, 8, 8, 8, 8, 8, 8, 8, 8, 8, 8, 8, 8, 8, 8, 8, 8, 8, 8, 8, 8, 8, 8, 8, 8, 8, 8, 8, 8, 8, 8, 8, 8, 8, 8, 8, 8, 8, 8, 8, 8, 8, 8, 8, 8, 8, 8, 8, 8, 8, 8, 8, 8, 8, 8, 8, 8, 8, 8, 8, 8, 8]
structure Utf8AcceptRange where
  lo : Int
  hi : Int
def Utf8AcceptRange.cs (x : Utf8AcceptRange) : List Value := [(.int .u8 x.lo), (.int .u8 x.hi)]
def Utf8AcceptRange.val (x : Utf8AcceptRange) : Value := .agg ⟨x.cs⟩
def Utf8AcceptRange.un : List Value → Option Utf8AcceptRange
  | [v0, v1] => (unI .u8 v0).bind fun a0 => (unI .u8 v1).bind fun a1 => some (Utf8AcceptRange.mk a0 a1)
  | _ => none
theorem Utf8AcceptRange.ok : ∀ l x, Utf8AcceptRange.un l = some x → l = x.cs := fun l x h => by
  unfold Utf8AcceptRange.un at h
  split at h
  · simp only [Option.bind_eq_some_iff, Option.some.injEq] at h
    obtain ⟨a0, h0, a1, h1, rfl⟩ := h
    rw [unI_ok .u8 _ _ h0, unI_ok .u8 _ _ h1]; rfl
  · cases h
def Utf8AcceptRange.unv : Value → Option Utf8AcceptRange
  | .agg a => Utf8AcceptRange.un a.toList
  | _ => none
def rUtf8AcceptRange : RTy := ⟨Utf8AcceptRange, Utf8AcceptRange.val, Utf8AcceptRange.cs, Utf8AcceptRange.unv, Utf8AcceptRange.un, fun v x h => (by cases v <;> first | (have := Utf8AcceptRange.ok _ _ h; exact congrArg Value.agg (Array.toList_inj.1 this)) | cases h), Utf8AcceptRange.ok⟩

end Go.Chg
