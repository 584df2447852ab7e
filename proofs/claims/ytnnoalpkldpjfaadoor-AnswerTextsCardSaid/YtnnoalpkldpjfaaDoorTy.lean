/-
  The types of the program's values, as Lean types, and facts about the program. Written by a program of ours (gen.py).
-/
import Derived.Test.YtnnoalpkldpjfaaDoorProg
import Derived.Test.YtnnoalpkldpjfaaDoorOwn
namespace Go.Chg
open Go.Vc
noncomputable abbrev Pr : Program := Go.Proofs.Tryd.prog
theorem Pr_plain : Plain Pr := plain_of (by kernel_rfl)
theorem Pr_mixed : Pr.follows .mixedOrders = true := by kernel_rfl
theorem Pr_func2 : Pr.funcs[2]? = some Go.Proofs.Tryd.f2 := Go.Proofs.Tryd.func2
theorem Pr_func3 : Pr.funcs[3]? = some Go.Proofs.Tryd.f3 := Go.Proofs.Tryd.func3
theorem Pr_func4 : Pr.funcs[4]? = some Go.Proofs.Tryd.f4 := Go.Proofs.Tryd.func4
theorem Pr_func5 : Pr.funcs[5]? = some Go.Proofs.Tryd.f5 := Go.Proofs.Tryd.func5
theorem Pr_func6 : Pr.funcs[6]? = some Go.Proofs.Tryd.f6 := Go.Proofs.Tryd.func6
theorem Pr_func7 : Pr.funcs[7]? = some Go.Proofs.Tryd.f7 := Go.Proofs.Tryd.func7
theorem Pr_func8 : Pr.funcs[8]? = some Go.Proofs.Tryd.f8 := Go.Proofs.Tryd.func8
theorem Pr_func9 : Pr.funcs[9]? = some Go.Proofs.Tryd.f9 := Go.Proofs.Tryd.func9
theorem Pr_func10 : Pr.funcs[10]? = some Go.Proofs.Tryd.f10 := Go.Proofs.Tryd.func10
theorem Pr_func11 : Pr.funcs[11]? = some Go.Proofs.Tryd.f11 := Go.Proofs.Tryd.func11
theorem Pr_func12 : Pr.funcs[12]? = some Go.Proofs.Tryd.f12 := Go.Proofs.Tryd.func12
theorem Pr_func13 : Pr.funcs[13]? = some Go.Proofs.Tryd.f13 := Go.Proofs.Tryd.func13
theorem Pr_func14 : Pr.funcs[14]? = some Go.Proofs.Tryd.f14 := Go.Proofs.Tryd.func14
theorem Pr_func15 : Pr.funcs[15]? = some Go.Proofs.Tryd.f15 := Go.Proofs.Tryd.func15
theorem Pr_func16 : Pr.funcs[16]? = some Go.Proofs.Tryd.f16 := Go.Proofs.Tryd.func16
theorem Pr_func17 : Pr.funcs[17]? = some Go.Proofs.Tryd.f17 := Go.Proofs.Tryd.func17
theorem Pr_func18 : Pr.funcs[18]? = some Go.Proofs.Tryd.f18 := Go.Proofs.Tryd.func18
theorem Pr_func19 : Pr.funcs[19]? = some Go.Proofs.Tryd.f19 := Go.Proofs.Tryd.func19
theorem Pr_func20 : Pr.funcs[20]? = some Go.Proofs.Tryd.f20 := Go.Proofs.Tryd.func20
theorem Pr_func21 : Pr.funcs[21]? = some Go.Proofs.Tryd.f21 := Go.Proofs.Tryd.func21
theorem Pr_func22 : Pr.funcs[22]? = some Go.Proofs.Tryd.f22 := Go.Proofs.Tryd.func22
theorem Pr_func23 : Pr.funcs[23]? = some Go.Proofs.Tryd.f23 := Go.Proofs.Tryd.func23
theorem Pr_func24 : Pr.funcs[24]? = some Go.Proofs.Tryd.f24 := Go.Proofs.Tryd.func24
theorem Pr_func25 : Pr.funcs[25]? = some Go.Proofs.Tryd.f25 := Go.Proofs.Tryd.func25
theorem Pr_func26 : Pr.funcs[26]? = some Go.Proofs.Tryd.f26 := Go.Proofs.Tryd.func26
theorem Pr_func27 : Pr.funcs[27]? = some Go.Proofs.Tryd.f27 := Go.Proofs.Tryd.func27
theorem Pr_func28 : Pr.funcs[28]? = some Go.Proofs.Tryd.f28 := Go.Proofs.Tryd.func28
theorem Pr_func29 : Pr.funcs[29]? = some Go.Proofs.Tryd.f29 := Go.Proofs.Tryd.func29
theorem Pr_func30 : Pr.funcs[30]? = some Go.Proofs.Tryd.f30 := Go.Proofs.Tryd.func30
theorem Pr_func31 : Pr.funcs[31]? = some Go.Proofs.Tryd.f31 := Go.Proofs.Tryd.func31
theorem Pr_func32 : Pr.funcs[32]? = some Go.Proofs.Tryd.f32 := Go.Proofs.Tryd.func32
theorem Pr_func33 : Pr.funcs[33]? = some Go.Proofs.Tryd.f33 := Go.Proofs.Tryd.func33
theorem Pr_func34 : Pr.funcs[34]? = some Go.Proofs.Tryd.f34 := Go.Proofs.Tryd.func34
theorem Pr_func35 : Pr.funcs[35]? = some Go.Proofs.Tryd.f35 := Go.Proofs.Tryd.func35
theorem Pr_func36 : Pr.funcs[36]? = some Go.Proofs.Tryd.f36 := Go.Proofs.Tryd.func36
theorem Pr_func37 : Pr.funcs[37]? = some Go.Proofs.Tryd.f37 := Go.Proofs.Tryd.func37
theorem Pr_func38 : Pr.funcs[38]? = some Go.Proofs.Tryd.f38 := Go.Proofs.Tryd.func38
theorem Pr_func39 : Pr.funcs[39]? = some Go.Proofs.Tryd.f39 := Go.Proofs.Tryd.func39
theorem Pr_func40 : Pr.funcs[40]? = some Go.Proofs.Tryd.f40 := Go.Proofs.Tryd.func40
theorem Pr_func41 : Pr.funcs[41]? = some Go.Proofs.Tryd.f41 := Go.Proofs.Tryd.func41
theorem Pr_func42 : Pr.funcs[42]? = some Go.Proofs.Tryd.f42 := Go.Proofs.Tryd.func42
theorem Pr_func43 : Pr.funcs[43]? = some Go.Proofs.Tryd.f43 := Go.Proofs.Tryd.func43
theorem Pr_func44 : Pr.funcs[44]? = some Go.Proofs.Tryd.f44 := Go.Proofs.Tryd.func44
theorem Pr_func45 : Pr.funcs[45]? = some Go.Proofs.Tryd.f45 := Go.Proofs.Tryd.func45
theorem Pr_func46 : Pr.funcs[46]? = some Go.Proofs.Tryd.f46 := Go.Proofs.Tryd.func46
theorem Pr_func47 : Pr.funcs[47]? = some Go.Proofs.Tryd.f47 := Go.Proofs.Tryd.func47
theorem Pr_func48 : Pr.funcs[48]? = some Go.Proofs.Tryd.f48 := Go.Proofs.Tryd.func48
theorem Pr_func49 : Pr.funcs[49]? = some Go.Proofs.Tryd.f49 := Go.Proofs.Tryd.func49
theorem Pr_func50 : Pr.funcs[50]? = some Go.Proofs.Tryd.f50 := Go.Proofs.Tryd.func50
theorem Pr_func51 : Pr.funcs[51]? = some Go.Proofs.Tryd.f51 := Go.Proofs.Tryd.func51
theorem Pr_func52 : Pr.funcs[52]? = some Go.Proofs.Tryd.f52 := Go.Proofs.Tryd.func52
theorem Pr_func53 : Pr.funcs[53]? = some Go.Proofs.Tryd.f53 := Go.Proofs.Tryd.func53
theorem Pr_func54 : Pr.funcs[54]? = some Go.Proofs.Tryd.f54 := Go.Proofs.Tryd.func54
theorem Pr_func55 : Pr.funcs[55]? = some Go.Proofs.Tryd.f55 := Go.Proofs.Tryd.func55
theorem Pr_func56 : Pr.funcs[56]? = some Go.Proofs.Tryd.f56 := Go.Proofs.Tryd.func56
theorem Pr_func57 : Pr.funcs[57]? = some Go.Proofs.Tryd.f57 := Go.Proofs.Tryd.func57
theorem Pr_func58 : Pr.funcs[58]? = some Go.Proofs.Tryd.f58 := Go.Proofs.Tryd.func58
theorem Pr_func59 : Pr.funcs[59]? = some Go.Proofs.Tryd.f59 := Go.Proofs.Tryd.func59
theorem Pr_func60 : Pr.funcs[60]? = some Go.Proofs.Tryd.f60 := Go.Proofs.Tryd.func60
theorem Pr_func61 : Pr.funcs[61]? = some Go.Proofs.Tryd.f61 := Go.Proofs.Tryd.func61
theorem Pr_func62 : Pr.funcs[62]? = some Go.Proofs.Tryd.f62 := Go.Proofs.Tryd.func62
theorem ext_internal_abi_NoEscape : Pr.funcs[63]? = some Go.Proofs.Tryd.f63 := Go.Proofs.Tryd.func63
theorem Pr_func64 : Pr.funcs[64]? = some Go.Proofs.Tryd.f64 := Go.Proofs.Tryd.func64
theorem Pr_func65 : Pr.funcs[65]? = some Go.Proofs.Tryd.f65 := Go.Proofs.Tryd.func65
theorem Pr_func66 : Pr.funcs[66]? = some Go.Proofs.Tryd.f66 := Go.Proofs.Tryd.func66
theorem Pr_func67 : Pr.funcs[67]? = some Go.Proofs.Tryd.f67 := Go.Proofs.Tryd.func67
theorem Pr_func68 : Pr.funcs[68]? = some Go.Proofs.Tryd.f68 := Go.Proofs.Tryd.func68
theorem Pr_func69 : Pr.funcs[69]? = some Go.Proofs.Tryd.f69 := Go.Proofs.Tryd.func69
theorem Pr_func70 : Pr.funcs[70]? = some Go.Proofs.Tryd.f70 := Go.Proofs.Tryd.func70
theorem Pr_func71 : Pr.funcs[71]? = some Go.Proofs.Tryd.f71 := Go.Proofs.Tryd.func71
theorem Pr_func72 : Pr.funcs[72]? = some Go.Proofs.Tryd.f72 := Go.Proofs.Tryd.func72
theorem ext_internal_bytealg_MakeNoZero : Pr.funcs[73]? = some Go.Proofs.Tryd.f73 := Go.Proofs.Tryd.func73
theorem ext_internal_bytealg_IndexString : Pr.funcs[74]? = some Go.Proofs.Tryd.f74 := Go.Proofs.Tryd.func74
theorem Pr_func75 : Pr.funcs[75]? = some Go.Proofs.Tryd.f75 := Go.Proofs.Tryd.func75
theorem Pr_func76 : Pr.funcs[76]? = some Go.Proofs.Tryd.f76 := Go.Proofs.Tryd.func76
theorem ext_internal_bytealg_IndexByteString : Pr.funcs[77]? = some Go.Proofs.Tryd.f77 := Go.Proofs.Tryd.func77
theorem Pr_func78 : Pr.funcs[78]? = some Go.Proofs.Tryd.f78 := Go.Proofs.Tryd.func78
theorem Pr_func79 : Pr.funcs[79]? = some Go.Proofs.Tryd.f79 := Go.Proofs.Tryd.func79
theorem Pr_func80 : Pr.funcs[80]? = some Go.Proofs.Tryd.f80 := Go.Proofs.Tryd.func80
theorem Pr_func110 : Pr.funcs[110]? = some Go.Proofs.Tryd.f110 := Go.Proofs.Tryd.func110
abbrev fid_law09_AnswerTexts : Nat := 3
abbrev fid_law09_awake : Nat := 4
abbrev fid_ref09_Check : Nat := 5
abbrev fid_ref09_Text : Nat := 6
abbrev fid_answer_Parse : Nat := 7
abbrev fid_answer_Text : Nat := 8
abbrev fid_ref05_Val : Nat := 9
abbrev fid_ref08_Digits : Nat := 10
abbrev fid_ref06_Quote : Nat := 11
abbrev fid_quote_Words : Nat := 12
abbrev fid_answer_Parse_1 : Nat := 13
abbrev fid_strconv_Atoi : Nat := 14
abbrev fid_quote_Unquote : Nat := 15
abbrev fid_answer_Check : Nat := 16
abbrev fid_strconv_Itoa : Nat := 17
abbrev fid_quote_Line : Nat := 18
abbrev fid_answer_found : Nat := 19
abbrev fid_quote_Quote : Nat := 20
abbrev fid_ref05_Bad : Nat := 21
abbrev fid_ref05_Size : Nat := 22
abbrev fid_quote_word : Nat := 23
abbrev fid_internal_strconv_Atoi : Nat := 24
abbrev fid_strconv_toError : Nat := 25
abbrev fid_quote_unescape : Nat := 26
abbrev fid_answer_Check_1 : Nat := 27
abbrev fid_runes_Val : Nat := 28
abbrev fid_internal_strconv_Itoa : Nat := 29
abbrev fid_strings_Join : Nat := 30
abbrev fid_strings_Builder_WriteByte : Nat := 31
abbrev fid_unicode_utf8_DecodeRuneInString : Nat := 32
abbrev fid_strings_Builder_WriteString : Nat := 33
abbrev fid_quote_escape : Nat := 34
abbrev fid_strings_Builder_String : Nat := 35
abbrev fid_quote_quoted : Nat := 36
abbrev fid_strings_Cut : Nat := 37
abbrev fid_internal_strconv_ParseInt : Nat := 38
abbrev fid_strconv_syntaxError : Nat := 39
abbrev fid_strconv_rangeError : Nat := 40
abbrev fid_strconv_baseError : Nat := 41
abbrev fid_strconv_bitSizeError : Nat := 42
abbrev fid_quote_digit : Nat := 43
abbrev fid_runes_Whole : Nat := 44
abbrev fid_runes_all : Nat := 45
abbrev fid_runes_Val_1 : Nat := 46
abbrev fid_internal_strconv_FormatInt : Nat := 47
abbrev fid_strings_Builder_Grow : Nat := 48
abbrev fid_strings_Builder_copyCheck : Nat := 49
abbrev fid_unicode_utf8_decodeRuneInStringSlow : Nat := 50
abbrev fid_quote_byteAs : Nat := 51
abbrev fid_internal_stringslite_Cut : Nat := 52
abbrev fid_internal_strconv_ParseUint : Nat := 53
abbrev fid_internal_stringslite_Clone : Nat := 54
abbrev fid_errors_New : Nat := 55
abbrev fid_strings_IndexByte : Nat := 56
abbrev fid_runes_Bad : Nat := 57
abbrev fid_internal_strconv_small : Nat := 58
abbrev fid_internal_strconv_numDigits : Nat := 59
abbrev fid_internal_strconv_formatBase10 : Nat := 60
abbrev fid_internal_strconv_formatBits : Nat := 61
abbrev fid_strings_Builder_grow : Nat := 62
abbrev fid_internal_abi_NoEscape : Nat := 63
abbrev fid_internal_stringslite_Index : Nat := 64
abbrev fid_internal_strconv_lower : Nat := 65
abbrev fid_internal_strconv_underscoreOK : Nat := 66
abbrev fid_internal_stringslite_IndexByte : Nat := 67
abbrev fid_internal_strconv_log10Pow2 : Nat := 68
abbrev fid_math_bits_Len64 : Nat := 69
abbrev fid_internal_strconv_bool2_int : Nat := 70
abbrev fid_internal_strconv_isPowerOfTwo : Nat := 71
abbrev fid_math_bits_TrailingZeros : Nat := 72
abbrev fid_internal_bytealg_MakeNoZero : Nat := 73
abbrev fid_internal_bytealg_IndexString : Nat := 74
abbrev fid_internal_bytealg_Cutover : Nat := 75
abbrev fid_internal_bytealg_IndexRabinKarp_string : Nat := 76
abbrev fid_internal_bytealg_IndexByteString : Nat := 77
abbrev fid_math_bits_TrailingZeros32 : Nat := 78
abbrev fid_math_bits_TrailingZeros64 : Nat := 79
abbrev fid_internal_bytealg_hashStr_string : Nat := 80
abbrev g_strconv_ErrSyntax : Addr := ⟨0, 0, none⟩
abbrev g_strconv_ErrRange : Addr := ⟨1, 0, none⟩
abbrev g_unicode_utf8_first : Addr := ⟨2, 0, none⟩
abbrev g_unicode_utf8_acceptRanges : Addr := ⟨3, 0, none⟩
abbrev g_internal_strconv_uint64pow10 : Addr := ⟨4, 0, none⟩
abbrev g_internal_bytealg_MaxLen : Addr := ⟨5, 0, none⟩
abbrev g_math_bits_deBruijn32tab : Addr := ⟨6, 0, none⟩
abbrev g_math_bits_deBruijn64tab : Addr := ⟨7, 0, none⟩
abbrev cs15_63069 : List UInt8 := [49, 32, 50, 32, 48, 32, 51, 32, 121, 101, 115, 32, 34, 118, 34]
abbrev cs16_37011 : List UInt8 := [48, 49, 50, 51, 52, 53, 54, 55, 56, 57, 97, 98, 99, 100, 101, 102]
abbrev cs36_14857 : List UInt8 := [115, 116, 114, 105, 110, 103, 115, 58, 32, 74, 111, 105, 110, 32, 111, 117, 116, 112, 117, 116, 32, 108, 101, 110, 103, 116, 104, 32, 111, 118, 101, 114, 102, 108, 111, 119]
abbrev cs36_73535 : List UInt8 := [115, 116, 114, 105, 110, 103, 115, 46, 66, 117, 105, 108, 100, 101, 114, 46, 71, 114, 111, 119, 58, 32, 110, 101, 103, 97, 116, 105, 118, 101, 32, 99, 111, 117, 110, 116]
abbrev cs36_19037 : List UInt8 := [48, 49, 50, 51, 52, 53, 54, 55, 56, 57, 97, 98, 99, 100, 101, 102, 103, 104, 105, 106, 107, 108, 109, 110, 111, 112, 113, 114, 115, 116, 117, 118, 119, 120, 121, 122]
abbrev cs200_63933 : List UInt8 := [48, 48, 48, 49, 48, 50, 48, 51, 48, 52, 48, 53, 48, 54, 48, 55, 48, 56, 48, 57, 49, 48, 49, 49, 49, 50, 49, 51, 49, 52, 49, 53, 49, 54, 49, 55, 49, 56, 49, 57, 50, 48, 50, 49, 50, 50, 50, 51, 50, 52, 50, 53, 50, 54, 50, 55, 50, 56, 50, 57, 51, 48, 51, 49, 51, 50, 51, 51, 51, 52, 51, 53, 51, 54, 51, 55, 51, 56, 51, 57, 52, 48, 52, 49, 52, 50, 52, 51, 52, 52, 52, 53, 52, 54, 52, 55, 52, 56, 52, 57, 53, 48, 53, 49, 53, 50, 53, 51, 53, 52, 53, 53, 53, 54, 53, 55, 53, 56, 53, 57, 54, 48, 54, 49, 54, 50, 54, 51, 54, 52, 54, 53, 54, 54, 54, 55, 54, 56, 54, 57, 55, 48, 55, 49, 55, 50, 55, 51, 55, 52, 55, 53, 55, 54, 55, 55, 55, 56, 55, 57, 56, 48, 56, 49, 56, 50, 56, 51, 56, 52, 56, 53, 56, 54, 56, 55, 56, 56, 56, 57, 57, 48, 57, 49, 57, 50, 57, 51, 57, 52, 57, 53, 57, 54, 57, 55, 57, 56, 57, 57]
abbrev cs41_69658 : List UInt8 := [115, 116, 114, 99, 111, 110, 118, 58, 32, 105, 108, 108, 101, 103, 97, 108, 32, 65, 112, 112, 101, 110, 100, 73, 110, 116, 47, 70, 111, 114, 109, 97, 116, 73, 110, 116, 32, 98, 97, 115, 101]
abbrev cs256_85724 : List UInt8 := [0, 1, 2, 2, 3, 3, 3, 3, 4, 4, 4, 4, 4, 4, 4, 4, 5, 5, 5, 5, 5, 5, 5, 5, 5, 5, 5, 5, 5, 5, 5, 5, 6, 6, 6, 6, 6, 6, 6, 6, 6, 6, 6, 6, 6, 6, 6, 6, 6, 6, 6, 6, 6, 6, 6, 6, 6, 6, 6, 6, 6, 6, 6, 6, 7, 7, 7, 7, 7, 7, 7, 7, 7, 7, 7, 7, 7, 7, 7, 7, 7, 7, 7, 7, 7, 7, 7, 7, 7, 7, 7, 7, 7, 7, 7, 7, 7, 7, 7, 7, 7, 7, 7, 7, 7, 7, 7, 7, 7, 7, 7, 7, 7, 7, 7, 7, 7, 7, 7, 7, 7, 7, 7, 7, 7, 7, 7, 7, 8, 8, 8, 8, 8, 8, 8, 8, 8, 8, 8, 8, 8, 8, 8, 8, 8, 8, 8, 8, 8, 8, 8, 8, 8, 8, 8, 8, 8, 8, 8, 8, 8, 8, 8, 8, 8, 8, 8, 8, 8, 8, 8, 8, 8, 8, 8, 8, 8, 8, 8, 8, 8, 8, 8, 8, 8, 8, 8, 8, 8, 8, 8, 8, 8, 8, 8, 8, 8, 8, 8, 8, 8, 8, 8, 8, 8, 8, 8, 8, 8, 8, 8, 8, 8, 8, 8, 8, 8, 8, 8, 8, 8, 8, 8, 8, 8, 8, 8, 8, 8, 8, 8, 8, 8, 8, 8, 8, 8, 8, 8, 8, 8, 8, 8, 8, 8, 8, 8, 8, 8, 8, 8, 8, 8, 8, 8, 8]
abbrev cs18_78615 : List UInt8 := [118, 97, 108, 117, 101, 32, 111, 117, 116, 32, 111, 102, 32, 114, 97, 110, 103, 101]
abbrev cs14_36949 : List UInt8 := [105, 110, 118, 97, 108, 105, 100, 32, 115, 121, 110, 116, 97, 120]
structure ApiAnswer where
  Client : Int
  Seq : Int
  Err : Int
  Found : Bool
  Val : List UInt8
  Rev : Int
def ApiAnswer.cs (x : ApiAnswer) : List Value := [(.int .i64 x.Client), (.int .i64 x.Seq), (.int .i64 x.Err), (.bool x.Found), (sval x.Val), (.int .i64 x.Rev)]
def ApiAnswer.val (x : ApiAnswer) : Value := .agg ⟨x.cs⟩
def ApiAnswer.un : List Value → Option ApiAnswer
  | [v0, v1, v2, v3, v4, v5] => (unI .i64 v0).bind fun a0 => (unI .i64 v1).bind fun a1 => (unI .i64 v2).bind fun a2 => (unB v3).bind fun a3 => (unS v4).bind fun a4 => (unI .i64 v5).bind fun a5 => some (ApiAnswer.mk a0 a1 a2 a3 a4 a5)
  | _ => none
theorem ApiAnswer.ok : ∀ l x, ApiAnswer.un l = some x → l = x.cs := fun l x h => by
  unfold ApiAnswer.un at h
  split at h
  · simp only [Option.bind_eq_some_iff, Option.some.injEq] at h
    obtain ⟨a0, h0, a1, h1, a2, h2, a3, h3, a4, h4, a5, h5, rfl⟩ := h
    rw [unI_ok .i64 _ _ h0, unI_ok .i64 _ _ h1, unI_ok .i64 _ _ h2, unB_ok _ _ h3, unS_ok _ _ h4, unI_ok .i64 _ _ h5]; rfl
  · cases h
def ApiAnswer.unv : Value → Option ApiAnswer
  | .agg a => ApiAnswer.un a.toList
  | _ => none
def rApiAnswer : RTy := ⟨ApiAnswer, ApiAnswer.val, ApiAnswer.cs, ApiAnswer.unv, ApiAnswer.un, fun v x h => (by cases v <;> first | (have := ApiAnswer.ok _ _ h; exact congrArg Value.agg (Array.toList_inj.1 this)) | cases h), ApiAnswer.ok⟩

structure StringsBuilder where
  addr : Option Addr
  buf : Sl
def StringsBuilder.cs (x : StringsBuilder) : List Value := [(.pointer x.addr), x.buf.val]
def StringsBuilder.val (x : StringsBuilder) : Value := .agg ⟨x.cs⟩
def StringsBuilder.un : List Value → Option StringsBuilder
  | [v0, v1] => (unP v0).bind fun a0 => (unSl v1).bind fun a1 => some (StringsBuilder.mk a0 a1)
  | _ => none
theorem StringsBuilder.ok : ∀ l x, StringsBuilder.un l = some x → l = x.cs := fun l x h => by
  unfold StringsBuilder.un at h
  split at h
  · simp only [Option.bind_eq_some_iff, Option.some.injEq] at h
    obtain ⟨a0, h0, a1, h1, rfl⟩ := h
    rw [unP_ok _ _ h0, unSl_ok _ _ h1]; rfl
  · cases h
def StringsBuilder.unv : Value → Option StringsBuilder
  | .agg a => StringsBuilder.un a.toList
  | _ => none
def rStringsBuilder : RTy := ⟨StringsBuilder, StringsBuilder.val, StringsBuilder.cs, StringsBuilder.unv, StringsBuilder.un, fun v x h => (by cases v <;> first | (have := StringsBuilder.ok _ _ h; exact congrArg Value.agg (Array.toList_inj.1 this)) | cases h), StringsBuilder.ok⟩

structure Utf8AcceptRange where
  lo : Int
  hi : Int
def Utf8AcceptRange.cs (x : Utf8AcceptRange) : List Value := [(.int .u8 x.lo), (.int .u8 x.hi)]
def Utf8AcceptRange.val (x : Utf8AcceptRange) : Value := .agg ⟨x.cs⟩
def Utf8AcceptRange.un : List Value → Option Utf8AcceptRange
  | [v0, v1] => (unI .u8 v0).bind fun a0 => (unI .u8 v1).bind fun a1 => some (Utf8AcceptRange.mk a0 a1)
  | _ => none
theorem Utf8AcceptRange.ok : ∀ l x, Utf8AcceptRange.un l = some x → l = x.cs := fun l x h => by
  unfold Utf8AcceptRange.un at h
  split at h
  · simp only [Option.bind_eq_some_iff, Option.some.injEq] at h
    obtain ⟨a0, h0, a1, h1, rfl⟩ := h
    rw [unI_ok .u8 _ _ h0, unI_ok .u8 _ _ h1]; rfl
  · cases h
def Utf8AcceptRange.unv : Value → Option Utf8AcceptRange
  | .agg a => Utf8AcceptRange.un a.toList
  | _ => none
def rUtf8AcceptRange : RTy := ⟨Utf8AcceptRange, Utf8AcceptRange.val, Utf8AcceptRange.cs, Utf8AcceptRange.unv, Utf8AcceptRange.un, fun v x h => (by cases v <;> first | (have := Utf8AcceptRange.ok _ _ h; exact congrArg Value.agg (Array.toList_inj.1 this)) | cases h), Utf8AcceptRange.ok⟩

end Go.Chg
