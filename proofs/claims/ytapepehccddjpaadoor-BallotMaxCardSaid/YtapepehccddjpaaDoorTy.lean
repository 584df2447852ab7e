/-
  The types of the program's values, as Lean types, and facts about the program. Written by a program of ours (gen.py).
-/
import Derived.Test.YtapepehccddjpaaDoorProg
import Derived.Test.YtapepehccddjpaaDoorOwn
namespace Go.Chg
open Go.Vc
noncomputable abbrev Pr : Program := Go.Proofs.Tryd.prog
theorem Pr_plain : Plain Pr := plain_of (by kernel_rfl)
theorem Pr_mixed : Pr.follows .mixedOrders = true := by kernel_rfl
theorem Pr_func2 : Pr.funcs[2]? = some Go.Proofs.Tryd.f2 := Go.Proofs.Tryd.func2
theorem Pr_func3 : Pr.funcs[3]? = some Go.Proofs.Tryd.f3 := Go.Proofs.Tryd.func3
theorem Pr_func4 : Pr.funcs[4]? = some Go.Proofs.Tryd.f4 := Go.Proofs.Tryd.func4
theorem Pr_func5 : Pr.funcs[5]? = some Go.Proofs.Tryd.f5 := Go.Proofs.Tryd.func5
theorem Pr_func6 : Pr.funcs[6]? = some Go.Proofs.Tryd.f6 := Go.Proofs.Tryd.func6
theorem Pr_func7 : Pr.funcs[7]? = some Go.Proofs.Tryd.f7 := Go.Proofs.Tryd.func7
theorem Pr_func8 : Pr.funcs[8]? = some Go.Proofs.Tryd.f8 := Go.Proofs.Tryd.func8
theorem Pr_func9 : Pr.funcs[9]? = some Go.Proofs.Tryd.f9 := Go.Proofs.Tryd.func9
theorem Pr_func10 : Pr.funcs[10]? = some Go.Proofs.Tryd.f10 := Go.Proofs.Tryd.func10
theorem Pr_func11 : Pr.funcs[11]? = some Go.Proofs.Tryd.f11 := Go.Proofs.Tryd.func11
theorem Pr_func12 : Pr.funcs[12]? = some Go.Proofs.Tryd.f12 := Go.Proofs.Tryd.func12
theorem Pr_func13 : Pr.funcs[13]? = some Go.Proofs.Tryd.f13 := Go.Proofs.Tryd.func13
theorem Pr_func14 : Pr.funcs[14]? = some Go.Proofs.Tryd.f14 := Go.Proofs.Tryd.func14
theorem Pr_func15 : Pr.funcs[15]? = some Go.Proofs.Tryd.f15 := Go.Proofs.Tryd.func15
theorem Pr_func16 : Pr.funcs[16]? = some Go.Proofs.Tryd.f16 := Go.Proofs.Tryd.func16
theorem Pr_func17 : Pr.funcs[17]? = some Go.Proofs.Tryd.f17 := Go.Proofs.Tryd.func17
theorem Pr_func18 : Pr.funcs[18]? = some Go.Proofs.Tryd.f18 := Go.Proofs.Tryd.func18
theorem Pr_func19 : Pr.funcs[19]? = some Go.Proofs.Tryd.f19 := Go.Proofs.Tryd.func19
theorem Pr_func20 : Pr.funcs[20]? = some Go.Proofs.Tryd.f20 := Go.Proofs.Tryd.func20
theorem Pr_func21 : Pr.funcs[21]? = some Go.Proofs.Tryd.f21 := Go.Proofs.Tryd.func21
theorem Pr_func22 : Pr.funcs[22]? = some Go.Proofs.Tryd.f22 := Go.Proofs.Tryd.func22
theorem Pr_func23 : Pr.funcs[23]? = some Go.Proofs.Tryd.f23 := Go.Proofs.Tryd.func23
theorem Pr_func24 : Pr.funcs[24]? = some Go.Proofs.Tryd.f24 := Go.Proofs.Tryd.func24
theorem Pr_func25 : Pr.funcs[25]? = some Go.Proofs.Tryd.f25 := Go.Proofs.Tryd.func25
theorem Pr_func26 : Pr.funcs[26]? = some Go.Proofs.Tryd.f26 := Go.Proofs.Tryd.func26
theorem Pr_func27 : Pr.funcs[27]? = some Go.Proofs.Tryd.f27 := Go.Proofs.Tryd.func27
theorem Pr_func28 : Pr.funcs[28]? = some Go.Proofs.Tryd.f28 := Go.Proofs.Tryd.func28
theorem Pr_func29 : Pr.funcs[29]? = some Go.Proofs.Tryd.f29 := Go.Proofs.Tryd.func29
theorem Pr_func30 : Pr.funcs[30]? = some Go.Proofs.Tryd.f30 := Go.Proofs.Tryd.func30
theorem Pr_func31 : Pr.funcs[31]? = some Go.Proofs.Tryd.f31 := Go.Proofs.Tryd.func31
theorem Pr_func32 : Pr.funcs[32]? = some Go.Proofs.Tryd.f32 := Go.Proofs.Tryd.func32
theorem Pr_func33 : Pr.funcs[33]? = some Go.Proofs.Tryd.f33 := Go.Proofs.Tryd.func33
theorem Pr_func34 : Pr.funcs[34]? = some Go.Proofs.Tryd.f34 := Go.Proofs.Tryd.func34
theorem Pr_func35 : Pr.funcs[35]? = some Go.Proofs.Tryd.f35 := Go.Proofs.Tryd.func35
theorem Pr_func36 : Pr.funcs[36]? = some Go.Proofs.Tryd.f36 := Go.Proofs.Tryd.func36
theorem Pr_func37 : Pr.funcs[37]? = some Go.Proofs.Tryd.f37 := Go.Proofs.Tryd.func37
theorem Pr_func38 : Pr.funcs[38]? = some Go.Proofs.Tryd.f38 := Go.Proofs.Tryd.func38
theorem Pr_func39 : Pr.funcs[39]? = some Go.Proofs.Tryd.f39 := Go.Proofs.Tryd.func39
theorem Pr_func40 : Pr.funcs[40]? = some Go.Proofs.Tryd.f40 := Go.Proofs.Tryd.func40
theorem Pr_func41 : Pr.funcs[41]? = some Go.Proofs.Tryd.f41 := Go.Proofs.Tryd.func41
theorem Pr_func42 : Pr.funcs[42]? = some Go.Proofs.Tryd.f42 := Go.Proofs.Tryd.func42
theorem Pr_func43 : Pr.funcs[43]? = some Go.Proofs.Tryd.f43 := Go.Proofs.Tryd.func43
theorem Pr_func44 : Pr.funcs[44]? = some Go.Proofs.Tryd.f44 := Go.Proofs.Tryd.func44
theorem Pr_func45 : Pr.funcs[45]? = some Go.Proofs.Tryd.f45 := Go.Proofs.Tryd.func45
theorem Pr_func46 : Pr.funcs[46]? = some Go.Proofs.Tryd.f46 := Go.Proofs.Tryd.func46
theorem Pr_func47 : Pr.funcs[47]? = some Go.Proofs.Tryd.f47 := Go.Proofs.Tryd.func47
theorem Pr_func48 : Pr.funcs[48]? = some Go.Proofs.Tryd.f48 := Go.Proofs.Tryd.func48
theorem Pr_func49 : Pr.funcs[49]? = some Go.Proofs.Tryd.f49 := Go.Proofs.Tryd.func49
theorem Pr_func50 : Pr.funcs[50]? = some Go.Proofs.Tryd.f50 := Go.Proofs.Tryd.func50
theorem Pr_func51 : Pr.funcs[51]? = some Go.Proofs.Tryd.f51 := Go.Proofs.Tryd.func51
theorem Pr_func52 : Pr.funcs[52]? = some Go.Proofs.Tryd.f52 := Go.Proofs.Tryd.func52
theorem Pr_func53 : Pr.funcs[53]? = some Go.Proofs.Tryd.f53 := Go.Proofs.Tryd.func53
theorem Pr_func54 : Pr.funcs[54]? = some Go.Proofs.Tryd.f54 := Go.Proofs.Tryd.func54
theorem Pr_func55 : Pr.funcs[55]? = some Go.Proofs.Tryd.f55 := Go.Proofs.Tryd.func55
theorem Pr_func56 : Pr.funcs[56]? = some Go.Proofs.Tryd.f56 := Go.Proofs.Tryd.func56
theorem Pr_func57 : Pr.funcs[57]? = some Go.Proofs.Tryd.f57 := Go.Proofs.Tryd.func57
theorem Pr_func58 : Pr.funcs[58]? = some Go.Proofs.Tryd.f58 := Go.Proofs.Tryd.func58
theorem Pr_func59 : Pr.funcs[59]? = some Go.Proofs.Tryd.f59 := Go.Proofs.Tryd.func59
theorem Pr_func60 : Pr.funcs[60]? = some Go.Proofs.Tryd.f60 := Go.Proofs.Tryd.func60
theorem Pr_func61 : Pr.funcs[61]? = some Go.Proofs.Tryd.f61 := Go.Proofs.Tryd.func61
theorem Pr_func62 : Pr.funcs[62]? = some Go.Proofs.Tryd.f62 := Go.Proofs.Tryd.func62
theorem Pr_func63 : Pr.funcs[63]? = some Go.Proofs.Tryd.f63 := Go.Proofs.Tryd.func63
theorem Pr_func64 : Pr.funcs[64]? = some Go.Proofs.Tryd.f64 := Go.Proofs.Tryd.func64
theorem Pr_func65 : Pr.funcs[65]? = some Go.Proofs.Tryd.f65 := Go.Proofs.Tryd.func65
theorem Pr_func66 : Pr.funcs[66]? = some Go.Proofs.Tryd.f66 := Go.Proofs.Tryd.func66
theorem Pr_func67 : Pr.funcs[67]? = some Go.Proofs.Tryd.f67 := Go.Proofs.Tryd.func67
theorem Pr_func68 : Pr.funcs[68]? = some Go.Proofs.Tryd.f68 := Go.Proofs.Tryd.func68
theorem Pr_func69 : Pr.funcs[69]? = some Go.Proofs.Tryd.f69 := Go.Proofs.Tryd.func69
theorem Pr_func70 : Pr.funcs[70]? = some Go.Proofs.Tryd.f70 := Go.Proofs.Tryd.func70
theorem Pr_func71 : Pr.funcs[71]? = some Go.Proofs.Tryd.f71 := Go.Proofs.Tryd.func71
theorem Pr_func72 : Pr.funcs[72]? = some Go.Proofs.Tryd.f72 := Go.Proofs.Tryd.func72
theorem Pr_func73 : Pr.funcs[73]? = some Go.Proofs.Tryd.f73 := Go.Proofs.Tryd.func73
theorem Pr_func74 : Pr.funcs[74]? = some Go.Proofs.Tryd.f74 := Go.Proofs.Tryd.func74
theorem Pr_func75 : Pr.funcs[75]? = some Go.Proofs.Tryd.f75 := Go.Proofs.Tryd.func75
theorem Pr_func76 : Pr.funcs[76]? = some Go.Proofs.Tryd.f76 := Go.Proofs.Tryd.func76
theorem Pr_func77 : Pr.funcs[77]? = some Go.Proofs.Tryd.f77 := Go.Proofs.Tryd.func77
theorem Pr_func78 : Pr.funcs[78]? = some Go.Proofs.Tryd.f78 := Go.Proofs.Tryd.func78
theorem Pr_func79 : Pr.funcs[79]? = some Go.Proofs.Tryd.f79 := Go.Proofs.Tryd.func79
theorem Pr_func80 : Pr.funcs[80]? = some Go.Proofs.Tryd.f80 := Go.Proofs.Tryd.func80
theorem Pr_func81 : Pr.funcs[81]? = some Go.Proofs.Tryd.f81 := Go.Proofs.Tryd.func81
theorem Pr_func82 : Pr.funcs[82]? = some Go.Proofs.Tryd.f82 := Go.Proofs.Tryd.func82
theorem Pr_func83 : Pr.funcs[83]? = some Go.Proofs.Tryd.f83 := Go.Proofs.Tryd.func83
theorem Pr_func84 : Pr.funcs[84]? = some Go.Proofs.Tryd.f84 := Go.Proofs.Tryd.func84
theorem Pr_func85 : Pr.funcs[85]? = some Go.Proofs.Tryd.f85 := Go.Proofs.Tryd.func85
theorem Pr_func86 : Pr.funcs[86]? = some Go.Proofs.Tryd.f86 := Go.Proofs.Tryd.func86
theorem Pr_func87 : Pr.funcs[87]? = some Go.Proofs.Tryd.f87 := Go.Proofs.Tryd.func87
theorem Pr_func88 : Pr.funcs[88]? = some Go.Proofs.Tryd.f88 := Go.Proofs.Tryd.func88
theorem Pr_func89 : Pr.funcs[89]? = some Go.Proofs.Tryd.f89 := Go.Proofs.Tryd.func89
theorem Pr_func90 : Pr.funcs[90]? = some Go.Proofs.Tryd.f90 := Go.Proofs.Tryd.func90
theorem Pr_func91 : Pr.funcs[91]? = some Go.Proofs.Tryd.f91 := Go.Proofs.Tryd.func91
theorem Pr_func92 : Pr.funcs[92]? = some Go.Proofs.Tryd.f92 := Go.Proofs.Tryd.func92
theorem Pr_func93 : Pr.funcs[93]? = some Go.Proofs.Tryd.f93 := Go.Proofs.Tryd.func93
theorem Pr_func94 : Pr.funcs[94]? = some Go.Proofs.Tryd.f94 := Go.Proofs.Tryd.func94
theorem Pr_func95 : Pr.funcs[95]? = some Go.Proofs.Tryd.f95 := Go.Proofs.Tryd.func95
theorem Pr_func96 : Pr.funcs[96]? = some Go.Proofs.Tryd.f96 := Go.Proofs.Tryd.func96
theorem Pr_func97 : Pr.funcs[97]? = some Go.Proofs.Tryd.f97 := Go.Proofs.Tryd.func97
theorem ext_slices_overlaps_api_Session : Pr.funcs[98]? = some Go.Proofs.Tryd.f98 := Go.Proofs.Tryd.func98
theorem Pr_func99 : Pr.funcs[99]? = some Go.Proofs.Tryd.f99 := Go.Proofs.Tryd.func99
theorem Pr_func100 : Pr.funcs[100]? = some Go.Proofs.Tryd.f100 := Go.Proofs.Tryd.func100
theorem Pr_func101 : Pr.funcs[101]? = some Go.Proofs.Tryd.f101 := Go.Proofs.Tryd.func101
theorem Pr_func102 : Pr.funcs[102]? = some Go.Proofs.Tryd.f102 := Go.Proofs.Tryd.func102
theorem Pr_func103 : Pr.funcs[103]? = some Go.Proofs.Tryd.f103 := Go.Proofs.Tryd.func103
theorem Pr_func104 : Pr.funcs[104]? = some Go.Proofs.Tryd.f104 := Go.Proofs.Tryd.func104
theorem Pr_func105 : Pr.funcs[105]? = some Go.Proofs.Tryd.f105 := Go.Proofs.Tryd.func105
theorem Pr_func106 : Pr.funcs[106]? = some Go.Proofs.Tryd.f106 := Go.Proofs.Tryd.func106
theorem Pr_func107 : Pr.funcs[107]? = some Go.Proofs.Tryd.f107 := Go.Proofs.Tryd.func107
theorem Pr_func108 : Pr.funcs[108]? = some Go.Proofs.Tryd.f108 := Go.Proofs.Tryd.func108
theorem Pr_func109 : Pr.funcs[109]? = some Go.Proofs.Tryd.f109 := Go.Proofs.Tryd.func109
theorem Pr_func110 : Pr.funcs[110]? = some Go.Proofs.Tryd.f110 := Go.Proofs.Tryd.func110
theorem ext_slices_overlaps_api_Pair : Pr.funcs[111]? = some Go.Proofs.Tryd.f111 := Go.Proofs.Tryd.func111
theorem Pr_func112 : Pr.funcs[112]? = some Go.Proofs.Tryd.f112 := Go.Proofs.Tryd.func112
theorem Pr_func113 : Pr.funcs[113]? = some Go.Proofs.Tryd.f113 := Go.Proofs.Tryd.func113
theorem ext_internal_bytealg_abigen_runtime_cmpstring : Pr.funcs[114]? = some Go.Proofs.Tryd.f114 := Go.Proofs.Tryd.func114
theorem Pr_func115 : Pr.funcs[115]? = some Go.Proofs.Tryd.f115 := Go.Proofs.Tryd.func115
theorem Pr_func116 : Pr.funcs[116]? = some Go.Proofs.Tryd.f116 := Go.Proofs.Tryd.func116
theorem Pr_func117 : Pr.funcs[117]? = some Go.Proofs.Tryd.f117 := Go.Proofs.Tryd.func117
theorem Pr_func118 : Pr.funcs[118]? = some Go.Proofs.Tryd.f118 := Go.Proofs.Tryd.func118
theorem Pr_func119 : Pr.funcs[119]? = some Go.Proofs.Tryd.f119 := Go.Proofs.Tryd.func119
theorem Pr_func120 : Pr.funcs[120]? = some Go.Proofs.Tryd.f120 := Go.Proofs.Tryd.func120
theorem Pr_func121 : Pr.funcs[121]? = some Go.Proofs.Tryd.f121 := Go.Proofs.Tryd.func121
theorem Pr_func122 : Pr.funcs[122]? = some Go.Proofs.Tryd.f122 := Go.Proofs.Tryd.func122
theorem Pr_func123 : Pr.funcs[123]? = some Go.Proofs.Tryd.f123 := Go.Proofs.Tryd.func123
theorem Pr_func124 : Pr.funcs[124]? = some Go.Proofs.Tryd.f124 := Go.Proofs.Tryd.func124
theorem Pr_func125 : Pr.funcs[125]? = some Go.Proofs.Tryd.f125 := Go.Proofs.Tryd.func125
theorem Pr_func149 : Pr.funcs[149]? = some Go.Proofs.Tryd.f149 := Go.Proofs.Tryd.func149
abbrev fid_law25_MigrUps : Nat := 3
abbrev fid_law25_MigrChecks : Nat := 4
abbrev fid_law10_BallotLess : Nat := 5
abbrev fid_law10_BallotNext : Nat := 6
abbrev fid_law10_BallotMax : Nat := 7
abbrev fid_law22_SessChecks : Nat := 8
abbrev fid_law23_KvoneChecks : Nat := 9
abbrev fid_law24_KvtwoChecks : Nat := 10
abbrev fid_ref25_Large : Nat := 11
abbrev fid_law25_awake : Nat := 12
abbrev fid_migr_Up : Nat := 13
abbrev fid_ref25_Check : Nat := 14
abbrev fid_ref25_Same : Nat := 15
abbrev fid_ref25_Revs : Nat := 16
abbrev fid_migr_Says : Nat := 17
abbrev fid_migr_Check : Nat := 18
abbrev fid_migr_Same : Nat := 19
abbrev fid_migr_Clone : Nat := 20
abbrev fid_ballot_Less : Nat := 21
abbrev fid_ref10_May : Nat := 22
abbrev fid_ref10_Text : Nat := 23
abbrev fid_ref10_Less : Nat := 24
abbrev fid_ballot_May : Nat := 25
abbrev fid_ballot_Text : Nat := 26
abbrev fid_law10_awake : Nat := 27
abbrev fid_ballot_Next : Nat := 28
abbrev fid_ref10_Next : Nat := 29
abbrev fid_ballot_Max : Nat := 30
abbrev fid_ref22_Large : Nat := 31
abbrev fid_law22_awake : Nat := 32
abbrev fid_ref22_Check : Nat := 33
abbrev fid_sess_Check : Nat := 34
abbrev fid_ref23_Large : Nat := 35
abbrev fid_law23_awake : Nat := 36
abbrev fid_ref23_Check : Nat := 37
abbrev fid_kvone_Check : Nat := 38
abbrev fid_ref23_Rise : Nat := 39
abbrev fid_kvone_Find : Nat := 40
abbrev fid_ref23_Place : Nat := 41
abbrev fid_law24_awake : Nat := 42
abbrev fid_kvtwo_Plain : Nat := 43
abbrev fid_kvtwo_Check : Nat := 44
abbrev fid_ref23_Same : Nat := 45
abbrev fid_ref22_Same : Nat := 46
abbrev fid_slices_ContainsFunc_api_Session_api_Session : Nat := 47
abbrev fid_migr_Check_1 : Nat := 48
abbrev fid_slices_Equal_api_Pair_api_Pair : Nat := 49
abbrev fid_slices_Equal_api_Session_api_Session : Nat := 50
abbrev fid_cmp_Or_int : Nat := 51
abbrev fid_cmp_Compare_int : Nat := 52
abbrev fid_ref08_Digits : Nat := 53
abbrev fid_ballot_node : Nat := 54
abbrev fid_strconv_Itoa : Nat := 55
abbrev fid_sess_With : Nat := 56
abbrev fid_sess_Which : Nat := 57
abbrev fid_sess_Last : Nat := 58
abbrev fid_ref09_Check : Nat := 59
abbrev fid_ref22_Rise : Nat := 60
abbrev fid_answer_Check : Nat := 61
abbrev fid_kvone_Do : Nat := 62
abbrev fid_ref05_Key : Nat := 63
abbrev fid_ref05_Val : Nat := 64
abbrev fid_runes_Key : Nat := 65
abbrev fid_runes_Val : Nat := 66
abbrev fid_kvone_place : Nat := 67
abbrev fid_kvtwo_Do : Nat := 68
abbrev fid_slices_Clone_api_Pair_api_Pair : Nat := 69
abbrev fid_kvtwo_Check_1 : Nat := 70
abbrev fid_slices_ContainsFunc_api_Pair_api_Pair : Nat := 71
abbrev fid_slices_IndexFunc_api_Session_api_Session : Nat := 72
abbrev fid_cmp_isNaN_int : Nat := 73
abbrev fid_internal_strconv_Itoa : Nat := 74
abbrev fid_sess_place : Nat := 75
abbrev fid_slices_Clone_api_Session_api_Session : Nat := 76
abbrev fid_slices_Insert_api_Session_api_Session : Nat := 77
abbrev fid_answer_Check_1 : Nat := 78
abbrev fid_kvone_put : Nat := 79
abbrev fid_kvone_del : Nat := 80
abbrev fid_ref05_Size : Nat := 81
abbrev fid_ref05_Plain : Nat := 82
abbrev fid_ref05_Bad : Nat := 83
abbrev fid_runes_Whole : Nat := 84
abbrev fid_runes_all : Nat := 85
abbrev fid_runes_Plain : Nat := 86
abbrev fid_runes_Val_1 : Nat := 87
abbrev fid_slices_BinarySearchFunc_api_Pair_api_Pair_string : Nat := 88
abbrev fid_kvone_place_1 : Nat := 89
abbrev fid_strings_Compare : Nat := 90
abbrev fid_kvtwo_cas : Nat := 91
abbrev fid_kvtwo_set : Nat := 92
abbrev fid_kvtwo_next : Nat := 93
abbrev fid_slices_IndexFunc_api_Pair_api_Pair : Nat := 94
abbrev fid_internal_strconv_FormatInt : Nat := 95
abbrev fid_slices_BinarySearchFunc_api_Session_api_Session_int : Nat := 96
abbrev fid_sess_place_1 : Nat := 97
abbrev fid_slices_overlaps_api_Session : Nat := 98
abbrev fid_slices_rotateRight_api_Session : Nat := 99
abbrev fid_slices_Insert_api_Pair_api_Pair : Nat := 100
abbrev fid_slices_Delete_api_Pair_api_Pair : Nat := 101
abbrev fid_runes_Bad : Nat := 102
abbrev fid_internal_bytealg_CompareString : Nat := 103
abbrev fid_slices_BinarySearchFunc_api_Pair_api_Pair_api_Pair : Nat := 104
abbrev fid_kvtwo_set_1 : Nat := 105
abbrev fid_internal_strconv_small : Nat := 106
abbrev fid_internal_strconv_numDigits : Nat := 107
abbrev fid_internal_strconv_formatBase10 : Nat := 108
abbrev fid_internal_strconv_formatBits : Nat := 109
abbrev fid_slices_rotateLeft_api_Session : Nat := 110
abbrev fid_slices_overlaps_api_Pair : Nat := 111
abbrev fid_slices_rotateRight_api_Pair : Nat := 112
abbrev fid_unicode_utf8_DecodeRuneInString : Nat := 113
abbrev fid_internal_bytealg_abigen_runtime_cmpstring : Nat := 114
abbrev fid_internal_strconv_log10Pow2 : Nat := 115
abbrev fid_math_bits_Len64 : Nat := 116
abbrev fid_internal_strconv_bool2_int : Nat := 117
abbrev fid_internal_strconv_isPowerOfTwo : Nat := 118
abbrev fid_math_bits_TrailingZeros : Nat := 119
abbrev fid_slices_Reverse_api_Session_api_Session : Nat := 120
abbrev fid_slices_rotateLeft_api_Pair : Nat := 121
abbrev fid_unicode_utf8_decodeRuneInStringSlow : Nat := 122
abbrev fid_math_bits_TrailingZeros32 : Nat := 123
abbrev fid_math_bits_TrailingZeros64 : Nat := 124
abbrev fid_slices_Reverse_api_Pair_api_Pair : Nat := 125
abbrev g_internal_bytealg_MaxLen : Addr := ⟨0, 0, none⟩
abbrev g_internal_strconv_uint64pow10 : Addr := ⟨1, 0, none⟩
abbrev g_unicode_utf8_first : Addr := ⟨2, 0, none⟩
abbrev g_unicode_utf8_acceptRanges : Addr := ⟨3, 0, none⟩
abbrev g_math_bits_deBruijn32tab : Addr := ⟨4, 0, none⟩
abbrev g_math_bits_deBruijn64tab : Addr := ⟨5, 0, none⟩
abbrev cs66_24119 : List UInt8 := [97, 98, 99, 100, 101, 102, 103, 104, 105, 106, 107, 108, 109, 110, 111, 112, 113, 114, 115, 116, 117, 118, 119, 120, 121, 122, 65, 66, 67, 68, 69, 70, 71, 72, 73, 74, 75, 76, 77, 78, 79, 80, 81, 82, 83, 84, 85, 86, 87, 88, 89, 90, 48, 49, 50, 51, 52, 53, 54, 55, 56, 57, 45, 95, 46, 58]
abbrev cs36_19037 : List UInt8 := [48, 49, 50, 51, 52, 53, 54, 55, 56, 57, 97, 98, 99, 100, 101, 102, 103, 104, 105, 106, 107, 108, 109, 110, 111, 112, 113, 114, 115, 116, 117, 118, 119, 120, 121, 122]
abbrev cs200_63933 : List UInt8 := [48, 48, 48, 49, 48, 50, 48, 51, 48, 52, 48, 53, 48, 54, 48, 55, 48, 56, 48, 57, 49, 48, 49, 49, 49, 50, 49, 51, 49, 52, 49, 53, 49, 54, 49, 55, 49, 56, 49, 57, 50, 48, 50, 49, 50, 50, 50, 51, 50, 52, 50, 53, 50, 54, 50, 55, 50, 56, 50, 57, 51, 48, 51, 49, 51, 50, 51, 51, 51, 52, 51, 53, 51, 54, 51, 55, 51, 56, 51, 57, 52, 48, 52, 49, 52, 50, 52, 51, 52, 52, 52, 53, 52, 54, 52, 55, 52, 56, 52, 57, 53, 48, 53, 49, 53, 50, 53, 51, 53, 52, 53, 53, 53, 54, 53, 55, 53, 56, 53, 57, 54, 48, 54, 49, 54, 50, 54, 51, 54, 52, 54, 53, 54, 54, 54, 55, 54, 56, 54, 57, 55, 48, 55, 49, 55, 50, 55, 51, 55, 52, 55, 53, 55, 54, 55, 55, 55, 56, 55, 57, 56, 48, 56, 49, 56, 50, 56, 51, 56, 52, 56, 53, 56, 54, 56, 55, 56, 56, 56, 57, 57, 48, 57, 49, 57, 50, 57, 51, 57, 52, 57, 53, 57, 54, 57, 55, 57, 56, 57, 57]
abbrev cs41_69658 : List UInt8 := [115, 116, 114, 99, 111, 110, 118, 58, 32, 105, 108, 108, 101, 103, 97, 108, 32, 65, 112, 112, 101, 110, 100, 73, 110, 116, 47, 70, 111, 114, 109, 97, 116, 73, 110, 116, 32, 98, 97, 115, 101]
abbrev cs256_85724 : List UInt8 := [0, 1, 2, 2, 3, 3, 3, 3, 4, 4, 4, 4, 4, 4, 4, 4, 5, 5, 5, 5, 5, 5, 5, 5, 5, 5, 5, 5, 5, 5, 5, 5, 6, 6, 6, 6, 6, 6, 6, 6, 6, 6, 6, 6, 6, 6, 6, 6, 6, 6, 6, 6, 6, 6, 6, 6, 6, 6, 6, 6, 6, 6, 6, 6, 7, 7, 7, 7, 7, 7, 7, 7, 7, 7, 7, 7, 7, 7, 7, 7, 7, 7, 7, 7, 7, 7, 7, 7, 7, 7, 7, 7, 7, 7, 7, 7, 7, 7, 7, 7, 7, 7, 7, 7, 7, 7, 7, 7, 7, 7, 7, 7, 7, 7, 7, 7, 7, 7, 7, 7, 7, 7, 7, 7, 7, 7, 7, 7, 8, 8, 8, 8, 8, 8, 8, 8, 8, 8, 8, 8, 8, 8, 8, 8, 8, 8, 8, 8, 8, 8, 8, 8, 8, 8, 8, 8, 8, 8, 8, 8, 8, 8, 8, 8, 8, 8, 8, 8, 8, 8, 8, 8, 8, 8, 8, 8, 8, 8, 8, 8, 8, 8, 8, 8, 8, 8, 8, 8, 8, 8, 8, 8, 8, 8, 8, 8, 8, 8, 8, 8, 8, 8, 8, 8, 8, 8, 8, 8, 8, 8, 8, 8, 8, 8, 8, 8, 8, 8, 8, 8, 8, 8, 8, 8, 8, 8, 8, 8, 8, 8, 8, 8, 8, 8, 8, 8, 8, 8, 8, 8, 8, 8, 8, 8, 8, 8, 8, 8, 8, 8, 8, 8, 8, 8, 8, 8]
structure ApiState where
  Schema : Int
  Pairs : Sl
  Sessions : Sl
def ApiState.cs (x : ApiState) : List Value := [(.int .i64 x.Schema), x.Pairs.val, x.Sessions.val]
def ApiState.val (x : ApiState) : Value := .agg ⟨x.cs⟩
def ApiState.un : List Value → Option ApiState
  | [v0, v1, v2] => (unI .i64 v0).bind fun a0 => (unSl v1).bind fun a1 => (unSl v2).bind fun a2 => some (ApiState.mk a0 a1 a2)
  | _ => none
theorem ApiState.ok : ∀ l x, ApiState.un l = some x → l = x.cs := fun l x h => by
  unfold ApiState.un at h
  split at h
  · simp only [Option.bind_eq_some_iff, Option.some.injEq] at h
    obtain ⟨a0, h0, a1, h1, a2, h2, rfl⟩ := h
    rw [unI_ok .i64 _ _ h0, unSl_ok _ _ h1, unSl_ok _ _ h2]; rfl
  · cases h
def ApiState.unv : Value → Option ApiState
  | .agg a => ApiState.un a.toList
  | _ => none
def rApiState : RTy := ⟨ApiState, ApiState.val, ApiState.cs, ApiState.unv, ApiState.un, fun v x h => (by cases v <;> first | (have := ApiState.ok _ _ h; exact congrArg Value.agg (Array.toList_inj.1 this)) | cases h), ApiState.ok⟩

structure ApiBallot where
  Round : Int
  Node : Int
def ApiBallot.cs (x : ApiBallot) : List Value := [(.int .i64 x.Round), (.int .i64 x.Node)]
def ApiBallot.val (x : ApiBallot) : Value := .agg ⟨x.cs⟩
def ApiBallot.un : List Value → Option ApiBallot
  | [v0, v1] => (unI .i64 v0).bind fun a0 => (unI .i64 v1).bind fun a1 => some (ApiBallot.mk a0 a1)
  | _ => none
theorem ApiBallot.ok : ∀ l x, ApiBallot.un l = some x → l = x.cs := fun l x h => by
  unfold ApiBallot.un at h
  split at h
  · simp only [Option.bind_eq_some_iff, Option.some.injEq] at h
    obtain ⟨a0, h0, a1, h1, rfl⟩ := h
    rw [unI_ok .i64 _ _ h0, unI_ok .i64 _ _ h1]; rfl
  · cases h
def ApiBallot.unv : Value → Option ApiBallot
  | .agg a => ApiBallot.un a.toList
  | _ => none
def rApiBallot : RTy := ⟨ApiBallot, ApiBallot.val, ApiBallot.cs, ApiBallot.unv, ApiBallot.un, fun v x h => (by cases v <;> first | (have := ApiBallot.ok _ _ h; exact congrArg Value.agg (Array.toList_inj.1 this)) | cases h), ApiBallot.ok⟩

structure ApiPair where
  Key : List UInt8
  Val : List UInt8
  Rev : Int
def ApiPair.cs (x : ApiPair) : List Value := [(sval x.Key), (sval x.Val), (.int .i64 x.Rev)]
def ApiPair.val (x : ApiPair) : Value := .agg ⟨x.cs⟩
def ApiPair.un : List Value → Option ApiPair
  | [v0, v1, v2] => (unS v0).bind fun a0 => (unS v1).bind fun a1 => (unI .i64 v2).bind fun a2 => some (ApiPair.mk a0 a1 a2)
  | _ => none
theorem ApiPair.ok : ∀ l x, ApiPair.un l = some x → l = x.cs := fun l x h => by
  unfold ApiPair.un at h
  split at h
  · simp only [Option.bind_eq_some_iff, Option.some.injEq] at h
    obtain ⟨a0, h0, a1, h1, a2, h2, rfl⟩ := h
    rw [unS_ok _ _ h0, unS_ok _ _ h1, unI_ok .i64 _ _ h2]; rfl
  · cases h
def ApiPair.unv : Value → Option ApiPair
  | .agg a => ApiPair.un a.toList
  | _ => none
def rApiPair : RTy := ⟨ApiPair, ApiPair.val, ApiPair.cs, ApiPair.unv, ApiPair.un, fun v x h => (by cases v <;> first | (have := ApiPair.ok _ _ h; exact congrArg Value.agg (Array.toList_inj.1 this)) | cases h), ApiPair.ok⟩

structure ApiAnswer where
  Client : Int
  Seq : Int
  Err : Int
  Found : Bool
  Val : List UInt8
  Rev : Int
def ApiAnswer.cs (x : ApiAnswer) : List Value := [(.int .i64 x.Client), (.int .i64 x.Seq), (.int .i64 x.Err), (.bool x.Found), (sval x.Val), (.int .i64 x.Rev)]
def ApiAnswer.val (x : ApiAnswer) : Value := .agg ⟨x.cs⟩
def ApiAnswer.un : List Value → Option ApiAnswer
  | [v0, v1, v2, v3, v4, v5] => (unI .i64 v0).bind fun a0 => (unI .i64 v1).bind fun a1 => (unI .i64 v2).bind fun a2 => (unB v3).bind fun a3 => (unS v4).bind fun a4 => (unI .i64 v5).bind fun a5 => some (ApiAnswer.mk a0 a1 a2 a3 a4 a5)
  | _ => none
theorem ApiAnswer.ok : ∀ l x, ApiAnswer.un l = some x → l = x.cs := fun l x h => by
  unfold ApiAnswer.un at h
  split at h
  · simp only [Option.bind_eq_some_iff, Option.some.injEq] at h
    obtain ⟨a0, h0, a1, h1, a2, h2, a3, h3, a4, h4, a5, h5, rfl⟩ := h
    rw [unI_ok .i64 _ _ h0, unI_ok .i64 _ _ h1, unI_ok .i64 _ _ h2, unB_ok _ _ h3, unS_ok _ _ h4, unI_ok .i64 _ _ h5]; rfl
  · cases h
def ApiAnswer.unv : Value → Option ApiAnswer
  | .agg a => ApiAnswer.un a.toList
  | _ => none
def rApiAnswer : RTy := ⟨ApiAnswer, ApiAnswer.val, ApiAnswer.cs, ApiAnswer.unv, ApiAnswer.un, fun v x h => (by cases v <;> first | (have := ApiAnswer.ok _ _ h; exact congrArg Value.agg (Array.toList_inj.1 this)) | cases h), ApiAnswer.ok⟩

structure ApiSession where
  Client : Int
  Seq : Int
  Last : ApiAnswer
def ApiSession.cs (x : ApiSession) : List Value := [(.int .i64 x.Client), (.int .i64 x.Seq), (.int .i64 x.Last.Client), (.int .i64 x.Last.Seq), (.int .i64 x.Last.Err), (.bool x.Last.Found), (sval x.Last.Val), (.int .i64 x.Last.Rev)]
def ApiSession.val (x : ApiSession) : Value := .agg ⟨x.cs⟩
def ApiSession.un : List Value → Option ApiSession
  | [v0, v1, v2, v3, v4, v5, v6, v7] => (unI .i64 v0).bind fun a0 => (unI .i64 v1).bind fun a1 => (unI .i64 v2).bind fun a2 => (unI .i64 v3).bind fun a3 => (unI .i64 v4).bind fun a4 => (unB v5).bind fun a5 => (unS v6).bind fun a6 => (unI .i64 v7).bind fun a7 => some (ApiSession.mk a0 a1 (ApiAnswer.mk a2 a3 a4 a5 a6 a7))
  | _ => none
theorem ApiSession.ok : ∀ l x, ApiSession.un l = some x → l = x.cs := fun l x h => by
  unfold ApiSession.un at h
  split at h
  · simp only [Option.bind_eq_some_iff, Option.some.injEq] at h
    obtain ⟨a0, h0, a1, h1, a2, h2, a3, h3, a4, h4, a5, h5, a6, h6, a7, h7, rfl⟩ := h
    rw [unI_ok .i64 _ _ h0, unI_ok .i64 _ _ h1, unI_ok .i64 _ _ h2, unI_ok .i64 _ _ h3, unI_ok .i64 _ _ h4, unB_ok _ _ h5, unS_ok _ _ h6, unI_ok .i64 _ _ h7]; rfl
  · cases h
def ApiSession.unv : Value → Option ApiSession
  | .agg a => ApiSession.un a.toList
  | _ => none
def rApiSession : RTy := ⟨ApiSession, ApiSession.val, ApiSession.cs, ApiSession.unv, ApiSession.un, fun v x h => (by cases v <;> first | (have := ApiSession.ok _ _ h; exact congrArg Value.agg (Array.toList_inj.1 this)) | cases h), ApiSession.ok⟩

structure ApiCmd where
  Kind : Int
  Client : Int
  Seq : Int
  Key : List UInt8
  Val : List UInt8
  Old : List UInt8
  Node : Int
def ApiCmd.cs (x : ApiCmd) : List Value := [(.int .i64 x.Kind), (.int .i64 x.Client), (.int .i64 x.Seq), (sval x.Key), (sval x.Val), (sval x.Old), (.int .i64 x.Node)]
def ApiCmd.val (x : ApiCmd) : Value := .agg ⟨x.cs⟩
def ApiCmd.un : List Value → Option ApiCmd
  | [v0, v1, v2, v3, v4, v5, v6] => (unI .i64 v0).bind fun a0 => (unI .i64 v1).bind fun a1 => (unI .i64 v2).bind fun a2 => (unS v3).bind fun a3 => (unS v4).bind fun a4 => (unS v5).bind fun a5 => (unI .i64 v6).bind fun a6 => some (ApiCmd.mk a0 a1 a2 a3 a4 a5 a6)
  | _ => none
theorem ApiCmd.ok : ∀ l x, ApiCmd.un l = some x → l = x.cs := fun l x h => by
  unfold ApiCmd.un at h
  split at h
  · simp only [Option.bind_eq_some_iff, Option.some.injEq] at h
    obtain ⟨a0, h0, a1, h1, a2, h2, a3, h3, a4, h4, a5, h5, a6, h6, rfl⟩ := h
    rw [unI_ok .i64 _ _ h0, unI_ok .i64 _ _ h1, unI_ok .i64 _ _ h2, unS_ok _ _ h3, unS_ok _ _ h4, unS_ok _ _ h5, unI_ok .i64 _ _ h6]; rfl
  · cases h
def ApiCmd.unv : Value → Option ApiCmd
  | .agg a => ApiCmd.un a.toList
  | _ => none
def rApiCmd : RTy := ⟨ApiCmd, ApiCmd.val, ApiCmd.cs, ApiCmd.unv, ApiCmd.un, fun v x h => (by cases v <;> first | (have := ApiCmd.ok _ _ h; exact congrArg Value.agg (Array.toList_inj.1 this)) | cases h), ApiCmd.ok⟩

structure Utf8AcceptRange where
  lo : Int
  hi : Int
def Utf8AcceptRange.cs (x : Utf8AcceptRange) : List Value := [(.int .u8 x.lo), (.int .u8 x.hi)]
def Utf8AcceptRange.val (x : Utf8AcceptRange) : Value := .agg ⟨x.cs⟩
def Utf8AcceptRange.un : List Value → Option Utf8AcceptRange
  | [v0, v1] => (unI .u8 v0).bind fun a0 => (unI .u8 v1).bind fun a1 => some (Utf8AcceptRange.mk a0 a1)
  | _ => none
theorem Utf8AcceptRange.ok : ∀ l x, Utf8AcceptRange.un l = some x → l = x.cs := fun l x h => by
  unfold Utf8AcceptRange.un at h
  split at h
  · simp only [Option.bind_eq_some_iff, Option.some.injEq] at h
    obtain ⟨a0, h0, a1, h1, rfl⟩ := h
    rw [unI_ok .u8 _ _ h0, unI_ok .u8 _ _ h1]; rfl
  · cases h
def Utf8AcceptRange.unv : Value → Option Utf8AcceptRange
  | .agg a => Utf8AcceptRange.un a.toList
  | _ => none
def rUtf8AcceptRange : RTy := ⟨Utf8AcceptRange, Utf8AcceptRange.val, Utf8AcceptRange.cs, Utf8AcceptRange.unv, Utf8AcceptRange.un, fun v x h => (by cases v <;> first | (have := Utf8AcceptRange.ok _ _ h; exact congrArg Value.agg (Array.toList_inj.1 this)) | cases h), Utf8AcceptRange.ok⟩

end Go.Chg
