/-
  The types of the program's values, as Lean types, and facts about the program. Written by a program of ours (gen.py).
-/
import Derived.Test.YtnnoalpkldpjfaaGreatDoorProg
import Derived.Test.YtnnoalpkldpjfaaGreatDoorOwn
import Derived.Test.YtnnoalpkldpjfaaGreatDoorRng
namespace Go.Chg
open Go.Vc
noncomputable abbrev Pr : Program := Go.Proofs.Tryz.prog
theorem Pr_plain : Plain Pr := plain_of (by kernel_rfl)
theorem Pr_mixed : Pr.follows .mixedOrders = true := by kernel_rfl
theorem Pr_func2 : Pr.funcs[2]? = some Go.Proofs.Tryz.f2 := Go.Proofs.Tryz.func2
theorem Pr_func3 : Pr.funcs[3]? = some Go.Proofs.Tryz.f3 := Go.Proofs.Tryz.func3
theorem Pr_func4 : Pr.funcs[4]? = some Go.Proofs.Tryz.f4 := Go.Proofs.Tryz.func4
theorem Pr_func5 : Pr.funcs[5]? = some Go.Proofs.Tryz.f5 := Go.Proofs.Tryz.func5
theorem Pr_func6 : Pr.funcs[6]? = some Go.Proofs.Tryz.f6 := Go.Proofs.Tryz.func6
theorem Pr_func7 : Pr.funcs[7]? = some Go.Proofs.Tryz.f7 := Go.Proofs.Tryz.func7
theorem Pr_func8 : Pr.funcs[8]? = some Go.Proofs.Tryz.f8 := Go.Proofs.Tryz.func8
theorem Pr_func9 : Pr.funcs[9]? = some Go.Proofs.Tryz.f9 := Go.Proofs.Tryz.func9
theorem Pr_func10 : Pr.funcs[10]? = some Go.Proofs.Tryz.f10 := Go.Proofs.Tryz.func10
theorem Pr_func11 : Pr.funcs[11]? = some Go.Proofs.Tryz.f11 := Go.Proofs.Tryz.func11
theorem Pr_func12 : Pr.funcs[12]? = some Go.Proofs.Tryz.f12 := Go.Proofs.Tryz.func12
theorem Pr_func13 : Pr.funcs[13]? = some Go.Proofs.Tryz.f13 := Go.Proofs.Tryz.func13
theorem Pr_func14 : Pr.funcs[14]? = some Go.Proofs.Tryz.f14 := Go.Proofs.Tryz.func14
theorem Pr_func15 : Pr.funcs[15]? = some Go.Proofs.Tryz.f15 := Go.Proofs.Tryz.func15
theorem Pr_func16 : Pr.funcs[16]? = some Go.Proofs.Tryz.f16 := Go.Proofs.Tryz.func16
theorem Pr_func17 : Pr.funcs[17]? = some Go.Proofs.Tryz.f17 := Go.Proofs.Tryz.func17
theorem Pr_func18 : Pr.funcs[18]? = some Go.Proofs.Tryz.f18 := Go.Proofs.Tryz.func18
theorem Pr_func19 : Pr.funcs[19]? = some Go.Proofs.Tryz.f19 := Go.Proofs.Tryz.func19
theorem Pr_func20 : Pr.funcs[20]? = some Go.Proofs.Tryz.f20 := Go.Proofs.Tryz.func20
theorem Pr_func21 : Pr.funcs[21]? = some Go.Proofs.Tryz.f21 := Go.Proofs.Tryz.func21
theorem Pr_func22 : Pr.funcs[22]? = some Go.Proofs.Tryz.f22 := Go.Proofs.Tryz.func22
theorem Pr_func23 : Pr.funcs[23]? = some Go.Proofs.Tryz.f23 := Go.Proofs.Tryz.func23
theorem Pr_func24 : Pr.funcs[24]? = some Go.Proofs.Tryz.f24 := Go.Proofs.Tryz.func24
theorem Pr_func25 : Pr.funcs[25]? = some Go.Proofs.Tryz.f25 := Go.Proofs.Tryz.func25
theorem Pr_func26 : Pr.funcs[26]? = some Go.Proofs.Tryz.f26 := Go.Proofs.Tryz.func26
theorem Pr_func27 : Pr.funcs[27]? = some Go.Proofs.Tryz.f27 := Go.Proofs.Tryz.func27
theorem Pr_func28 : Pr.funcs[28]? = some Go.Proofs.Tryz.f28 := Go.Proofs.Tryz.func28
theorem Pr_func29 : Pr.funcs[29]? = some Go.Proofs.Tryz.f29 := Go.Proofs.Tryz.func29
theorem Pr_func30 : Pr.funcs[30]? = some Go.Proofs.Tryz.f30 := Go.Proofs.Tryz.func30
theorem Pr_func31 : Pr.funcs[31]? = some Go.Proofs.Tryz.f31 := Go.Proofs.Tryz.func31
theorem Pr_func32 : Pr.funcs[32]? = some Go.Proofs.Tryz.f32 := Go.Proofs.Tryz.func32
theorem Pr_func33 : Pr.funcs[33]? = some Go.Proofs.Tryz.f33 := Go.Proofs.Tryz.func33
theorem Pr_func34 : Pr.funcs[34]? = some Go.Proofs.Tryz.f34 := Go.Proofs.Tryz.func34
theorem Pr_func35 : Pr.funcs[35]? = some Go.Proofs.Tryz.f35 := Go.Proofs.Tryz.func35
theorem Pr_func36 : Pr.funcs[36]? = some Go.Proofs.Tryz.f36 := Go.Proofs.Tryz.func36
theorem Pr_func37 : Pr.funcs[37]? = some Go.Proofs.Tryz.f37 := Go.Proofs.Tryz.func37
theorem Pr_func38 : Pr.funcs[38]? = some Go.Proofs.Tryz.f38 := Go.Proofs.Tryz.func38
theorem Pr_func39 : Pr.funcs[39]? = some Go.Proofs.Tryz.f39 := Go.Proofs.Tryz.func39
theorem Pr_func40 : Pr.funcs[40]? = some Go.Proofs.Tryz.f40 := Go.Proofs.Tryz.func40
theorem Pr_func41 : Pr.funcs[41]? = some Go.Proofs.Tryz.f41 := Go.Proofs.Tryz.func41
theorem Pr_func42 : Pr.funcs[42]? = some Go.Proofs.Tryz.f42 := Go.Proofs.Tryz.func42
theorem Pr_func43 : Pr.funcs[43]? = some Go.Proofs.Tryz.f43 := Go.Proofs.Tryz.func43
theorem Pr_func44 : Pr.funcs[44]? = some Go.Proofs.Tryz.f44 := Go.Proofs.Tryz.func44
theorem Pr_func45 : Pr.funcs[45]? = some Go.Proofs.Tryz.f45 := Go.Proofs.Tryz.func45
theorem Pr_func46 : Pr.funcs[46]? = some Go.Proofs.Tryz.f46 := Go.Proofs.Tryz.func46
theorem Pr_func47 : Pr.funcs[47]? = some Go.Proofs.Tryz.f47 := Go.Proofs.Tryz.func47
theorem Pr_func48 : Pr.funcs[48]? = some Go.Proofs.Tryz.f48 := Go.Proofs.Tryz.func48
theorem Pr_func49 : Pr.funcs[49]? = some Go.Proofs.Tryz.f49 := Go.Proofs.Tryz.func49
theorem Pr_func50 : Pr.funcs[50]? = some Go.Proofs.Tryz.f50 := Go.Proofs.Tryz.func50
theorem Pr_func51 : Pr.funcs[51]? = some Go.Proofs.Tryz.f51 := Go.Proofs.Tryz.func51
theorem Pr_func52 : Pr.funcs[52]? = some Go.Proofs.Tryz.f52 := Go.Proofs.Tryz.func52
theorem Pr_func53 : Pr.funcs[53]? = some Go.Proofs.Tryz.f53 := Go.Proofs.Tryz.func53
theorem Pr_func54 : Pr.funcs[54]? = some Go.Proofs.Tryz.f54 := Go.Proofs.Tryz.func54
theorem Pr_func55 : Pr.funcs[55]? = some Go.Proofs.Tryz.f55 := Go.Proofs.Tryz.func55
theorem Pr_func56 : Pr.funcs[56]? = some Go.Proofs.Tryz.f56 := Go.Proofs.Tryz.func56
theorem Pr_func57 : Pr.funcs[57]? = some Go.Proofs.Tryz.f57 := Go.Proofs.Tryz.func57
theorem Pr_func58 : Pr.funcs[58]? = some Go.Proofs.Tryz.f58 := Go.Proofs.Tryz.func58
theorem Pr_func59 : Pr.funcs[59]? = some Go.Proofs.Tryz.f59 := Go.Proofs.Tryz.func59
theorem Pr_func60 : Pr.funcs[60]? = some Go.Proofs.Tryz.f60 := Go.Proofs.Tryz.func60
theorem Pr_func61 : Pr.funcs[61]? = some Go.Proofs.Tryz.f61 := Go.Proofs.Tryz.func61
theorem Pr_func62 : Pr.funcs[62]? = some Go.Proofs.Tryz.f62 := Go.Proofs.Tryz.func62
theorem Pr_func63 : Pr.funcs[63]? = some Go.Proofs.Tryz.f63 := Go.Proofs.Tryz.func63
theorem Pr_func64 : Pr.funcs[64]? = some Go.Proofs.Tryz.f64 := Go.Proofs.Tryz.func64
theorem Pr_func65 : Pr.funcs[65]? = some Go.Proofs.Tryz.f65 := Go.Proofs.Tryz.func65
theorem Pr_func66 : Pr.funcs[66]? = some Go.Proofs.Tryz.f66 := Go.Proofs.Tryz.func66
theorem Pr_func67 : Pr.funcs[67]? = some Go.Proofs.Tryz.f67 := Go.Proofs.Tryz.func67
theorem Pr_func68 : Pr.funcs[68]? = some Go.Proofs.Tryz.f68 := Go.Proofs.Tryz.func68
theorem Pr_func69 : Pr.funcs[69]? = some Go.Proofs.Tryz.f69 := Go.Proofs.Tryz.func69
theorem Pr_func70 : Pr.funcs[70]? = some Go.Proofs.Tryz.f70 := Go.Proofs.Tryz.func70
theorem Pr_func71 : Pr.funcs[71]? = some Go.Proofs.Tryz.f71 := Go.Proofs.Tryz.func71
theorem Pr_func72 : Pr.funcs[72]? = some Go.Proofs.Tryz.f72 := Go.Proofs.Tryz.func72
theorem Pr_func73 : Pr.funcs[73]? = some Go.Proofs.Tryz.f73 := Go.Proofs.Tryz.func73
theorem Pr_func74 : Pr.funcs[74]? = some Go.Proofs.Tryz.f74 := Go.Proofs.Tryz.func74
theorem Pr_func75 : Pr.funcs[75]? = some Go.Proofs.Tryz.f75 := Go.Proofs.Tryz.func75
theorem Pr_func76 : Pr.funcs[76]? = some Go.Proofs.Tryz.f76 := Go.Proofs.Tryz.func76
theorem Pr_func77 : Pr.funcs[77]? = some Go.Proofs.Tryz.f77 := Go.Proofs.Tryz.func77
theorem Pr_func78 : Pr.funcs[78]? = some Go.Proofs.Tryz.f78 := Go.Proofs.Tryz.func78
theorem Pr_func79 : Pr.funcs[79]? = some Go.Proofs.Tryz.f79 := Go.Proofs.Tryz.func79
theorem Pr_func80 : Pr.funcs[80]? = some Go.Proofs.Tryz.f80 := Go.Proofs.Tryz.func80
theorem Pr_func81 : Pr.funcs[81]? = some Go.Proofs.Tryz.f81 := Go.Proofs.Tryz.func81
theorem Pr_func82 : Pr.funcs[82]? = some Go.Proofs.Tryz.f82 := Go.Proofs.Tryz.func82
theorem Pr_func83 : Pr.funcs[83]? = some Go.Proofs.Tryz.f83 := Go.Proofs.Tryz.func83
theorem Pr_func84 : Pr.funcs[84]? = some Go.Proofs.Tryz.f84 := Go.Proofs.Tryz.func84
theorem Pr_func85 : Pr.funcs[85]? = some Go.Proofs.Tryz.f85 := Go.Proofs.Tryz.func85
theorem Pr_func86 : Pr.funcs[86]? = some Go.Proofs.Tryz.f86 := Go.Proofs.Tryz.func86
theorem Pr_func87 : Pr.funcs[87]? = some Go.Proofs.Tryz.f87 := Go.Proofs.Tryz.func87
theorem Pr_func88 : Pr.funcs[88]? = some Go.Proofs.Tryz.f88 := Go.Proofs.Tryz.func88
theorem Pr_func89 : Pr.funcs[89]? = some Go.Proofs.Tryz.f89 := Go.Proofs.Tryz.func89
theorem Pr_func90 : Pr.funcs[90]? = some Go.Proofs.Tryz.f90 := Go.Proofs.Tryz.func90
theorem Pr_func91 : Pr.funcs[91]? = some Go.Proofs.Tryz.f91 := Go.Proofs.Tryz.func91
theorem Pr_func92 : Pr.funcs[92]? = some Go.Proofs.Tryz.f92 := Go.Proofs.Tryz.func92
theorem Pr_func93 : Pr.funcs[93]? = some Go.Proofs.Tryz.f93 := Go.Proofs.Tryz.func93
theorem Pr_func94 : Pr.funcs[94]? = some Go.Proofs.Tryz.f94 := Go.Proofs.Tryz.func94
theorem Pr_func95 : Pr.funcs[95]? = some Go.Proofs.Tryz.f95 := Go.Proofs.Tryz.func95
theorem Pr_func96 : Pr.funcs[96]? = some Go.Proofs.Tryz.f96 := Go.Proofs.Tryz.func96
theorem Pr_func97 : Pr.funcs[97]? = some Go.Proofs.Tryz.f97 := Go.Proofs.Tryz.func97
theorem Pr_func98 : Pr.funcs[98]? = some Go.Proofs.Tryz.f98 := Go.Proofs.Tryz.func98
theorem Pr_func99 : Pr.funcs[99]? = some Go.Proofs.Tryz.f99 := Go.Proofs.Tryz.func99
theorem Pr_func100 : Pr.funcs[100]? = some Go.Proofs.Tryz.f100 := Go.Proofs.Tryz.func100
theorem Pr_func101 : Pr.funcs[101]? = some Go.Proofs.Tryz.f101 := Go.Proofs.Tryz.func101
theorem Pr_func102 : Pr.funcs[102]? = some Go.Proofs.Tryz.f102 := Go.Proofs.Tryz.func102
theorem Pr_func103 : Pr.funcs[103]? = some Go.Proofs.Tryz.f103 := Go.Proofs.Tryz.func103
theorem Pr_func104 : Pr.funcs[104]? = some Go.Proofs.Tryz.f104 := Go.Proofs.Tryz.func104
theorem ext_internal_abi_NoEscape : Pr.funcs[105]? = some Go.Proofs.Tryz.f105 := Go.Proofs.Tryz.func105
theorem Pr_func106 : Pr.funcs[106]? = some Go.Proofs.Tryz.f106 := Go.Proofs.Tryz.func106
theorem Pr_func107 : Pr.funcs[107]? = some Go.Proofs.Tryz.f107 := Go.Proofs.Tryz.func107
theorem Pr_func108 : Pr.funcs[108]? = some Go.Proofs.Tryz.f108 := Go.Proofs.Tryz.func108
theorem Pr_func109 : Pr.funcs[109]? = some Go.Proofs.Tryz.f109 := Go.Proofs.Tryz.func109
theorem Pr_func110 : Pr.funcs[110]? = some Go.Proofs.Tryz.f110 := Go.Proofs.Tryz.func110
theorem Pr_func111 : Pr.funcs[111]? = some Go.Proofs.Tryz.f111 := Go.Proofs.Tryz.func111
theorem Pr_func112 : Pr.funcs[112]? = some Go.Proofs.Tryz.f112 := Go.Proofs.Tryz.func112
theorem Pr_func113 : Pr.funcs[113]? = some Go.Proofs.Tryz.f113 := Go.Proofs.Tryz.func113
theorem Pr_func114 : Pr.funcs[114]? = some Go.Proofs.Tryz.f114 := Go.Proofs.Tryz.func114
theorem Pr_func115 : Pr.funcs[115]? = some Go.Proofs.Tryz.f115 := Go.Proofs.Tryz.func115
theorem Pr_func116 : Pr.funcs[116]? = some Go.Proofs.Tryz.f116 := Go.Proofs.Tryz.func116
theorem Pr_func117 : Pr.funcs[117]? = some Go.Proofs.Tryz.f117 := Go.Proofs.Tryz.func117
theorem Pr_func118 : Pr.funcs[118]? = some Go.Proofs.Tryz.f118 := Go.Proofs.Tryz.func118
theorem Pr_func119 : Pr.funcs[119]? = some Go.Proofs.Tryz.f119 := Go.Proofs.Tryz.func119
theorem Pr_func120 : Pr.funcs[120]? = some Go.Proofs.Tryz.f120 := Go.Proofs.Tryz.func120
theorem ext_internal_bytealg_IndexByteString : Pr.funcs[121]? = some Go.Proofs.Tryz.f121 := Go.Proofs.Tryz.func121
theorem Pr_func122 : Pr.funcs[122]? = some Go.Proofs.Tryz.f122 := Go.Proofs.Tryz.func122
theorem Pr_func123 : Pr.funcs[123]? = some Go.Proofs.Tryz.f123 := Go.Proofs.Tryz.func123
theorem Pr_func124 : Pr.funcs[124]? = some Go.Proofs.Tryz.f124 := Go.Proofs.Tryz.func124
theorem Pr_func125 : Pr.funcs[125]? = some Go.Proofs.Tryz.f125 := Go.Proofs.Tryz.func125
theorem Pr_func126 : Pr.funcs[126]? = some Go.Proofs.Tryz.f126 := Go.Proofs.Tryz.func126
theorem Pr_func127 : Pr.funcs[127]? = some Go.Proofs.Tryz.f127 := Go.Proofs.Tryz.func127
theorem Pr_func128 : Pr.funcs[128]? = some Go.Proofs.Tryz.f128 := Go.Proofs.Tryz.func128
theorem Pr_func129 : Pr.funcs[129]? = some Go.Proofs.Tryz.f129 := Go.Proofs.Tryz.func129
theorem Pr_func130 : Pr.funcs[130]? = some Go.Proofs.Tryz.f130 := Go.Proofs.Tryz.func130
theorem Pr_func131 : Pr.funcs[131]? = some Go.Proofs.Tryz.f131 := Go.Proofs.Tryz.func131
theorem ext_internal_bytealg_MakeNoZero : Pr.funcs[132]? = some Go.Proofs.Tryz.f132 := Go.Proofs.Tryz.func132
theorem ext_internal_bytealg_IndexString : Pr.funcs[133]? = some Go.Proofs.Tryz.f133 := Go.Proofs.Tryz.func133
theorem Pr_func134 : Pr.funcs[134]? = some Go.Proofs.Tryz.f134 := Go.Proofs.Tryz.func134
theorem Pr_func135 : Pr.funcs[135]? = some Go.Proofs.Tryz.f135 := Go.Proofs.Tryz.func135
theorem Pr_func136 : Pr.funcs[136]? = some Go.Proofs.Tryz.f136 := Go.Proofs.Tryz.func136
theorem Pr_func137 : Pr.funcs[137]? = some Go.Proofs.Tryz.f137 := Go.Proofs.Tryz.func137
theorem Pr_func138 : Pr.funcs[138]? = some Go.Proofs.Tryz.f138 := Go.Proofs.Tryz.func138
theorem Pr_func139 : Pr.funcs[139]? = some Go.Proofs.Tryz.f139 := Go.Proofs.Tryz.func139
theorem Pr_func140 : Pr.funcs[140]? = some Go.Proofs.Tryz.f140 := Go.Proofs.Tryz.func140
theorem Pr_func171 : Pr.funcs[171]? = some Go.Proofs.Tryz.f171 := Go.Proofs.Tryz.func171
abbrev fid_law08_CmdTexts : Nat := 3
abbrev fid_law42_ScriptLines : Nat := 4
abbrev fid_law42_ScriptReads : Nat := 5
abbrev fid_law42_ScriptTexts : Nat := 6
abbrev fid_law08_large : Nat := 7
abbrev fid_law08_awake : Nat := 8
abbrev fid_ref08_Check : Nat := 9
abbrev fid_ref08_Text : Nat := 10
abbrev fid_cmd_Parse : Nat := 11
abbrev fid_cmd_Text : Nat := 12
abbrev fid_ref41_Large : Nat := 13
abbrev fid_law42_awake : Nat := 14
abbrev fid_ref42_Check : Nat := 15
abbrev fid_ref42_Print : Nat := 16
abbrev fid_script_Parse : Nat := 17
abbrev fid_script_Check : Nat := 18
abbrev fid_script_Print : Nat := 19
abbrev fid_script_Read : Nat := 20
abbrev fid_ref42_Same : Nat := 21
abbrev fid_script_Text : Nat := 22
abbrev fid_cmd_Encode : Nat := 23
abbrev fid_ref08_Owned : Nat := 24
abbrev fid_ref08_member : Nat := 25
abbrev fid_ref05_Key : Nat := 26
abbrev fid_ref05_Val : Nat := 27
abbrev fid_ref08_Digits : Nat := 28
abbrev fid_ref06_Quote : Nat := 29
abbrev fid_quote_Words : Nat := 30
abbrev fid_cmd_name : Nat := 31
abbrev fid_cmd_parts : Nat := 32
abbrev fid_cmd_part_wanted : Nat := 33
abbrev fid_cmd_part_fill : Nat := 34
abbrev fid_cmd_Check : Nat := 35
abbrev fid_strconv_Itoa : Nat := 36
abbrev fid_quote_Quote : Nat := 37
abbrev fid_quote_Line : Nat := 38
abbrev fid_ref42_Letters : Nat := 39
abbrev fid_ref42_number : Nat := 40
abbrev fid_ref42_has : Nat := 41
abbrev fid_script_kinds : Nat := 42
abbrev fid_script_of : Nat := 43
abbrev fid_script_words_number : Nat := 44
abbrev fid_script_words_command : Nat := 45
abbrev fid_script_Check_1 : Nat := 46
abbrev fid_script_command : Nat := 47
abbrev fid_script_Print_1 : Nat := 48
abbrev fid_script_called : Nat := 49
abbrev fid_strings_Lines : Nat := 50
abbrev fid_strings_CutSuffix : Nat := 51
abbrev fid_strings_Builder_WriteString : Nat := 52
abbrev fid_strings_Builder_String : Nat := 53
abbrev fid_vers_May : Nat := 54
abbrev fid_cmd_has : Nat := 55
abbrev fid_cmd_Put : Nat := 56
abbrev fid_pack_Writer_Bytes : Nat := 57
abbrev fid_ref05_Size : Nat := 58
abbrev fid_ref05_Plain : Nat := 59
abbrev fid_ref05_Bad : Nat := 60
abbrev fid_quote_word : Nat := 61
abbrev fid_cmd_parts_1 : Nat := 62
abbrev fid_cmd_parts_2 : Nat := 63
abbrev fid_runes_Key : Nat := 64
abbrev fid_cmd_parts_3 : Nat := 65
abbrev fid_runes_Val : Nat := 66
abbrev fid_cmd_parts_4 : Nat := 67
abbrev fid_cmd_parts_5 : Nat := 68
abbrev fid_cmd_parts_6 : Nat := 69
abbrev fid_cmd_fields : Nat := 70
abbrev fid_strconv_Atoi : Nat := 71
abbrev fid_quote_Unquote : Nat := 72
abbrev fid_cmd_part_number : Nat := 73
abbrev fid_cmd_part_text : Nat := 74
abbrev fid_internal_strconv_Itoa : Nat := 75
abbrev fid_strings_Builder_WriteByte : Nat := 76
abbrev fid_unicode_utf8_DecodeRuneInString : Nat := 77
abbrev fid_quote_escape : Nat := 78
abbrev fid_strings_Join : Nat := 79
abbrev fid_cmd_Owned : Nat := 80
abbrev fid_script_numbered : Nat := 81
abbrev fid_strings_Lines_1 : Nat := 82
abbrev fid_strings_IndexByte : Nat := 83
abbrev fid_internal_stringslite_CutSuffix : Nat := 84
abbrev fid_strings_Builder_copyCheck : Nat := 85
abbrev fid_vers_Has : Nat := 86
abbrev fid_pack_Writer_Number : Nat := 87
abbrev fid_cmd_part_write : Nat := 88
abbrev fid_slices_Clone_byte_byte : Nat := 89
abbrev fid_quote_quoted : Nat := 90
abbrev fid_strings_Cut : Nat := 91
abbrev fid_runes_Whole : Nat := 92
abbrev fid_runes_all : Nat := 93
abbrev fid_runes_Plain : Nat := 94
abbrev fid_runes_Val_1 : Nat := 95
abbrev fid_internal_strconv_Atoi : Nat := 96
abbrev fid_strconv_toError : Nat := 97
abbrev fid_quote_unescape : Nat := 98
abbrev fid_internal_strconv_FormatInt : Nat := 99
abbrev fid_unicode_utf8_decodeRuneInStringSlow : Nat := 100
abbrev fid_quote_byteAs : Nat := 101
abbrev fid_strings_Builder_Grow : Nat := 102
abbrev fid_internal_stringslite_IndexByte : Nat := 103
abbrev fid_internal_stringslite_HasSuffix : Nat := 104
abbrev fid_internal_abi_NoEscape : Nat := 105
abbrev fid_varint_Put : Nat := 106
abbrev fid_pack_Writer_Text : Nat := 107
abbrev fid_internal_stringslite_Cut : Nat := 108
abbrev fid_runes_Bad : Nat := 109
abbrev fid_internal_strconv_ParseInt : Nat := 110
abbrev fid_strconv_syntaxError : Nat := 111
abbrev fid_strconv_rangeError : Nat := 112
abbrev fid_strconv_baseError : Nat := 113
abbrev fid_strconv_bitSizeError : Nat := 114
abbrev fid_quote_digit : Nat := 115
abbrev fid_internal_strconv_small : Nat := 116
abbrev fid_internal_strconv_numDigits : Nat := 117
abbrev fid_internal_strconv_formatBase10 : Nat := 118
abbrev fid_internal_strconv_formatBits : Nat := 119
abbrev fid_strings_Builder_grow : Nat := 120
abbrev fid_internal_bytealg_IndexByteString : Nat := 121
abbrev fid_pack_Writer_Raw : Nat := 122
abbrev fid_internal_stringslite_Index : Nat := 123
abbrev fid_internal_strconv_ParseUint : Nat := 124
abbrev fid_internal_stringslite_Clone : Nat := 125
abbrev fid_errors_New : Nat := 126
abbrev fid_internal_strconv_log10Pow2 : Nat := 127
abbrev fid_math_bits_Len64 : Nat := 128
abbrev fid_internal_strconv_bool2_int : Nat := 129
abbrev fid_internal_strconv_isPowerOfTwo : Nat := 130
abbrev fid_math_bits_TrailingZeros : Nat := 131
abbrev fid_internal_bytealg_MakeNoZero : Nat := 132
abbrev fid_internal_bytealg_IndexString : Nat := 133
abbrev fid_internal_bytealg_Cutover : Nat := 134
abbrev fid_internal_bytealg_IndexRabinKarp_string : Nat := 135
abbrev fid_internal_strconv_lower : Nat := 136
abbrev fid_internal_strconv_underscoreOK : Nat := 137
abbrev fid_math_bits_TrailingZeros32 : Nat := 138
abbrev fid_math_bits_TrailingZeros64 : Nat := 139
abbrev fid_internal_bytealg_hashStr_string : Nat := 140
abbrev g_unicode_utf8_first : Addr := ⟨0, 0, none⟩
abbrev g_unicode_utf8_acceptRanges : Addr := ⟨1, 0, none⟩
abbrev g_strconv_ErrSyntax : Addr := ⟨2, 0, none⟩
abbrev g_strconv_ErrRange : Addr := ⟨3, 0, none⟩
abbrev g_internal_strconv_uint64pow10 : Addr := ⟨4, 0, none⟩
abbrev g_internal_bytealg_MaxLen : Addr := ⟨5, 0, none⟩
abbrev g_math_bits_deBruijn32tab : Addr := ⟨6, 0, none⟩
abbrev g_math_bits_deBruijn64tab : Addr := ⟨7, 0, none⟩
abbrev cs16_37011 : List UInt8 := [48, 49, 50, 51, 52, 53, 54, 55, 56, 57, 97, 98, 99, 100, 101, 102]
abbrev cs66_24119 : List UInt8 := [97, 98, 99, 100, 101, 102, 103, 104, 105, 106, 107, 108, 109, 110, 111, 112, 113, 114, 115, 116, 117, 118, 119, 120, 121, 122, 65, 66, 67, 68, 69, 70, 71, 72, 73, 74, 75, 76, 77, 78, 79, 80, 81, 82, 83, 84, 85, 86, 87, 88, 89, 90, 48, 49, 50, 51, 52, 53, 54, 55, 56, 57, 45, 95, 46, 58]
abbrev cs36_14857 : List UInt8 := [115, 116, 114, 105, 110, 103, 115, 58, 32, 74, 111, 105, 110, 32, 111, 117, 116, 112, 117, 116, 32, 108, 101, 110, 103, 116, 104, 32, 111, 118, 101, 114, 102, 108, 111, 119]
abbrev cs36_73535 : List UInt8 := [115, 116, 114, 105, 110, 103, 115, 46, 66, 117, 105, 108, 100, 101, 114, 46, 71, 114, 111, 119, 58, 32, 110, 101, 103, 97, 116, 105, 118, 101, 32, 99, 111, 117, 110, 116]
abbrev cs36_19037 : List UInt8 := [48, 49, 50, 51, 52, 53, 54, 55, 56, 57, 97, 98, 99, 100, 101, 102, 103, 104, 105, 106, 107, 108, 109, 110, 111, 112, 113, 114, 115, 116, 117, 118, 119, 120, 121, 122]
abbrev cs200_63933 : List UInt8 := [48, 48, 48, 49, 48, 50, 48, 51, 48, 52, 48, 53, 48, 54, 48, 55, 48, 56, 48, 57, 49, 48, 49, 49, 49, 50, 49, 51, 49, 52, 49, 53, 49, 54, 49, 55, 49, 56, 49, 57, 50, 48, 50, 49, 50, 50, 50, 51, 50, 52, 50, 53, 50, 54, 50, 55, 50, 56, 50, 57, 51, 48, 51, 49, 51, 50, 51, 51, 51, 52, 51, 53, 51, 54, 51, 55, 51, 56, 51, 57, 52, 48, 52, 49, 52, 50, 52, 51, 52, 52, 52, 53, 52, 54, 52, 55, 52, 56, 52, 57, 53, 48, 53, 49, 53, 50, 53, 51, 53, 52, 53, 53, 53, 54, 53, 55, 53, 56, 53, 57, 54, 48, 54, 49, 54, 50, 54, 51, 54, 52, 54, 53, 54, 54, 54, 55, 54, 56, 54, 57, 55, 48, 55, 49, 55, 50, 55, 51, 55, 52, 55, 53, 55, 54, 55, 55, 55, 56, 55, 57, 56, 48, 56, 49, 56, 50, 56, 51, 56, 52, 56, 53, 56, 54, 56, 55, 56, 56, 56, 57, 57, 48, 57, 49, 57, 50, 57, 51, 57, 52, 57, 53, 57, 54, 57, 55, 57, 56, 57, 57]
abbrev cs41_69658 : List UInt8 := [115, 116, 114, 99, 111, 110, 118, 58, 32, 105, 108, 108, 101, 103, 97, 108, 32, 65, 112, 112, 101, 110, 100, 73, 110, 116, 47, 70, 111, 114, 109, 97, 116, 73, 110, 116, 32, 98, 97, 115, 101]
abbrev cs256_85724 : List UInt8 := [0, 1, 2, 2, 3, 3, 3, 3, 4, 4, 4, 4, 4, 4, 4, 4, 5, 5, 5, 5, 5, 5, 5, 5, 5, 5, 5, 5, 5, 5, 5, 5, 6, 6, 6, 6, 6, 6, 6, 6, 6, 6, 6, 6, 6, 6, 6, 6, 6, 6, 6, 6, 6, 6, 6, 6, 6, 6, 6, 6, 6, 6, 6, 6, 7, 7, 7, 7, 7, 7, 7, 7, 7, 7, 7, 7, 7, 7, 7, 7, 7, 7, 7, 7, 7, 7, 7, 7, 7, 7, 7, 7, 7, 7, 7, 7, 7, 7, 7, 7, 7, 7, 7, 7, 7, 7, 7, 7, 7, 7, 7, 7, 7, 7, 7, 7, 7, 7, 7, 7, 7, 7, 7, 7, 7, 7, 7, 7, 8, 8, 8, 8, 8, 8, 8, 8, 8, 8, 8, 8, 8, 8, 8, 8, 8, 8, 8, 8, 8, 8, 8, 8, 8, 8, 8, 8, 8, 8, 8, 8, 8, 8, 8, 8, 8, 8, 8, 8, 8, 8, 8, 8, 8, 8, 8, 8, 8, 8, 8, 8, 8, 8, 8, 8, 8, 8, 8, 8, 8, 8, 8, 8, 8, 8, 8, 8, 8, 8, 8, 8, 8, 8, 8, 8, 8, 8, 8, 8, 8, 8, 8, 8, 8, 8, 8, 8, 8, 8, 8, 8, 8, 8, 8, 8, 8, 8, 8, 8, 8, 8, 8, 8, 8, 8, 8, 8, 8, 8, 8, 8, 8, 8, 8, 8, 8, 8, 8, 8, 8, 8, 8, 8, 8, 8, 8, 8]
structure ApiCmd where
  Kind : Int
  Client : Int
  Seq : Int
  Key : List UInt8
  Val : List UInt8
  Old : List UInt8
  Node : Int
def ApiCmd.cs (x : ApiCmd) : List Value := [(.int .i64 x.Kind), (.int .i64 x.Client), (.int .i64 x.Seq), (sval x.Key), (sval x.Val), (sval x.Old), (.int .i64 x.Node)]
def ApiCmd.val (x : ApiCmd) : Value := .agg ⟨x.cs⟩
def ApiCmd.un : List Value → Option ApiCmd
  | [v0, v1, v2, v3, v4, v5, v6] => (unI .i64 v0).bind fun a0 => (unI .i64 v1).bind fun a1 => (unI .i64 v2).bind fun a2 => (unS v3).bind fun a3 => (unS v4).bind fun a4 => (unS v5).bind fun a5 => (unI .i64 v6).bind fun a6 => some (ApiCmd.mk a0 a1 a2 a3 a4 a5 a6)
  | _ => none
theorem ApiCmd.ok : ∀ l x, ApiCmd.un l = some x → l = x.cs := fun l x h => by
  unfold ApiCmd.un at h
  split at h
  · simp only [Option.bind_eq_some_iff, Option.some.injEq] at h
    obtain ⟨a0, h0, a1, h1, a2, h2, a3, h3, a4, h4, a5, h5, a6, h6, rfl⟩ := h
    rw [unI_ok .i64 _ _ h0, unI_ok .i64 _ _ h1, unI_ok .i64 _ _ h2, unS_ok _ _ h3, unS_ok _ _ h4, unS_ok _ _ h5, unI_ok .i64 _ _ h6]; rfl
  · cases h
def ApiCmd.unv : Value → Option ApiCmd
  | .agg a => ApiCmd.un a.toList
  | _ => none
def rApiCmd : RTy := ⟨ApiCmd, ApiCmd.val, ApiCmd.cs, ApiCmd.unv, ApiCmd.un, fun v x h => (by cases v <;> first | (have := ApiCmd.ok _ _ h; exact congrArg Value.agg (Array.toList_inj.1 this)) | cases h), ApiCmd.ok⟩

structure ApiEvent where
  Kind : Int
  Node : Int
  N : Int
  M : Int
  Cmd : ApiCmd
def ApiEvent.cs (x : ApiEvent) : List Value := [(.int .i64 x.Kind), (.int .i64 x.Node), (.int .i64 x.N), (.int .i64 x.M), (.int .i64 x.Cmd.Kind), (.int .i64 x.Cmd.Client), (.int .i64 x.Cmd.Seq), (sval x.Cmd.Key), (sval x.Cmd.Val), (sval x.Cmd.Old), (.int .i64 x.Cmd.Node)]
def ApiEvent.val (x : ApiEvent) : Value := .agg ⟨x.cs⟩
def ApiEvent.un : List Value → Option ApiEvent
  | [v0, v1, v2, v3, v4, v5, v6, v7, v8, v9, v10] => (unI .i64 v0).bind fun a0 => (unI .i64 v1).bind fun a1 => (unI .i64 v2).bind fun a2 => (unI .i64 v3).bind fun a3 => (unI .i64 v4).bind fun a4 => (unI .i64 v5).bind fun a5 => (unI .i64 v6).bind fun a6 => (unS v7).bind fun a7 => (unS v8).bind fun a8 => (unS v9).bind fun a9 => (unI .i64 v10).bind fun a10 => some (ApiEvent.mk a0 a1 a2 a3 (ApiCmd.mk a4 a5 a6 a7 a8 a9 a10))
  | _ => none
theorem ApiEvent.ok : ∀ l x, ApiEvent.un l = some x → l = x.cs := fun l x h => by
  unfold ApiEvent.un at h
  split at h
  · simp only [Option.bind_eq_some_iff, Option.some.injEq] at h
    obtain ⟨a0, h0, a1, h1, a2, h2, a3, h3, a4, h4, a5, h5, a6, h6, a7, h7, a8, h8, a9, h9, a10, h10, rfl⟩ := h
    rw [unI_ok .i64 _ _ h0, unI_ok .i64 _ _ h1, unI_ok .i64 _ _ h2, unI_ok .i64 _ _ h3, unI_ok .i64 _ _ h4, unI_ok .i64 _ _ h5, unI_ok .i64 _ _ h6, unS_ok _ _ h7, unS_ok _ _ h8, unS_ok _ _ h9, unI_ok .i64 _ _ h10]; rfl
  · cases h
def ApiEvent.unv : Value → Option ApiEvent
  | .agg a => ApiEvent.un a.toList
  | _ => none
def rApiEvent : RTy := ⟨ApiEvent, ApiEvent.val, ApiEvent.cs, ApiEvent.unv, ApiEvent.un, fun v x h => (by cases v <;> first | (have := ApiEvent.ok _ _ h; exact congrArg Value.agg (Array.toList_inj.1 this)) | cases h), ApiEvent.ok⟩

structure CmdPart where
  has_ : Int
  most : Int
  is : Option Nat
  at_ : Option Nat
def CmdPart.cs (x : CmdPart) : List Value := [(.int .i64 x.has_), (.int .i64 x.most), (cfnV x.is), (cfnV x.at_)]
def CmdPart.val (x : CmdPart) : Value := .agg ⟨x.cs⟩
def CmdPart.un : List Value → Option CmdPart
  | [v0, v1, v2, v3] => (unI .i64 v0).bind fun a0 => (unI .i64 v1).bind fun a1 => (unC v2).bind fun a2 => (unC v3).bind fun a3 => some (CmdPart.mk a0 a1 a2 a3)
  | _ => none
theorem CmdPart.ok : ∀ l x, CmdPart.un l = some x → l = x.cs := fun l x h => by
  unfold CmdPart.un at h
  split at h
  · simp only [Option.bind_eq_some_iff, Option.some.injEq] at h
    obtain ⟨a0, h0, a1, h1, a2, h2, a3, h3, rfl⟩ := h
    rw [unI_ok .i64 _ _ h0, unI_ok .i64 _ _ h1, unC_ok _ _ h2, unC_ok _ _ h3]; rfl
  · cases h
def CmdPart.unv : Value → Option CmdPart
  | .agg a => CmdPart.un a.toList
  | _ => none
def rCmdPart : RTy := ⟨CmdPart, CmdPart.val, CmdPart.cs, CmdPart.unv, CmdPart.un, fun v x h => (by cases v <;> first | (have := CmdPart.ok _ _ h; exact congrArg Value.agg (Array.toList_inj.1 this)) | cases h), CmdPart.ok⟩

structure ScriptKind where
  name : List UInt8
  has_ : Int
def ScriptKind.cs (x : ScriptKind) : List Value := [(sval x.name), (.int .i64 x.has_)]
def ScriptKind.val (x : ScriptKind) : Value := .agg ⟨x.cs⟩
def ScriptKind.un : List Value → Option ScriptKind
  | [v0, v1] => (unS v0).bind fun a0 => (unI .i64 v1).bind fun a1 => some (ScriptKind.mk a0 a1)
  | _ => none
theorem ScriptKind.ok : ∀ l x, ScriptKind.un l = some x → l = x.cs := fun l x h => by
  unfold ScriptKind.un at h
  split at h
  · simp only [Option.bind_eq_some_iff, Option.some.injEq] at h
    obtain ⟨a0, h0, a1, h1, rfl⟩ := h
    rw [unS_ok _ _ h0, unI_ok .i64 _ _ h1]; rfl
  · cases h
def ScriptKind.unv : Value → Option ScriptKind
  | .agg a => ScriptKind.un a.toList
  | _ => none
def rScriptKind : RTy := ⟨ScriptKind, ScriptKind.val, ScriptKind.cs, ScriptKind.unv, ScriptKind.un, fun v x h => (by cases v <;> first | (have := ScriptKind.ok _ _ h; exact congrArg Value.agg (Array.toList_inj.1 this)) | cases h), ScriptKind.ok⟩

structure StringsBuilder where
  addr : Option Addr
  buf : Sl
def StringsBuilder.cs (x : StringsBuilder) : List Value := [(.pointer x.addr), x.buf.val]
def StringsBuilder.val (x : StringsBuilder) : Value := .agg ⟨x.cs⟩
def StringsBuilder.un : List Value → Option StringsBuilder
  | [v0, v1] => (unP v0).bind fun a0 => (unSl v1).bind fun a1 => some (StringsBuilder.mk a0 a1)
  | _ => none
theorem StringsBuilder.ok : ∀ l x, StringsBuilder.un l = some x → l = x.cs := fun l x h => by
  unfold StringsBuilder.un at h
  split at h
  · simp only [Option.bind_eq_some_iff, Option.some.injEq] at h
    obtain ⟨a0, h0, a1, h1, rfl⟩ := h
    rw [unP_ok _ _ h0, unSl_ok _ _ h1]; rfl
  · cases h
def StringsBuilder.unv : Value → Option StringsBuilder
  | .agg a => StringsBuilder.un a.toList
  | _ => none
def rStringsBuilder : RTy := ⟨StringsBuilder, StringsBuilder.val, StringsBuilder.cs, StringsBuilder.unv, StringsBuilder.un, fun v x h => (by cases v <;> first | (have := StringsBuilder.ok _ _ h; exact congrArg Value.agg (Array.toList_inj.1 this)) | cases h), StringsBuilder.ok⟩

structure Utf8AcceptRange where
  lo : Int
  hi : Int
def Utf8AcceptRange.cs (x : Utf8AcceptRange) : List Value := [(.int .u8 x.lo), (.int .u8 x.hi)]
def Utf8AcceptRange.val (x : Utf8AcceptRange) : Value := .agg ⟨x.cs⟩
def Utf8AcceptRange.un : List Value → Option Utf8AcceptRange
  | [v0, v1] => (unI .u8 v0).bind fun a0 => (unI .u8 v1).bind fun a1 => some (Utf8AcceptRange.mk a0 a1)
  | _ => none
theorem Utf8AcceptRange.ok : ∀ l x, Utf8AcceptRange.un l = some x → l = x.cs := fun l x h => by
  unfold Utf8AcceptRange.un at h
  split at h
  · simp only [Option.bind_eq_some_iff, Option.some.injEq] at h
    obtain ⟨a0, h0, a1, h1, rfl⟩ := h
    rw [unI_ok .u8 _ _ h0, unI_ok .u8 _ _ h1]; rfl
  · cases h
def Utf8AcceptRange.unv : Value → Option Utf8AcceptRange
  | .agg a => Utf8AcceptRange.un a.toList
  | _ => none
def rUtf8AcceptRange : RTy := ⟨Utf8AcceptRange, Utf8AcceptRange.val, Utf8AcceptRange.cs, Utf8AcceptRange.unv, Utf8AcceptRange.un, fun v x h => (by cases v <;> first | (have := Utf8AcceptRange.ok _ _ h; exact congrArg Value.agg (Array.toList_inj.1 this)) | cases h), Utf8AcceptRange.ok⟩

end Go.Chg
