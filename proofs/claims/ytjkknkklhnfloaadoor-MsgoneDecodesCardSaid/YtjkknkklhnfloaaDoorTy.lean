/-
  The types of the program's values, as Lean types, and facts about the program. Written by a program of ours (gen.py).
-/
import Derived.Test.YtjkknkklhnfloaaDoorProg
import Derived.Test.YtjkknkklhnfloaaDoorOwn
namespace Go.Chg
open Go.Vc
noncomputable abbrev Pr : Program := Go.Proofs.Tryd.prog
theorem Pr_plain : Plain Pr := plain_of (by kernel_rfl)
theorem Pr_mixed : Pr.follows .mixedOrders = true := by kernel_rfl
theorem Pr_func2 : Pr.funcs[2]? = some Go.Proofs.Tryd.f2 := Go.Proofs.Tryd.func2
theorem Pr_func3 : Pr.funcs[3]? = some Go.Proofs.Tryd.f3 := Go.Proofs.Tryd.func3
theorem Pr_func4 : Pr.funcs[4]? = some Go.Proofs.Tryd.f4 := Go.Proofs.Tryd.func4
theorem Pr_func5 : Pr.funcs[5]? = some Go.Proofs.Tryd.f5 := Go.Proofs.Tryd.func5
theorem Pr_func6 : Pr.funcs[6]? = some Go.Proofs.Tryd.f6 := Go.Proofs.Tryd.func6
theorem Pr_func7 : Pr.funcs[7]? = some Go.Proofs.Tryd.f7 := Go.Proofs.Tryd.func7
theorem Pr_func8 : Pr.funcs[8]? = some Go.Proofs.Tryd.f8 := Go.Proofs.Tryd.func8
theorem Pr_func9 : Pr.funcs[9]? = some Go.Proofs.Tryd.f9 := Go.Proofs.Tryd.func9
theorem Pr_func10 : Pr.funcs[10]? = some Go.Proofs.Tryd.f10 := Go.Proofs.Tryd.func10
theorem Pr_func11 : Pr.funcs[11]? = some Go.Proofs.Tryd.f11 := Go.Proofs.Tryd.func11
theorem Pr_func12 : Pr.funcs[12]? = some Go.Proofs.Tryd.f12 := Go.Proofs.Tryd.func12
theorem Pr_func13 : Pr.funcs[13]? = some Go.Proofs.Tryd.f13 := Go.Proofs.Tryd.func13
theorem Pr_func14 : Pr.funcs[14]? = some Go.Proofs.Tryd.f14 := Go.Proofs.Tryd.func14
theorem Pr_func15 : Pr.funcs[15]? = some Go.Proofs.Tryd.f15 := Go.Proofs.Tryd.func15
theorem Pr_func16 : Pr.funcs[16]? = some Go.Proofs.Tryd.f16 := Go.Proofs.Tryd.func16
theorem Pr_func17 : Pr.funcs[17]? = some Go.Proofs.Tryd.f17 := Go.Proofs.Tryd.func17
theorem Pr_func18 : Pr.funcs[18]? = some Go.Proofs.Tryd.f18 := Go.Proofs.Tryd.func18
theorem Pr_func19 : Pr.funcs[19]? = some Go.Proofs.Tryd.f19 := Go.Proofs.Tryd.func19
theorem Pr_func20 : Pr.funcs[20]? = some Go.Proofs.Tryd.f20 := Go.Proofs.Tryd.func20
theorem Pr_func21 : Pr.funcs[21]? = some Go.Proofs.Tryd.f21 := Go.Proofs.Tryd.func21
theorem Pr_func22 : Pr.funcs[22]? = some Go.Proofs.Tryd.f22 := Go.Proofs.Tryd.func22
theorem Pr_func23 : Pr.funcs[23]? = some Go.Proofs.Tryd.f23 := Go.Proofs.Tryd.func23
theorem Pr_func24 : Pr.funcs[24]? = some Go.Proofs.Tryd.f24 := Go.Proofs.Tryd.func24
theorem Pr_func25 : Pr.funcs[25]? = some Go.Proofs.Tryd.f25 := Go.Proofs.Tryd.func25
theorem Pr_func26 : Pr.funcs[26]? = some Go.Proofs.Tryd.f26 := Go.Proofs.Tryd.func26
theorem Pr_func27 : Pr.funcs[27]? = some Go.Proofs.Tryd.f27 := Go.Proofs.Tryd.func27
theorem Pr_func28 : Pr.funcs[28]? = some Go.Proofs.Tryd.f28 := Go.Proofs.Tryd.func28
theorem Pr_func29 : Pr.funcs[29]? = some Go.Proofs.Tryd.f29 := Go.Proofs.Tryd.func29
theorem Pr_func30 : Pr.funcs[30]? = some Go.Proofs.Tryd.f30 := Go.Proofs.Tryd.func30
theorem Pr_func31 : Pr.funcs[31]? = some Go.Proofs.Tryd.f31 := Go.Proofs.Tryd.func31
theorem Pr_func32 : Pr.funcs[32]? = some Go.Proofs.Tryd.f32 := Go.Proofs.Tryd.func32
theorem Pr_func33 : Pr.funcs[33]? = some Go.Proofs.Tryd.f33 := Go.Proofs.Tryd.func33
theorem Pr_func34 : Pr.funcs[34]? = some Go.Proofs.Tryd.f34 := Go.Proofs.Tryd.func34
theorem Pr_func35 : Pr.funcs[35]? = some Go.Proofs.Tryd.f35 := Go.Proofs.Tryd.func35
theorem Pr_func36 : Pr.funcs[36]? = some Go.Proofs.Tryd.f36 := Go.Proofs.Tryd.func36
theorem Pr_func37 : Pr.funcs[37]? = some Go.Proofs.Tryd.f37 := Go.Proofs.Tryd.func37
theorem Pr_func38 : Pr.funcs[38]? = some Go.Proofs.Tryd.f38 := Go.Proofs.Tryd.func38
theorem Pr_func39 : Pr.funcs[39]? = some Go.Proofs.Tryd.f39 := Go.Proofs.Tryd.func39
theorem Pr_func40 : Pr.funcs[40]? = some Go.Proofs.Tryd.f40 := Go.Proofs.Tryd.func40
theorem Pr_func41 : Pr.funcs[41]? = some Go.Proofs.Tryd.f41 := Go.Proofs.Tryd.func41
theorem Pr_func42 : Pr.funcs[42]? = some Go.Proofs.Tryd.f42 := Go.Proofs.Tryd.func42
theorem Pr_func43 : Pr.funcs[43]? = some Go.Proofs.Tryd.f43 := Go.Proofs.Tryd.func43
theorem Pr_func44 : Pr.funcs[44]? = some Go.Proofs.Tryd.f44 := Go.Proofs.Tryd.func44
theorem Pr_func45 : Pr.funcs[45]? = some Go.Proofs.Tryd.f45 := Go.Proofs.Tryd.func45
theorem Pr_func46 : Pr.funcs[46]? = some Go.Proofs.Tryd.f46 := Go.Proofs.Tryd.func46
theorem Pr_func47 : Pr.funcs[47]? = some Go.Proofs.Tryd.f47 := Go.Proofs.Tryd.func47
theorem Pr_func48 : Pr.funcs[48]? = some Go.Proofs.Tryd.f48 := Go.Proofs.Tryd.func48
theorem Pr_func49 : Pr.funcs[49]? = some Go.Proofs.Tryd.f49 := Go.Proofs.Tryd.func49
theorem Pr_func50 : Pr.funcs[50]? = some Go.Proofs.Tryd.f50 := Go.Proofs.Tryd.func50
theorem Pr_func51 : Pr.funcs[51]? = some Go.Proofs.Tryd.f51 := Go.Proofs.Tryd.func51
theorem Pr_func52 : Pr.funcs[52]? = some Go.Proofs.Tryd.f52 := Go.Proofs.Tryd.func52
theorem Pr_func53 : Pr.funcs[53]? = some Go.Proofs.Tryd.f53 := Go.Proofs.Tryd.func53
theorem Pr_func54 : Pr.funcs[54]? = some Go.Proofs.Tryd.f54 := Go.Proofs.Tryd.func54
theorem Pr_func55 : Pr.funcs[55]? = some Go.Proofs.Tryd.f55 := Go.Proofs.Tryd.func55
theorem Pr_func56 : Pr.funcs[56]? = some Go.Proofs.Tryd.f56 := Go.Proofs.Tryd.func56
theorem Pr_func57 : Pr.funcs[57]? = some Go.Proofs.Tryd.f57 := Go.Proofs.Tryd.func57
theorem Pr_func58 : Pr.funcs[58]? = some Go.Proofs.Tryd.f58 := Go.Proofs.Tryd.func58
theorem Pr_func59 : Pr.funcs[59]? = some Go.Proofs.Tryd.f59 := Go.Proofs.Tryd.func59
theorem Pr_func60 : Pr.funcs[60]? = some Go.Proofs.Tryd.f60 := Go.Proofs.Tryd.func60
theorem Pr_func61 : Pr.funcs[61]? = some Go.Proofs.Tryd.f61 := Go.Proofs.Tryd.func61
theorem Pr_func62 : Pr.funcs[62]? = some Go.Proofs.Tryd.f62 := Go.Proofs.Tryd.func62
theorem Pr_func63 : Pr.funcs[63]? = some Go.Proofs.Tryd.f63 := Go.Proofs.Tryd.func63
theorem Pr_func64 : Pr.funcs[64]? = some Go.Proofs.Tryd.f64 := Go.Proofs.Tryd.func64
theorem Pr_func65 : Pr.funcs[65]? = some Go.Proofs.Tryd.f65 := Go.Proofs.Tryd.func65
theorem Pr_func66 : Pr.funcs[66]? = some Go.Proofs.Tryd.f66 := Go.Proofs.Tryd.func66
theorem Pr_func67 : Pr.funcs[67]? = some Go.Proofs.Tryd.f67 := Go.Proofs.Tryd.func67
theorem Pr_func68 : Pr.funcs[68]? = some Go.Proofs.Tryd.f68 := Go.Proofs.Tryd.func68
theorem Pr_func69 : Pr.funcs[69]? = some Go.Proofs.Tryd.f69 := Go.Proofs.Tryd.func69
theorem Pr_func70 : Pr.funcs[70]? = some Go.Proofs.Tryd.f70 := Go.Proofs.Tryd.func70
theorem Pr_func71 : Pr.funcs[71]? = some Go.Proofs.Tryd.f71 := Go.Proofs.Tryd.func71
theorem Pr_func72 : Pr.funcs[72]? = some Go.Proofs.Tryd.f72 := Go.Proofs.Tryd.func72
theorem Pr_func73 : Pr.funcs[73]? = some Go.Proofs.Tryd.f73 := Go.Proofs.Tryd.func73
theorem Pr_func74 : Pr.funcs[74]? = some Go.Proofs.Tryd.f74 := Go.Proofs.Tryd.func74
theorem Pr_func75 : Pr.funcs[75]? = some Go.Proofs.Tryd.f75 := Go.Proofs.Tryd.func75
theorem Pr_func76 : Pr.funcs[76]? = some Go.Proofs.Tryd.f76 := Go.Proofs.Tryd.func76
theorem Pr_func77 : Pr.funcs[77]? = some Go.Proofs.Tryd.f77 := Go.Proofs.Tryd.func77
theorem Pr_func78 : Pr.funcs[78]? = some Go.Proofs.Tryd.f78 := Go.Proofs.Tryd.func78
theorem Pr_func79 : Pr.funcs[79]? = some Go.Proofs.Tryd.f79 := Go.Proofs.Tryd.func79
theorem Pr_func80 : Pr.funcs[80]? = some Go.Proofs.Tryd.f80 := Go.Proofs.Tryd.func80
theorem Pr_func81 : Pr.funcs[81]? = some Go.Proofs.Tryd.f81 := Go.Proofs.Tryd.func81
theorem Pr_func82 : Pr.funcs[82]? = some Go.Proofs.Tryd.f82 := Go.Proofs.Tryd.func82
theorem Pr_func83 : Pr.funcs[83]? = some Go.Proofs.Tryd.f83 := Go.Proofs.Tryd.func83
theorem Pr_func84 : Pr.funcs[84]? = some Go.Proofs.Tryd.f84 := Go.Proofs.Tryd.func84
theorem Pr_func85 : Pr.funcs[85]? = some Go.Proofs.Tryd.f85 := Go.Proofs.Tryd.func85
theorem Pr_func86 : Pr.funcs[86]? = some Go.Proofs.Tryd.f86 := Go.Proofs.Tryd.func86
theorem Pr_func87 : Pr.funcs[87]? = some Go.Proofs.Tryd.f87 := Go.Proofs.Tryd.func87
theorem Pr_func88 : Pr.funcs[88]? = some Go.Proofs.Tryd.f88 := Go.Proofs.Tryd.func88
theorem Pr_func89 : Pr.funcs[89]? = some Go.Proofs.Tryd.f89 := Go.Proofs.Tryd.func89
theorem Pr_func90 : Pr.funcs[90]? = some Go.Proofs.Tryd.f90 := Go.Proofs.Tryd.func90
theorem Pr_func91 : Pr.funcs[91]? = some Go.Proofs.Tryd.f91 := Go.Proofs.Tryd.func91
theorem Pr_func92 : Pr.funcs[92]? = some Go.Proofs.Tryd.f92 := Go.Proofs.Tryd.func92
theorem Pr_func93 : Pr.funcs[93]? = some Go.Proofs.Tryd.f93 := Go.Proofs.Tryd.func93
theorem Pr_func94 : Pr.funcs[94]? = some Go.Proofs.Tryd.f94 := Go.Proofs.Tryd.func94
theorem Pr_func95 : Pr.funcs[95]? = some Go.Proofs.Tryd.f95 := Go.Proofs.Tryd.func95
theorem Pr_func96 : Pr.funcs[96]? = some Go.Proofs.Tryd.f96 := Go.Proofs.Tryd.func96
theorem Pr_func97 : Pr.funcs[97]? = some Go.Proofs.Tryd.f97 := Go.Proofs.Tryd.func97
theorem Pr_func98 : Pr.funcs[98]? = some Go.Proofs.Tryd.f98 := Go.Proofs.Tryd.func98
theorem Pr_func99 : Pr.funcs[99]? = some Go.Proofs.Tryd.f99 := Go.Proofs.Tryd.func99
theorem Pr_func100 : Pr.funcs[100]? = some Go.Proofs.Tryd.f100 := Go.Proofs.Tryd.func100
theorem Pr_func101 : Pr.funcs[101]? = some Go.Proofs.Tryd.f101 := Go.Proofs.Tryd.func101
theorem Pr_func102 : Pr.funcs[102]? = some Go.Proofs.Tryd.f102 := Go.Proofs.Tryd.func102
theorem Pr_func103 : Pr.funcs[103]? = some Go.Proofs.Tryd.f103 := Go.Proofs.Tryd.func103
theorem Pr_func104 : Pr.funcs[104]? = some Go.Proofs.Tryd.f104 := Go.Proofs.Tryd.func104
theorem Pr_func105 : Pr.funcs[105]? = some Go.Proofs.Tryd.f105 := Go.Proofs.Tryd.func105
theorem Pr_func106 : Pr.funcs[106]? = some Go.Proofs.Tryd.f106 := Go.Proofs.Tryd.func106
theorem Pr_func107 : Pr.funcs[107]? = some Go.Proofs.Tryd.f107 := Go.Proofs.Tryd.func107
theorem Pr_func108 : Pr.funcs[108]? = some Go.Proofs.Tryd.f108 := Go.Proofs.Tryd.func108
theorem Pr_func109 : Pr.funcs[109]? = some Go.Proofs.Tryd.f109 := Go.Proofs.Tryd.func109
theorem Pr_func110 : Pr.funcs[110]? = some Go.Proofs.Tryd.f110 := Go.Proofs.Tryd.func110
theorem Pr_func111 : Pr.funcs[111]? = some Go.Proofs.Tryd.f111 := Go.Proofs.Tryd.func111
theorem Pr_func112 : Pr.funcs[112]? = some Go.Proofs.Tryd.f112 := Go.Proofs.Tryd.func112
theorem Pr_func113 : Pr.funcs[113]? = some Go.Proofs.Tryd.f113 := Go.Proofs.Tryd.func113
theorem Pr_func114 : Pr.funcs[114]? = some Go.Proofs.Tryd.f114 := Go.Proofs.Tryd.func114
theorem Pr_func115 : Pr.funcs[115]? = some Go.Proofs.Tryd.f115 := Go.Proofs.Tryd.func115
theorem Pr_func116 : Pr.funcs[116]? = some Go.Proofs.Tryd.f116 := Go.Proofs.Tryd.func116
theorem Pr_func117 : Pr.funcs[117]? = some Go.Proofs.Tryd.f117 := Go.Proofs.Tryd.func117
theorem Pr_func118 : Pr.funcs[118]? = some Go.Proofs.Tryd.f118 := Go.Proofs.Tryd.func118
theorem Pr_func119 : Pr.funcs[119]? = some Go.Proofs.Tryd.f119 := Go.Proofs.Tryd.func119
theorem Pr_func120 : Pr.funcs[120]? = some Go.Proofs.Tryd.f120 := Go.Proofs.Tryd.func120
theorem Pr_func121 : Pr.funcs[121]? = some Go.Proofs.Tryd.f121 := Go.Proofs.Tryd.func121
theorem Pr_func122 : Pr.funcs[122]? = some Go.Proofs.Tryd.f122 := Go.Proofs.Tryd.func122
theorem Pr_func123 : Pr.funcs[123]? = some Go.Proofs.Tryd.f123 := Go.Proofs.Tryd.func123
theorem Pr_func124 : Pr.funcs[124]? = some Go.Proofs.Tryd.f124 := Go.Proofs.Tryd.func124
theorem Pr_func125 : Pr.funcs[125]? = some Go.Proofs.Tryd.f125 := Go.Proofs.Tryd.func125
theorem Pr_func126 : Pr.funcs[126]? = some Go.Proofs.Tryd.f126 := Go.Proofs.Tryd.func126
theorem Pr_func127 : Pr.funcs[127]? = some Go.Proofs.Tryd.f127 := Go.Proofs.Tryd.func127
theorem Pr_func128 : Pr.funcs[128]? = some Go.Proofs.Tryd.f128 := Go.Proofs.Tryd.func128
theorem Pr_func129 : Pr.funcs[129]? = some Go.Proofs.Tryd.f129 := Go.Proofs.Tryd.func129
theorem Pr_func130 : Pr.funcs[130]? = some Go.Proofs.Tryd.f130 := Go.Proofs.Tryd.func130
theorem Pr_func131 : Pr.funcs[131]? = some Go.Proofs.Tryd.f131 := Go.Proofs.Tryd.func131
theorem Pr_func132 : Pr.funcs[132]? = some Go.Proofs.Tryd.f132 := Go.Proofs.Tryd.func132
theorem Pr_func133 : Pr.funcs[133]? = some Go.Proofs.Tryd.f133 := Go.Proofs.Tryd.func133
theorem Pr_func134 : Pr.funcs[134]? = some Go.Proofs.Tryd.f134 := Go.Proofs.Tryd.func134
theorem Pr_func135 : Pr.funcs[135]? = some Go.Proofs.Tryd.f135 := Go.Proofs.Tryd.func135
theorem Pr_func136 : Pr.funcs[136]? = some Go.Proofs.Tryd.f136 := Go.Proofs.Tryd.func136
theorem Pr_func137 : Pr.funcs[137]? = some Go.Proofs.Tryd.f137 := Go.Proofs.Tryd.func137
theorem Pr_func138 : Pr.funcs[138]? = some Go.Proofs.Tryd.f138 := Go.Proofs.Tryd.func138
theorem Pr_func139 : Pr.funcs[139]? = some Go.Proofs.Tryd.f139 := Go.Proofs.Tryd.func139
theorem Pr_func140 : Pr.funcs[140]? = some Go.Proofs.Tryd.f140 := Go.Proofs.Tryd.func140
theorem Pr_func141 : Pr.funcs[141]? = some Go.Proofs.Tryd.f141 := Go.Proofs.Tryd.func141
theorem Pr_func142 : Pr.funcs[142]? = some Go.Proofs.Tryd.f142 := Go.Proofs.Tryd.func142
theorem Pr_func143 : Pr.funcs[143]? = some Go.Proofs.Tryd.f143 := Go.Proofs.Tryd.func143
theorem Pr_func144 : Pr.funcs[144]? = some Go.Proofs.Tryd.f144 := Go.Proofs.Tryd.func144
theorem Pr_func145 : Pr.funcs[145]? = some Go.Proofs.Tryd.f145 := Go.Proofs.Tryd.func145
theorem Pr_func146 : Pr.funcs[146]? = some Go.Proofs.Tryd.f146 := Go.Proofs.Tryd.func146
theorem Pr_func169 : Pr.funcs[169]? = some Go.Proofs.Tryd.f169 := Go.Proofs.Tryd.func169
abbrev fid_law13_MsgoneChecks : Nat := 3
abbrev fid_law31_AcceptorKeeps : Nat := 4
abbrev fid_law31_AcceptorTells : Nat := 5
abbrev fid_law13_MsgoneDecodes : Nat := 6
abbrev fid_ref13_Large : Nat := 7
abbrev fid_law13_awake : Nat := 8
abbrev fid_msgone_Check : Nat := 9
abbrev fid_ref13_Check : Nat := 10
abbrev fid_msgone_Same : Nat := 11
abbrev fid_ref13_Same : Nat := 12
abbrev fid_ref19_Heavy : Nat := 13
abbrev fid_ref19_Check : Nat := 14
abbrev fid_law31_awake : Nat := 15
abbrev fid_law31_ask : Nat := 16
abbrev fid_ref31_Behind : Nat := 17
abbrev fid_ref10_Less : Nat := 18
abbrev fid_acceptor_Accept : Nat := 19
abbrev fid_acceptor_Prepare : Nat := 20
abbrev fid_ref12_Same : Nat := 21
abbrev fid_acceptor_Ahead : Nat := 22
abbrev fid_ref12_Find : Nat := 23
abbrev fid_msgone_Decode : Nat := 24
abbrev fid_ref13_Older : Nat := 25
abbrev fid_ref01_Same : Nat := 26
abbrev fid_ref13_Bytes : Nat := 27
abbrev fid_ref12_Large : Nat := 28
abbrev fid_msgone_Encode : Nat := 29
abbrev fid_msgone_fields : Nat := 30
abbrev fid_msgone_ranges : Nat := 31
abbrev fid_entry_Check : Nat := 32
abbrev fid_msgone_others : Nat := 33
abbrev fid_msgone_accept : Nat := 34
abbrev fid_ref13_Letters : Nat := 35
abbrev fid_ref13_Has : Nat := 36
abbrev fid_ref13_ballot : Nat := 37
abbrev fid_ref12_Check : Nat := 38
abbrev fid_msgone_Same_1 : Nat := 39
abbrev fid_slices_Equal_api_Entry_api_Entry : Nat := 40
abbrev fid_slices_Equal_byte_byte : Nat := 41
abbrev fid_ref10_May : Nat := 42
abbrev fid_ref19_Of : Nat := 43
abbrev fid_acceptor_check : Nat := 44
abbrev fid_ballot_Less : Nat := 45
abbrev fid_acceptor_back : Nat := 46
abbrev fid_entry_Find : Nat := 47
abbrev fid_slices_DeleteFunc_api_Entry_api_Entry : Nat := 48
abbrev fid_entry_From : Nat := 49
abbrev fid_acceptor_Ahead_1 : Nat := 50
abbrev fid_pack_NewReader : Nat := 51
abbrev fid_msgone_read : Nat := 52
abbrev fid_pack_Reader_Done : Nat := 53
abbrev fid_msgone_older : Nat := 54
abbrev fid_ref12_Has : Nat := 55
abbrev fid_ref01_Bytes : Nat := 56
abbrev fid_ref12_Bytes : Nat := 57
abbrev fid_pack_Writer_Number : Nat := 58
abbrev fid_entry_Put : Nat := 59
abbrev fid_pack_Writer_Raw : Nat := 60
abbrev fid_pack_Writer_Bytes : Nat := 61
abbrev fid_msgone_ranges_1 : Nat := 62
abbrev fid_ballot_May : Nat := 63
abbrev fid_vers_May : Nat := 64
abbrev fid_entry_one : Nat := 65
abbrev fid_ref08_Check : Nat := 66
abbrev fid_ref16_Check : Nat := 67
abbrev fid_ref16_HasBallot : Nat := 68
abbrev fid_ref16_HasCmd : Nat := 69
abbrev fid_ref12_With : Nat := 70
abbrev fid_hard_Check : Nat := 71
abbrev fid_cmp_Or_int : Nat := 72
abbrev fid_cmp_Compare_int : Nat := 73
abbrev fid_entry_place : Nat := 74
abbrev fid_slices_IndexFunc_api_Entry_api_Entry : Nat := 75
abbrev fid_slices_Clone_api_Entry_api_Entry : Nat := 76
abbrev fid_slices_Clone_byte_byte : Nat := 77
abbrev fid_pack_Reader_Number : Nat := 78
abbrev fid_entry_Get : Nat := 79
abbrev fid_pack_Reader_Raw : Nat := 80
abbrev fid_pack_Reader_Err : Nat := 81
abbrev fid_pack_Reader_left : Nat := 82
abbrev fid_entry_Has : Nat := 83
abbrev fid_ref07_Has : Nat := 84
abbrev fid_ref08_Bytes : Nat := 85
abbrev fid_varint_Put : Nat := 86
abbrev fid_cmd_Put : Nat := 87
abbrev fid_ballot_node : Nat := 88
abbrev fid_cmd_Check : Nat := 89
abbrev fid_ref08_Owned : Nat := 90
abbrev fid_ref08_member : Nat := 91
abbrev fid_ref05_Key : Nat := 92
abbrev fid_ref05_Val : Nat := 93
abbrev fid_ref16_HasIndex : Nat := 94
abbrev fid_recone_Check : Nat := 95
abbrev fid_hard_Check_1 : Nat := 96
abbrev fid_hard_Check_2 : Nat := 97
abbrev fid_slices_ContainsFunc_api_Entry_api_Entry : Nat := 98
abbrev fid_cmp_isNaN_int : Nat := 99
abbrev fid_slices_BinarySearchFunc_api_Entry_api_Entry_int : Nat := 100
abbrev fid_entry_place_1 : Nat := 101
abbrev fid_pack_read_int : Nat := 102
abbrev fid_pack_Reader_Number_1 : Nat := 103
abbrev fid_pack_Reader_limited : Nat := 104
abbrev fid_pack_Reader_Count : Nat := 105
abbrev fid_cmd_Get : Nat := 106
abbrev fid_pack_read_byte : Nat := 107
abbrev fid_pack_Reader_Raw_1 : Nat := 108
abbrev fid_pack_Reader_raw : Nat := 109
abbrev fid_entry_Has_1 : Nat := 110
abbrev fid_vers_Has : Nat := 111
abbrev fid_ref04_Text : Nat := 112
abbrev fid_cmd_parts : Nat := 113
abbrev fid_cmd_part_wanted : Nat := 114
abbrev fid_cmd_part_write : Nat := 115
abbrev fid_cmd_fields : Nat := 116
abbrev fid_cmd_part_number : Nat := 117
abbrev fid_cmd_part_text : Nat := 118
abbrev fid_ref05_Size : Nat := 119
abbrev fid_ref05_Plain : Nat := 120
abbrev fid_ref05_Bad : Nat := 121
abbrev fid_recone_fields : Nat := 122
abbrev fid_recone_ranges : Nat := 123
abbrev fid_recone_others : Nat := 124
abbrev fid_varint_Get : Nat := 125
abbrev fid_pack_Reader_fail : Nat := 126
abbrev fid_pack_Reader_Count_1 : Nat := 127
abbrev fid_pack_Reader_counted : Nat := 128
abbrev fid_cmd_part_read : Nat := 129
abbrev fid_cmd_parts_1 : Nat := 130
abbrev fid_cmd_parts_2 : Nat := 131
abbrev fid_runes_Key : Nat := 132
abbrev fid_cmd_parts_3 : Nat := 133
abbrev fid_runes_Val : Nat := 134
abbrev fid_cmd_parts_4 : Nat := 135
abbrev fid_cmd_parts_5 : Nat := 136
abbrev fid_cmd_parts_6 : Nat := 137
abbrev fid_pack_Writer_Text : Nat := 138
abbrev fid_pack_Reader_Text : Nat := 139
abbrev fid_runes_Whole : Nat := 140
abbrev fid_runes_all : Nat := 141
abbrev fid_runes_Plain : Nat := 142
abbrev fid_runes_Val_1 : Nat := 143
abbrev fid_runes_Bad : Nat := 144
abbrev fid_unicode_utf8_DecodeRuneInString : Nat := 145
abbrev fid_unicode_utf8_decodeRuneInStringSlow : Nat := 146
abbrev g_unicode_utf8_first : Addr := ⟨0, 0, none⟩
abbrev g_unicode_utf8_acceptRanges : Addr := ⟨1, 0, none⟩
abbrev cs66_24119 : List UInt8 := [97, 98, 99, 100, 101, 102, 103, 104, 105, 106, 107, 108, 109, 110, 111, 112, 113, 114, 115, 116, 117, 118, 119, 120, 121, 122, 65, 66, 67, 68, 69, 70, 71, 72, 73, 74, 75, 76, 77, 78, 79, 80, 81, 82, 83, 84, 85, 86, 87, 88, 89, 90, 48, 49, 50, 51, 52, 53, 54, 55, 56, 57, 45, 95, 46, 58]
structure ApiBallot where
  Round : Int
  Node : Int
def ApiBallot.cs (x : ApiBallot) : List Value := [(.int .i64 x.Round), (.int .i64 x.Node)]
def ApiBallot.val (x : ApiBallot) : Value := .agg ⟨x.cs⟩
def ApiBallot.un : List Value → Option ApiBallot
  | [v0, v1] => (unI .i64 v0).bind fun a0 => (unI .i64 v1).bind fun a1 => some (ApiBallot.mk a0 a1)
  | _ => none
theorem ApiBallot.ok : ∀ l x, ApiBallot.un l = some x → l = x.cs := fun l x h => by
  unfold ApiBallot.un at h
  split at h
  · simp only [Option.bind_eq_some_iff, Option.some.injEq] at h
    obtain ⟨a0, h0, a1, h1, rfl⟩ := h
    rw [unI_ok .i64 _ _ h0, unI_ok .i64 _ _ h1]; rfl
  · cases h
def ApiBallot.unv : Value → Option ApiBallot
  | .agg a => ApiBallot.un a.toList
  | _ => none
def rApiBallot : RTy := ⟨ApiBallot, ApiBallot.val, ApiBallot.cs, ApiBallot.unv, ApiBallot.un, fun v x h => (by cases v <;> first | (have := ApiBallot.ok _ _ h; exact congrArg Value.agg (Array.toList_inj.1 this)) | cases h), ApiBallot.ok⟩

structure ApiMsg where
  Kind : Int
  From : Int
  To : Int
  Ballot : ApiBallot
  Index : Int
  Commit : Int
  Version : Int
  Entries : Sl
  Image : Sl
def ApiMsg.cs (x : ApiMsg) : List Value := [(.int .i64 x.Kind), (.int .i64 x.From), (.int .i64 x.To), (.int .i64 x.Ballot.Round), (.int .i64 x.Ballot.Node), (.int .i64 x.Index), (.int .i64 x.Commit), (.int .i64 x.Version), x.Entries.val, x.Image.val]
def ApiMsg.val (x : ApiMsg) : Value := .agg ⟨x.cs⟩
def ApiMsg.un : List Value → Option ApiMsg
  | [v0, v1, v2, v3, v4, v5, v6, v7, v8, v9] => (unI .i64 v0).bind fun a0 => (unI .i64 v1).bind fun a1 => (unI .i64 v2).bind fun a2 => (unI .i64 v3).bind fun a3 => (unI .i64 v4).bind fun a4 => (unI .i64 v5).bind fun a5 => (unI .i64 v6).bind fun a6 => (unI .i64 v7).bind fun a7 => (unSl v8).bind fun a8 => (unSl v9).bind fun a9 => some (ApiMsg.mk a0 a1 a2 (ApiBallot.mk a3 a4) a5 a6 a7 a8 a9)
  | _ => none
theorem ApiMsg.ok : ∀ l x, ApiMsg.un l = some x → l = x.cs := fun l x h => by
  unfold ApiMsg.un at h
  split at h
  · simp only [Option.bind_eq_some_iff, Option.some.injEq] at h
    obtain ⟨a0, h0, a1, h1, a2, h2, a3, h3, a4, h4, a5, h5, a6, h6, a7, h7, a8, h8, a9, h9, rfl⟩ := h
    rw [unI_ok .i64 _ _ h0, unI_ok .i64 _ _ h1, unI_ok .i64 _ _ h2, unI_ok .i64 _ _ h3, unI_ok .i64 _ _ h4, unI_ok .i64 _ _ h5, unI_ok .i64 _ _ h6, unI_ok .i64 _ _ h7, unSl_ok _ _ h8, unSl_ok _ _ h9]; rfl
  · cases h
def ApiMsg.unv : Value → Option ApiMsg
  | .agg a => ApiMsg.un a.toList
  | _ => none
def rApiMsg : RTy := ⟨ApiMsg, ApiMsg.val, ApiMsg.cs, ApiMsg.unv, ApiMsg.un, fun v x h => (by cases v <;> first | (have := ApiMsg.ok _ _ h; exact congrArg Value.agg (Array.toList_inj.1 this)) | cases h), ApiMsg.ok⟩

structure ApiHard where
  Promised : ApiBallot
  Base : Int
  Image : Sl
  Accepted : Sl
  Chosen : Sl
def ApiHard.cs (x : ApiHard) : List Value := [(.int .i64 x.Promised.Round), (.int .i64 x.Promised.Node), (.int .i64 x.Base), x.Image.val, x.Accepted.val, x.Chosen.val]
def ApiHard.val (x : ApiHard) : Value := .agg ⟨x.cs⟩
def ApiHard.un : List Value → Option ApiHard
  | [v0, v1, v2, v3, v4, v5] => (unI .i64 v0).bind fun a0 => (unI .i64 v1).bind fun a1 => (unI .i64 v2).bind fun a2 => (unSl v3).bind fun a3 => (unSl v4).bind fun a4 => (unSl v5).bind fun a5 => some (ApiHard.mk (ApiBallot.mk a0 a1) a2 a3 a4 a5)
  | _ => none
theorem ApiHard.ok : ∀ l x, ApiHard.un l = some x → l = x.cs := fun l x h => by
  unfold ApiHard.un at h
  split at h
  · simp only [Option.bind_eq_some_iff, Option.some.injEq] at h
    obtain ⟨a0, h0, a1, h1, a2, h2, a3, h3, a4, h4, a5, h5, rfl⟩ := h
    rw [unI_ok .i64 _ _ h0, unI_ok .i64 _ _ h1, unI_ok .i64 _ _ h2, unSl_ok _ _ h3, unSl_ok _ _ h4, unSl_ok _ _ h5]; rfl
  · cases h
def ApiHard.unv : Value → Option ApiHard
  | .agg a => ApiHard.un a.toList
  | _ => none
def rApiHard : RTy := ⟨ApiHard, ApiHard.val, ApiHard.cs, ApiHard.unv, ApiHard.un, fun v x h => (by cases v <;> first | (have := ApiHard.ok _ _ h; exact congrArg Value.agg (Array.toList_inj.1 this)) | cases h), ApiHard.ok⟩

structure ApiCmd where
  Kind : Int
  Client : Int
  Seq : Int
  Key : List UInt8
  Val : List UInt8
  Old : List UInt8
  Node : Int
def ApiCmd.cs (x : ApiCmd) : List Value := [(.int .i64 x.Kind), (.int .i64 x.Client), (.int .i64 x.Seq), (sval x.Key), (sval x.Val), (sval x.Old), (.int .i64 x.Node)]
def ApiCmd.val (x : ApiCmd) : Value := .agg ⟨x.cs⟩
def ApiCmd.un : List Value → Option ApiCmd
  | [v0, v1, v2, v3, v4, v5, v6] => (unI .i64 v0).bind fun a0 => (unI .i64 v1).bind fun a1 => (unI .i64 v2).bind fun a2 => (unS v3).bind fun a3 => (unS v4).bind fun a4 => (unS v5).bind fun a5 => (unI .i64 v6).bind fun a6 => some (ApiCmd.mk a0 a1 a2 a3 a4 a5 a6)
  | _ => none
theorem ApiCmd.ok : ∀ l x, ApiCmd.un l = some x → l = x.cs := fun l x h => by
  unfold ApiCmd.un at h
  split at h
  · simp only [Option.bind_eq_some_iff, Option.some.injEq] at h
    obtain ⟨a0, h0, a1, h1, a2, h2, a3, h3, a4, h4, a5, h5, a6, h6, rfl⟩ := h
    rw [unI_ok .i64 _ _ h0, unI_ok .i64 _ _ h1, unI_ok .i64 _ _ h2, unS_ok _ _ h3, unS_ok _ _ h4, unS_ok _ _ h5, unI_ok .i64 _ _ h6]; rfl
  · cases h
def ApiCmd.unv : Value → Option ApiCmd
  | .agg a => ApiCmd.un a.toList
  | _ => none
def rApiCmd : RTy := ⟨ApiCmd, ApiCmd.val, ApiCmd.cs, ApiCmd.unv, ApiCmd.un, fun v x h => (by cases v <;> first | (have := ApiCmd.ok _ _ h; exact congrArg Value.agg (Array.toList_inj.1 this)) | cases h), ApiCmd.ok⟩

structure ApiRecord where
  Kind : Int
  Ballot : ApiBallot
  Index : Int
  Cmd : ApiCmd
  Image : Sl
def ApiRecord.cs (x : ApiRecord) : List Value := [(.int .i64 x.Kind), (.int .i64 x.Ballot.Round), (.int .i64 x.Ballot.Node), (.int .i64 x.Index), (.int .i64 x.Cmd.Kind), (.int .i64 x.Cmd.Client), (.int .i64 x.Cmd.Seq), (sval x.Cmd.Key), (sval x.Cmd.Val), (sval x.Cmd.Old), (.int .i64 x.Cmd.Node), x.Image.val]
def ApiRecord.val (x : ApiRecord) : Value := .agg ⟨x.cs⟩
def ApiRecord.un : List Value → Option ApiRecord
  | [v0, v1, v2, v3, v4, v5, v6, v7, v8, v9, v10, v11] => (unI .i64 v0).bind fun a0 => (unI .i64 v1).bind fun a1 => (unI .i64 v2).bind fun a2 => (unI .i64 v3).bind fun a3 => (unI .i64 v4).bind fun a4 => (unI .i64 v5).bind fun a5 => (unI .i64 v6).bind fun a6 => (unS v7).bind fun a7 => (unS v8).bind fun a8 => (unS v9).bind fun a9 => (unI .i64 v10).bind fun a10 => (unSl v11).bind fun a11 => some (ApiRecord.mk a0 (ApiBallot.mk a1 a2) a3 (ApiCmd.mk a4 a5 a6 a7 a8 a9 a10) a11)
  | _ => none
theorem ApiRecord.ok : ∀ l x, ApiRecord.un l = some x → l = x.cs := fun l x h => by
  unfold ApiRecord.un at h
  split at h
  · simp only [Option.bind_eq_some_iff, Option.some.injEq] at h
    obtain ⟨a0, h0, a1, h1, a2, h2, a3, h3, a4, h4, a5, h5, a6, h6, a7, h7, a8, h8, a9, h9, a10, h10, a11, h11, rfl⟩ := h
    rw [unI_ok .i64 _ _ h0, unI_ok .i64 _ _ h1, unI_ok .i64 _ _ h2, unI_ok .i64 _ _ h3, unI_ok .i64 _ _ h4, unI_ok .i64 _ _ h5, unI_ok .i64 _ _ h6, unS_ok _ _ h7, unS_ok _ _ h8, unS_ok _ _ h9, unI_ok .i64 _ _ h10, unSl_ok _ _ h11]; rfl
  · cases h
def ApiRecord.unv : Value → Option ApiRecord
  | .agg a => ApiRecord.un a.toList
  | _ => none
def rApiRecord : RTy := ⟨ApiRecord, ApiRecord.val, ApiRecord.cs, ApiRecord.unv, ApiRecord.un, fun v x h => (by cases v <;> first | (have := ApiRecord.ok _ _ h; exact congrArg Value.agg (Array.toList_inj.1 this)) | cases h), ApiRecord.ok⟩

structure ApiEntry where
  Index : Int
  Ballot : ApiBallot
  Cmd : ApiCmd
def ApiEntry.cs (x : ApiEntry) : List Value := [(.int .i64 x.Index), (.int .i64 x.Ballot.Round), (.int .i64 x.Ballot.Node), (.int .i64 x.Cmd.Kind), (.int .i64 x.Cmd.Client), (.int .i64 x.Cmd.Seq), (sval x.Cmd.Key), (sval x.Cmd.Val), (sval x.Cmd.Old), (.int .i64 x.Cmd.Node)]
def ApiEntry.val (x : ApiEntry) : Value := .agg ⟨x.cs⟩
def ApiEntry.un : List Value → Option ApiEntry
  | [v0, v1, v2, v3, v4, v5, v6, v7, v8, v9] => (unI .i64 v0).bind fun a0 => (unI .i64 v1).bind fun a1 => (unI .i64 v2).bind fun a2 => (unI .i64 v3).bind fun a3 => (unI .i64 v4).bind fun a4 => (unI .i64 v5).bind fun a5 => (unS v6).bind fun a6 => (unS v7).bind fun a7 => (unS v8).bind fun a8 => (unI .i64 v9).bind fun a9 => some (ApiEntry.mk a0 (ApiBallot.mk a1 a2) (ApiCmd.mk a3 a4 a5 a6 a7 a8 a9))
  | _ => none
theorem ApiEntry.ok : ∀ l x, ApiEntry.un l = some x → l = x.cs := fun l x h => by
  unfold ApiEntry.un at h
  split at h
  · simp only [Option.bind_eq_some_iff, Option.some.injEq] at h
    obtain ⟨a0, h0, a1, h1, a2, h2, a3, h3, a4, h4, a5, h5, a6, h6, a7, h7, a8, h8, a9, h9, rfl⟩ := h
    rw [unI_ok .i64 _ _ h0, unI_ok .i64 _ _ h1, unI_ok .i64 _ _ h2, unI_ok .i64 _ _ h3, unI_ok .i64 _ _ h4, unI_ok .i64 _ _ h5, unS_ok _ _ h6, unS_ok _ _ h7, unS_ok _ _ h8, unI_ok .i64 _ _ h9]; rfl
  · cases h
def ApiEntry.unv : Value → Option ApiEntry
  | .agg a => ApiEntry.un a.toList
  | _ => none
def rApiEntry : RTy := ⟨ApiEntry, ApiEntry.val, ApiEntry.cs, ApiEntry.unv, ApiEntry.un, fun v x h => (by cases v <;> first | (have := ApiEntry.ok _ _ h; exact congrArg Value.agg (Array.toList_inj.1 this)) | cases h), ApiEntry.ok⟩

structure CmdPart where
  has_ : Int
  most : Int
  is : Option Nat
  at_ : Option Nat
def CmdPart.cs (x : CmdPart) : List Value := [(.int .i64 x.has_), (.int .i64 x.most), (cfnV x.is), (cfnV x.at_)]
def CmdPart.val (x : CmdPart) : Value := .agg ⟨x.cs⟩
def CmdPart.un : List Value → Option CmdPart
  | [v0, v1, v2, v3] => (unI .i64 v0).bind fun a0 => (unI .i64 v1).bind fun a1 => (unC v2).bind fun a2 => (unC v3).bind fun a3 => some (CmdPart.mk a0 a1 a2 a3)
  | _ => none
theorem CmdPart.ok : ∀ l x, CmdPart.un l = some x → l = x.cs := fun l x h => by
  unfold CmdPart.un at h
  split at h
  · simp only [Option.bind_eq_some_iff, Option.some.injEq] at h
    obtain ⟨a0, h0, a1, h1, a2, h2, a3, h3, rfl⟩ := h
    rw [unI_ok .i64 _ _ h0, unI_ok .i64 _ _ h1, unC_ok _ _ h2, unC_ok _ _ h3]; rfl
  · cases h
def CmdPart.unv : Value → Option CmdPart
  | .agg a => CmdPart.un a.toList
  | _ => none
def rCmdPart : RTy := ⟨CmdPart, CmdPart.val, CmdPart.cs, CmdPart.unv, CmdPart.un, fun v x h => (by cases v <;> first | (have := CmdPart.ok _ _ h; exact congrArg Value.agg (Array.toList_inj.1 this)) | cases h), CmdPart.ok⟩

structure ReconeHas where
  ballot : Bool
  index : Bool
  cmd : Bool
  image : Bool
def ReconeHas.cs (x : ReconeHas) : List Value := [(.bool x.ballot), (.bool x.index), (.bool x.cmd), (.bool x.image)]
def ReconeHas.val (x : ReconeHas) : Value := .agg ⟨x.cs⟩
def ReconeHas.un : List Value → Option ReconeHas
  | [v0, v1, v2, v3] => (unB v0).bind fun a0 => (unB v1).bind fun a1 => (unB v2).bind fun a2 => (unB v3).bind fun a3 => some (ReconeHas.mk a0 a1 a2 a3)
  | _ => none
theorem ReconeHas.ok : ∀ l x, ReconeHas.un l = some x → l = x.cs := fun l x h => by
  unfold ReconeHas.un at h
  split at h
  · simp only [Option.bind_eq_some_iff, Option.some.injEq] at h
    obtain ⟨a0, h0, a1, h1, a2, h2, a3, h3, rfl⟩ := h
    rw [unB_ok _ _ h0, unB_ok _ _ h1, unB_ok _ _ h2, unB_ok _ _ h3]; rfl
  · cases h
def ReconeHas.unv : Value → Option ReconeHas
  | .agg a => ReconeHas.un a.toList
  | _ => none
def rReconeHas : RTy := ⟨ReconeHas, ReconeHas.val, ReconeHas.cs, ReconeHas.unv, ReconeHas.un, fun v x h => (by cases v <;> first | (have := ReconeHas.ok _ _ h; exact congrArg Value.agg (Array.toList_inj.1 this)) | cases h), ReconeHas.ok⟩

structure Utf8AcceptRange where
  lo : Int
  hi : Int
def Utf8AcceptRange.cs (x : Utf8AcceptRange) : List Value := [(.int .u8 x.lo), (.int .u8 x.hi)]
def Utf8AcceptRange.val (x : Utf8AcceptRange) : Value := .agg ⟨x.cs⟩
def Utf8AcceptRange.un : List Value → Option Utf8AcceptRange
  | [v0, v1] => (unI .u8 v0).bind fun a0 => (unI .u8 v1).bind fun a1 => some (Utf8AcceptRange.mk a0 a1)
  | _ => none
theorem Utf8AcceptRange.ok : ∀ l x, Utf8AcceptRange.un l = some x → l = x.cs := fun l x h => by
  unfold Utf8AcceptRange.un at h
  split at h
  · simp only [Option.bind_eq_some_iff, Option.some.injEq] at h
    obtain ⟨a0, h0, a1, h1, rfl⟩ := h
    rw [unI_ok .u8 _ _ h0, unI_ok .u8 _ _ h1]; rfl
  · cases h
def Utf8AcceptRange.unv : Value → Option Utf8AcceptRange
  | .agg a => Utf8AcceptRange.un a.toList
  | _ => none
def rUtf8AcceptRange : RTy := ⟨Utf8AcceptRange, Utf8AcceptRange.val, Utf8AcceptRange.cs, Utf8AcceptRange.unv, Utf8AcceptRange.un, fun v x h => (by cases v <;> first | (have := Utf8AcceptRange.ok _ _ h; exact congrArg Value.agg (Array.toList_inj.1 this)) | cases h), Utf8AcceptRange.ok⟩

end Go.Chg
