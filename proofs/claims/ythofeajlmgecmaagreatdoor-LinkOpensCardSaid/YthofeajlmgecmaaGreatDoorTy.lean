/-
  The types of the program's values, as Lean types, and facts about the program. Written by a program of ours (gen.py).
-/
import Derived.Test.YthofeajlmgecmaaGreatDoorProg
import Derived.Test.YthofeajlmgecmaaGreatDoorOwn
namespace Go.Chg
open Go.Vc
noncomputable abbrev Pr : Program := Go.Proofs.Tryz.prog
theorem Pr_plain : Plain Pr := plain_of (by kernel_rfl)
theorem Pr_mixed : Pr.follows .mixedOrders = true := by kernel_rfl
theorem Pr_func2 : Pr.funcs[2]? = some Go.Proofs.Tryz.f2 := Go.Proofs.Tryz.func2
theorem Pr_func3 : Pr.funcs[3]? = some Go.Proofs.Tryz.f3 := Go.Proofs.Tryz.func3
theorem Pr_func4 : Pr.funcs[4]? = some Go.Proofs.Tryz.f4 := Go.Proofs.Tryz.func4
theorem Pr_func5 : Pr.funcs[5]? = some Go.Proofs.Tryz.f5 := Go.Proofs.Tryz.func5
theorem Pr_func6 : Pr.funcs[6]? = some Go.Proofs.Tryz.f6 := Go.Proofs.Tryz.func6
theorem Pr_func7 : Pr.funcs[7]? = some Go.Proofs.Tryz.f7 := Go.Proofs.Tryz.func7
theorem Pr_func8 : Pr.funcs[8]? = some Go.Proofs.Tryz.f8 := Go.Proofs.Tryz.func8
theorem Pr_func9 : Pr.funcs[9]? = some Go.Proofs.Tryz.f9 := Go.Proofs.Tryz.func9
theorem Pr_func10 : Pr.funcs[10]? = some Go.Proofs.Tryz.f10 := Go.Proofs.Tryz.func10
theorem Pr_func11 : Pr.funcs[11]? = some Go.Proofs.Tryz.f11 := Go.Proofs.Tryz.func11
theorem Pr_func12 : Pr.funcs[12]? = some Go.Proofs.Tryz.f12 := Go.Proofs.Tryz.func12
theorem Pr_func13 : Pr.funcs[13]? = some Go.Proofs.Tryz.f13 := Go.Proofs.Tryz.func13
theorem Pr_func14 : Pr.funcs[14]? = some Go.Proofs.Tryz.f14 := Go.Proofs.Tryz.func14
theorem Pr_func15 : Pr.funcs[15]? = some Go.Proofs.Tryz.f15 := Go.Proofs.Tryz.func15
theorem Pr_func16 : Pr.funcs[16]? = some Go.Proofs.Tryz.f16 := Go.Proofs.Tryz.func16
theorem Pr_func17 : Pr.funcs[17]? = some Go.Proofs.Tryz.f17 := Go.Proofs.Tryz.func17
theorem Pr_func18 : Pr.funcs[18]? = some Go.Proofs.Tryz.f18 := Go.Proofs.Tryz.func18
theorem Pr_func19 : Pr.funcs[19]? = some Go.Proofs.Tryz.f19 := Go.Proofs.Tryz.func19
theorem Pr_func20 : Pr.funcs[20]? = some Go.Proofs.Tryz.f20 := Go.Proofs.Tryz.func20
theorem Pr_func21 : Pr.funcs[21]? = some Go.Proofs.Tryz.f21 := Go.Proofs.Tryz.func21
theorem Pr_func22 : Pr.funcs[22]? = some Go.Proofs.Tryz.f22 := Go.Proofs.Tryz.func22
theorem Pr_func23 : Pr.funcs[23]? = some Go.Proofs.Tryz.f23 := Go.Proofs.Tryz.func23
theorem Pr_func24 : Pr.funcs[24]? = some Go.Proofs.Tryz.f24 := Go.Proofs.Tryz.func24
theorem Pr_func25 : Pr.funcs[25]? = some Go.Proofs.Tryz.f25 := Go.Proofs.Tryz.func25
theorem Pr_func26 : Pr.funcs[26]? = some Go.Proofs.Tryz.f26 := Go.Proofs.Tryz.func26
theorem Pr_func27 : Pr.funcs[27]? = some Go.Proofs.Tryz.f27 := Go.Proofs.Tryz.func27
theorem Pr_func28 : Pr.funcs[28]? = some Go.Proofs.Tryz.f28 := Go.Proofs.Tryz.func28
theorem Pr_func29 : Pr.funcs[29]? = some Go.Proofs.Tryz.f29 := Go.Proofs.Tryz.func29
theorem Pr_func30 : Pr.funcs[30]? = some Go.Proofs.Tryz.f30 := Go.Proofs.Tryz.func30
theorem Pr_func31 : Pr.funcs[31]? = some Go.Proofs.Tryz.f31 := Go.Proofs.Tryz.func31
theorem Pr_func32 : Pr.funcs[32]? = some Go.Proofs.Tryz.f32 := Go.Proofs.Tryz.func32
theorem Pr_func33 : Pr.funcs[33]? = some Go.Proofs.Tryz.f33 := Go.Proofs.Tryz.func33
theorem Pr_func34 : Pr.funcs[34]? = some Go.Proofs.Tryz.f34 := Go.Proofs.Tryz.func34
theorem Pr_func35 : Pr.funcs[35]? = some Go.Proofs.Tryz.f35 := Go.Proofs.Tryz.func35
theorem Pr_func36 : Pr.funcs[36]? = some Go.Proofs.Tryz.f36 := Go.Proofs.Tryz.func36
theorem Pr_func37 : Pr.funcs[37]? = some Go.Proofs.Tryz.f37 := Go.Proofs.Tryz.func37
theorem Pr_func38 : Pr.funcs[38]? = some Go.Proofs.Tryz.f38 := Go.Proofs.Tryz.func38
theorem Pr_func39 : Pr.funcs[39]? = some Go.Proofs.Tryz.f39 := Go.Proofs.Tryz.func39
theorem Pr_func40 : Pr.funcs[40]? = some Go.Proofs.Tryz.f40 := Go.Proofs.Tryz.func40
theorem Pr_func41 : Pr.funcs[41]? = some Go.Proofs.Tryz.f41 := Go.Proofs.Tryz.func41
theorem Pr_func42 : Pr.funcs[42]? = some Go.Proofs.Tryz.f42 := Go.Proofs.Tryz.func42
theorem Pr_func43 : Pr.funcs[43]? = some Go.Proofs.Tryz.f43 := Go.Proofs.Tryz.func43
theorem Pr_func44 : Pr.funcs[44]? = some Go.Proofs.Tryz.f44 := Go.Proofs.Tryz.func44
theorem Pr_func45 : Pr.funcs[45]? = some Go.Proofs.Tryz.f45 := Go.Proofs.Tryz.func45
theorem Pr_func46 : Pr.funcs[46]? = some Go.Proofs.Tryz.f46 := Go.Proofs.Tryz.func46
theorem Pr_func47 : Pr.funcs[47]? = some Go.Proofs.Tryz.f47 := Go.Proofs.Tryz.func47
theorem Pr_func48 : Pr.funcs[48]? = some Go.Proofs.Tryz.f48 := Go.Proofs.Tryz.func48
theorem Pr_func49 : Pr.funcs[49]? = some Go.Proofs.Tryz.f49 := Go.Proofs.Tryz.func49
theorem Pr_func50 : Pr.funcs[50]? = some Go.Proofs.Tryz.f50 := Go.Proofs.Tryz.func50
theorem Pr_func51 : Pr.funcs[51]? = some Go.Proofs.Tryz.f51 := Go.Proofs.Tryz.func51
theorem Pr_func52 : Pr.funcs[52]? = some Go.Proofs.Tryz.f52 := Go.Proofs.Tryz.func52
theorem Pr_func53 : Pr.funcs[53]? = some Go.Proofs.Tryz.f53 := Go.Proofs.Tryz.func53
theorem Pr_func54 : Pr.funcs[54]? = some Go.Proofs.Tryz.f54 := Go.Proofs.Tryz.func54
theorem Pr_func55 : Pr.funcs[55]? = some Go.Proofs.Tryz.f55 := Go.Proofs.Tryz.func55
theorem Pr_func56 : Pr.funcs[56]? = some Go.Proofs.Tryz.f56 := Go.Proofs.Tryz.func56
theorem Pr_func57 : Pr.funcs[57]? = some Go.Proofs.Tryz.f57 := Go.Proofs.Tryz.func57
theorem Pr_func58 : Pr.funcs[58]? = some Go.Proofs.Tryz.f58 := Go.Proofs.Tryz.func58
theorem Pr_func59 : Pr.funcs[59]? = some Go.Proofs.Tryz.f59 := Go.Proofs.Tryz.func59
theorem Pr_func60 : Pr.funcs[60]? = some Go.Proofs.Tryz.f60 := Go.Proofs.Tryz.func60
theorem Pr_func61 : Pr.funcs[61]? = some Go.Proofs.Tryz.f61 := Go.Proofs.Tryz.func61
theorem Pr_func62 : Pr.funcs[62]? = some Go.Proofs.Tryz.f62 := Go.Proofs.Tryz.func62
theorem Pr_func63 : Pr.funcs[63]? = some Go.Proofs.Tryz.f63 := Go.Proofs.Tryz.func63
theorem Pr_func64 : Pr.funcs[64]? = some Go.Proofs.Tryz.f64 := Go.Proofs.Tryz.func64
theorem Pr_func65 : Pr.funcs[65]? = some Go.Proofs.Tryz.f65 := Go.Proofs.Tryz.func65
theorem Pr_func66 : Pr.funcs[66]? = some Go.Proofs.Tryz.f66 := Go.Proofs.Tryz.func66
theorem Pr_func67 : Pr.funcs[67]? = some Go.Proofs.Tryz.f67 := Go.Proofs.Tryz.func67
theorem Pr_func68 : Pr.funcs[68]? = some Go.Proofs.Tryz.f68 := Go.Proofs.Tryz.func68
theorem Pr_func69 : Pr.funcs[69]? = some Go.Proofs.Tryz.f69 := Go.Proofs.Tryz.func69
theorem Pr_func70 : Pr.funcs[70]? = some Go.Proofs.Tryz.f70 := Go.Proofs.Tryz.func70
theorem Pr_func71 : Pr.funcs[71]? = some Go.Proofs.Tryz.f71 := Go.Proofs.Tryz.func71
theorem Pr_func72 : Pr.funcs[72]? = some Go.Proofs.Tryz.f72 := Go.Proofs.Tryz.func72
theorem Pr_func73 : Pr.funcs[73]? = some Go.Proofs.Tryz.f73 := Go.Proofs.Tryz.func73
theorem Pr_func74 : Pr.funcs[74]? = some Go.Proofs.Tryz.f74 := Go.Proofs.Tryz.func74
theorem Pr_func75 : Pr.funcs[75]? = some Go.Proofs.Tryz.f75 := Go.Proofs.Tryz.func75
theorem Pr_func76 : Pr.funcs[76]? = some Go.Proofs.Tryz.f76 := Go.Proofs.Tryz.func76
theorem Pr_func77 : Pr.funcs[77]? = some Go.Proofs.Tryz.f77 := Go.Proofs.Tryz.func77
theorem Pr_func78 : Pr.funcs[78]? = some Go.Proofs.Tryz.f78 := Go.Proofs.Tryz.func78
theorem Pr_func79 : Pr.funcs[79]? = some Go.Proofs.Tryz.f79 := Go.Proofs.Tryz.func79
theorem Pr_func80 : Pr.funcs[80]? = some Go.Proofs.Tryz.f80 := Go.Proofs.Tryz.func80
theorem Pr_func81 : Pr.funcs[81]? = some Go.Proofs.Tryz.f81 := Go.Proofs.Tryz.func81
theorem Pr_func82 : Pr.funcs[82]? = some Go.Proofs.Tryz.f82 := Go.Proofs.Tryz.func82
theorem Pr_func83 : Pr.funcs[83]? = some Go.Proofs.Tryz.f83 := Go.Proofs.Tryz.func83
theorem Pr_func84 : Pr.funcs[84]? = some Go.Proofs.Tryz.f84 := Go.Proofs.Tryz.func84
theorem Pr_func85 : Pr.funcs[85]? = some Go.Proofs.Tryz.f85 := Go.Proofs.Tryz.func85
theorem Pr_func86 : Pr.funcs[86]? = some Go.Proofs.Tryz.f86 := Go.Proofs.Tryz.func86
theorem Pr_func87 : Pr.funcs[87]? = some Go.Proofs.Tryz.f87 := Go.Proofs.Tryz.func87
theorem Pr_func88 : Pr.funcs[88]? = some Go.Proofs.Tryz.f88 := Go.Proofs.Tryz.func88
theorem Pr_func89 : Pr.funcs[89]? = some Go.Proofs.Tryz.f89 := Go.Proofs.Tryz.func89
theorem Pr_func90 : Pr.funcs[90]? = some Go.Proofs.Tryz.f90 := Go.Proofs.Tryz.func90
theorem Pr_func91 : Pr.funcs[91]? = some Go.Proofs.Tryz.f91 := Go.Proofs.Tryz.func91
theorem Pr_func92 : Pr.funcs[92]? = some Go.Proofs.Tryz.f92 := Go.Proofs.Tryz.func92
theorem Pr_func93 : Pr.funcs[93]? = some Go.Proofs.Tryz.f93 := Go.Proofs.Tryz.func93
theorem Pr_func94 : Pr.funcs[94]? = some Go.Proofs.Tryz.f94 := Go.Proofs.Tryz.func94
theorem Pr_func95 : Pr.funcs[95]? = some Go.Proofs.Tryz.f95 := Go.Proofs.Tryz.func95
theorem Pr_func96 : Pr.funcs[96]? = some Go.Proofs.Tryz.f96 := Go.Proofs.Tryz.func96
theorem Pr_func97 : Pr.funcs[97]? = some Go.Proofs.Tryz.f97 := Go.Proofs.Tryz.func97
theorem Pr_func98 : Pr.funcs[98]? = some Go.Proofs.Tryz.f98 := Go.Proofs.Tryz.func98
theorem Pr_func99 : Pr.funcs[99]? = some Go.Proofs.Tryz.f99 := Go.Proofs.Tryz.func99
theorem Pr_func100 : Pr.funcs[100]? = some Go.Proofs.Tryz.f100 := Go.Proofs.Tryz.func100
theorem Pr_func101 : Pr.funcs[101]? = some Go.Proofs.Tryz.f101 := Go.Proofs.Tryz.func101
theorem Pr_func102 : Pr.funcs[102]? = some Go.Proofs.Tryz.f102 := Go.Proofs.Tryz.func102
theorem Pr_func103 : Pr.funcs[103]? = some Go.Proofs.Tryz.f103 := Go.Proofs.Tryz.func103
theorem Pr_func104 : Pr.funcs[104]? = some Go.Proofs.Tryz.f104 := Go.Proofs.Tryz.func104
theorem Pr_func105 : Pr.funcs[105]? = some Go.Proofs.Tryz.f105 := Go.Proofs.Tryz.func105
theorem Pr_func106 : Pr.funcs[106]? = some Go.Proofs.Tryz.f106 := Go.Proofs.Tryz.func106
theorem Pr_func107 : Pr.funcs[107]? = some Go.Proofs.Tryz.f107 := Go.Proofs.Tryz.func107
theorem Pr_func108 : Pr.funcs[108]? = some Go.Proofs.Tryz.f108 := Go.Proofs.Tryz.func108
theorem Pr_func109 : Pr.funcs[109]? = some Go.Proofs.Tryz.f109 := Go.Proofs.Tryz.func109
theorem Pr_func110 : Pr.funcs[110]? = some Go.Proofs.Tryz.f110 := Go.Proofs.Tryz.func110
theorem Pr_func111 : Pr.funcs[111]? = some Go.Proofs.Tryz.f111 := Go.Proofs.Tryz.func111
theorem Pr_func112 : Pr.funcs[112]? = some Go.Proofs.Tryz.f112 := Go.Proofs.Tryz.func112
theorem Pr_func113 : Pr.funcs[113]? = some Go.Proofs.Tryz.f113 := Go.Proofs.Tryz.func113
theorem Pr_func114 : Pr.funcs[114]? = some Go.Proofs.Tryz.f114 := Go.Proofs.Tryz.func114
theorem Pr_func115 : Pr.funcs[115]? = some Go.Proofs.Tryz.f115 := Go.Proofs.Tryz.func115
theorem Pr_func116 : Pr.funcs[116]? = some Go.Proofs.Tryz.f116 := Go.Proofs.Tryz.func116
theorem Pr_func117 : Pr.funcs[117]? = some Go.Proofs.Tryz.f117 := Go.Proofs.Tryz.func117
theorem Pr_func118 : Pr.funcs[118]? = some Go.Proofs.Tryz.f118 := Go.Proofs.Tryz.func118
theorem Pr_func119 : Pr.funcs[119]? = some Go.Proofs.Tryz.f119 := Go.Proofs.Tryz.func119
theorem Pr_func120 : Pr.funcs[120]? = some Go.Proofs.Tryz.f120 := Go.Proofs.Tryz.func120
theorem Pr_func121 : Pr.funcs[121]? = some Go.Proofs.Tryz.f121 := Go.Proofs.Tryz.func121
theorem Pr_func122 : Pr.funcs[122]? = some Go.Proofs.Tryz.f122 := Go.Proofs.Tryz.func122
theorem Pr_func123 : Pr.funcs[123]? = some Go.Proofs.Tryz.f123 := Go.Proofs.Tryz.func123
theorem Pr_func124 : Pr.funcs[124]? = some Go.Proofs.Tryz.f124 := Go.Proofs.Tryz.func124
theorem Pr_func125 : Pr.funcs[125]? = some Go.Proofs.Tryz.f125 := Go.Proofs.Tryz.func125
theorem Pr_func126 : Pr.funcs[126]? = some Go.Proofs.Tryz.f126 := Go.Proofs.Tryz.func126
theorem Pr_func127 : Pr.funcs[127]? = some Go.Proofs.Tryz.f127 := Go.Proofs.Tryz.func127
theorem Pr_func128 : Pr.funcs[128]? = some Go.Proofs.Tryz.f128 := Go.Proofs.Tryz.func128
theorem Pr_func129 : Pr.funcs[129]? = some Go.Proofs.Tryz.f129 := Go.Proofs.Tryz.func129
theorem Pr_func130 : Pr.funcs[130]? = some Go.Proofs.Tryz.f130 := Go.Proofs.Tryz.func130
theorem Pr_func131 : Pr.funcs[131]? = some Go.Proofs.Tryz.f131 := Go.Proofs.Tryz.func131
theorem Pr_func132 : Pr.funcs[132]? = some Go.Proofs.Tryz.f132 := Go.Proofs.Tryz.func132
theorem Pr_func133 : Pr.funcs[133]? = some Go.Proofs.Tryz.f133 := Go.Proofs.Tryz.func133
theorem Pr_func134 : Pr.funcs[134]? = some Go.Proofs.Tryz.f134 := Go.Proofs.Tryz.func134
theorem Pr_func135 : Pr.funcs[135]? = some Go.Proofs.Tryz.f135 := Go.Proofs.Tryz.func135
theorem Pr_func136 : Pr.funcs[136]? = some Go.Proofs.Tryz.f136 := Go.Proofs.Tryz.func136
theorem Pr_func137 : Pr.funcs[137]? = some Go.Proofs.Tryz.f137 := Go.Proofs.Tryz.func137
theorem Pr_func138 : Pr.funcs[138]? = some Go.Proofs.Tryz.f138 := Go.Proofs.Tryz.func138
theorem Pr_func139 : Pr.funcs[139]? = some Go.Proofs.Tryz.f139 := Go.Proofs.Tryz.func139
theorem Pr_func140 : Pr.funcs[140]? = some Go.Proofs.Tryz.f140 := Go.Proofs.Tryz.func140
theorem Pr_func141 : Pr.funcs[141]? = some Go.Proofs.Tryz.f141 := Go.Proofs.Tryz.func141
theorem Pr_func142 : Pr.funcs[142]? = some Go.Proofs.Tryz.f142 := Go.Proofs.Tryz.func142
theorem Pr_func143 : Pr.funcs[143]? = some Go.Proofs.Tryz.f143 := Go.Proofs.Tryz.func143
theorem Pr_func144 : Pr.funcs[144]? = some Go.Proofs.Tryz.f144 := Go.Proofs.Tryz.func144
theorem Pr_func145 : Pr.funcs[145]? = some Go.Proofs.Tryz.f145 := Go.Proofs.Tryz.func145
theorem Pr_func146 : Pr.funcs[146]? = some Go.Proofs.Tryz.f146 := Go.Proofs.Tryz.func146
theorem Pr_func147 : Pr.funcs[147]? = some Go.Proofs.Tryz.f147 := Go.Proofs.Tryz.func147
theorem Pr_func148 : Pr.funcs[148]? = some Go.Proofs.Tryz.f148 := Go.Proofs.Tryz.func148
theorem Pr_func149 : Pr.funcs[149]? = some Go.Proofs.Tryz.f149 := Go.Proofs.Tryz.func149
theorem Pr_func150 : Pr.funcs[150]? = some Go.Proofs.Tryz.f150 := Go.Proofs.Tryz.func150
theorem Pr_func151 : Pr.funcs[151]? = some Go.Proofs.Tryz.f151 := Go.Proofs.Tryz.func151
theorem Pr_func152 : Pr.funcs[152]? = some Go.Proofs.Tryz.f152 := Go.Proofs.Tryz.func152
theorem Pr_func153 : Pr.funcs[153]? = some Go.Proofs.Tryz.f153 := Go.Proofs.Tryz.func153
theorem Pr_func154 : Pr.funcs[154]? = some Go.Proofs.Tryz.f154 := Go.Proofs.Tryz.func154
theorem Pr_func155 : Pr.funcs[155]? = some Go.Proofs.Tryz.f155 := Go.Proofs.Tryz.func155
theorem Pr_func156 : Pr.funcs[156]? = some Go.Proofs.Tryz.f156 := Go.Proofs.Tryz.func156
theorem Pr_func157 : Pr.funcs[157]? = some Go.Proofs.Tryz.f157 := Go.Proofs.Tryz.func157
theorem Pr_func158 : Pr.funcs[158]? = some Go.Proofs.Tryz.f158 := Go.Proofs.Tryz.func158
theorem Pr_func159 : Pr.funcs[159]? = some Go.Proofs.Tryz.f159 := Go.Proofs.Tryz.func159
theorem Pr_func160 : Pr.funcs[160]? = some Go.Proofs.Tryz.f160 := Go.Proofs.Tryz.func160
theorem Pr_func161 : Pr.funcs[161]? = some Go.Proofs.Tryz.f161 := Go.Proofs.Tryz.func161
theorem Pr_func162 : Pr.funcs[162]? = some Go.Proofs.Tryz.f162 := Go.Proofs.Tryz.func162
theorem Pr_func163 : Pr.funcs[163]? = some Go.Proofs.Tryz.f163 := Go.Proofs.Tryz.func163
theorem Pr_func164 : Pr.funcs[164]? = some Go.Proofs.Tryz.f164 := Go.Proofs.Tryz.func164
theorem Pr_func165 : Pr.funcs[165]? = some Go.Proofs.Tryz.f165 := Go.Proofs.Tryz.func165
theorem Pr_func166 : Pr.funcs[166]? = some Go.Proofs.Tryz.f166 := Go.Proofs.Tryz.func166
theorem Pr_func167 : Pr.funcs[167]? = some Go.Proofs.Tryz.f167 := Go.Proofs.Tryz.func167
theorem Pr_func168 : Pr.funcs[168]? = some Go.Proofs.Tryz.f168 := Go.Proofs.Tryz.func168
theorem Pr_func169 : Pr.funcs[169]? = some Go.Proofs.Tryz.f169 := Go.Proofs.Tryz.func169
theorem Pr_func170 : Pr.funcs[170]? = some Go.Proofs.Tryz.f170 := Go.Proofs.Tryz.func170
theorem Pr_func171 : Pr.funcs[171]? = some Go.Proofs.Tryz.f171 := Go.Proofs.Tryz.func171
theorem Pr_func172 : Pr.funcs[172]? = some Go.Proofs.Tryz.f172 := Go.Proofs.Tryz.func172
theorem Pr_func173 : Pr.funcs[173]? = some Go.Proofs.Tryz.f173 := Go.Proofs.Tryz.func173
theorem Pr_func174 : Pr.funcs[174]? = some Go.Proofs.Tryz.f174 := Go.Proofs.Tryz.func174
theorem Pr_func175 : Pr.funcs[175]? = some Go.Proofs.Tryz.f175 := Go.Proofs.Tryz.func175
theorem Pr_func176 : Pr.funcs[176]? = some Go.Proofs.Tryz.f176 := Go.Proofs.Tryz.func176
theorem Pr_func177 : Pr.funcs[177]? = some Go.Proofs.Tryz.f177 := Go.Proofs.Tryz.func177
theorem Pr_func178 : Pr.funcs[178]? = some Go.Proofs.Tryz.f178 := Go.Proofs.Tryz.func178
theorem Pr_func179 : Pr.funcs[179]? = some Go.Proofs.Tryz.f179 := Go.Proofs.Tryz.func179
theorem Pr_func180 : Pr.funcs[180]? = some Go.Proofs.Tryz.f180 := Go.Proofs.Tryz.func180
theorem Pr_func181 : Pr.funcs[181]? = some Go.Proofs.Tryz.f181 := Go.Proofs.Tryz.func181
theorem Pr_func182 : Pr.funcs[182]? = some Go.Proofs.Tryz.f182 := Go.Proofs.Tryz.func182
theorem Pr_func183 : Pr.funcs[183]? = some Go.Proofs.Tryz.f183 := Go.Proofs.Tryz.func183
theorem Pr_func184 : Pr.funcs[184]? = some Go.Proofs.Tryz.f184 := Go.Proofs.Tryz.func184
theorem Pr_func185 : Pr.funcs[185]? = some Go.Proofs.Tryz.f185 := Go.Proofs.Tryz.func185
theorem Pr_func186 : Pr.funcs[186]? = some Go.Proofs.Tryz.f186 := Go.Proofs.Tryz.func186
theorem Pr_func187 : Pr.funcs[187]? = some Go.Proofs.Tryz.f187 := Go.Proofs.Tryz.func187
theorem Pr_func188 : Pr.funcs[188]? = some Go.Proofs.Tryz.f188 := Go.Proofs.Tryz.func188
theorem Pr_func189 : Pr.funcs[189]? = some Go.Proofs.Tryz.f189 := Go.Proofs.Tryz.func189
theorem Pr_func190 : Pr.funcs[190]? = some Go.Proofs.Tryz.f190 := Go.Proofs.Tryz.func190
theorem Pr_func191 : Pr.funcs[191]? = some Go.Proofs.Tryz.f191 := Go.Proofs.Tryz.func191
theorem Pr_func192 : Pr.funcs[192]? = some Go.Proofs.Tryz.f192 := Go.Proofs.Tryz.func192
theorem Pr_func193 : Pr.funcs[193]? = some Go.Proofs.Tryz.f193 := Go.Proofs.Tryz.func193
theorem Pr_func194 : Pr.funcs[194]? = some Go.Proofs.Tryz.f194 := Go.Proofs.Tryz.func194
theorem Pr_func195 : Pr.funcs[195]? = some Go.Proofs.Tryz.f195 := Go.Proofs.Tryz.func195
theorem Pr_func196 : Pr.funcs[196]? = some Go.Proofs.Tryz.f196 := Go.Proofs.Tryz.func196
theorem Pr_func197 : Pr.funcs[197]? = some Go.Proofs.Tryz.f197 := Go.Proofs.Tryz.func197
theorem Pr_func198 : Pr.funcs[198]? = some Go.Proofs.Tryz.f198 := Go.Proofs.Tryz.func198
theorem Pr_func199 : Pr.funcs[199]? = some Go.Proofs.Tryz.f199 := Go.Proofs.Tryz.func199
theorem Pr_func200 : Pr.funcs[200]? = some Go.Proofs.Tryz.f200 := Go.Proofs.Tryz.func200
theorem Pr_func201 : Pr.funcs[201]? = some Go.Proofs.Tryz.f201 := Go.Proofs.Tryz.func201
theorem Pr_func202 : Pr.funcs[202]? = some Go.Proofs.Tryz.f202 := Go.Proofs.Tryz.func202
theorem Pr_func203 : Pr.funcs[203]? = some Go.Proofs.Tryz.f203 := Go.Proofs.Tryz.func203
theorem Pr_func204 : Pr.funcs[204]? = some Go.Proofs.Tryz.f204 := Go.Proofs.Tryz.func204
theorem Pr_func205 : Pr.funcs[205]? = some Go.Proofs.Tryz.f205 := Go.Proofs.Tryz.func205
theorem Pr_func206 : Pr.funcs[206]? = some Go.Proofs.Tryz.f206 := Go.Proofs.Tryz.func206
theorem Pr_func207 : Pr.funcs[207]? = some Go.Proofs.Tryz.f207 := Go.Proofs.Tryz.func207
theorem Pr_func208 : Pr.funcs[208]? = some Go.Proofs.Tryz.f208 := Go.Proofs.Tryz.func208
theorem Pr_func209 : Pr.funcs[209]? = some Go.Proofs.Tryz.f209 := Go.Proofs.Tryz.func209
theorem Pr_func210 : Pr.funcs[210]? = some Go.Proofs.Tryz.f210 := Go.Proofs.Tryz.func210
theorem Pr_func211 : Pr.funcs[211]? = some Go.Proofs.Tryz.f211 := Go.Proofs.Tryz.func211
theorem Pr_func212 : Pr.funcs[212]? = some Go.Proofs.Tryz.f212 := Go.Proofs.Tryz.func212
theorem Pr_func213 : Pr.funcs[213]? = some Go.Proofs.Tryz.f213 := Go.Proofs.Tryz.func213
theorem Pr_func235 : Pr.funcs[235]? = some Go.Proofs.Tryz.f235 := Go.Proofs.Tryz.func235
abbrev fid_law39_ImageDecodes : Nat := 3
abbrev fid_law15_TagWraps : Nat := 4
abbrev fid_law15_TagOpens : Nat := 5
abbrev fid_law15_TagTranslates : Nat := 6
abbrev fid_law37_LinkOpens : Nat := 7
abbrev fid_law39_awake : Nat := 8
abbrev fid_image_Decode : Nat := 9
abbrev fid_ref30_Same : Nat := 10
abbrev fid_ref39_May : Nat := 11
abbrev fid_ref01_Same : Nat := 12
abbrev fid_ref39_Bytes : Nat := 13
abbrev fid_image_Format : Nat := 14
abbrev fid_ref13_Large : Nat := 15
abbrev fid_law15_awake : Nat := 16
abbrev fid_tag_Wrap : Nat := 17
abbrev fid_ref15_Check : Nat := 18
abbrev fid_tag_Open : Nat := 19
abbrev fid_ref15_Letter : Nat := 20
abbrev fid_ref13_Same : Nat := 21
abbrev fid_ref03_Next : Nat := 22
abbrev fid_tag_Translate : Nat := 23
abbrev fid_law37_large : Nat := 24
abbrev fid_law37_awake : Nat := 25
abbrev fid_link_New : Nat := 26
abbrev fid_link_Links_Heard : Nat := 27
abbrev fid_link_Links_Greet : Nat := 28
abbrev fid_ref13_Check : Nat := 29
abbrev fid_link_Links_Letters : Nat := 30
abbrev fid_ref12_Has : Nat := 31
abbrev fid_link_Links_Open : Nat := 32
abbrev fid_image_Encode : Nat := 33
abbrev fid_image_Decode_1 : Nat := 34
abbrev fid_vers_May : Nat := 35
abbrev fid_pack_NewReader : Nat := 36
abbrev fid_pack_Reader_Number : Nat := 37
abbrev fid_pack_Reader_Err : Nat := 38
abbrev fid_image_read : Nat := 39
abbrev fid_ref11_Same : Nat := 40
abbrev fid_ref25_Same : Nat := 41
abbrev fid_ref30_Check : Nat := 42
abbrev fid_ref01_Bytes : Nat := 43
abbrev fid_ref26_Bytes : Nat := 44
abbrev fid_ref12_Large : Nat := 45
abbrev fid_tag_encode : Nat := 46
abbrev fid_frame_Add : Nat := 47
abbrev fid_ref13_Older : Nat := 48
abbrev fid_tag_Open_1 : Nat := 49
abbrev fid_frame_Next : Nat := 50
abbrev fid_tag_decode : Nat := 51
abbrev fid_ref13_Bytes : Nat := 52
abbrev fid_ref14_Bytes : Nat := 53
abbrev fid_ref03_Frame : Nat := 54
abbrev fid_ref12_Same : Nat := 55
abbrev fid_ref01_Get : Nat := 56
abbrev fid_link_Links_Spoken : Nat := 57
abbrev fid_link_Links_Known : Nat := 58
abbrev fid_link_is : Nat := 59
abbrev fid_msgone_Check : Nat := 60
abbrev fid_link_greets : Nat := 61
abbrev fid_ref13_Letters : Nat := 62
abbrev fid_ref13_Has : Nat := 63
abbrev fid_ref13_ballot : Nat := 64
abbrev fid_ref12_Check : Nat := 65
abbrev fid_link_Links_Letters_1 : Nat := 66
abbrev fid_ref07_Has : Nat := 67
abbrev fid_window_Check : Nat := 68
abbrev fid_snaptwo_Put : Nat := 69
abbrev fid_pack_Writer_Number : Nat := 70
abbrev fid_pack_Writer_Raw : Nat := 71
abbrev fid_pack_Writer_Bytes : Nat := 72
abbrev fid_slices_Clone_byte_byte : Nat := 73
abbrev fid_pack_read_int : Nat := 74
abbrev fid_pack_Reader_Number_1 : Nat := 75
abbrev fid_pack_Reader_limited : Nat := 76
abbrev fid_image_confs : Nat := 77
abbrev fid_pack_Reader_Raw : Nat := 78
abbrev fid_pack_Reader_Done : Nat := 79
abbrev fid_snaptwo_Get : Nat := 80
abbrev fid_ref01_Ints : Nat := 81
abbrev fid_ref23_Same : Nat := 82
abbrev fid_ref22_Same : Nat := 83
abbrev fid_ref11_Check : Nat := 84
abbrev fid_ref25_Check : Nat := 85
abbrev fid_ref04_Text : Nat := 86
abbrev fid_ref09_Bytes : Nat := 87
abbrev fid_msgone_Encode : Nat := 88
abbrev fid_msgtwo_Encode : Nat := 89
abbrev fid_frame_may : Nat := 90
abbrev fid_slices_Concat_byte_byte : Nat := 91
abbrev fid_varint_Put : Nat := 92
abbrev fid_frame_sum : Nat := 93
abbrev fid_varint_Get : Nat := 94
abbrev fid_slices_Equal_byte_byte : Nat := 95
abbrev fid_msgone_Decode : Nat := 96
abbrev fid_msgtwo_Decode : Nat := 97
abbrev fid_ref12_Bytes : Nat := 98
abbrev fid_ref14_numbers : Nat := 99
abbrev fid_ref08_Bytes : Nat := 100
abbrev fid_ref02_Sum : Nat := 101
abbrev fid_vers_Least : Nat := 102
abbrev fid_msgone_fields : Nat := 103
abbrev fid_msgone_ranges : Nat := 104
abbrev fid_entry_Check : Nat := 105
abbrev fid_msgone_others : Nat := 106
abbrev fid_msgone_accept : Nat := 107
abbrev fid_ref10_May : Nat := 108
abbrev fid_ref08_Check : Nat := 109
abbrev fid_conf_Check : Nat := 110
abbrev fid_migr_Check : Nat := 111
abbrev fid_vers_Format : Nat := 112
abbrev fid_snapone_Encode : Nat := 113
abbrev fid_snaptwo_Encode : Nat := 114
abbrev fid_pack_Reader_fail : Nat := 115
abbrev fid_pack_Reader_Count : Nat := 116
abbrev fid_pack_read_byte : Nat := 117
abbrev fid_pack_Reader_Raw_1 : Nat := 118
abbrev fid_pack_Reader_raw : Nat := 119
abbrev fid_pack_Reader_left : Nat := 120
abbrev fid_snaptwo_first : Nat := 121
abbrev fid_snapone_Decode : Nat := 122
abbrev fid_snaptwo_Decode : Nat := 123
abbrev fid_ref23_Check : Nat := 124
abbrev fid_ref22_Check : Nat := 125
abbrev fid_ref04_Flag : Nat := 126
abbrev fid_msgone_older : Nat := 127
abbrev fid_entry_Put : Nat := 128
abbrev fid_msgtwo_pieces : Nat := 129
abbrev fid_msgtwo_put : Nat := 130
abbrev fid_slices_Grow_byte_byte : Nat := 131
abbrev fid_crc_Sum : Nat := 132
abbrev fid_msgone_read : Nat := 133
abbrev fid_msgtwo_read : Nat := 134
abbrev fid_ref08_Owned : Nat := 135
abbrev fid_ref08_member : Nat := 136
abbrev fid_msgone_ranges_1 : Nat := 137
abbrev fid_ballot_May : Nat := 138
abbrev fid_entry_one : Nat := 139
abbrev fid_ref05_Key : Nat := 140
abbrev fid_ref05_Val : Nat := 141
abbrev fid_conf_members : Nat := 142
abbrev fid_sess_Check : Nat := 143
abbrev fid_slices_ContainsFunc_api_Session_api_Session : Nat := 144
abbrev fid_migr_Check_1 : Nat := 145
abbrev fid_kvone_Check : Nat := 146
abbrev fid_kvtwo_Check : Nat := 147
abbrev fid_pack_Writer_Text : Nat := 148
abbrev fid_answer_Put : Nat := 149
abbrev fid_pack_Reader_Count_1 : Nat := 150
abbrev fid_pack_Reader_counted : Nat := 151
abbrev fid_snapone_list_api_Pair : Nat := 152
abbrev fid_snapone_Decode_1 : Nat := 153
abbrev fid_pack_Reader_Text : Nat := 154
abbrev fid_snapone_list_api_Session : Nat := 155
abbrev fid_snapone_Decode_2 : Nat := 156
abbrev fid_answer_Get : Nat := 157
abbrev fid_snaptwo_times : Nat := 158
abbrev fid_snaptwo_Decode_1 : Nat := 159
abbrev fid_snaptwo_Decode_2 : Nat := 160
abbrev fid_ref23_Rise : Nat := 161
abbrev fid_ref09_Check : Nat := 162
abbrev fid_ref22_Rise : Nat := 163
abbrev fid_entry_Has : Nat := 164
abbrev fid_cmd_Put : Nat := 165
abbrev fid_crc_Add : Nat := 166
abbrev fid_entry_Get : Nat := 167
abbrev fid_msgtwo_get : Nat := 168
abbrev fid_ballot_node : Nat := 169
abbrev fid_cmd_Check : Nat := 170
abbrev fid_ref05_Size : Nat := 171
abbrev fid_ref05_Plain : Nat := 172
abbrev fid_ref05_Bad : Nat := 173
abbrev fid_answer_Check : Nat := 174
abbrev fid_slices_IndexFunc_api_Session_api_Session : Nat := 175
abbrev fid_runes_Key : Nat := 176
abbrev fid_runes_Val : Nat := 177
abbrev fid_kvtwo_Check_1 : Nat := 178
abbrev fid_slices_ContainsFunc_api_Pair_api_Pair : Nat := 179
abbrev fid_kvtwo_Plain : Nat := 180
abbrev fid_pack_Writer_Flag : Nat := 181
abbrev fid_pack_Reader_Flag : Nat := 182
abbrev fid_slices_ContainsFunc_api_Entry_api_Entry : Nat := 183
abbrev fid_entry_Has_1 : Nat := 184
abbrev fid_vers_Has : Nat := 185
abbrev fid_cmd_parts : Nat := 186
abbrev fid_cmd_part_wanted : Nat := 187
abbrev fid_cmd_part_write : Nat := 188
abbrev fid_crc_turn : Nat := 189
abbrev fid_cmd_Get : Nat := 190
abbrev fid_cmd_fields : Nat := 191
abbrev fid_cmd_part_number : Nat := 192
abbrev fid_cmd_part_text : Nat := 193
abbrev fid_answer_Check_1 : Nat := 194
abbrev fid_runes_Whole : Nat := 195
abbrev fid_runes_all : Nat := 196
abbrev fid_runes_Plain : Nat := 197
abbrev fid_runes_Val_1 : Nat := 198
abbrev fid_slices_IndexFunc_api_Pair_api_Pair : Nat := 199
abbrev fid_slices_Clone_api_Pair_api_Pair : Nat := 200
abbrev fid_pack_Reader_flag : Nat := 201
abbrev fid_pack_read_bool : Nat := 202
abbrev fid_slices_IndexFunc_api_Entry_api_Entry : Nat := 203
abbrev fid_cmd_parts_1 : Nat := 204
abbrev fid_cmd_parts_2 : Nat := 205
abbrev fid_cmd_parts_3 : Nat := 206
abbrev fid_cmd_parts_4 : Nat := 207
abbrev fid_cmd_parts_5 : Nat := 208
abbrev fid_cmd_parts_6 : Nat := 209
abbrev fid_cmd_part_read : Nat := 210
abbrev fid_runes_Bad : Nat := 211
abbrev fid_unicode_utf8_DecodeRuneInString : Nat := 212
abbrev fid_unicode_utf8_decodeRuneInStringSlow : Nat := 213
abbrev g_crc_table : Addr := ⟨0, 0, none⟩
abbrev g_unicode_utf8_first : Addr := ⟨1, 0, none⟩
abbrev g_unicode_utf8_acceptRanges : Addr := ⟨2, 0, none⟩
abbrev cs16_70125 : List UInt8 := [108, 101, 110, 32, 111, 117, 116, 32, 111, 102, 32, 114, 97, 110, 103, 101]
abbrev cs18_89860 : List UInt8 := [99, 97, 110, 110, 111, 116, 32, 98, 101, 32, 110, 101, 103, 97, 116, 105, 118, 101]
abbrev cs66_24119 : List UInt8 := [97, 98, 99, 100, 101, 102, 103, 104, 105, 106, 107, 108, 109, 110, 111, 112, 113, 114, 115, 116, 117, 118, 119, 120, 121, 122, 65, 66, 67, 68, 69, 70, 71, 72, 73, 74, 75, 76, 77, 78, 79, 80, 81, 82, 83, 84, 85, 86, 87, 88, 89, 90, 48, 49, 50, 51, 52, 53, 54, 55, 56, 57, 45, 95, 46, 58]
structure ApiBallot where
  Round : Int
  Node : Int
def ApiBallot.cs (x : ApiBallot) : List Value := [(.int .i64 x.Round), (.int .i64 x.Node)]
def ApiBallot.val (x : ApiBallot) : Value := .agg ⟨x.cs⟩
def ApiBallot.un : List Value → Option ApiBallot
  | [v0, v1] => (unI .i64 v0).bind fun a0 => (unI .i64 v1).bind fun a1 => some (ApiBallot.mk a0 a1)
  | _ => none
theorem ApiBallot.ok : ∀ l x, ApiBallot.un l = some x → l = x.cs := fun l x h => by
  unfold ApiBallot.un at h
  split at h
  · simp only [Option.bind_eq_some_iff, Option.some.injEq] at h
    obtain ⟨a0, h0, a1, h1, rfl⟩ := h
    rw [unI_ok .i64 _ _ h0, unI_ok .i64 _ _ h1]; rfl
  · cases h
def ApiBallot.unv : Value → Option ApiBallot
  | .agg a => ApiBallot.un a.toList
  | _ => none
def rApiBallot : RTy := ⟨ApiBallot, ApiBallot.val, ApiBallot.cs, ApiBallot.unv, ApiBallot.un, fun v x h => (by cases v <;> first | (have := ApiBallot.ok _ _ h; exact congrArg Value.agg (Array.toList_inj.1 this)) | cases h), ApiBallot.ok⟩

structure ApiMsg where
  Kind : Int
  From : Int
  To : Int
  Ballot : ApiBallot
  Index : Int
  Commit : Int
  Version : Int
  Entries : Sl
  Image : Sl
def ApiMsg.cs (x : ApiMsg) : List Value := [(.int .i64 x.Kind), (.int .i64 x.From), (.int .i64 x.To), (.int .i64 x.Ballot.Round), (.int .i64 x.Ballot.Node), (.int .i64 x.Index), (.int .i64 x.Commit), (.int .i64 x.Version), x.Entries.val, x.Image.val]
def ApiMsg.val (x : ApiMsg) : Value := .agg ⟨x.cs⟩
def ApiMsg.un : List Value → Option ApiMsg
  | [v0, v1, v2, v3, v4, v5, v6, v7, v8, v9] => (unI .i64 v0).bind fun a0 => (unI .i64 v1).bind fun a1 => (unI .i64 v2).bind fun a2 => (unI .i64 v3).bind fun a3 => (unI .i64 v4).bind fun a4 => (unI .i64 v5).bind fun a5 => (unI .i64 v6).bind fun a6 => (unI .i64 v7).bind fun a7 => (unSl v8).bind fun a8 => (unSl v9).bind fun a9 => some (ApiMsg.mk a0 a1 a2 (ApiBallot.mk a3 a4) a5 a6 a7 a8 a9)
  | _ => none
theorem ApiMsg.ok : ∀ l x, ApiMsg.un l = some x → l = x.cs := fun l x h => by
  unfold ApiMsg.un at h
  split at h
  · simp only [Option.bind_eq_some_iff, Option.some.injEq] at h
    obtain ⟨a0, h0, a1, h1, a2, h2, a3, h3, a4, h4, a5, h5, a6, h6, a7, h7, a8, h8, a9, h9, rfl⟩ := h
    rw [unI_ok .i64 _ _ h0, unI_ok .i64 _ _ h1, unI_ok .i64 _ _ h2, unI_ok .i64 _ _ h3, unI_ok .i64 _ _ h4, unI_ok .i64 _ _ h5, unI_ok .i64 _ _ h6, unI_ok .i64 _ _ h7, unSl_ok _ _ h8, unSl_ok _ _ h9]; rfl
  · cases h
def ApiMsg.unv : Value → Option ApiMsg
  | .agg a => ApiMsg.un a.toList
  | _ => none
def rApiMsg : RTy := ⟨ApiMsg, ApiMsg.val, ApiMsg.cs, ApiMsg.unv, ApiMsg.un, fun v x h => (by cases v <;> first | (have := ApiMsg.ok _ _ h; exact congrArg Value.agg (Array.toList_inj.1 this)) | cases h), ApiMsg.ok⟩

structure ApiCmd where
  Kind : Int
  Client : Int
  Seq : Int
  Key : List UInt8
  Val : List UInt8
  Old : List UInt8
  Node : Int
def ApiCmd.cs (x : ApiCmd) : List Value := [(.int .i64 x.Kind), (.int .i64 x.Client), (.int .i64 x.Seq), (sval x.Key), (sval x.Val), (sval x.Old), (.int .i64 x.Node)]
def ApiCmd.val (x : ApiCmd) : Value := .agg ⟨x.cs⟩
def ApiCmd.un : List Value → Option ApiCmd
  | [v0, v1, v2, v3, v4, v5, v6] => (unI .i64 v0).bind fun a0 => (unI .i64 v1).bind fun a1 => (unI .i64 v2).bind fun a2 => (unS v3).bind fun a3 => (unS v4).bind fun a4 => (unS v5).bind fun a5 => (unI .i64 v6).bind fun a6 => some (ApiCmd.mk a0 a1 a2 a3 a4 a5 a6)
  | _ => none
theorem ApiCmd.ok : ∀ l x, ApiCmd.un l = some x → l = x.cs := fun l x h => by
  unfold ApiCmd.un at h
  split at h
  · simp only [Option.bind_eq_some_iff, Option.some.injEq] at h
    obtain ⟨a0, h0, a1, h1, a2, h2, a3, h3, a4, h4, a5, h5, a6, h6, rfl⟩ := h
    rw [unI_ok .i64 _ _ h0, unI_ok .i64 _ _ h1, unI_ok .i64 _ _ h2, unS_ok _ _ h3, unS_ok _ _ h4, unS_ok _ _ h5, unI_ok .i64 _ _ h6]; rfl
  · cases h
def ApiCmd.unv : Value → Option ApiCmd
  | .agg a => ApiCmd.un a.toList
  | _ => none
def rApiCmd : RTy := ⟨ApiCmd, ApiCmd.val, ApiCmd.cs, ApiCmd.unv, ApiCmd.un, fun v x h => (by cases v <;> first | (have := ApiCmd.ok _ _ h; exact congrArg Value.agg (Array.toList_inj.1 this)) | cases h), ApiCmd.ok⟩

structure ApiEntry where
  Index : Int
  Ballot : ApiBallot
  Cmd : ApiCmd
def ApiEntry.cs (x : ApiEntry) : List Value := [(.int .i64 x.Index), (.int .i64 x.Ballot.Round), (.int .i64 x.Ballot.Node), (.int .i64 x.Cmd.Kind), (.int .i64 x.Cmd.Client), (.int .i64 x.Cmd.Seq), (sval x.Cmd.Key), (sval x.Cmd.Val), (sval x.Cmd.Old), (.int .i64 x.Cmd.Node)]
def ApiEntry.val (x : ApiEntry) : Value := .agg ⟨x.cs⟩
def ApiEntry.un : List Value → Option ApiEntry
  | [v0, v1, v2, v3, v4, v5, v6, v7, v8, v9] => (unI .i64 v0).bind fun a0 => (unI .i64 v1).bind fun a1 => (unI .i64 v2).bind fun a2 => (unI .i64 v3).bind fun a3 => (unI .i64 v4).bind fun a4 => (unI .i64 v5).bind fun a5 => (unS v6).bind fun a6 => (unS v7).bind fun a7 => (unS v8).bind fun a8 => (unI .i64 v9).bind fun a9 => some (ApiEntry.mk a0 (ApiBallot.mk a1 a2) (ApiCmd.mk a3 a4 a5 a6 a7 a8 a9))
  | _ => none
theorem ApiEntry.ok : ∀ l x, ApiEntry.un l = some x → l = x.cs := fun l x h => by
  unfold ApiEntry.un at h
  split at h
  · simp only [Option.bind_eq_some_iff, Option.some.injEq] at h
    obtain ⟨a0, h0, a1, h1, a2, h2, a3, h3, a4, h4, a5, h5, a6, h6, a7, h7, a8, h8, a9, h9, rfl⟩ := h
    rw [unI_ok .i64 _ _ h0, unI_ok .i64 _ _ h1, unI_ok .i64 _ _ h2, unI_ok .i64 _ _ h3, unI_ok .i64 _ _ h4, unI_ok .i64 _ _ h5, unS_ok _ _ h6, unS_ok _ _ h7, unS_ok _ _ h8, unI_ok .i64 _ _ h9]; rfl
  · cases h
def ApiEntry.unv : Value → Option ApiEntry
  | .agg a => ApiEntry.un a.toList
  | _ => none
def rApiEntry : RTy := ⟨ApiEntry, ApiEntry.val, ApiEntry.cs, ApiEntry.unv, ApiEntry.un, fun v x h => (by cases v <;> first | (have := ApiEntry.ok _ _ h; exact congrArg Value.agg (Array.toList_inj.1 this)) | cases h), ApiEntry.ok⟩

structure MsgtwoNumber where
  at_ : Option Addr
def MsgtwoNumber.cs (x : MsgtwoNumber) : List Value := [(.pointer x.at_)]
def MsgtwoNumber.val (x : MsgtwoNumber) : Value := .agg ⟨x.cs⟩
def MsgtwoNumber.un : List Value → Option MsgtwoNumber
  | [v0] => (unP v0).bind fun a0 => some (MsgtwoNumber.mk a0)
  | _ => none
theorem MsgtwoNumber.ok : ∀ l x, MsgtwoNumber.un l = some x → l = x.cs := fun l x h => by
  unfold MsgtwoNumber.un at h
  split at h
  · simp only [Option.bind_eq_some_iff, Option.some.injEq] at h
    obtain ⟨a0, h0, rfl⟩ := h
    rw [unP_ok _ _ h0]; rfl
  · cases h
def MsgtwoNumber.unv : Value → Option MsgtwoNumber
  | .agg a => MsgtwoNumber.un a.toList
  | _ => none
def rMsgtwoNumber : RTy := ⟨MsgtwoNumber, MsgtwoNumber.val, MsgtwoNumber.cs, MsgtwoNumber.unv, MsgtwoNumber.un, fun v x h => (by cases v <;> first | (have := MsgtwoNumber.ok _ _ h; exact congrArg Value.agg (Array.toList_inj.1 this)) | cases h), MsgtwoNumber.ok⟩

structure MsgtwoEntries where
  m : Option Addr
def MsgtwoEntries.cs (x : MsgtwoEntries) : List Value := [(.pointer x.m)]
def MsgtwoEntries.val (x : MsgtwoEntries) : Value := .agg ⟨x.cs⟩
def MsgtwoEntries.un : List Value → Option MsgtwoEntries
  | [v0] => (unP v0).bind fun a0 => some (MsgtwoEntries.mk a0)
  | _ => none
theorem MsgtwoEntries.ok : ∀ l x, MsgtwoEntries.un l = some x → l = x.cs := fun l x h => by
  unfold MsgtwoEntries.un at h
  split at h
  · simp only [Option.bind_eq_some_iff, Option.some.injEq] at h
    obtain ⟨a0, h0, rfl⟩ := h
    rw [unP_ok _ _ h0]; rfl
  · cases h
def MsgtwoEntries.unv : Value → Option MsgtwoEntries
  | .agg a => MsgtwoEntries.un a.toList
  | _ => none
def rMsgtwoEntries : RTy := ⟨MsgtwoEntries, MsgtwoEntries.val, MsgtwoEntries.cs, MsgtwoEntries.unv, MsgtwoEntries.un, fun v x h => (by cases v <;> first | (have := MsgtwoEntries.ok _ _ h; exact congrArg Value.agg (Array.toList_inj.1 this)) | cases h), MsgtwoEntries.ok⟩

structure MsgtwoSingle where
  m : Option Addr
def MsgtwoSingle.cs (x : MsgtwoSingle) : List Value := [(.pointer x.m)]
def MsgtwoSingle.val (x : MsgtwoSingle) : Value := .agg ⟨x.cs⟩
def MsgtwoSingle.un : List Value → Option MsgtwoSingle
  | [v0] => (unP v0).bind fun a0 => some (MsgtwoSingle.mk a0)
  | _ => none
theorem MsgtwoSingle.ok : ∀ l x, MsgtwoSingle.un l = some x → l = x.cs := fun l x h => by
  unfold MsgtwoSingle.un at h
  split at h
  · simp only [Option.bind_eq_some_iff, Option.some.injEq] at h
    obtain ⟨a0, h0, rfl⟩ := h
    rw [unP_ok _ _ h0]; rfl
  · cases h
def MsgtwoSingle.unv : Value → Option MsgtwoSingle
  | .agg a => MsgtwoSingle.un a.toList
  | _ => none
def rMsgtwoSingle : RTy := ⟨MsgtwoSingle, MsgtwoSingle.val, MsgtwoSingle.cs, MsgtwoSingle.unv, MsgtwoSingle.un, fun v x h => (by cases v <;> first | (have := MsgtwoSingle.ok _ _ h; exact congrArg Value.agg (Array.toList_inj.1 this)) | cases h), MsgtwoSingle.ok⟩

structure MsgtwoImage where
  m : Option Addr
def MsgtwoImage.cs (x : MsgtwoImage) : List Value := [(.pointer x.m)]
def MsgtwoImage.val (x : MsgtwoImage) : Value := .agg ⟨x.cs⟩
def MsgtwoImage.un : List Value → Option MsgtwoImage
  | [v0] => (unP v0).bind fun a0 => some (MsgtwoImage.mk a0)
  | _ => none
theorem MsgtwoImage.ok : ∀ l x, MsgtwoImage.un l = some x → l = x.cs := fun l x h => by
  unfold MsgtwoImage.un at h
  split at h
  · simp only [Option.bind_eq_some_iff, Option.some.injEq] at h
    obtain ⟨a0, h0, rfl⟩ := h
    rw [unP_ok _ _ h0]; rfl
  · cases h
def MsgtwoImage.unv : Value → Option MsgtwoImage
  | .agg a => MsgtwoImage.un a.toList
  | _ => none
def rMsgtwoImage : RTy := ⟨MsgtwoImage, MsgtwoImage.val, MsgtwoImage.cs, MsgtwoImage.unv, MsgtwoImage.un, fun v x h => (by cases v <;> first | (have := MsgtwoImage.ok _ _ h; exact congrArg Value.agg (Array.toList_inj.1 this)) | cases h), MsgtwoImage.ok⟩

structure CmdPart where
  has_ : Int
  most : Int
  is : Option Nat
  at_ : Option Nat
def CmdPart.cs (x : CmdPart) : List Value := [(.int .i64 x.has_), (.int .i64 x.most), (cfnV x.is), (cfnV x.at_)]
def CmdPart.val (x : CmdPart) : Value := .agg ⟨x.cs⟩
def CmdPart.un : List Value → Option CmdPart
  | [v0, v1, v2, v3] => (unI .i64 v0).bind fun a0 => (unI .i64 v1).bind fun a1 => (unC v2).bind fun a2 => (unC v3).bind fun a3 => some (CmdPart.mk a0 a1 a2 a3)
  | _ => none
theorem CmdPart.ok : ∀ l x, CmdPart.un l = some x → l = x.cs := fun l x h => by
  unfold CmdPart.un at h
  split at h
  · simp only [Option.bind_eq_some_iff, Option.some.injEq] at h
    obtain ⟨a0, h0, a1, h1, a2, h2, a3, h3, rfl⟩ := h
    rw [unI_ok .i64 _ _ h0, unI_ok .i64 _ _ h1, unC_ok _ _ h2, unC_ok _ _ h3]; rfl
  · cases h
def CmdPart.unv : Value → Option CmdPart
  | .agg a => CmdPart.un a.toList
  | _ => none
def rCmdPart : RTy := ⟨CmdPart, CmdPart.val, CmdPart.cs, CmdPart.unv, CmdPart.un, fun v x h => (by cases v <;> first | (have := CmdPart.ok _ _ h; exact congrArg Value.agg (Array.toList_inj.1 this)) | cases h), CmdPart.ok⟩

structure Utf8AcceptRange where
  lo : Int
  hi : Int
def Utf8AcceptRange.cs (x : Utf8AcceptRange) : List Value := [(.int .u8 x.lo), (.int .u8 x.hi)]
def Utf8AcceptRange.val (x : Utf8AcceptRange) : Value := .agg ⟨x.cs⟩
def Utf8AcceptRange.un : List Value → Option Utf8AcceptRange
  | [v0, v1] => (unI .u8 v0).bind fun a0 => (unI .u8 v1).bind fun a1 => some (Utf8AcceptRange.mk a0 a1)
  | _ => none
theorem Utf8AcceptRange.ok : ∀ l x, Utf8AcceptRange.un l = some x → l = x.cs := fun l x h => by
  unfold Utf8AcceptRange.un at h
  split at h
  · simp only [Option.bind_eq_some_iff, Option.some.injEq] at h
    obtain ⟨a0, h0, a1, h1, rfl⟩ := h
    rw [unI_ok .u8 _ _ h0, unI_ok .u8 _ _ h1]; rfl
  · cases h
def Utf8AcceptRange.unv : Value → Option Utf8AcceptRange
  | .agg a => Utf8AcceptRange.un a.toList
  | _ => none
def rUtf8AcceptRange : RTy := ⟨Utf8AcceptRange, Utf8AcceptRange.val, Utf8AcceptRange.cs, Utf8AcceptRange.unv, Utf8AcceptRange.un, fun v x h => (by cases v <;> first | (have := Utf8AcceptRange.ok _ _ h; exact congrArg Value.agg (Array.toList_inj.1 this)) | cases h), Utf8AcceptRange.ok⟩

end Go.Chg
