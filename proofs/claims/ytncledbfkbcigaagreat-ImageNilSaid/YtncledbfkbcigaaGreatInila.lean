/- The tables for the evaluator. No statement of the seat is proved here. Written by program (genseat.py). -/
import Derived.Test.YtncledbfkbcigaaGreatCe28
import Derived.Test.YtncledbfkbcigaaGreatProg
import Derived.KernelRfl
set_option linter.unusedVariables false
set_option linter.unusedSimpArgs false
namespace Go.Proofs.YtncledbfkbcigaaGreat.CE
open Go Go.RowKit
noncomputable def fnt236 : List (Nat × Func) := List.cons (236, Tryz.f236) []
theorem fnt_ok236 : ∀ x ∈ fnt236, FnOk Tryz.prog x := fn_cons Tryz.func236 Tryz.call236 (fun x h => by cases h)
noncomputable def fnt216 : List (Nat × Func) := List.cons (216, Tryz.f216) fnt236
theorem fnt_ok216 : ∀ x ∈ fnt216, FnOk Tryz.prog x := fn_cons Tryz.func216 Tryz.call216 fnt_ok236
noncomputable def fnt215 : List (Nat × Func) := List.cons (215, Tryz.f215) fnt216
theorem fnt_ok215 : ∀ x ∈ fnt215, FnOk Tryz.prog x := fn_cons Tryz.func215 Tryz.call215 fnt_ok216
noncomputable def fnt209 : List (Nat × Func) := List.cons (209, Tryz.f209) fnt215
theorem fnt_ok209 : ∀ x ∈ fnt209, FnOk Tryz.prog x := fn_cons Tryz.func209 Tryz.call209 fnt_ok215
noncomputable def fnt197 : List (Nat × Func) := List.cons (197, Tryz.f197) fnt209
theorem fnt_ok197 : ∀ x ∈ fnt197, FnOk Tryz.prog x := fn_cons Tryz.func197 Tryz.call197 fnt_ok209
noncomputable def fnt196 : List (Nat × Func) := List.cons (196, Tryz.f196) fnt197
theorem fnt_ok196 : ∀ x ∈ fnt196, FnOk Tryz.prog x := fn_cons Tryz.func196 Tryz.call196 fnt_ok197
noncomputable def fnt190 : List (Nat × Func) := List.cons (190, Tryz.f190) fnt196
theorem fnt_ok190 : ∀ x ∈ fnt190, FnOk Tryz.prog x := fn_cons Tryz.func190 Tryz.call190 fnt_ok196
noncomputable def fnt189 : List (Nat × Func) := List.cons (189, Tryz.f189) fnt190
theorem fnt_ok189 : ∀ x ∈ fnt189, FnOk Tryz.prog x := fn_cons Tryz.func189 Tryz.call189 fnt_ok190
noncomputable def fnt188 : List (Nat × Func) := List.cons (188, Tryz.f188) fnt189
theorem fnt_ok188 : ∀ x ∈ fnt188, FnOk Tryz.prog x := fn_cons Tryz.func188 Tryz.call188 fnt_ok189
noncomputable def fnt187 : List (Nat × Func) := List.cons (187, Tryz.f187) fnt188
theorem fnt_ok187 : ∀ x ∈ fnt187, FnOk Tryz.prog x := fn_cons Tryz.func187 Tryz.call187 fnt_ok188
noncomputable def fnt186 : List (Nat × Func) := List.cons (186, Tryz.f186) fnt187
theorem fnt_ok186 : ∀ x ∈ fnt186, FnOk Tryz.prog x := fn_cons Tryz.func186 Tryz.call186 fnt_ok187
noncomputable def fnt177 : List (Nat × Func) := List.cons (177, Tryz.f177) fnt186
theorem fnt_ok177 : ∀ x ∈ fnt177, FnOk Tryz.prog x := fn_cons Tryz.func177 Tryz.call177 fnt_ok186
noncomputable def fnt176 : List (Nat × Func) := List.cons (176, Tryz.f176) fnt177
theorem fnt_ok176 : ∀ x ∈ fnt176, FnOk Tryz.prog x := fn_cons Tryz.func176 Tryz.call176 fnt_ok177
noncomputable def fnt175 : List (Nat × Func) := List.cons (175, Tryz.f175) fnt176
theorem fnt_ok175 : ∀ x ∈ fnt175, FnOk Tryz.prog x := fn_cons Tryz.func175 Tryz.call175 fnt_ok176
noncomputable def fnt174 : List (Nat × Func) := List.cons (174, Tryz.f174) fnt175
theorem fnt_ok174 : ∀ x ∈ fnt174, FnOk Tryz.prog x := fn_cons Tryz.func174 Tryz.call174 fnt_ok175
noncomputable def fnt168 : List (Nat × Func) := List.cons (168, Tryz.f168) fnt174
theorem fnt_ok168 : ∀ x ∈ fnt168, FnOk Tryz.prog x := fn_cons Tryz.func168 Tryz.call168 fnt_ok174
noncomputable def fnt167 : List (Nat × Func) := List.cons (167, Tryz.f167) fnt168
theorem fnt_ok167 : ∀ x ∈ fnt167, FnOk Tryz.prog x := fn_cons Tryz.func167 Tryz.call167 fnt_ok168
noncomputable def fnt166 : List (Nat × Func) := List.cons (166, Tryz.f166) fnt167
theorem fnt_ok166 : ∀ x ∈ fnt166, FnOk Tryz.prog x := fn_cons Tryz.func166 Tryz.call166 fnt_ok167
noncomputable def fnt162 : List (Nat × Func) := List.cons (162, Tryz.f162) fnt166
theorem fnt_ok162 : ∀ x ∈ fnt162, FnOk Tryz.prog x := fn_cons Tryz.func162 Tryz.call162 fnt_ok166
noncomputable def fnt161 : List (Nat × Func) := List.cons (161, Tryz.f161) fnt162
theorem fnt_ok161 : ∀ x ∈ fnt161, FnOk Tryz.prog x := fn_cons Tryz.func161 Tryz.call161 fnt_ok162
noncomputable def fnt160 : List (Nat × Func) := List.cons (160, Tryz.f160) fnt161
theorem fnt_ok160 : ∀ x ∈ fnt160, FnOk Tryz.prog x := fn_cons Tryz.func160 Tryz.call160 fnt_ok161
noncomputable def fnt158 : List (Nat × Func) := List.cons (158, Tryz.f158) fnt160
theorem fnt_ok158 : ∀ x ∈ fnt158, FnOk Tryz.prog x := fn_cons Tryz.func158 Tryz.call158 fnt_ok160
noncomputable def fnt157 : List (Nat × Func) := List.cons (157, Tryz.f157) fnt158
theorem fnt_ok157 : ∀ x ∈ fnt157, FnOk Tryz.prog x := fn_cons Tryz.func157 Tryz.call157 fnt_ok158
noncomputable def fnt156 : List (Nat × Func) := List.cons (156, Tryz.f156) fnt157
theorem fnt_ok156 : ∀ x ∈ fnt156, FnOk Tryz.prog x := fn_cons Tryz.func156 Tryz.call156 fnt_ok157
noncomputable def fnt155 : List (Nat × Func) := List.cons (155, Tryz.f155) fnt156
theorem fnt_ok155 : ∀ x ∈ fnt155, FnOk Tryz.prog x := fn_cons Tryz.func155 Tryz.call155 fnt_ok156
noncomputable def fnt154 : List (Nat × Func) := List.cons (154, Tryz.f154) fnt155
theorem fnt_ok154 : ∀ x ∈ fnt154, FnOk Tryz.prog x := fn_cons Tryz.func154 Tryz.call154 fnt_ok155
noncomputable def fnt153 : List (Nat × Func) := List.cons (153, Tryz.f153) fnt154
theorem fnt_ok153 : ∀ x ∈ fnt153, FnOk Tryz.prog x := fn_cons Tryz.func153 Tryz.call153 fnt_ok154
noncomputable def fnt152 : List (Nat × Func) := List.cons (152, Tryz.f152) fnt153
theorem fnt_ok152 : ∀ x ∈ fnt152, FnOk Tryz.prog x := fn_cons Tryz.func152 Tryz.call152 fnt_ok153
noncomputable def fnt151 : List (Nat × Func) := List.cons (151, Tryz.f151) fnt152
theorem fnt_ok151 : ∀ x ∈ fnt151, FnOk Tryz.prog x := fn_cons Tryz.func151 Tryz.call151 fnt_ok152
noncomputable def fnt150 : List (Nat × Func) := List.cons (150, Tryz.f150) fnt151
theorem fnt_ok150 : ∀ x ∈ fnt150, FnOk Tryz.prog x := fn_cons Tryz.func150 Tryz.call150 fnt_ok151
noncomputable def fnt149 : List (Nat × Func) := List.cons (149, Tryz.f149) fnt150
theorem fnt_ok149 : ∀ x ∈ fnt149, FnOk Tryz.prog x := fn_cons Tryz.func149 Tryz.call149 fnt_ok150
noncomputable def fnt148 : List (Nat × Func) := List.cons (148, Tryz.f148) fnt149
theorem fnt_ok148 : ∀ x ∈ fnt148, FnOk Tryz.prog x := fn_cons Tryz.func148 Tryz.call148 fnt_ok149
noncomputable def fnt147 : List (Nat × Func) := List.cons (147, Tryz.f147) fnt148
theorem fnt_ok147 : ∀ x ∈ fnt147, FnOk Tryz.prog x := fn_cons Tryz.func147 Tryz.call147 fnt_ok148
noncomputable def fnt144 : List (Nat × Func) := List.cons (144, Tryz.f144) fnt147
theorem fnt_ok144 : ∀ x ∈ fnt144, FnOk Tryz.prog x := fn_cons Tryz.func144 Tryz.call144 fnt_ok147
noncomputable def fnt143 : List (Nat × Func) := List.cons (143, Tryz.f143) fnt144
theorem fnt_ok143 : ∀ x ∈ fnt143, FnOk Tryz.prog x := fn_cons Tryz.func143 Tryz.call143 fnt_ok144
noncomputable def fnt142 : List (Nat × Func) := List.cons (142, Tryz.f142) fnt143
theorem fnt_ok142 : ∀ x ∈ fnt142, FnOk Tryz.prog x := fn_cons Tryz.func142 Tryz.call142 fnt_ok143
noncomputable def fnt141 : List (Nat × Func) := List.cons (141, Tryz.f141) fnt142
theorem fnt_ok141 : ∀ x ∈ fnt141, FnOk Tryz.prog x := fn_cons Tryz.func141 Tryz.call141 fnt_ok142
noncomputable def fnt140 : List (Nat × Func) := List.cons (140, Tryz.f140) fnt141
theorem fnt_ok140 : ∀ x ∈ fnt140, FnOk Tryz.prog x := fn_cons Tryz.func140 Tryz.call140 fnt_ok141
noncomputable def fnt138 : List (Nat × Func) := List.cons (138, Tryz.f138) fnt140
theorem fnt_ok138 : ∀ x ∈ fnt138, FnOk Tryz.prog x := fn_cons Tryz.func138 Tryz.call138 fnt_ok140
noncomputable def fnt137 : List (Nat × Func) := List.cons (137, Tryz.f137) fnt138
theorem fnt_ok137 : ∀ x ∈ fnt137, FnOk Tryz.prog x := fn_cons Tryz.func137 Tryz.call137 fnt_ok138
noncomputable def fnt136 : List (Nat × Func) := List.cons (136, Tryz.f136) fnt137
theorem fnt_ok136 : ∀ x ∈ fnt136, FnOk Tryz.prog x := fn_cons Tryz.func136 Tryz.call136 fnt_ok137
noncomputable def fnt134 : List (Nat × Func) := List.cons (134, Tryz.f134) fnt136
theorem fnt_ok134 : ∀ x ∈ fnt134, FnOk Tryz.prog x := fn_cons Tryz.func134 Tryz.call134 fnt_ok136
noncomputable def fnt133 : List (Nat × Func) := List.cons (133, Tryz.f133) fnt134
theorem fnt_ok133 : ∀ x ∈ fnt133, FnOk Tryz.prog x := fn_cons Tryz.func133 Tryz.call133 fnt_ok134
noncomputable def fnt129 : List (Nat × Func) := List.cons (129, Tryz.f129) fnt133
theorem fnt_ok129 : ∀ x ∈ fnt129, FnOk Tryz.prog x := fn_cons Tryz.func129 Tryz.call129 fnt_ok133
noncomputable def fnt126 : List (Nat × Func) := List.cons (126, Tryz.f126) fnt129
theorem fnt_ok126 : ∀ x ∈ fnt126, FnOk Tryz.prog x := fn_cons Tryz.func126 Tryz.call126 fnt_ok129
noncomputable def fnt124 : List (Nat × Func) := List.cons (124, Tryz.f124) fnt126
theorem fnt_ok124 : ∀ x ∈ fnt124, FnOk Tryz.prog x := fn_cons Tryz.func124 Tryz.call124 fnt_ok126
noncomputable def fnt122 : List (Nat × Func) := List.cons (122, Tryz.f122) fnt124
theorem fnt_ok122 : ∀ x ∈ fnt122, FnOk Tryz.prog x := fn_cons Tryz.func122 Tryz.call122 fnt_ok124
noncomputable def fnt121 : List (Nat × Func) := List.cons (121, Tryz.f121) fnt122
theorem fnt_ok121 : ∀ x ∈ fnt121, FnOk Tryz.prog x := fn_cons Tryz.func121 Tryz.call121 fnt_ok122
noncomputable def fnt120 : List (Nat × Func) := List.cons (120, Tryz.f120) fnt121
theorem fnt_ok120 : ∀ x ∈ fnt120, FnOk Tryz.prog x := fn_cons Tryz.func120 Tryz.call120 fnt_ok121
noncomputable def fnt119 : List (Nat × Func) := List.cons (119, Tryz.f119) fnt120
theorem fnt_ok119 : ∀ x ∈ fnt119, FnOk Tryz.prog x := fn_cons Tryz.func119 Tryz.call119 fnt_ok120
noncomputable def fnt118 : List (Nat × Func) := List.cons (118, Tryz.f118) fnt119
theorem fnt_ok118 : ∀ x ∈ fnt118, FnOk Tryz.prog x := fn_cons Tryz.func118 Tryz.call118 fnt_ok119
noncomputable def fnt117 : List (Nat × Func) := List.cons (117, Tryz.f117) fnt118
theorem fnt_ok117 : ∀ x ∈ fnt117, FnOk Tryz.prog x := fn_cons Tryz.func117 Tryz.call117 fnt_ok118
noncomputable def fnt116 : List (Nat × Func) := List.cons (116, Tryz.f116) fnt117
theorem fnt_ok116 : ∀ x ∈ fnt116, FnOk Tryz.prog x := fn_cons Tryz.func116 Tryz.call116 fnt_ok117
noncomputable def fnt115 : List (Nat × Func) := List.cons (115, Tryz.f115) fnt116
theorem fnt_ok115 : ∀ x ∈ fnt115, FnOk Tryz.prog x := fn_cons Tryz.func115 Tryz.call115 fnt_ok116
noncomputable def fnt110 : List (Nat × Func) := List.cons (110, Tryz.f110) fnt115
theorem fnt_ok110 : ∀ x ∈ fnt110, FnOk Tryz.prog x := fn_cons Tryz.func110 Tryz.call110 fnt_ok115
noncomputable def fnt109 : List (Nat × Func) := List.cons (109, Tryz.f109) fnt110
theorem fnt_ok109 : ∀ x ∈ fnt109, FnOk Tryz.prog x := fn_cons Tryz.func109 Tryz.call109 fnt_ok110
noncomputable def fnt108 : List (Nat × Func) := List.cons (108, Tryz.f108) fnt109
theorem fnt_ok108 : ∀ x ∈ fnt108, FnOk Tryz.prog x := fn_cons Tryz.func108 Tryz.call108 fnt_ok109
noncomputable def fnt107 : List (Nat × Func) := List.cons (107, Tryz.f107) fnt108
theorem fnt_ok107 : ∀ x ∈ fnt107, FnOk Tryz.prog x := fn_cons Tryz.func107 Tryz.call107 fnt_ok108
noncomputable def fnt106 : List (Nat × Func) := List.cons (106, Tryz.f106) fnt107
theorem fnt_ok106 : ∀ x ∈ fnt106, FnOk Tryz.prog x := fn_cons Tryz.func106 Tryz.call106 fnt_ok107
noncomputable def fnt105 : List (Nat × Func) := List.cons (105, Tryz.f105) fnt106
theorem fnt_ok105 : ∀ x ∈ fnt105, FnOk Tryz.prog x := fn_cons Tryz.func105 Tryz.call105 fnt_ok106
noncomputable def fnt104 : List (Nat × Func) := List.cons (104, Tryz.f104) fnt105
theorem fnt_ok104 : ∀ x ∈ fnt104, FnOk Tryz.prog x := fn_cons Tryz.func104 Tryz.call104 fnt_ok105
noncomputable def fnt103 : List (Nat × Func) := List.cons (103, Tryz.f103) fnt104
theorem fnt_ok103 : ∀ x ∈ fnt103, FnOk Tryz.prog x := fn_cons Tryz.func103 Tryz.call103 fnt_ok104
noncomputable def fnt102 : List (Nat × Func) := List.cons (102, Tryz.f102) fnt103
theorem fnt_ok102 : ∀ x ∈ fnt102, FnOk Tryz.prog x := fn_cons Tryz.func102 Tryz.call102 fnt_ok103
noncomputable def fnt101 : List (Nat × Func) := List.cons (101, Tryz.f101) fnt102
theorem fnt_ok101 : ∀ x ∈ fnt101, FnOk Tryz.prog x := fn_cons Tryz.func101 Tryz.call101 fnt_ok102
noncomputable def fnt100 : List (Nat × Func) := List.cons (100, Tryz.f100) fnt101
theorem fnt_ok100 : ∀ x ∈ fnt100, FnOk Tryz.prog x := fn_cons Tryz.func100 Tryz.call100 fnt_ok101
noncomputable def fnt99 : List (Nat × Func) := List.cons (99, Tryz.f99) fnt100
theorem fnt_ok99 : ∀ x ∈ fnt99, FnOk Tryz.prog x := fn_cons Tryz.func99 Tryz.call99 fnt_ok100
noncomputable def fnt98 : List (Nat × Func) := List.cons (98, Tryz.f98) fnt99
theorem fnt_ok98 : ∀ x ∈ fnt98, FnOk Tryz.prog x := fn_cons Tryz.func98 Tryz.call98 fnt_ok99
noncomputable def fnt97 : List (Nat × Func) := List.cons (97, Tryz.f97) fnt98
theorem fnt_ok97 : ∀ x ∈ fnt97, FnOk Tryz.prog x := fn_cons Tryz.func97 Tryz.call97 fnt_ok98
noncomputable def fnt96 : List (Nat × Func) := List.cons (96, Tryz.f96) fnt97
theorem fnt_ok96 : ∀ x ∈ fnt96, FnOk Tryz.prog x := fn_cons Tryz.func96 Tryz.call96 fnt_ok97
noncomputable def fnt92 : List (Nat × Func) := List.cons (92, Tryz.f92) fnt96
theorem fnt_ok92 : ∀ x ∈ fnt92, FnOk Tryz.prog x := fn_cons Tryz.func92 Tryz.call92 fnt_ok96
noncomputable def fnt91 : List (Nat × Func) := List.cons (91, Tryz.f91) fnt92
theorem fnt_ok91 : ∀ x ∈ fnt91, FnOk Tryz.prog x := fn_cons Tryz.func91 Tryz.call91 fnt_ok92
noncomputable def fnt90 : List (Nat × Func) := List.cons (90, Tryz.f90) fnt91
theorem fnt_ok90 : ∀ x ∈ fnt90, FnOk Tryz.prog x := fn_cons Tryz.func90 Tryz.call90 fnt_ok91
noncomputable def fnt89 : List (Nat × Func) := List.cons (89, Tryz.f89) fnt90
theorem fnt_ok89 : ∀ x ∈ fnt89, FnOk Tryz.prog x := fn_cons Tryz.func89 Tryz.call89 fnt_ok90
noncomputable def fnt88 : List (Nat × Func) := List.cons (88, Tryz.f88) fnt89
theorem fnt_ok88 : ∀ x ∈ fnt88, FnOk Tryz.prog x := fn_cons Tryz.func88 Tryz.call88 fnt_ok89
noncomputable def fnt87 : List (Nat × Func) := List.cons (87, Tryz.f87) fnt88
theorem fnt_ok87 : ∀ x ∈ fnt87, FnOk Tryz.prog x := fn_cons Tryz.func87 Tryz.call87 fnt_ok88
noncomputable def fnt86 : List (Nat × Func) := List.cons (86, Tryz.f86) fnt87
theorem fnt_ok86 : ∀ x ∈ fnt86, FnOk Tryz.prog x := fn_cons Tryz.func86 Tryz.call86 fnt_ok87
noncomputable def fnt85 : List (Nat × Func) := List.cons (85, Tryz.f85) fnt86
theorem fnt_ok85 : ∀ x ∈ fnt85, FnOk Tryz.prog x := fn_cons Tryz.func85 Tryz.call85 fnt_ok86
noncomputable def fnt84 : List (Nat × Func) := List.cons (84, Tryz.f84) fnt85
theorem fnt_ok84 : ∀ x ∈ fnt84, FnOk Tryz.prog x := fn_cons Tryz.func84 Tryz.call84 fnt_ok85
noncomputable def fnt82 : List (Nat × Func) := List.cons (82, Tryz.f82) fnt84
theorem fnt_ok82 : ∀ x ∈ fnt82, FnOk Tryz.prog x := fn_cons Tryz.func82 Tryz.call82 fnt_ok84
noncomputable def fnt81 : List (Nat × Func) := List.cons (81, Tryz.f81) fnt82
theorem fnt_ok81 : ∀ x ∈ fnt81, FnOk Tryz.prog x := fn_cons Tryz.func81 Tryz.call81 fnt_ok82
noncomputable def fnt80 : List (Nat × Func) := List.cons (80, Tryz.f80) fnt81
theorem fnt_ok80 : ∀ x ∈ fnt80, FnOk Tryz.prog x := fn_cons Tryz.func80 Tryz.call80 fnt_ok81
noncomputable def fnt79 : List (Nat × Func) := List.cons (79, Tryz.f79) fnt80
theorem fnt_ok79 : ∀ x ∈ fnt79, FnOk Tryz.prog x := fn_cons Tryz.func79 Tryz.call79 fnt_ok80
noncomputable def fnt78 : List (Nat × Func) := List.cons (78, Tryz.f78) fnt79
theorem fnt_ok78 : ∀ x ∈ fnt78, FnOk Tryz.prog x := fn_cons Tryz.func78 Tryz.call78 fnt_ok79
noncomputable def fnt77 : List (Nat × Func) := List.cons (77, Tryz.f77) fnt78
theorem fnt_ok77 : ∀ x ∈ fnt77, FnOk Tryz.prog x := fn_cons Tryz.func77 Tryz.call77 fnt_ok78
noncomputable def fnt76 : List (Nat × Func) := List.cons (76, Tryz.f76) fnt77
theorem fnt_ok76 : ∀ x ∈ fnt76, FnOk Tryz.prog x := fn_cons Tryz.func76 Tryz.call76 fnt_ok77
noncomputable def fnt75 : List (Nat × Func) := List.cons (75, Tryz.f75) fnt76
theorem fnt_ok75 : ∀ x ∈ fnt75, FnOk Tryz.prog x := fn_cons Tryz.func75 Tryz.call75 fnt_ok76
noncomputable def fnt74 : List (Nat × Func) := List.cons (74, Tryz.f74) fnt75
theorem fnt_ok74 : ∀ x ∈ fnt74, FnOk Tryz.prog x := fn_cons Tryz.func74 Tryz.call74 fnt_ok75
noncomputable def fnt73 : List (Nat × Func) := List.cons (73, Tryz.f73) fnt74
theorem fnt_ok73 : ∀ x ∈ fnt73, FnOk Tryz.prog x := fn_cons Tryz.func73 Tryz.call73 fnt_ok74
noncomputable def fnt72 : List (Nat × Func) := List.cons (72, Tryz.f72) fnt73
theorem fnt_ok72 : ∀ x ∈ fnt72, FnOk Tryz.prog x := fn_cons Tryz.func72 Tryz.call72 fnt_ok73
noncomputable def fnt71 : List (Nat × Func) := List.cons (71, Tryz.f71) fnt72
theorem fnt_ok71 : ∀ x ∈ fnt71, FnOk Tryz.prog x := fn_cons Tryz.func71 Tryz.call71 fnt_ok72
noncomputable def fnt70 : List (Nat × Func) := List.cons (70, Tryz.f70) fnt71
theorem fnt_ok70 : ∀ x ∈ fnt70, FnOk Tryz.prog x := fn_cons Tryz.func70 Tryz.call70 fnt_ok71
noncomputable def fnt69 : List (Nat × Func) := List.cons (69, Tryz.f69) fnt70
theorem fnt_ok69 : ∀ x ∈ fnt69, FnOk Tryz.prog x := fn_cons Tryz.func69 Tryz.call69 fnt_ok70
noncomputable def fnt68 : List (Nat × Func) := List.cons (68, Tryz.f68) fnt69
theorem fnt_ok68 : ∀ x ∈ fnt68, FnOk Tryz.prog x := fn_cons Tryz.func68 Tryz.call68 fnt_ok69
noncomputable def fnt67 : List (Nat × Func) := List.cons (67, Tryz.f67) fnt68
theorem fnt_ok67 : ∀ x ∈ fnt67, FnOk Tryz.prog x := fn_cons Tryz.func67 Tryz.call67 fnt_ok68
noncomputable def fnt66 : List (Nat × Func) := List.cons (66, Tryz.f66) fnt67
theorem fnt_ok66 : ∀ x ∈ fnt66, FnOk Tryz.prog x := fn_cons Tryz.func66 Tryz.call66 fnt_ok67
noncomputable def fnt65 : List (Nat × Func) := List.cons (65, Tryz.f65) fnt66
theorem fnt_ok65 : ∀ x ∈ fnt65, FnOk Tryz.prog x := fn_cons Tryz.func65 Tryz.call65 fnt_ok66
noncomputable def fnt64 : List (Nat × Func) := List.cons (64, Tryz.f64) fnt65
theorem fnt_ok64 : ∀ x ∈ fnt64, FnOk Tryz.prog x := fn_cons Tryz.func64 Tryz.call64 fnt_ok65
noncomputable def fnt63 : List (Nat × Func) := List.cons (63, Tryz.f63) fnt64
theorem fnt_ok63 : ∀ x ∈ fnt63, FnOk Tryz.prog x := fn_cons Tryz.func63 Tryz.call63 fnt_ok64
noncomputable def fnt62 : List (Nat × Func) := List.cons (62, Tryz.f62) fnt63
theorem fnt_ok62 : ∀ x ∈ fnt62, FnOk Tryz.prog x := fn_cons Tryz.func62 Tryz.call62 fnt_ok63
noncomputable def fnt61 : List (Nat × Func) := List.cons (61, Tryz.f61) fnt62
theorem fnt_ok61 : ∀ x ∈ fnt61, FnOk Tryz.prog x := fn_cons Tryz.func61 Tryz.call61 fnt_ok62
noncomputable def fnt60 : List (Nat × Func) := List.cons (60, Tryz.f60) fnt61
theorem fnt_ok60 : ∀ x ∈ fnt60, FnOk Tryz.prog x := fn_cons Tryz.func60 Tryz.call60 fnt_ok61
noncomputable def fnt59 : List (Nat × Func) := List.cons (59, Tryz.f59) fnt60
theorem fnt_ok59 : ∀ x ∈ fnt59, FnOk Tryz.prog x := fn_cons Tryz.func59 Tryz.call59 fnt_ok60
noncomputable def fnt58 : List (Nat × Func) := List.cons (58, Tryz.f58) fnt59
theorem fnt_ok58 : ∀ x ∈ fnt58, FnOk Tryz.prog x := fn_cons Tryz.func58 Tryz.call58 fnt_ok59
noncomputable def fnt57 : List (Nat × Func) := List.cons (57, Tryz.f57) fnt58
theorem fnt_ok57 : ∀ x ∈ fnt57, FnOk Tryz.prog x := fn_cons Tryz.func57 Tryz.call57 fnt_ok58
noncomputable def fnt56 : List (Nat × Func) := List.cons (56, Tryz.f56) fnt57
theorem fnt_ok56 : ∀ x ∈ fnt56, FnOk Tryz.prog x := fn_cons Tryz.func56 Tryz.call56 fnt_ok57
noncomputable def fnt55 : List (Nat × Func) := List.cons (55, Tryz.f55) fnt56
theorem fnt_ok55 : ∀ x ∈ fnt55, FnOk Tryz.prog x := fn_cons Tryz.func55 Tryz.call55 fnt_ok56
noncomputable def fnt54 : List (Nat × Func) := List.cons (54, Tryz.f54) fnt55
theorem fnt_ok54 : ∀ x ∈ fnt54, FnOk Tryz.prog x := fn_cons Tryz.func54 Tryz.call54 fnt_ok55
noncomputable def fnt53 : List (Nat × Func) := List.cons (53, Tryz.f53) fnt54
theorem fnt_ok53 : ∀ x ∈ fnt53, FnOk Tryz.prog x := fn_cons Tryz.func53 Tryz.call53 fnt_ok54
noncomputable def fnt51 : List (Nat × Func) := List.cons (51, Tryz.f51) fnt53
theorem fnt_ok51 : ∀ x ∈ fnt51, FnOk Tryz.prog x := fn_cons Tryz.func51 Tryz.call51 fnt_ok53
noncomputable def fnt50 : List (Nat × Func) := List.cons (50, Tryz.f50) fnt51
theorem fnt_ok50 : ∀ x ∈ fnt50, FnOk Tryz.prog x := fn_cons Tryz.func50 Tryz.call50 fnt_ok51
noncomputable def fnt49 : List (Nat × Func) := List.cons (49, Tryz.f49) fnt50
theorem fnt_ok49 : ∀ x ∈ fnt49, FnOk Tryz.prog x := fn_cons Tryz.func49 Tryz.call49 fnt_ok50
noncomputable def fnt48 : List (Nat × Func) := List.cons (48, Tryz.f48) fnt49
theorem fnt_ok48 : ∀ x ∈ fnt48, FnOk Tryz.prog x := fn_cons Tryz.func48 Tryz.call48 fnt_ok49
noncomputable def fnt47 : List (Nat × Func) := List.cons (47, Tryz.f47) fnt48
theorem fnt_ok47 : ∀ x ∈ fnt47, FnOk Tryz.prog x := fn_cons Tryz.func47 Tryz.call47 fnt_ok48
noncomputable def fnt46 : List (Nat × Func) := List.cons (46, Tryz.f46) fnt47
theorem fnt_ok46 : ∀ x ∈ fnt46, FnOk Tryz.prog x := fn_cons Tryz.func46 Tryz.call46 fnt_ok47
noncomputable def fnt45 : List (Nat × Func) := List.cons (45, Tryz.f45) fnt46
theorem fnt_ok45 : ∀ x ∈ fnt45, FnOk Tryz.prog x := fn_cons Tryz.func45 Tryz.call45 fnt_ok46
noncomputable def fnt44 : List (Nat × Func) := List.cons (44, Tryz.f44) fnt45
theorem fnt_ok44 : ∀ x ∈ fnt44, FnOk Tryz.prog x := fn_cons Tryz.func44 Tryz.call44 fnt_ok45
noncomputable def fnt43 : List (Nat × Func) := List.cons (43, Tryz.f43) fnt44
theorem fnt_ok43 : ∀ x ∈ fnt43, FnOk Tryz.prog x := fn_cons Tryz.func43 Tryz.call43 fnt_ok44
noncomputable def fnt42 : List (Nat × Func) := List.cons (42, Tryz.f42) fnt43
theorem fnt_ok42 : ∀ x ∈ fnt42, FnOk Tryz.prog x := fn_cons Tryz.func42 Tryz.call42 fnt_ok43
noncomputable def fnt41 : List (Nat × Func) := List.cons (41, Tryz.f41) fnt42
theorem fnt_ok41 : ∀ x ∈ fnt41, FnOk Tryz.prog x := fn_cons Tryz.func41 Tryz.call41 fnt_ok42
noncomputable def fnt40 : List (Nat × Func) := List.cons (40, Tryz.f40) fnt41
theorem fnt_ok40 : ∀ x ∈ fnt40, FnOk Tryz.prog x := fn_cons Tryz.func40 Tryz.call40 fnt_ok41
noncomputable def fnt39 : List (Nat × Func) := List.cons (39, Tryz.f39) fnt40
theorem fnt_ok39 : ∀ x ∈ fnt39, FnOk Tryz.prog x := fn_cons Tryz.func39 Tryz.call39 fnt_ok40
noncomputable def fnt38 : List (Nat × Func) := List.cons (38, Tryz.f38) fnt39
theorem fnt_ok38 : ∀ x ∈ fnt38, FnOk Tryz.prog x := fn_cons Tryz.func38 Tryz.call38 fnt_ok39
noncomputable def fnt37 : List (Nat × Func) := List.cons (37, Tryz.f37) fnt38
theorem fnt_ok37 : ∀ x ∈ fnt37, FnOk Tryz.prog x := fn_cons Tryz.func37 Tryz.call37 fnt_ok38
noncomputable def fnt36 : List (Nat × Func) := List.cons (36, Tryz.f36) fnt37
theorem fnt_ok36 : ∀ x ∈ fnt36, FnOk Tryz.prog x := fn_cons Tryz.func36 Tryz.call36 fnt_ok37
noncomputable def fnt35 : List (Nat × Func) := List.cons (35, Tryz.f35) fnt36
theorem fnt_ok35 : ∀ x ∈ fnt35, FnOk Tryz.prog x := fn_cons Tryz.func35 Tryz.call35 fnt_ok36
noncomputable def fnt34 : List (Nat × Func) := List.cons (34, Tryz.f34) fnt35
theorem fnt_ok34 : ∀ x ∈ fnt34, FnOk Tryz.prog x := fn_cons Tryz.func34 Tryz.call34 fnt_ok35
noncomputable def fnt33 : List (Nat × Func) := List.cons (33, Tryz.f33) fnt34
theorem fnt_ok33 : ∀ x ∈ fnt33, FnOk Tryz.prog x := fn_cons Tryz.func33 Tryz.call33 fnt_ok34
noncomputable def fnt32 : List (Nat × Func) := List.cons (32, Tryz.f32) fnt33
theorem fnt_ok32 : ∀ x ∈ fnt32, FnOk Tryz.prog x := fn_cons Tryz.func32 Tryz.call32 fnt_ok33
noncomputable def fnt31 : List (Nat × Func) := List.cons (31, Tryz.f31) fnt32
theorem fnt_ok31 : ∀ x ∈ fnt31, FnOk Tryz.prog x := fn_cons Tryz.func31 Tryz.call31 fnt_ok32
noncomputable def fnt30 : List (Nat × Func) := List.cons (30, Tryz.f30) fnt31
theorem fnt_ok30 : ∀ x ∈ fnt30, FnOk Tryz.prog x := fn_cons Tryz.func30 Tryz.call30 fnt_ok31
noncomputable def fnt29 : List (Nat × Func) := List.cons (29, Tryz.f29) fnt30
theorem fnt_ok29 : ∀ x ∈ fnt29, FnOk Tryz.prog x := fn_cons Tryz.func29 Tryz.call29 fnt_ok30
noncomputable def fnt28 : List (Nat × Func) := List.cons (28, Tryz.f28) fnt29
theorem fnt_ok28 : ∀ x ∈ fnt28, FnOk Tryz.prog x := fn_cons Tryz.func28 Tryz.call28 fnt_ok29
noncomputable def fnt27 : List (Nat × Func) := List.cons (27, Tryz.f27) fnt28
theorem fnt_ok27 : ∀ x ∈ fnt27, FnOk Tryz.prog x := fn_cons Tryz.func27 Tryz.call27 fnt_ok28
noncomputable def fnt26 : List (Nat × Func) := List.cons (26, Tryz.f26) fnt27
theorem fnt_ok26 : ∀ x ∈ fnt26, FnOk Tryz.prog x := fn_cons Tryz.func26 Tryz.call26 fnt_ok27
noncomputable def fnt25 : List (Nat × Func) := List.cons (25, Tryz.f25) fnt26
theorem fnt_ok25 : ∀ x ∈ fnt25, FnOk Tryz.prog x := fn_cons Tryz.func25 Tryz.call25 fnt_ok26
noncomputable def fnt24 : List (Nat × Func) := List.cons (24, Tryz.f24) fnt25
theorem fnt_ok24 : ∀ x ∈ fnt24, FnOk Tryz.prog x := fn_cons Tryz.func24 Tryz.call24 fnt_ok25
noncomputable def fnt23 : List (Nat × Func) := List.cons (23, Tryz.f23) fnt24
theorem fnt_ok23 : ∀ x ∈ fnt23, FnOk Tryz.prog x := fn_cons Tryz.func23 Tryz.call23 fnt_ok24
noncomputable def fnt22 : List (Nat × Func) := List.cons (22, Tryz.f22) fnt23
theorem fnt_ok22 : ∀ x ∈ fnt22, FnOk Tryz.prog x := fn_cons Tryz.func22 Tryz.call22 fnt_ok23
noncomputable def fnt21 : List (Nat × Func) := List.cons (21, Tryz.f21) fnt22
theorem fnt_ok21 : ∀ x ∈ fnt21, FnOk Tryz.prog x := fn_cons Tryz.func21 Tryz.call21 fnt_ok22
noncomputable def fnt20 : List (Nat × Func) := List.cons (20, Tryz.f20) fnt21
theorem fnt_ok20 : ∀ x ∈ fnt20, FnOk Tryz.prog x := fn_cons Tryz.func20 Tryz.call20 fnt_ok21
noncomputable def fnt19 : List (Nat × Func) := List.cons (19, Tryz.f19) fnt20
theorem fnt_ok19 : ∀ x ∈ fnt19, FnOk Tryz.prog x := fn_cons Tryz.func19 Tryz.call19 fnt_ok20
noncomputable def fnt18 : List (Nat × Func) := List.cons (18, Tryz.f18) fnt19
theorem fnt_ok18 : ∀ x ∈ fnt18, FnOk Tryz.prog x := fn_cons Tryz.func18 Tryz.call18 fnt_ok19
noncomputable def fnt17 : List (Nat × Func) := List.cons (17, Tryz.f17) fnt18
theorem fnt_ok17 : ∀ x ∈ fnt17, FnOk Tryz.prog x := fn_cons Tryz.func17 Tryz.call17 fnt_ok18
noncomputable def fnt16 : List (Nat × Func) := List.cons (16, Tryz.f16) fnt17
theorem fnt_ok16 : ∀ x ∈ fnt16, FnOk Tryz.prog x := fn_cons Tryz.func16 Tryz.call16 fnt_ok17
noncomputable def fnt15 : List (Nat × Func) := List.cons (15, Tryz.f15) fnt16
theorem fnt_ok15 : ∀ x ∈ fnt15, FnOk Tryz.prog x := fn_cons Tryz.func15 Tryz.call15 fnt_ok16
noncomputable def fnt14 : List (Nat × Func) := List.cons (14, Tryz.f14) fnt15
theorem fnt_ok14 : ∀ x ∈ fnt14, FnOk Tryz.prog x := fn_cons Tryz.func14 Tryz.call14 fnt_ok15
noncomputable def fnt13 : List (Nat × Func) := List.cons (13, Tryz.f13) fnt14
theorem fnt_ok13 : ∀ x ∈ fnt13, FnOk Tryz.prog x := fn_cons Tryz.func13 Tryz.call13 fnt_ok14
noncomputable def fnt12 : List (Nat × Func) := List.cons (12, Tryz.f12) fnt13
theorem fnt_ok12 : ∀ x ∈ fnt12, FnOk Tryz.prog x := fn_cons Tryz.func12 Tryz.call12 fnt_ok13
noncomputable def fnt11 : List (Nat × Func) := List.cons (11, Tryz.f11) fnt12
theorem fnt_ok11 : ∀ x ∈ fnt11, FnOk Tryz.prog x := fn_cons Tryz.func11 Tryz.call11 fnt_ok12
noncomputable def fnt10 : List (Nat × Func) := List.cons (10, Tryz.f10) fnt11
theorem fnt_ok10 : ∀ x ∈ fnt10, FnOk Tryz.prog x := fn_cons Tryz.func10 Tryz.call10 fnt_ok11
noncomputable def fnt9 : List (Nat × Func) := List.cons (9, Tryz.f9) fnt10
theorem fnt_ok9 : ∀ x ∈ fnt9, FnOk Tryz.prog x := fn_cons Tryz.func9 Tryz.call9 fnt_ok10
noncomputable def fnt8 : List (Nat × Func) := List.cons (8, Tryz.f8) fnt9
theorem fnt_ok8 : ∀ x ∈ fnt8, FnOk Tryz.prog x := fn_cons Tryz.func8 Tryz.call8 fnt_ok9
noncomputable def fnt7 : List (Nat × Func) := List.cons (7, Tryz.f7) fnt8
theorem fnt_ok7 : ∀ x ∈ fnt7, FnOk Tryz.prog x := fn_cons Tryz.func7 Tryz.call7 fnt_ok8
noncomputable def fnt6 : List (Nat × Func) := List.cons (6, Tryz.f6) fnt7
theorem fnt_ok6 : ∀ x ∈ fnt6, FnOk Tryz.prog x := fn_cons Tryz.func6 Tryz.call6 fnt_ok7
noncomputable def fnt5 : List (Nat × Func) := List.cons (5, Tryz.f5) fnt6
theorem fnt_ok5 : ∀ x ∈ fnt5, FnOk Tryz.prog x := fn_cons Tryz.func5 Tryz.call5 fnt_ok6
noncomputable def fnt4 : List (Nat × Func) := List.cons (4, Tryz.f4) fnt5
theorem fnt_ok4 : ∀ x ∈ fnt4, FnOk Tryz.prog x := fn_cons Tryz.func4 Tryz.call4 fnt_ok5
noncomputable def fnt3 : List (Nat × Func) := List.cons (3, Tryz.f3) fnt4
theorem fnt_ok3 : ∀ x ∈ fnt3, FnOk Tryz.prog x := fn_cons Tryz.func3 Tryz.call3 fnt_ok4
noncomputable def fnt : List (Nat × Func) := fnt3
theorem fnt_ok : ∀ x ∈ fnt, FnOk Tryz.prog x := fnt_ok3
/-- The types that the runs look at. -/
noncomputable def tyl : List (Nat × TI) := [
  (2, ⟨(.int .i64), 1, 8, [(.int .i64 (Int.ofNat 0))], false⟩),
  (3, ⟨(.int .i64), 1, 8, [(.int .i64 (Int.ofNat 0))], false⟩),
  (4, ⟨.bool, 1, 1, [(.bool false)], false⟩),
  (5, ⟨(.int .u8), 1, 1, [(.int .u8 (Int.ofNat 0))], false⟩),
  (9, ⟨.str, 1, 16, [(.str [])], false⟩),
  (20, ⟨.iface, 1, 16, [.nilI], false⟩),
  (22, ⟨(.int .i64), 1, 8, [(.int .i64 (Int.ofNat 0))], false⟩),
  (24, ⟨(.struct [(0, 1, 22), (1, 1, 2), (2, 1, 3)]), 3, 24, [(.int .i64 (Int.ofNat 0)), (.int .i64 (Int.ofNat 0)), (.int .i64 (Int.ofNat 0))], true⟩),
  (25, ⟨(.int .u64), 1, 8, [(.int .u64 (Int.ofNat 0))], false⟩),
  (27, ⟨(.struct [(0, 1, 3), (1, 1, 25), (2, 1, 2), (3, 1, 2), (4, 1, 3), (5, 1, 3), (6, 1, 2), (7, 1, 3), (8, 1, 3), (9, 1, 2), (10, 1, 3), (11, 1, 3), (12, 1, 2), (13, 1, 3), (14, 1, 9)]), 15, 128, [(.int .i64 (Int.ofNat 0)), (.int .u64 (Int.ofNat 0)), (.int .i64 (Int.ofNat 0)), (.int .i64 (Int.ofNat 0)), (.int .i64 (Int.ofNat 0)), (.int .i64 (Int.ofNat 0)), (.int .i64 (Int.ofNat 0)), (.int .i64 (Int.ofNat 0)), (.int .i64 (Int.ofNat 0)), (.int .i64 (Int.ofNat 0)), (.int .i64 (Int.ofNat 0)), (.int .i64 (Int.ofNat 0)), (.int .i64 (Int.ofNat 0)), (.int .i64 (Int.ofNat 0)), (.str [])], true⟩),
  (28, ⟨(.ptr 55), 1, 8, [.nilP], false⟩),
  (29, ⟨(.int .i64), 1, 8, [(.int .i64 (Int.ofNat 0))], false⟩),
  (34, ⟨(.struct [(0, 1, 3), (1, 1, 3), (2, 1, 2), (3, 1, 9)]), 4, 40, [(.int .i64 (Int.ofNat 0)), (.int .i64 (Int.ofNat 0)), (.int .i64 (Int.ofNat 0)), (.str [])], true⟩),
  (35, ⟨(.ptr 44), 1, 8, [.nilP], false⟩),
  (38, ⟨.fnc, 1, 8, [.nilF], false⟩),
  (40, ⟨(.ptr 128), 1, 8, [.nilP], false⟩),
  (42, ⟨(.struct [(0, 1, 40)]), 1, 8, [.nilP], true⟩),
  (44, ⟨(.struct [(0, 1, 42), (1, 1, 28), (2, 1, 9), (3, 15, 27), (18, 1, 2), (19, 1, 4), (20, 1, 4), (21, 1, 4)]), 22, 176, [.nilP, .nilP, (.str []), (.int .i64 (Int.ofNat 0)), (.int .u64 (Int.ofNat 0)), (.int .i64 (Int.ofNat 0)), (.int .i64 (Int.ofNat 0)), (.int .i64 (Int.ofNat 0)), (.int .i64 (Int.ofNat 0)), (.int .i64 (Int.ofNat 0)), (.int .i64 (Int.ofNat 0)), (.int .i64 (Int.ofNat 0)), (.int .i64 (Int.ofNat 0)), (.int .i64 (Int.ofNat 0)), (.int .i64 (Int.ofNat 0)), (.int .i64 (Int.ofNat 0)), (.int .i64 (Int.ofNat 0)), (.str []), (.int .i64 (Int.ofNat 0)), (.bool false), (.bool false), (.bool false)], true⟩),
  (47, ⟨(.slice 53), 1, 24, [.nilS], false⟩),
  (49, ⟨(.map 9 106), 1, 8, [.nilM], false⟩),
  (51, ⟨(.int .i64), 1, 8, [(.int .i64 (Int.ofNat 0))], false⟩),
  (53, ⟨(.struct [(0, 1, 51), (1, 1, 3)]), 2, 16, [(.int .i64 (Int.ofNat 0)), (.int .i64 (Int.ofNat 0))], true⟩),
  (55, ⟨(.struct [(0, 1, 49), (1, 1, 47), (2, 1, 3)]), 3, 40, [.nilM, .nilS, (.int .i64 (Int.ofNat 0))], true⟩),
  (58, ⟨(.slice 5), 1, 24, [.nilS], false⟩),
  (65, ⟨(.slice 38), 1, 24, [.nilS], false⟩),
  (73, ⟨(.slice 183), 1, 24, [.nilS], false⟩),
  (75, ⟨(.struct [(0, 1, 73), (1, 1, 4), (2, 1, 2), (3, 1, 2), (4, 1, 2), (5, 1, 2), (6, 1, 2)]), 7, 72, [.nilS, (.bool false), (.int .i64 (Int.ofNat 0)), (.int .i64 (Int.ofNat 0)), (.int .i64 (Int.ofNat 0)), (.int .i64 (Int.ofNat 0)), (.int .i64 (Int.ofNat 0))], true⟩),
  (94, ⟨.fnc, 1, 8, [.nilF], false⟩),
  (106, ⟨(.ptr 110), 1, 8, [.nilP], false⟩),
  (108, ⟨(.slice 113), 1, 24, [.nilS], false⟩),
  (110, ⟨(.struct [(0, 1, 58), (1, 1, 108), (2, 1, 58)]), 3, 72, [.nilS, .nilS, .nilS], true⟩),
  (113, ⟨(.struct [(0, 1, 2), (1, 1, 58)]), 2, 32, [(.int .i64 (Int.ofNat 0)), .nilS], true⟩),
  (118, ⟨.fnc, 1, 8, [.nilF], false⟩),
  (120, ⟨(.slice 4), 1, 24, [.nilS], false⟩),
  (128, ⟨(.struct [(0, 1, 28), (1, 1, 9), (2, 15, 27), (17, 1, 2), (18, 1, 2)]), 19, 168, [.nilP, (.str []), (.int .i64 (Int.ofNat 0)), (.int .u64 (Int.ofNat 0)), (.int .i64 (Int.ofNat 0)), (.int .i64 (Int.ofNat 0)), (.int .i64 (Int.ofNat 0)), (.int .i64 (Int.ofNat 0)), (.int .i64 (Int.ofNat 0)), (.int .i64 (Int.ofNat 0)), (.int .i64 (Int.ofNat 0)), (.int .i64 (Int.ofNat 0)), (.int .i64 (Int.ofNat 0)), (.int .i64 (Int.ofNat 0)), (.int .i64 (Int.ofNat 0)), (.int .i64 (Int.ofNat 0)), (.str []), (.int .i64 (Int.ofNat 0)), (.int .i64 (Int.ofNat 0))], true⟩),
  (144, ⟨(.slice 146), 1, 24, [.nilS], false⟩),
  (146, ⟨(.struct [(0, 1, 2), (1, 3, 24)]), 4, 32, [(.int .i64 (Int.ofNat 0)), (.int .i64 (Int.ofNat 0)), (.int .i64 (Int.ofNat 0)), (.int .i64 (Int.ofNat 0))], true⟩),
  (155, ⟨(.slice 2), 1, 24, [.nilS], false⟩),
  (160, ⟨(.int .u64), 1, 8, [(.int .u64 (Int.ofNat 0))], false⟩),
  (165, ⟨(.slice 168), 1, 24, [.nilS], false⟩),
  (168, ⟨(.struct [(0, 1, 3), (1, 1, 3), (2, 1, 25)]), 3, 24, [(.int .i64 (Int.ofNat 0)), (.int .i64 (Int.ofNat 0)), (.int .u64 (Int.ofNat 0))], true⟩),
  (174, ⟨(.ptr 180), 1, 8, [.nilP], false⟩),
  (177, ⟨(.map 2 232), 1, 8, [.nilM], false⟩),
  (178, ⟨(.map 183 3), 1, 8, [.nilM], false⟩),
  (180, ⟨(.struct [(0, 1, 58), (1, 15, 27), (16, 1, 2), (17, 1, 2), (18, 1, 177), (19, 1, 178), (20, 7, 75)]), 27, 256, [.nilS, (.int .i64 (Int.ofNat 0)), (.int .u64 (Int.ofNat 0)), (.int .i64 (Int.ofNat 0)), (.int .i64 (Int.ofNat 0)), (.int .i64 (Int.ofNat 0)), (.int .i64 (Int.ofNat 0)), (.int .i64 (Int.ofNat 0)), (.int .i64 (Int.ofNat 0)), (.int .i64 (Int.ofNat 0)), (.int .i64 (Int.ofNat 0)), (.int .i64 (Int.ofNat 0)), (.int .i64 (Int.ofNat 0)), (.int .i64 (Int.ofNat 0)), (.int .i64 (Int.ofNat 0)), (.str []), (.int .i64 (Int.ofNat 0)), (.int .i64 (Int.ofNat 0)), .nilM, .nilM, .nilS, (.bool false), (.int .i64 (Int.ofNat 0)), (.int .i64 (Int.ofNat 0)), (.int .i64 (Int.ofNat 0)), (.int .i64 (Int.ofNat 0)), (.int .i64 (Int.ofNat 0))], true⟩),
  (181, ⟨(.int .i64), 1, 8, [(.int .i64 (Int.ofNat 0))], false⟩),
  (183, ⟨(.struct [(0, 1, 181), (1, 1, 2), (2, 1, 25), (3, 1, 25)]), 4, 32, [(.int .i64 (Int.ofNat 0)), (.int .i64 (Int.ofNat 0)), (.int .u64 (Int.ofNat 0)), (.int .u64 (Int.ofNat 0))], true⟩),
  (207, ⟨(.int .i64), 1, 8, [(.int .i64 (Int.ofNat 0))], false⟩),
  (217, ⟨(.map 2 2), 1, 8, [.nilM], false⟩),
  (222, ⟨(.map 2 3), 1, 8, [.nilM], false⟩),
  (230, ⟨(.arr 7 3), 7, 56, [(.int .i64 (Int.ofNat 0)), (.int .i64 (Int.ofNat 0)), (.int .i64 (Int.ofNat 0)), (.int .i64 (Int.ofNat 0)), (.int .i64 (Int.ofNat 0)), (.int .i64 (Int.ofNat 0)), (.int .i64 (Int.ofNat 0))], false⟩),
  (232, ⟨(.struct [(0, 1, 25), (1, 1, 207), (2, 1, 4)]), 3, 24, [(.int .u64 (Int.ofNat 0)), (.int .i64 (Int.ofNat 0)), (.bool false)], true⟩),
  (251, ⟨(.map 2 25), 1, 8, [.nilM], false⟩)]
theorem tyl_ok : ∀ x ∈ tyl, tyOf Tryz.prog x.1 x.2.eq = some x.2 :=
  List.forall_mem_cons.2 ⟨by kernel_rfl,
  List.forall_mem_cons.2 ⟨by kernel_rfl,
  List.forall_mem_cons.2 ⟨by kernel_rfl,
  List.forall_mem_cons.2 ⟨by kernel_rfl,
  List.forall_mem_cons.2 ⟨by kernel_rfl,
  List.forall_mem_cons.2 ⟨by kernel_rfl,
  List.forall_mem_cons.2 ⟨by kernel_rfl,
  List.forall_mem_cons.2 ⟨by kernel_rfl,
  List.forall_mem_cons.2 ⟨by kernel_rfl,
  List.forall_mem_cons.2 ⟨by kernel_rfl,
  List.forall_mem_cons.2 ⟨by kernel_rfl,
  List.forall_mem_cons.2 ⟨by kernel_rfl,
  List.forall_mem_cons.2 ⟨by kernel_rfl,
  List.forall_mem_cons.2 ⟨by kernel_rfl,
  List.forall_mem_cons.2 ⟨by kernel_rfl,
  List.forall_mem_cons.2 ⟨by kernel_rfl,
  List.forall_mem_cons.2 ⟨by kernel_rfl,
  List.forall_mem_cons.2 ⟨by kernel_rfl,
  List.forall_mem_cons.2 ⟨by kernel_rfl,
  List.forall_mem_cons.2 ⟨by kernel_rfl,
  List.forall_mem_cons.2 ⟨by kernel_rfl,
  List.forall_mem_cons.2 ⟨by kernel_rfl,
  List.forall_mem_cons.2 ⟨by kernel_rfl,
  List.forall_mem_cons.2 ⟨by kernel_rfl,
  List.forall_mem_cons.2 ⟨by kernel_rfl,
  List.forall_mem_cons.2 ⟨by kernel_rfl,
  List.forall_mem_cons.2 ⟨by kernel_rfl,
  List.forall_mem_cons.2 ⟨by kernel_rfl,
  List.forall_mem_cons.2 ⟨by kernel_rfl,
  List.forall_mem_cons.2 ⟨by kernel_rfl,
  List.forall_mem_cons.2 ⟨by kernel_rfl,
  List.forall_mem_cons.2 ⟨by kernel_rfl,
  List.forall_mem_cons.2 ⟨by kernel_rfl,
  List.forall_mem_cons.2 ⟨by kernel_rfl,
  List.forall_mem_cons.2 ⟨by kernel_rfl,
  List.forall_mem_cons.2 ⟨by kernel_rfl,
  List.forall_mem_cons.2 ⟨by kernel_rfl,
  List.forall_mem_cons.2 ⟨by kernel_rfl,
  List.forall_mem_cons.2 ⟨by kernel_rfl,
  List.forall_mem_cons.2 ⟨by kernel_rfl,
  List.forall_mem_cons.2 ⟨by kernel_rfl,
  List.forall_mem_cons.2 ⟨by kernel_rfl,
  List.forall_mem_cons.2 ⟨by kernel_rfl,
  List.forall_mem_cons.2 ⟨by kernel_rfl,
  List.forall_mem_cons.2 ⟨by kernel_rfl,
  List.forall_mem_cons.2 ⟨by kernel_rfl,
  List.forall_mem_cons.2 ⟨by kernel_rfl,
  List.forall_mem_cons.2 ⟨by kernel_rfl,
  List.forall_mem_cons.2 ⟨by kernel_rfl,
  List.forall_mem_cons.2 ⟨by kernel_rfl,
  List.forall_mem_cons.2 ⟨by kernel_rfl,
  List.forall_mem_cons.2 ⟨by kernel_rfl,
  List.forall_mem_cons.2 ⟨by kernel_rfl,
  fun x h => by cases h⟩⟩⟩⟩⟩⟩⟩⟩⟩⟩⟩⟩⟩⟩⟩⟩⟩⟩⟩⟩⟩⟩⟩⟩⟩⟩⟩⟩⟩⟩⟩⟩⟩⟩⟩⟩⟩⟩⟩⟩⟩⟩⟩⟩⟩⟩⟩⟩⟩⟩⟩⟩⟩
/-- Plans for the regions that draw their order. -/
noncomputable def pll : List (Nat × T Plan) := [
  (6, ofL [(6, [(0, []), (1, []), (2, []), (3, []), (4, []), (5, []), (7, []), (6, [4]), (8, []), (9, []), (10, [])])]),
  (7, ofL [(9, [(0, []), (1, []), (2, []), (3, []), (4, []), (5, []), (6, []), (7, []), (8, []), (9, [])])]),
  (12, ofL [(3, [(0, []), (1, []), (2, []), (3, []), (4, []), (6, []), (7, []), (8, []), (9, []), (12, []), (5, [9]), (10, []), (11, []), (13, [])])]),
  (14, ofL [(29, [(0, []), (1, []), (2, [1]), (3, [])])]),
  (15, ofL [(7, [(0, []), (1, []), (2, []), (3, []), (4, []), (5, []), (6, []), (7, []), (8, []), (9, []), (10, []), (11, []), (15, []), (16, []), (17, []), (34, []), (35, []), (36, []), (42, []), (43, []), (44, []), (56, []), (57, []), (58, []), (59, []), (60, []), (61, []), (62, []), (64, []), (65, []), (66, []), (67, []), (68, []), (69, []), (70, []), (72, []), (73, []), (74, []), (75, []), (84, []), (12, [10, 16, 17, 35, 36, 42, 44, 58, 60, 62, 66, 68, 70, 73, 74, 75]), (13, []), (14, []), (18, []), (19, []), (20, []), (21, []), (22, []), (23, []), (24, []), (25, []), (26, []), (27, []), (28, []), (29, []), (30, []), (31, [10, 13, 35, 36, 42, 44, 58, 60, 62, 66, 68, 70, 73, 74, 75]), (32, []), (33, []), (37, []), (38, []), (39, []), (40, []), (41, []), (45, [10, 13, 39, 40, 58, 60, 62, 66, 68, 70, 73, 74, 75]), (46, []), (47, []), (48, []), (49, []), (50, []), (51, []), (52, []), (53, []), (54, []), (55, []), (63, [10, 13, 39, 40, 53, 54, 66, 68, 70, 73, 74, 75]), (71, [10, 13, 39, 40, 53, 54, 73, 74, 75]), (76, []), (77, []), (78, []), (79, [10, 13, 39, 40, 53, 54]), (80, []), (81, []), (82, []), (83, [])])]),
  (19, ofL [(12, [(0, []), (1, []), (2, []), (3, []), (4, []), (5, []), (6, []), (7, []), (8, []), (9, []), (10, []), (11, []), (12, []), (13, []), (14, []), (15, []), (16, []), (17, []), (18, []), (19, []), (20, []), (21, [])])]),
  (20, ofL [(1, [(0, []), (1, []), (2, []), (3, []), (4, []), (5, [])])]),
  (21, ofL [(12, [(0, []), (1, []), (2, []), (3, []), (4, []), (5, []), (6, []), (7, []), (8, []), (9, [4]), (10, []), (11, []), (12, []), (13, []), (14, []), (15, [])]), (13, [(0, []), (1, []), (2, []), (3, []), (4, []), (5, []), (6, []), (7, []), (8, []), (9, [])])]),
  (23, ofL [(11, [(0, []), (1, []), (2, []), (3, []), (4, []), (5, []), (6, []), (7, []), (8, []), (9, [])])]),
  (24, ofL [(1, [(0, []), (1, []), (2, []), (3, []), (4, []), (5, [])])]),
  (26, ofL [(8, [(0, []), (1, []), (2, []), (3, []), (4, []), (5, []), (6, []), (7, []), (8, []), (9, []), (10, []), (11, []), (12, [])])]),
  (31, ofL [(3, [(0, []), (1, []), (2, []), (3, []), (4, []), (5, []), (6, []), (7, []), (8, []), (9, []), (10, []), (11, []), (12, []), (13, []), (14, []), (15, []), (16, []), (17, []), (18, []), (19, []), (20, []), (21, []), (22, []), (23, []), (24, []), (25, []), (26, []), (27, []), (28, []), (29, []), (30, []), (31, []), (32, []), (33, []), (34, []), (35, []), (36, []), (37, []), (38, []), (39, []), (40, []), (41, []), (42, []), (43, []), (44, []), (45, []), (46, []), (47, []), (48, []), (49, []), (50, [])])]),
  (36, ofL [(3, [(0, []), (1, []), (2, []), (3, []), (4, []), (5, []), (6, []), (7, []), (8, []), (9, []), (10, [])]), (4, [(0, []), (1, []), (2, []), (3, []), (4, []), (5, []), (6, []), (7, []), (8, []), (9, [])])]),
  (38, ofL [(3, [(0, []), (1, []), (2, []), (3, []), (4, []), (5, []), (6, []), (7, []), (8, []), (9, []), (10, []), (11, []), (12, []), (13, [])]), (6, [(0, []), (1, []), (2, []), (3, []), (4, []), (5, []), (6, []), (7, []), (8, []), (9, []), (10, []), (11, []), (12, []), (13, []), (14, []), (15, []), (16, [])])]),
  (45, ofL [(1, [(0, []), (1, []), (2, []), (3, []), (4, []), (5, []), (6, []), (7, []), (8, []), (9, []), (10, []), (11, []), (12, []), (13, []), (14, [])]), (4, [(0, []), (1, []), (2, []), (3, []), (4, []), (5, []), (6, []), (7, []), (8, []), (9, []), (10, []), (11, []), (12, []), (13, []), (14, []), (15, []), (16, [])]), (11, [(0, []), (1, []), (2, []), (3, []), (4, []), (5, []), (6, []), (7, []), (8, []), (9, []), (10, []), (11, []), (12, []), (13, []), (14, []), (15, []), (16, []), (17, []), (18, []), (19, []), (20, []), (21, []), (22, []), (23, []), (24, [])]), (14, [(0, []), (1, []), (2, []), (3, []), (4, []), (5, []), (6, []), (7, []), (8, []), (9, []), (10, []), (11, [])]), (15, [(0, []), (1, []), (2, []), (3, []), (4, []), (5, []), (6, []), (7, []), (8, []), (9, []), (10, []), (11, []), (12, []), (13, []), (14, []), (15, []), (16, []), (17, []), (18, []), (19, []), (20, [3, 7, 13, 14, 15, 16, 17]), (21, []), (22, [])])]),
  (78, ofL [(8, [(0, []), (1, []), (2, []), (3, []), (4, []), (5, []), (6, []), (7, []), (8, []), (9, []), (10, []), (11, []), (12, []), (13, []), (14, []), (15, []), (16, []), (17, []), (18, []), (19, []), (20, []), (21, []), (22, []), (23, []), (24, []), (25, []), (26, []), (27, []), (28, [])])]),
  (79, ofL [(3, [(0, []), (1, []), (2, []), (3, []), (4, []), (5, []), (6, []), (7, []), (8, []), (9, []), (10, []), (11, []), (12, []), (13, [])]), (11, [(0, []), (1, []), (2, []), (3, []), (4, []), (5, []), (6, []), (7, []), (8, []), (9, []), (10, []), (11, []), (12, []), (13, []), (14, []), (15, []), (16, []), (17, [])])]),
  (80, ofL [(7, [(0, []), (1, []), (2, []), (3, []), (4, []), (5, []), (6, []), (7, []), (8, []), (9, []), (10, []), (11, []), (12, []), (13, [])])]),
  (82, ofL [(5, [(0, []), (1, []), (2, []), (3, []), (4, []), (5, []), (6, []), (7, []), (8, []), (9, []), (10, []), (11, [])])]),
  (86, ofL [(1, [(0, []), (1, []), (2, []), (3, []), (4, []), (5, []), (6, []), (7, []), (8, []), (9, []), (10, []), (11, []), (12, []), (13, [])])]),
  (87, ofL [(5, [(0, []), (1, []), (2, []), (3, []), (4, []), (5, []), (6, []), (7, []), (8, []), (9, []), (10, [3, 7]), (11, []), (12, [])])]),
  (90, ofL [(0, [(0, []), (1, []), (2, []), (3, []), (4, []), (5, []), (6, []), (7, []), (8, []), (9, [])])]),
  (92, ofL [(3, [(0, []), (1, []), (2, []), (3, []), (4, []), (5, []), (6, []), (7, []), (8, []), (9, [7, 8]), (10, [])])]),
  (109, ofL [(4, [(0, []), (1, []), (2, []), (4, []), (5, []), (3, [1]), (6, []), (7, []), (8, [])])]),
  (115, ofL [(1, [(0, []), (1, []), (2, []), (3, []), (4, []), (5, []), (6, []), (7, []), (8, []), (9, []), (10, []), (11, []), (12, []), (13, []), (14, [])])]),
  (116, ofL [(1, [(0, []), (1, []), (2, []), (3, []), (4, []), (5, []), (6, []), (7, []), (8, []), (9, []), (10, []), (11, []), (12, []), (13, []), (14, []), (15, [])])]),
  (119, ofL [(3, [(0, []), (1, []), (2, []), (3, []), (4, []), (5, []), (6, []), (7, []), (8, []), (9, []), (10, []), (11, []), (12, []), (13, []), (14, []), (15, []), (16, [])])]),
  (122, ofL [(5, [(0, []), (1, []), (2, []), (3, []), (4, []), (5, []), (6, []), (7, []), (8, []), (9, []), (10, []), (11, []), (12, []), (13, [])]), (24, [(0, []), (1, []), (2, []), (3, []), (4, []), (5, []), (6, []), (7, [])])]),
  (124, ofL [(5, [(0, []), (1, []), (2, []), (3, []), (4, []), (5, []), (6, []), (7, []), (8, []), (9, []), (10, []), (11, []), (12, []), (13, [])]), (53, [(0, []), (1, []), (2, []), (3, []), (4, []), (5, []), (6, []), (7, []), (8, []), (9, []), (10, []), (11, []), (12, []), (13, []), (14, []), (15, []), (16, []), (17, [])])]),
  (136, ofL [(4, [(0, []), (1, []), (2, []), (3, []), (4, []), (5, []), (6, [])])]),
  (137, ofL [(0, [(0, []), (1, []), (2, []), (3, []), (4, []), (5, []), (6, []), (7, []), (8, []), (9, []), (10, [])]), (7, [(0, []), (1, []), (3, []), (4, []), (5, []), (6, []), (7, []), (2, [6]), (8, [])])]),
  (142, ofL [(2, [(0, []), (1, []), (2, []), (3, []), (4, []), (5, []), (6, []), (7, []), (8, []), (9, []), (10, [])]), (3, [(0, []), (1, []), (2, []), (3, []), (4, []), (5, []), (6, []), (7, [])]), (7, [(0, []), (1, []), (2, []), (3, []), (4, []), (5, []), (6, []), (7, []), (8, []), (9, []), (10, []), (11, [])]), (8, [(0, []), (1, []), (2, []), (3, []), (4, []), (5, []), (6, []), (7, []), (8, []), (9, []), (10, []), (11, [])]), (9, [(0, []), (1, []), (2, []), (3, []), (4, []), (5, []), (6, []), (7, []), (8, []), (9, []), (10, []), (11, []), (12, [])])]),
  (148, ofL [(7, [(0, []), (1, []), (2, []), (3, []), (4, []), (5, []), (6, []), (7, []), (8, []), (9, []), (10, []), (11, []), (12, []), (13, [])])]),
  (149, ofL [(1, [(0, []), (1, []), (2, []), (3, []), (4, []), (5, []), (6, []), (7, []), (8, []), (9, []), (10, []), (11, []), (12, []), (13, []), (14, []), (15, [])])]),
  (152, ofL [(1, [(0, []), (1, []), (2, []), (3, []), (4, []), (5, []), (6, []), (7, []), (8, []), (9, []), (10, [])])]),
  (153, ofL [(3, [(0, []), (1, []), (2, []), (3, []), (4, []), (5, []), (6, []), (7, []), (8, []), (9, []), (10, []), (11, []), (12, []), (13, [])]), (6, [(0, []), (1, []), (2, []), (3, []), (4, []), (5, []), (6, []), (7, []), (8, []), (9, []), (10, []), (11, []), (12, []), (13, []), (14, []), (15, []), (16, []), (17, []), (18, []), (19, []), (20, []), (21, []), (22, []), (23, []), (24, []), (25, []), (26, [])])]),
  (155, ofL [(1, [(0, []), (1, []), (2, []), (3, []), (4, []), (5, []), (6, []), (7, []), (8, []), (9, [])])]),
  (161, ofL [(4, [(0, []), (1, []), (2, []), (4, []), (5, []), (6, []), (3, [5, 6]), (7, [5, 6]), (8, [])])]),
  (162, ofL [(6, [(0, []), (1, []), (2, []), (3, []), (4, []), (5, []), (6, []), (7, []), (8, []), (9, []), (10, []), (11, []), (12, []), (13, [])])]),
  (166, ofL [(4, [(0, []), (1, []), (2, []), (3, []), (4, []), (5, []), (6, []), (7, []), (8, []), (9, []), (10, []), (11, []), (12, [])])]),
  (174, ofL [(1, [(0, []), (1, []), (2, []), (3, []), (4, []), (5, []), (6, []), (7, []), (8, []), (9, []), (10, []), (11, []), (12, []), (13, []), (14, []), (15, []), (16, []), (17, []), (18, []), (19, []), (20, []), (21, []), (22, []), (23, []), (24, []), (25, []), (26, []), (27, []), (28, []), (29, []), (30, []), (31, []), (32, []), (33, []), (34, []), (35, []), (36, []), (37, []), (38, []), (39, []), (40, []), (41, [])])]),
  (197, ofL [(6, [(0, []), (1, []), (2, []), (3, []), (4, []), (5, []), (6, []), (7, []), (8, [])])]),
  (209, ofL [(4, [(0, []), (1, []), (3, []), (2, [0]), (4, []), (5, [])])])]
noncomputable def exl : List (Nat × String) := [(135, "internal/bytealg.IndexByte"), (164, "internal/bytealg.IndexByteString")]
noncomputable def tb : (Nat → Option CV) → (Nat → List Mm) → Tb := mkB fnt tyl pll exl
theorem mixed : Tryz.prog.follows .mixedOrders = true := by kernel_rfl
theorem exl_ok : ∀ x ∈ exl, ∀ (args : Array Value) (w : World), (callFunc x.1 args).run Tryz.prog w = ((Extern.BytealgIndexByte.indexByte args).run Tryz.prog w).andThen fun v w' => .ok (.value v) w' :=
  List.forall_mem_cons.2 ⟨fun args w => run_callFunc_extern Tryz.func135 (by kernel_rfl) (by kernel_rfl) (by kernel_rfl) (e := Extern.BytealgIndexByte.indexByte) (by kernel_rfl) args w,
  List.forall_mem_cons.2 ⟨fun args w => run_callFunc_extern Tryz.func164 (by kernel_rfl) (by kernel_rfl) (by kernel_rfl) (e := Extern.BytealgIndexByte.indexByte) (by kernel_rfl) args w,
  fun x h => by cases h⟩⟩
end Go.Proofs.YtncledbfkbcigaaGreat.CE
