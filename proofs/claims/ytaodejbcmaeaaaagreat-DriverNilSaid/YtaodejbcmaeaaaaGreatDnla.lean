/- The tables for the evaluator. No statement of the seat is proved here. Written by program (genseat.py). -/
import Derived.Test.YtaodejbcmaeaaaaGreatCe28
import Derived.Test.YtaodejbcmaeaaaaGreatProg
import Derived.KernelRfl
set_option linter.unusedVariables false
set_option linter.unusedSimpArgs false
namespace Go.Proofs.YtaodejbcmaeaaaaGreat.CE
open Go Go.RowKit
noncomputable def fnt448 : List (Nat × Func) := List.cons (448, Tryz.f448) []
theorem fnt_ok448 : ∀ x ∈ fnt448, FnOk Tryz.prog x := fn_cons Tryz.func448 Tryz.call448 (fun x h => by cases h)
noncomputable def fnt447 : List (Nat × Func) := List.cons (447, Tryz.f447) fnt448
theorem fnt_ok447 : ∀ x ∈ fnt447, FnOk Tryz.prog x := fn_cons Tryz.func447 Tryz.call447 fnt_ok448
noncomputable def fnt446 : List (Nat × Func) := List.cons (446, Tryz.f446) fnt447
theorem fnt_ok446 : ∀ x ∈ fnt446, FnOk Tryz.prog x := fn_cons Tryz.func446 Tryz.call446 fnt_ok447
noncomputable def fnt434 : List (Nat × Func) := List.cons (434, Tryz.f434) fnt446
theorem fnt_ok434 : ∀ x ∈ fnt434, FnOk Tryz.prog x := fn_cons Tryz.func434 Tryz.call434 fnt_ok446
noncomputable def fnt433 : List (Nat × Func) := List.cons (433, Tryz.f433) fnt434
theorem fnt_ok433 : ∀ x ∈ fnt433, FnOk Tryz.prog x := fn_cons Tryz.func433 Tryz.call433 fnt_ok434
noncomputable def fnt432 : List (Nat × Func) := List.cons (432, Tryz.f432) fnt433
theorem fnt_ok432 : ∀ x ∈ fnt432, FnOk Tryz.prog x := fn_cons Tryz.func432 Tryz.call432 fnt_ok433
noncomputable def fnt368 : List (Nat × Func) := List.cons (368, Tryz.f368) fnt432
theorem fnt_ok368 : ∀ x ∈ fnt368, FnOk Tryz.prog x := fn_cons Tryz.func368 Tryz.call368 fnt_ok432
noncomputable def fnt356 : List (Nat × Func) := List.cons (356, Tryz.f356) fnt368
theorem fnt_ok356 : ∀ x ∈ fnt356, FnOk Tryz.prog x := fn_cons Tryz.func356 Tryz.call356 fnt_ok368
noncomputable def fnt355 : List (Nat × Func) := List.cons (355, Tryz.f355) fnt356
theorem fnt_ok355 : ∀ x ∈ fnt355, FnOk Tryz.prog x := fn_cons Tryz.func355 Tryz.call355 fnt_ok356
noncomputable def fnt341 : List (Nat × Func) := List.cons (341, Tryz.f341) fnt355
theorem fnt_ok341 : ∀ x ∈ fnt341, FnOk Tryz.prog x := fn_cons Tryz.func341 Tryz.call341 fnt_ok355
noncomputable def fnt335 : List (Nat × Func) := List.cons (335, Tryz.f335) fnt341
theorem fnt_ok335 : ∀ x ∈ fnt335, FnOk Tryz.prog x := fn_cons Tryz.func335 Tryz.call335 fnt_ok341
noncomputable def fnt334 : List (Nat × Func) := List.cons (334, Tryz.f334) fnt335
theorem fnt_ok334 : ∀ x ∈ fnt334, FnOk Tryz.prog x := fn_cons Tryz.func334 Tryz.call334 fnt_ok335
noncomputable def fnt333 : List (Nat × Func) := List.cons (333, Tryz.f333) fnt334
theorem fnt_ok333 : ∀ x ∈ fnt333, FnOk Tryz.prog x := fn_cons Tryz.func333 Tryz.call333 fnt_ok334
noncomputable def fnt332 : List (Nat × Func) := List.cons (332, Tryz.f332) fnt333
theorem fnt_ok332 : ∀ x ∈ fnt332, FnOk Tryz.prog x := fn_cons Tryz.func332 Tryz.call332 fnt_ok333
noncomputable def fnt331 : List (Nat × Func) := List.cons (331, Tryz.f331) fnt332
theorem fnt_ok331 : ∀ x ∈ fnt331, FnOk Tryz.prog x := fn_cons Tryz.func331 Tryz.call331 fnt_ok332
noncomputable def fnt330 : List (Nat × Func) := List.cons (330, Tryz.f330) fnt331
theorem fnt_ok330 : ∀ x ∈ fnt330, FnOk Tryz.prog x := fn_cons Tryz.func330 Tryz.call330 fnt_ok331
noncomputable def fnt329 : List (Nat × Func) := List.cons (329, Tryz.f329) fnt330
theorem fnt_ok329 : ∀ x ∈ fnt329, FnOk Tryz.prog x := fn_cons Tryz.func329 Tryz.call329 fnt_ok330
noncomputable def fnt325 : List (Nat × Func) := List.cons (325, Tryz.f325) fnt329
theorem fnt_ok325 : ∀ x ∈ fnt325, FnOk Tryz.prog x := fn_cons Tryz.func325 Tryz.call325 fnt_ok329
noncomputable def fnt324 : List (Nat × Func) := List.cons (324, Tryz.f324) fnt325
theorem fnt_ok324 : ∀ x ∈ fnt324, FnOk Tryz.prog x := fn_cons Tryz.func324 Tryz.call324 fnt_ok325
noncomputable def fnt315 : List (Nat × Func) := List.cons (315, Tryz.f315) fnt324
theorem fnt_ok315 : ∀ x ∈ fnt315, FnOk Tryz.prog x := fn_cons Tryz.func315 Tryz.call315 fnt_ok324
noncomputable def fnt314 : List (Nat × Func) := List.cons (314, Tryz.f314) fnt315
theorem fnt_ok314 : ∀ x ∈ fnt314, FnOk Tryz.prog x := fn_cons Tryz.func314 Tryz.call314 fnt_ok315
noncomputable def fnt313 : List (Nat × Func) := List.cons (313, Tryz.f313) fnt314
theorem fnt_ok313 : ∀ x ∈ fnt313, FnOk Tryz.prog x := fn_cons Tryz.func313 Tryz.call313 fnt_ok314
noncomputable def fnt311 : List (Nat × Func) := List.cons (311, Tryz.f311) fnt313
theorem fnt_ok311 : ∀ x ∈ fnt311, FnOk Tryz.prog x := fn_cons Tryz.func311 Tryz.call311 fnt_ok313
noncomputable def fnt310 : List (Nat × Func) := List.cons (310, Tryz.f310) fnt311
theorem fnt_ok310 : ∀ x ∈ fnt310, FnOk Tryz.prog x := fn_cons Tryz.func310 Tryz.call310 fnt_ok311
noncomputable def fnt309 : List (Nat × Func) := List.cons (309, Tryz.f309) fnt310
theorem fnt_ok309 : ∀ x ∈ fnt309, FnOk Tryz.prog x := fn_cons Tryz.func309 Tryz.call309 fnt_ok310
noncomputable def fnt308 : List (Nat × Func) := List.cons (308, Tryz.f308) fnt309
theorem fnt_ok308 : ∀ x ∈ fnt308, FnOk Tryz.prog x := fn_cons Tryz.func308 Tryz.call308 fnt_ok309
noncomputable def fnt307 : List (Nat × Func) := List.cons (307, Tryz.f307) fnt308
theorem fnt_ok307 : ∀ x ∈ fnt307, FnOk Tryz.prog x := fn_cons Tryz.func307 Tryz.call307 fnt_ok308
noncomputable def fnt306 : List (Nat × Func) := List.cons (306, Tryz.f306) fnt307
theorem fnt_ok306 : ∀ x ∈ fnt306, FnOk Tryz.prog x := fn_cons Tryz.func306 Tryz.call306 fnt_ok307
noncomputable def fnt305 : List (Nat × Func) := List.cons (305, Tryz.f305) fnt306
theorem fnt_ok305 : ∀ x ∈ fnt305, FnOk Tryz.prog x := fn_cons Tryz.func305 Tryz.call305 fnt_ok306
noncomputable def fnt304 : List (Nat × Func) := List.cons (304, Tryz.f304) fnt305
theorem fnt_ok304 : ∀ x ∈ fnt304, FnOk Tryz.prog x := fn_cons Tryz.func304 Tryz.call304 fnt_ok305
noncomputable def fnt302 : List (Nat × Func) := List.cons (302, Tryz.f302) fnt304
theorem fnt_ok302 : ∀ x ∈ fnt302, FnOk Tryz.prog x := fn_cons Tryz.func302 Tryz.call302 fnt_ok304
noncomputable def fnt301 : List (Nat × Func) := List.cons (301, Tryz.f301) fnt302
theorem fnt_ok301 : ∀ x ∈ fnt301, FnOk Tryz.prog x := fn_cons Tryz.func301 Tryz.call301 fnt_ok302
noncomputable def fnt300 : List (Nat × Func) := List.cons (300, Tryz.f300) fnt301
theorem fnt_ok300 : ∀ x ∈ fnt300, FnOk Tryz.prog x := fn_cons Tryz.func300 Tryz.call300 fnt_ok301
noncomputable def fnt299 : List (Nat × Func) := List.cons (299, Tryz.f299) fnt300
theorem fnt_ok299 : ∀ x ∈ fnt299, FnOk Tryz.prog x := fn_cons Tryz.func299 Tryz.call299 fnt_ok300
noncomputable def fnt298 : List (Nat × Func) := List.cons (298, Tryz.f298) fnt299
theorem fnt_ok298 : ∀ x ∈ fnt298, FnOk Tryz.prog x := fn_cons Tryz.func298 Tryz.call298 fnt_ok299
noncomputable def fnt297 : List (Nat × Func) := List.cons (297, Tryz.f297) fnt298
theorem fnt_ok297 : ∀ x ∈ fnt297, FnOk Tryz.prog x := fn_cons Tryz.func297 Tryz.call297 fnt_ok298
noncomputable def fnt296 : List (Nat × Func) := List.cons (296, Tryz.f296) fnt297
theorem fnt_ok296 : ∀ x ∈ fnt296, FnOk Tryz.prog x := fn_cons Tryz.func296 Tryz.call296 fnt_ok297
noncomputable def fnt292 : List (Nat × Func) := List.cons (292, Tryz.f292) fnt296
theorem fnt_ok292 : ∀ x ∈ fnt292, FnOk Tryz.prog x := fn_cons Tryz.func292 Tryz.call292 fnt_ok296
noncomputable def fnt284 : List (Nat × Func) := List.cons (284, Tryz.f284) fnt292
theorem fnt_ok284 : ∀ x ∈ fnt284, FnOk Tryz.prog x := fn_cons Tryz.func284 Tryz.call284 fnt_ok292
noncomputable def fnt283 : List (Nat × Func) := List.cons (283, Tryz.f283) fnt284
theorem fnt_ok283 : ∀ x ∈ fnt283, FnOk Tryz.prog x := fn_cons Tryz.func283 Tryz.call283 fnt_ok284
noncomputable def fnt282 : List (Nat × Func) := List.cons (282, Tryz.f282) fnt283
theorem fnt_ok282 : ∀ x ∈ fnt282, FnOk Tryz.prog x := fn_cons Tryz.func282 Tryz.call282 fnt_ok283
noncomputable def fnt281 : List (Nat × Func) := List.cons (281, Tryz.f281) fnt282
theorem fnt_ok281 : ∀ x ∈ fnt281, FnOk Tryz.prog x := fn_cons Tryz.func281 Tryz.call281 fnt_ok282
noncomputable def fnt276 : List (Nat × Func) := List.cons (276, Tryz.f276) fnt281
theorem fnt_ok276 : ∀ x ∈ fnt276, FnOk Tryz.prog x := fn_cons Tryz.func276 Tryz.call276 fnt_ok281
noncomputable def fnt275 : List (Nat × Func) := List.cons (275, Tryz.f275) fnt276
theorem fnt_ok275 : ∀ x ∈ fnt275, FnOk Tryz.prog x := fn_cons Tryz.func275 Tryz.call275 fnt_ok276
noncomputable def fnt274 : List (Nat × Func) := List.cons (274, Tryz.f274) fnt275
theorem fnt_ok274 : ∀ x ∈ fnt274, FnOk Tryz.prog x := fn_cons Tryz.func274 Tryz.call274 fnt_ok275
noncomputable def fnt273 : List (Nat × Func) := List.cons (273, Tryz.f273) fnt274
theorem fnt_ok273 : ∀ x ∈ fnt273, FnOk Tryz.prog x := fn_cons Tryz.func273 Tryz.call273 fnt_ok274
noncomputable def fnt264 : List (Nat × Func) := List.cons (264, Tryz.f264) fnt273
theorem fnt_ok264 : ∀ x ∈ fnt264, FnOk Tryz.prog x := fn_cons Tryz.func264 Tryz.call264 fnt_ok273
noncomputable def fnt263 : List (Nat × Func) := List.cons (263, Tryz.f263) fnt264
theorem fnt_ok263 : ∀ x ∈ fnt263, FnOk Tryz.prog x := fn_cons Tryz.func263 Tryz.call263 fnt_ok264
noncomputable def fnt258 : List (Nat × Func) := List.cons (258, Tryz.f258) fnt263
theorem fnt_ok258 : ∀ x ∈ fnt258, FnOk Tryz.prog x := fn_cons Tryz.func258 Tryz.call258 fnt_ok263
noncomputable def fnt257 : List (Nat × Func) := List.cons (257, Tryz.f257) fnt258
theorem fnt_ok257 : ∀ x ∈ fnt257, FnOk Tryz.prog x := fn_cons Tryz.func257 Tryz.call257 fnt_ok258
noncomputable def fnt256 : List (Nat × Func) := List.cons (256, Tryz.f256) fnt257
theorem fnt_ok256 : ∀ x ∈ fnt256, FnOk Tryz.prog x := fn_cons Tryz.func256 Tryz.call256 fnt_ok257
noncomputable def fnt255 : List (Nat × Func) := List.cons (255, Tryz.f255) fnt256
theorem fnt_ok255 : ∀ x ∈ fnt255, FnOk Tryz.prog x := fn_cons Tryz.func255 Tryz.call255 fnt_ok256
noncomputable def fnt254 : List (Nat × Func) := List.cons (254, Tryz.f254) fnt255
theorem fnt_ok254 : ∀ x ∈ fnt254, FnOk Tryz.prog x := fn_cons Tryz.func254 Tryz.call254 fnt_ok255
noncomputable def fnt253 : List (Nat × Func) := List.cons (253, Tryz.f253) fnt254
theorem fnt_ok253 : ∀ x ∈ fnt253, FnOk Tryz.prog x := fn_cons Tryz.func253 Tryz.call253 fnt_ok254
noncomputable def fnt252 : List (Nat × Func) := List.cons (252, Tryz.f252) fnt253
theorem fnt_ok252 : ∀ x ∈ fnt252, FnOk Tryz.prog x := fn_cons Tryz.func252 Tryz.call252 fnt_ok253
noncomputable def fnt251 : List (Nat × Func) := List.cons (251, Tryz.f251) fnt252
theorem fnt_ok251 : ∀ x ∈ fnt251, FnOk Tryz.prog x := fn_cons Tryz.func251 Tryz.call251 fnt_ok252
noncomputable def fnt250 : List (Nat × Func) := List.cons (250, Tryz.f250) fnt251
theorem fnt_ok250 : ∀ x ∈ fnt250, FnOk Tryz.prog x := fn_cons Tryz.func250 Tryz.call250 fnt_ok251
noncomputable def fnt248 : List (Nat × Func) := List.cons (248, Tryz.f248) fnt250
theorem fnt_ok248 : ∀ x ∈ fnt248, FnOk Tryz.prog x := fn_cons Tryz.func248 Tryz.call248 fnt_ok250
noncomputable def fnt246 : List (Nat × Func) := List.cons (246, Tryz.f246) fnt248
theorem fnt_ok246 : ∀ x ∈ fnt246, FnOk Tryz.prog x := fn_cons Tryz.func246 Tryz.call246 fnt_ok248
noncomputable def fnt242 : List (Nat × Func) := List.cons (242, Tryz.f242) fnt246
theorem fnt_ok242 : ∀ x ∈ fnt242, FnOk Tryz.prog x := fn_cons Tryz.func242 Tryz.call242 fnt_ok246
noncomputable def fnt235 : List (Nat × Func) := List.cons (235, Tryz.f235) fnt242
theorem fnt_ok235 : ∀ x ∈ fnt235, FnOk Tryz.prog x := fn_cons Tryz.func235 Tryz.call235 fnt_ok242
noncomputable def fnt234 : List (Nat × Func) := List.cons (234, Tryz.f234) fnt235
theorem fnt_ok234 : ∀ x ∈ fnt234, FnOk Tryz.prog x := fn_cons Tryz.func234 Tryz.call234 fnt_ok235
noncomputable def fnt233 : List (Nat × Func) := List.cons (233, Tryz.f233) fnt234
theorem fnt_ok233 : ∀ x ∈ fnt233, FnOk Tryz.prog x := fn_cons Tryz.func233 Tryz.call233 fnt_ok234
noncomputable def fnt232 : List (Nat × Func) := List.cons (232, Tryz.f232) fnt233
theorem fnt_ok232 : ∀ x ∈ fnt232, FnOk Tryz.prog x := fn_cons Tryz.func232 Tryz.call232 fnt_ok233
noncomputable def fnt230 : List (Nat × Func) := List.cons (230, Tryz.f230) fnt232
theorem fnt_ok230 : ∀ x ∈ fnt230, FnOk Tryz.prog x := fn_cons Tryz.func230 Tryz.call230 fnt_ok232
noncomputable def fnt229 : List (Nat × Func) := List.cons (229, Tryz.f229) fnt230
theorem fnt_ok229 : ∀ x ∈ fnt229, FnOk Tryz.prog x := fn_cons Tryz.func229 Tryz.call229 fnt_ok230
noncomputable def fnt228 : List (Nat × Func) := List.cons (228, Tryz.f228) fnt229
theorem fnt_ok228 : ∀ x ∈ fnt228, FnOk Tryz.prog x := fn_cons Tryz.func228 Tryz.call228 fnt_ok229
noncomputable def fnt226 : List (Nat × Func) := List.cons (226, Tryz.f226) fnt228
theorem fnt_ok226 : ∀ x ∈ fnt226, FnOk Tryz.prog x := fn_cons Tryz.func226 Tryz.call226 fnt_ok228
noncomputable def fnt225 : List (Nat × Func) := List.cons (225, Tryz.f225) fnt226
theorem fnt_ok225 : ∀ x ∈ fnt225, FnOk Tryz.prog x := fn_cons Tryz.func225 Tryz.call225 fnt_ok226
noncomputable def fnt221 : List (Nat × Func) := List.cons (221, Tryz.f221) fnt225
theorem fnt_ok221 : ∀ x ∈ fnt221, FnOk Tryz.prog x := fn_cons Tryz.func221 Tryz.call221 fnt_ok225
noncomputable def fnt220 : List (Nat × Func) := List.cons (220, Tryz.f220) fnt221
theorem fnt_ok220 : ∀ x ∈ fnt220, FnOk Tryz.prog x := fn_cons Tryz.func220 Tryz.call220 fnt_ok221
noncomputable def fnt210 : List (Nat × Func) := List.cons (210, Tryz.f210) fnt220
theorem fnt_ok210 : ∀ x ∈ fnt210, FnOk Tryz.prog x := fn_cons Tryz.func210 Tryz.call210 fnt_ok220
noncomputable def fnt209 : List (Nat × Func) := List.cons (209, Tryz.f209) fnt210
theorem fnt_ok209 : ∀ x ∈ fnt209, FnOk Tryz.prog x := fn_cons Tryz.func209 Tryz.call209 fnt_ok210
noncomputable def fnt208 : List (Nat × Func) := List.cons (208, Tryz.f208) fnt209
theorem fnt_ok208 : ∀ x ∈ fnt208, FnOk Tryz.prog x := fn_cons Tryz.func208 Tryz.call208 fnt_ok209
noncomputable def fnt207 : List (Nat × Func) := List.cons (207, Tryz.f207) fnt208
theorem fnt_ok207 : ∀ x ∈ fnt207, FnOk Tryz.prog x := fn_cons Tryz.func207 Tryz.call207 fnt_ok208
noncomputable def fnt205 : List (Nat × Func) := List.cons (205, Tryz.f205) fnt207
theorem fnt_ok205 : ∀ x ∈ fnt205, FnOk Tryz.prog x := fn_cons Tryz.func205 Tryz.call205 fnt_ok207
noncomputable def fnt200 : List (Nat × Func) := List.cons (200, Tryz.f200) fnt205
theorem fnt_ok200 : ∀ x ∈ fnt200, FnOk Tryz.prog x := fn_cons Tryz.func200 Tryz.call200 fnt_ok205
noncomputable def fnt199 : List (Nat × Func) := List.cons (199, Tryz.f199) fnt200
theorem fnt_ok199 : ∀ x ∈ fnt199, FnOk Tryz.prog x := fn_cons Tryz.func199 Tryz.call199 fnt_ok200
noncomputable def fnt198 : List (Nat × Func) := List.cons (198, Tryz.f198) fnt199
theorem fnt_ok198 : ∀ x ∈ fnt198, FnOk Tryz.prog x := fn_cons Tryz.func198 Tryz.call198 fnt_ok199
noncomputable def fnt196 : List (Nat × Func) := List.cons (196, Tryz.f196) fnt198
theorem fnt_ok196 : ∀ x ∈ fnt196, FnOk Tryz.prog x := fn_cons Tryz.func196 Tryz.call196 fnt_ok198
noncomputable def fnt195 : List (Nat × Func) := List.cons (195, Tryz.f195) fnt196
theorem fnt_ok195 : ∀ x ∈ fnt195, FnOk Tryz.prog x := fn_cons Tryz.func195 Tryz.call195 fnt_ok196
noncomputable def fnt192 : List (Nat × Func) := List.cons (192, Tryz.f192) fnt195
theorem fnt_ok192 : ∀ x ∈ fnt192, FnOk Tryz.prog x := fn_cons Tryz.func192 Tryz.call192 fnt_ok195
noncomputable def fnt191 : List (Nat × Func) := List.cons (191, Tryz.f191) fnt192
theorem fnt_ok191 : ∀ x ∈ fnt191, FnOk Tryz.prog x := fn_cons Tryz.func191 Tryz.call191 fnt_ok192
noncomputable def fnt189 : List (Nat × Func) := List.cons (189, Tryz.f189) fnt191
theorem fnt_ok189 : ∀ x ∈ fnt189, FnOk Tryz.prog x := fn_cons Tryz.func189 Tryz.call189 fnt_ok191
noncomputable def fnt188 : List (Nat × Func) := List.cons (188, Tryz.f188) fnt189
theorem fnt_ok188 : ∀ x ∈ fnt188, FnOk Tryz.prog x := fn_cons Tryz.func188 Tryz.call188 fnt_ok189
noncomputable def fnt187 : List (Nat × Func) := List.cons (187, Tryz.f187) fnt188
theorem fnt_ok187 : ∀ x ∈ fnt187, FnOk Tryz.prog x := fn_cons Tryz.func187 Tryz.call187 fnt_ok188
noncomputable def fnt184 : List (Nat × Func) := List.cons (184, Tryz.f184) fnt187
theorem fnt_ok184 : ∀ x ∈ fnt184, FnOk Tryz.prog x := fn_cons Tryz.func184 Tryz.call184 fnt_ok187
noncomputable def fnt182 : List (Nat × Func) := List.cons (182, Tryz.f182) fnt184
theorem fnt_ok182 : ∀ x ∈ fnt182, FnOk Tryz.prog x := fn_cons Tryz.func182 Tryz.call182 fnt_ok184
noncomputable def fnt181 : List (Nat × Func) := List.cons (181, Tryz.f181) fnt182
theorem fnt_ok181 : ∀ x ∈ fnt181, FnOk Tryz.prog x := fn_cons Tryz.func181 Tryz.call181 fnt_ok182
noncomputable def fnt176 : List (Nat × Func) := List.cons (176, Tryz.f176) fnt181
theorem fnt_ok176 : ∀ x ∈ fnt176, FnOk Tryz.prog x := fn_cons Tryz.func176 Tryz.call176 fnt_ok181
noncomputable def fnt175 : List (Nat × Func) := List.cons (175, Tryz.f175) fnt176
theorem fnt_ok175 : ∀ x ∈ fnt175, FnOk Tryz.prog x := fn_cons Tryz.func175 Tryz.call175 fnt_ok176
noncomputable def fnt174 : List (Nat × Func) := List.cons (174, Tryz.f174) fnt175
theorem fnt_ok174 : ∀ x ∈ fnt174, FnOk Tryz.prog x := fn_cons Tryz.func174 Tryz.call174 fnt_ok175
noncomputable def fnt173 : List (Nat × Func) := List.cons (173, Tryz.f173) fnt174
theorem fnt_ok173 : ∀ x ∈ fnt173, FnOk Tryz.prog x := fn_cons Tryz.func173 Tryz.call173 fnt_ok174
noncomputable def fnt172 : List (Nat × Func) := List.cons (172, Tryz.f172) fnt173
theorem fnt_ok172 : ∀ x ∈ fnt172, FnOk Tryz.prog x := fn_cons Tryz.func172 Tryz.call172 fnt_ok173
noncomputable def fnt171 : List (Nat × Func) := List.cons (171, Tryz.f171) fnt172
theorem fnt_ok171 : ∀ x ∈ fnt171, FnOk Tryz.prog x := fn_cons Tryz.func171 Tryz.call171 fnt_ok172
noncomputable def fnt170 : List (Nat × Func) := List.cons (170, Tryz.f170) fnt171
theorem fnt_ok170 : ∀ x ∈ fnt170, FnOk Tryz.prog x := fn_cons Tryz.func170 Tryz.call170 fnt_ok171
noncomputable def fnt169 : List (Nat × Func) := List.cons (169, Tryz.f169) fnt170
theorem fnt_ok169 : ∀ x ∈ fnt169, FnOk Tryz.prog x := fn_cons Tryz.func169 Tryz.call169 fnt_ok170
noncomputable def fnt168 : List (Nat × Func) := List.cons (168, Tryz.f168) fnt169
theorem fnt_ok168 : ∀ x ∈ fnt168, FnOk Tryz.prog x := fn_cons Tryz.func168 Tryz.call168 fnt_ok169
noncomputable def fnt167 : List (Nat × Func) := List.cons (167, Tryz.f167) fnt168
theorem fnt_ok167 : ∀ x ∈ fnt167, FnOk Tryz.prog x := fn_cons Tryz.func167 Tryz.call167 fnt_ok168
noncomputable def fnt166 : List (Nat × Func) := List.cons (166, Tryz.f166) fnt167
theorem fnt_ok166 : ∀ x ∈ fnt166, FnOk Tryz.prog x := fn_cons Tryz.func166 Tryz.call166 fnt_ok167
noncomputable def fnt165 : List (Nat × Func) := List.cons (165, Tryz.f165) fnt166
theorem fnt_ok165 : ∀ x ∈ fnt165, FnOk Tryz.prog x := fn_cons Tryz.func165 Tryz.call165 fnt_ok166
noncomputable def fnt164 : List (Nat × Func) := List.cons (164, Tryz.f164) fnt165
theorem fnt_ok164 : ∀ x ∈ fnt164, FnOk Tryz.prog x := fn_cons Tryz.func164 Tryz.call164 fnt_ok165
noncomputable def fnt163 : List (Nat × Func) := List.cons (163, Tryz.f163) fnt164
theorem fnt_ok163 : ∀ x ∈ fnt163, FnOk Tryz.prog x := fn_cons Tryz.func163 Tryz.call163 fnt_ok164
noncomputable def fnt162 : List (Nat × Func) := List.cons (162, Tryz.f162) fnt163
theorem fnt_ok162 : ∀ x ∈ fnt162, FnOk Tryz.prog x := fn_cons Tryz.func162 Tryz.call162 fnt_ok163
noncomputable def fnt161 : List (Nat × Func) := List.cons (161, Tryz.f161) fnt162
theorem fnt_ok161 : ∀ x ∈ fnt161, FnOk Tryz.prog x := fn_cons Tryz.func161 Tryz.call161 fnt_ok162
noncomputable def fnt160 : List (Nat × Func) := List.cons (160, Tryz.f160) fnt161
theorem fnt_ok160 : ∀ x ∈ fnt160, FnOk Tryz.prog x := fn_cons Tryz.func160 Tryz.call160 fnt_ok161
noncomputable def fnt159 : List (Nat × Func) := List.cons (159, Tryz.f159) fnt160
theorem fnt_ok159 : ∀ x ∈ fnt159, FnOk Tryz.prog x := fn_cons Tryz.func159 Tryz.call159 fnt_ok160
noncomputable def fnt158 : List (Nat × Func) := List.cons (158, Tryz.f158) fnt159
theorem fnt_ok158 : ∀ x ∈ fnt158, FnOk Tryz.prog x := fn_cons Tryz.func158 Tryz.call158 fnt_ok159
noncomputable def fnt157 : List (Nat × Func) := List.cons (157, Tryz.f157) fnt158
theorem fnt_ok157 : ∀ x ∈ fnt157, FnOk Tryz.prog x := fn_cons Tryz.func157 Tryz.call157 fnt_ok158
noncomputable def fnt156 : List (Nat × Func) := List.cons (156, Tryz.f156) fnt157
theorem fnt_ok156 : ∀ x ∈ fnt156, FnOk Tryz.prog x := fn_cons Tryz.func156 Tryz.call156 fnt_ok157
noncomputable def fnt155 : List (Nat × Func) := List.cons (155, Tryz.f155) fnt156
theorem fnt_ok155 : ∀ x ∈ fnt155, FnOk Tryz.prog x := fn_cons Tryz.func155 Tryz.call155 fnt_ok156
noncomputable def fnt154 : List (Nat × Func) := List.cons (154, Tryz.f154) fnt155
theorem fnt_ok154 : ∀ x ∈ fnt154, FnOk Tryz.prog x := fn_cons Tryz.func154 Tryz.call154 fnt_ok155
noncomputable def fnt153 : List (Nat × Func) := List.cons (153, Tryz.f153) fnt154
theorem fnt_ok153 : ∀ x ∈ fnt153, FnOk Tryz.prog x := fn_cons Tryz.func153 Tryz.call153 fnt_ok154
noncomputable def fnt152 : List (Nat × Func) := List.cons (152, Tryz.f152) fnt153
theorem fnt_ok152 : ∀ x ∈ fnt152, FnOk Tryz.prog x := fn_cons Tryz.func152 Tryz.call152 fnt_ok153
noncomputable def fnt147 : List (Nat × Func) := List.cons (147, Tryz.f147) fnt152
theorem fnt_ok147 : ∀ x ∈ fnt147, FnOk Tryz.prog x := fn_cons Tryz.func147 Tryz.call147 fnt_ok152
noncomputable def fnt146 : List (Nat × Func) := List.cons (146, Tryz.f146) fnt147
theorem fnt_ok146 : ∀ x ∈ fnt146, FnOk Tryz.prog x := fn_cons Tryz.func146 Tryz.call146 fnt_ok147
noncomputable def fnt141 : List (Nat × Func) := List.cons (141, Tryz.f141) fnt146
theorem fnt_ok141 : ∀ x ∈ fnt141, FnOk Tryz.prog x := fn_cons Tryz.func141 Tryz.call141 fnt_ok146
noncomputable def fnt140 : List (Nat × Func) := List.cons (140, Tryz.f140) fnt141
theorem fnt_ok140 : ∀ x ∈ fnt140, FnOk Tryz.prog x := fn_cons Tryz.func140 Tryz.call140 fnt_ok141
noncomputable def fnt139 : List (Nat × Func) := List.cons (139, Tryz.f139) fnt140
theorem fnt_ok139 : ∀ x ∈ fnt139, FnOk Tryz.prog x := fn_cons Tryz.func139 Tryz.call139 fnt_ok140
noncomputable def fnt138 : List (Nat × Func) := List.cons (138, Tryz.f138) fnt139
theorem fnt_ok138 : ∀ x ∈ fnt138, FnOk Tryz.prog x := fn_cons Tryz.func138 Tryz.call138 fnt_ok139
noncomputable def fnt137 : List (Nat × Func) := List.cons (137, Tryz.f137) fnt138
theorem fnt_ok137 : ∀ x ∈ fnt137, FnOk Tryz.prog x := fn_cons Tryz.func137 Tryz.call137 fnt_ok138
noncomputable def fnt136 : List (Nat × Func) := List.cons (136, Tryz.f136) fnt137
theorem fnt_ok136 : ∀ x ∈ fnt136, FnOk Tryz.prog x := fn_cons Tryz.func136 Tryz.call136 fnt_ok137
noncomputable def fnt135 : List (Nat × Func) := List.cons (135, Tryz.f135) fnt136
theorem fnt_ok135 : ∀ x ∈ fnt135, FnOk Tryz.prog x := fn_cons Tryz.func135 Tryz.call135 fnt_ok136
noncomputable def fnt134 : List (Nat × Func) := List.cons (134, Tryz.f134) fnt135
theorem fnt_ok134 : ∀ x ∈ fnt134, FnOk Tryz.prog x := fn_cons Tryz.func134 Tryz.call134 fnt_ok135
noncomputable def fnt131 : List (Nat × Func) := List.cons (131, Tryz.f131) fnt134
theorem fnt_ok131 : ∀ x ∈ fnt131, FnOk Tryz.prog x := fn_cons Tryz.func131 Tryz.call131 fnt_ok134
noncomputable def fnt130 : List (Nat × Func) := List.cons (130, Tryz.f130) fnt131
theorem fnt_ok130 : ∀ x ∈ fnt130, FnOk Tryz.prog x := fn_cons Tryz.func130 Tryz.call130 fnt_ok131
noncomputable def fnt129 : List (Nat × Func) := List.cons (129, Tryz.f129) fnt130
theorem fnt_ok129 : ∀ x ∈ fnt129, FnOk Tryz.prog x := fn_cons Tryz.func129 Tryz.call129 fnt_ok130
noncomputable def fnt128 : List (Nat × Func) := List.cons (128, Tryz.f128) fnt129
theorem fnt_ok128 : ∀ x ∈ fnt128, FnOk Tryz.prog x := fn_cons Tryz.func128 Tryz.call128 fnt_ok129
noncomputable def fnt120 : List (Nat × Func) := List.cons (120, Tryz.f120) fnt128
theorem fnt_ok120 : ∀ x ∈ fnt120, FnOk Tryz.prog x := fn_cons Tryz.func120 Tryz.call120 fnt_ok128
noncomputable def fnt119 : List (Nat × Func) := List.cons (119, Tryz.f119) fnt120
theorem fnt_ok119 : ∀ x ∈ fnt119, FnOk Tryz.prog x := fn_cons Tryz.func119 Tryz.call119 fnt_ok120
noncomputable def fnt118 : List (Nat × Func) := List.cons (118, Tryz.f118) fnt119
theorem fnt_ok118 : ∀ x ∈ fnt118, FnOk Tryz.prog x := fn_cons Tryz.func118 Tryz.call118 fnt_ok119
noncomputable def fnt117 : List (Nat × Func) := List.cons (117, Tryz.f117) fnt118
theorem fnt_ok117 : ∀ x ∈ fnt117, FnOk Tryz.prog x := fn_cons Tryz.func117 Tryz.call117 fnt_ok118
noncomputable def fnt116 : List (Nat × Func) := List.cons (116, Tryz.f116) fnt117
theorem fnt_ok116 : ∀ x ∈ fnt116, FnOk Tryz.prog x := fn_cons Tryz.func116 Tryz.call116 fnt_ok117
noncomputable def fnt115 : List (Nat × Func) := List.cons (115, Tryz.f115) fnt116
theorem fnt_ok115 : ∀ x ∈ fnt115, FnOk Tryz.prog x := fn_cons Tryz.func115 Tryz.call115 fnt_ok116
noncomputable def fnt114 : List (Nat × Func) := List.cons (114, Tryz.f114) fnt115
theorem fnt_ok114 : ∀ x ∈ fnt114, FnOk Tryz.prog x := fn_cons Tryz.func114 Tryz.call114 fnt_ok115
noncomputable def fnt113 : List (Nat × Func) := List.cons (113, Tryz.f113) fnt114
theorem fnt_ok113 : ∀ x ∈ fnt113, FnOk Tryz.prog x := fn_cons Tryz.func113 Tryz.call113 fnt_ok114
noncomputable def fnt112 : List (Nat × Func) := List.cons (112, Tryz.f112) fnt113
theorem fnt_ok112 : ∀ x ∈ fnt112, FnOk Tryz.prog x := fn_cons Tryz.func112 Tryz.call112 fnt_ok113
noncomputable def fnt111 : List (Nat × Func) := List.cons (111, Tryz.f111) fnt112
theorem fnt_ok111 : ∀ x ∈ fnt111, FnOk Tryz.prog x := fn_cons Tryz.func111 Tryz.call111 fnt_ok112
noncomputable def fnt110 : List (Nat × Func) := List.cons (110, Tryz.f110) fnt111
theorem fnt_ok110 : ∀ x ∈ fnt110, FnOk Tryz.prog x := fn_cons Tryz.func110 Tryz.call110 fnt_ok111
noncomputable def fnt109 : List (Nat × Func) := List.cons (109, Tryz.f109) fnt110
theorem fnt_ok109 : ∀ x ∈ fnt109, FnOk Tryz.prog x := fn_cons Tryz.func109 Tryz.call109 fnt_ok110
noncomputable def fnt108 : List (Nat × Func) := List.cons (108, Tryz.f108) fnt109
theorem fnt_ok108 : ∀ x ∈ fnt108, FnOk Tryz.prog x := fn_cons Tryz.func108 Tryz.call108 fnt_ok109
noncomputable def fnt107 : List (Nat × Func) := List.cons (107, Tryz.f107) fnt108
theorem fnt_ok107 : ∀ x ∈ fnt107, FnOk Tryz.prog x := fn_cons Tryz.func107 Tryz.call107 fnt_ok108
noncomputable def fnt106 : List (Nat × Func) := List.cons (106, Tryz.f106) fnt107
theorem fnt_ok106 : ∀ x ∈ fnt106, FnOk Tryz.prog x := fn_cons Tryz.func106 Tryz.call106 fnt_ok107
noncomputable def fnt105 : List (Nat × Func) := List.cons (105, Tryz.f105) fnt106
theorem fnt_ok105 : ∀ x ∈ fnt105, FnOk Tryz.prog x := fn_cons Tryz.func105 Tryz.call105 fnt_ok106
noncomputable def fnt104 : List (Nat × Func) := List.cons (104, Tryz.f104) fnt105
theorem fnt_ok104 : ∀ x ∈ fnt104, FnOk Tryz.prog x := fn_cons Tryz.func104 Tryz.call104 fnt_ok105
noncomputable def fnt103 : List (Nat × Func) := List.cons (103, Tryz.f103) fnt104
theorem fnt_ok103 : ∀ x ∈ fnt103, FnOk Tryz.prog x := fn_cons Tryz.func103 Tryz.call103 fnt_ok104
noncomputable def fnt102 : List (Nat × Func) := List.cons (102, Tryz.f102) fnt103
theorem fnt_ok102 : ∀ x ∈ fnt102, FnOk Tryz.prog x := fn_cons Tryz.func102 Tryz.call102 fnt_ok103
noncomputable def fnt101 : List (Nat × Func) := List.cons (101, Tryz.f101) fnt102
theorem fnt_ok101 : ∀ x ∈ fnt101, FnOk Tryz.prog x := fn_cons Tryz.func101 Tryz.call101 fnt_ok102
noncomputable def fnt99 : List (Nat × Func) := List.cons (99, Tryz.f99) fnt101
theorem fnt_ok99 : ∀ x ∈ fnt99, FnOk Tryz.prog x := fn_cons Tryz.func99 Tryz.call99 fnt_ok101
noncomputable def fnt98 : List (Nat × Func) := List.cons (98, Tryz.f98) fnt99
theorem fnt_ok98 : ∀ x ∈ fnt98, FnOk Tryz.prog x := fn_cons Tryz.func98 Tryz.call98 fnt_ok99
noncomputable def fnt97 : List (Nat × Func) := List.cons (97, Tryz.f97) fnt98
theorem fnt_ok97 : ∀ x ∈ fnt97, FnOk Tryz.prog x := fn_cons Tryz.func97 Tryz.call97 fnt_ok98
noncomputable def fnt96 : List (Nat × Func) := List.cons (96, Tryz.f96) fnt97
theorem fnt_ok96 : ∀ x ∈ fnt96, FnOk Tryz.prog x := fn_cons Tryz.func96 Tryz.call96 fnt_ok97
noncomputable def fnt95 : List (Nat × Func) := List.cons (95, Tryz.f95) fnt96
theorem fnt_ok95 : ∀ x ∈ fnt95, FnOk Tryz.prog x := fn_cons Tryz.func95 Tryz.call95 fnt_ok96
noncomputable def fnt94 : List (Nat × Func) := List.cons (94, Tryz.f94) fnt95
theorem fnt_ok94 : ∀ x ∈ fnt94, FnOk Tryz.prog x := fn_cons Tryz.func94 Tryz.call94 fnt_ok95
noncomputable def fnt93 : List (Nat × Func) := List.cons (93, Tryz.f93) fnt94
theorem fnt_ok93 : ∀ x ∈ fnt93, FnOk Tryz.prog x := fn_cons Tryz.func93 Tryz.call93 fnt_ok94
noncomputable def fnt92 : List (Nat × Func) := List.cons (92, Tryz.f92) fnt93
theorem fnt_ok92 : ∀ x ∈ fnt92, FnOk Tryz.prog x := fn_cons Tryz.func92 Tryz.call92 fnt_ok93
noncomputable def fnt91 : List (Nat × Func) := List.cons (91, Tryz.f91) fnt92
theorem fnt_ok91 : ∀ x ∈ fnt91, FnOk Tryz.prog x := fn_cons Tryz.func91 Tryz.call91 fnt_ok92
noncomputable def fnt90 : List (Nat × Func) := List.cons (90, Tryz.f90) fnt91
theorem fnt_ok90 : ∀ x ∈ fnt90, FnOk Tryz.prog x := fn_cons Tryz.func90 Tryz.call90 fnt_ok91
noncomputable def fnt89 : List (Nat × Func) := List.cons (89, Tryz.f89) fnt90
theorem fnt_ok89 : ∀ x ∈ fnt89, FnOk Tryz.prog x := fn_cons Tryz.func89 Tryz.call89 fnt_ok90
noncomputable def fnt88 : List (Nat × Func) := List.cons (88, Tryz.f88) fnt89
theorem fnt_ok88 : ∀ x ∈ fnt88, FnOk Tryz.prog x := fn_cons Tryz.func88 Tryz.call88 fnt_ok89
noncomputable def fnt87 : List (Nat × Func) := List.cons (87, Tryz.f87) fnt88
theorem fnt_ok87 : ∀ x ∈ fnt87, FnOk Tryz.prog x := fn_cons Tryz.func87 Tryz.call87 fnt_ok88
noncomputable def fnt86 : List (Nat × Func) := List.cons (86, Tryz.f86) fnt87
theorem fnt_ok86 : ∀ x ∈ fnt86, FnOk Tryz.prog x := fn_cons Tryz.func86 Tryz.call86 fnt_ok87
noncomputable def fnt85 : List (Nat × Func) := List.cons (85, Tryz.f85) fnt86
theorem fnt_ok85 : ∀ x ∈ fnt85, FnOk Tryz.prog x := fn_cons Tryz.func85 Tryz.call85 fnt_ok86
noncomputable def fnt84 : List (Nat × Func) := List.cons (84, Tryz.f84) fnt85
theorem fnt_ok84 : ∀ x ∈ fnt84, FnOk Tryz.prog x := fn_cons Tryz.func84 Tryz.call84 fnt_ok85
noncomputable def fnt80 : List (Nat × Func) := List.cons (80, Tryz.f80) fnt84
theorem fnt_ok80 : ∀ x ∈ fnt80, FnOk Tryz.prog x := fn_cons Tryz.func80 Tryz.call80 fnt_ok84
noncomputable def fnt78 : List (Nat × Func) := List.cons (78, Tryz.f78) fnt80
theorem fnt_ok78 : ∀ x ∈ fnt78, FnOk Tryz.prog x := fn_cons Tryz.func78 Tryz.call78 fnt_ok80
noncomputable def fnt77 : List (Nat × Func) := List.cons (77, Tryz.f77) fnt78
theorem fnt_ok77 : ∀ x ∈ fnt77, FnOk Tryz.prog x := fn_cons Tryz.func77 Tryz.call77 fnt_ok78
noncomputable def fnt76 : List (Nat × Func) := List.cons (76, Tryz.f76) fnt77
theorem fnt_ok76 : ∀ x ∈ fnt76, FnOk Tryz.prog x := fn_cons Tryz.func76 Tryz.call76 fnt_ok77
noncomputable def fnt75 : List (Nat × Func) := List.cons (75, Tryz.f75) fnt76
theorem fnt_ok75 : ∀ x ∈ fnt75, FnOk Tryz.prog x := fn_cons Tryz.func75 Tryz.call75 fnt_ok76
noncomputable def fnt74 : List (Nat × Func) := List.cons (74, Tryz.f74) fnt75
theorem fnt_ok74 : ∀ x ∈ fnt74, FnOk Tryz.prog x := fn_cons Tryz.func74 Tryz.call74 fnt_ok75
noncomputable def fnt73 : List (Nat × Func) := List.cons (73, Tryz.f73) fnt74
theorem fnt_ok73 : ∀ x ∈ fnt73, FnOk Tryz.prog x := fn_cons Tryz.func73 Tryz.call73 fnt_ok74
noncomputable def fnt72 : List (Nat × Func) := List.cons (72, Tryz.f72) fnt73
theorem fnt_ok72 : ∀ x ∈ fnt72, FnOk Tryz.prog x := fn_cons Tryz.func72 Tryz.call72 fnt_ok73
noncomputable def fnt71 : List (Nat × Func) := List.cons (71, Tryz.f71) fnt72
theorem fnt_ok71 : ∀ x ∈ fnt71, FnOk Tryz.prog x := fn_cons Tryz.func71 Tryz.call71 fnt_ok72
noncomputable def fnt70 : List (Nat × Func) := List.cons (70, Tryz.f70) fnt71
theorem fnt_ok70 : ∀ x ∈ fnt70, FnOk Tryz.prog x := fn_cons Tryz.func70 Tryz.call70 fnt_ok71
noncomputable def fnt69 : List (Nat × Func) := List.cons (69, Tryz.f69) fnt70
theorem fnt_ok69 : ∀ x ∈ fnt69, FnOk Tryz.prog x := fn_cons Tryz.func69 Tryz.call69 fnt_ok70
noncomputable def fnt68 : List (Nat × Func) := List.cons (68, Tryz.f68) fnt69
theorem fnt_ok68 : ∀ x ∈ fnt68, FnOk Tryz.prog x := fn_cons Tryz.func68 Tryz.call68 fnt_ok69
noncomputable def fnt67 : List (Nat × Func) := List.cons (67, Tryz.f67) fnt68
theorem fnt_ok67 : ∀ x ∈ fnt67, FnOk Tryz.prog x := fn_cons Tryz.func67 Tryz.call67 fnt_ok68
noncomputable def fnt66 : List (Nat × Func) := List.cons (66, Tryz.f66) fnt67
theorem fnt_ok66 : ∀ x ∈ fnt66, FnOk Tryz.prog x := fn_cons Tryz.func66 Tryz.call66 fnt_ok67
noncomputable def fnt65 : List (Nat × Func) := List.cons (65, Tryz.f65) fnt66
theorem fnt_ok65 : ∀ x ∈ fnt65, FnOk Tryz.prog x := fn_cons Tryz.func65 Tryz.call65 fnt_ok66
noncomputable def fnt63 : List (Nat × Func) := List.cons (63, Tryz.f63) fnt65
theorem fnt_ok63 : ∀ x ∈ fnt63, FnOk Tryz.prog x := fn_cons Tryz.func63 Tryz.call63 fnt_ok65
noncomputable def fnt62 : List (Nat × Func) := List.cons (62, Tryz.f62) fnt63
theorem fnt_ok62 : ∀ x ∈ fnt62, FnOk Tryz.prog x := fn_cons Tryz.func62 Tryz.call62 fnt_ok63
noncomputable def fnt61 : List (Nat × Func) := List.cons (61, Tryz.f61) fnt62
theorem fnt_ok61 : ∀ x ∈ fnt61, FnOk Tryz.prog x := fn_cons Tryz.func61 Tryz.call61 fnt_ok62
noncomputable def fnt60 : List (Nat × Func) := List.cons (60, Tryz.f60) fnt61
theorem fnt_ok60 : ∀ x ∈ fnt60, FnOk Tryz.prog x := fn_cons Tryz.func60 Tryz.call60 fnt_ok61
noncomputable def fnt59 : List (Nat × Func) := List.cons (59, Tryz.f59) fnt60
theorem fnt_ok59 : ∀ x ∈ fnt59, FnOk Tryz.prog x := fn_cons Tryz.func59 Tryz.call59 fnt_ok60
noncomputable def fnt58 : List (Nat × Func) := List.cons (58, Tryz.f58) fnt59
theorem fnt_ok58 : ∀ x ∈ fnt58, FnOk Tryz.prog x := fn_cons Tryz.func58 Tryz.call58 fnt_ok59
noncomputable def fnt57 : List (Nat × Func) := List.cons (57, Tryz.f57) fnt58
theorem fnt_ok57 : ∀ x ∈ fnt57, FnOk Tryz.prog x := fn_cons Tryz.func57 Tryz.call57 fnt_ok58
noncomputable def fnt56 : List (Nat × Func) := List.cons (56, Tryz.f56) fnt57
theorem fnt_ok56 : ∀ x ∈ fnt56, FnOk Tryz.prog x := fn_cons Tryz.func56 Tryz.call56 fnt_ok57
noncomputable def fnt55 : List (Nat × Func) := List.cons (55, Tryz.f55) fnt56
theorem fnt_ok55 : ∀ x ∈ fnt55, FnOk Tryz.prog x := fn_cons Tryz.func55 Tryz.call55 fnt_ok56
noncomputable def fnt54 : List (Nat × Func) := List.cons (54, Tryz.f54) fnt55
theorem fnt_ok54 : ∀ x ∈ fnt54, FnOk Tryz.prog x := fn_cons Tryz.func54 Tryz.call54 fnt_ok55
noncomputable def fnt53 : List (Nat × Func) := List.cons (53, Tryz.f53) fnt54
theorem fnt_ok53 : ∀ x ∈ fnt53, FnOk Tryz.prog x := fn_cons Tryz.func53 Tryz.call53 fnt_ok54
noncomputable def fnt52 : List (Nat × Func) := List.cons (52, Tryz.f52) fnt53
theorem fnt_ok52 : ∀ x ∈ fnt52, FnOk Tryz.prog x := fn_cons Tryz.func52 Tryz.call52 fnt_ok53
noncomputable def fnt51 : List (Nat × Func) := List.cons (51, Tryz.f51) fnt52
theorem fnt_ok51 : ∀ x ∈ fnt51, FnOk Tryz.prog x := fn_cons Tryz.func51 Tryz.call51 fnt_ok52
noncomputable def fnt50 : List (Nat × Func) := List.cons (50, Tryz.f50) fnt51
theorem fnt_ok50 : ∀ x ∈ fnt50, FnOk Tryz.prog x := fn_cons Tryz.func50 Tryz.call50 fnt_ok51
noncomputable def fnt49 : List (Nat × Func) := List.cons (49, Tryz.f49) fnt50
theorem fnt_ok49 : ∀ x ∈ fnt49, FnOk Tryz.prog x := fn_cons Tryz.func49 Tryz.call49 fnt_ok50
noncomputable def fnt48 : List (Nat × Func) := List.cons (48, Tryz.f48) fnt49
theorem fnt_ok48 : ∀ x ∈ fnt48, FnOk Tryz.prog x := fn_cons Tryz.func48 Tryz.call48 fnt_ok49
noncomputable def fnt47 : List (Nat × Func) := List.cons (47, Tryz.f47) fnt48
theorem fnt_ok47 : ∀ x ∈ fnt47, FnOk Tryz.prog x := fn_cons Tryz.func47 Tryz.call47 fnt_ok48
noncomputable def fnt46 : List (Nat × Func) := List.cons (46, Tryz.f46) fnt47
theorem fnt_ok46 : ∀ x ∈ fnt46, FnOk Tryz.prog x := fn_cons Tryz.func46 Tryz.call46 fnt_ok47
noncomputable def fnt45 : List (Nat × Func) := List.cons (45, Tryz.f45) fnt46
theorem fnt_ok45 : ∀ x ∈ fnt45, FnOk Tryz.prog x := fn_cons Tryz.func45 Tryz.call45 fnt_ok46
noncomputable def fnt44 : List (Nat × Func) := List.cons (44, Tryz.f44) fnt45
theorem fnt_ok44 : ∀ x ∈ fnt44, FnOk Tryz.prog x := fn_cons Tryz.func44 Tryz.call44 fnt_ok45
noncomputable def fnt43 : List (Nat × Func) := List.cons (43, Tryz.f43) fnt44
theorem fnt_ok43 : ∀ x ∈ fnt43, FnOk Tryz.prog x := fn_cons Tryz.func43 Tryz.call43 fnt_ok44
noncomputable def fnt42 : List (Nat × Func) := List.cons (42, Tryz.f42) fnt43
theorem fnt_ok42 : ∀ x ∈ fnt42, FnOk Tryz.prog x := fn_cons Tryz.func42 Tryz.call42 fnt_ok43
noncomputable def fnt41 : List (Nat × Func) := List.cons (41, Tryz.f41) fnt42
theorem fnt_ok41 : ∀ x ∈ fnt41, FnOk Tryz.prog x := fn_cons Tryz.func41 Tryz.call41 fnt_ok42
noncomputable def fnt40 : List (Nat × Func) := List.cons (40, Tryz.f40) fnt41
theorem fnt_ok40 : ∀ x ∈ fnt40, FnOk Tryz.prog x := fn_cons Tryz.func40 Tryz.call40 fnt_ok41
noncomputable def fnt39 : List (Nat × Func) := List.cons (39, Tryz.f39) fnt40
theorem fnt_ok39 : ∀ x ∈ fnt39, FnOk Tryz.prog x := fn_cons Tryz.func39 Tryz.call39 fnt_ok40
noncomputable def fnt38 : List (Nat × Func) := List.cons (38, Tryz.f38) fnt39
theorem fnt_ok38 : ∀ x ∈ fnt38, FnOk Tryz.prog x := fn_cons Tryz.func38 Tryz.call38 fnt_ok39
noncomputable def fnt37 : List (Nat × Func) := List.cons (37, Tryz.f37) fnt38
theorem fnt_ok37 : ∀ x ∈ fnt37, FnOk Tryz.prog x := fn_cons Tryz.func37 Tryz.call37 fnt_ok38
noncomputable def fnt36 : List (Nat × Func) := List.cons (36, Tryz.f36) fnt37
theorem fnt_ok36 : ∀ x ∈ fnt36, FnOk Tryz.prog x := fn_cons Tryz.func36 Tryz.call36 fnt_ok37
noncomputable def fnt35 : List (Nat × Func) := List.cons (35, Tryz.f35) fnt36
theorem fnt_ok35 : ∀ x ∈ fnt35, FnOk Tryz.prog x := fn_cons Tryz.func35 Tryz.call35 fnt_ok36
noncomputable def fnt34 : List (Nat × Func) := List.cons (34, Tryz.f34) fnt35
theorem fnt_ok34 : ∀ x ∈ fnt34, FnOk Tryz.prog x := fn_cons Tryz.func34 Tryz.call34 fnt_ok35
noncomputable def fnt33 : List (Nat × Func) := List.cons (33, Tryz.f33) fnt34
theorem fnt_ok33 : ∀ x ∈ fnt33, FnOk Tryz.prog x := fn_cons Tryz.func33 Tryz.call33 fnt_ok34
noncomputable def fnt32 : List (Nat × Func) := List.cons (32, Tryz.f32) fnt33
theorem fnt_ok32 : ∀ x ∈ fnt32, FnOk Tryz.prog x := fn_cons Tryz.func32 Tryz.call32 fnt_ok33
noncomputable def fnt31 : List (Nat × Func) := List.cons (31, Tryz.f31) fnt32
theorem fnt_ok31 : ∀ x ∈ fnt31, FnOk Tryz.prog x := fn_cons Tryz.func31 Tryz.call31 fnt_ok32
noncomputable def fnt30 : List (Nat × Func) := List.cons (30, Tryz.f30) fnt31
theorem fnt_ok30 : ∀ x ∈ fnt30, FnOk Tryz.prog x := fn_cons Tryz.func30 Tryz.call30 fnt_ok31
noncomputable def fnt29 : List (Nat × Func) := List.cons (29, Tryz.f29) fnt30
theorem fnt_ok29 : ∀ x ∈ fnt29, FnOk Tryz.prog x := fn_cons Tryz.func29 Tryz.call29 fnt_ok30
noncomputable def fnt28 : List (Nat × Func) := List.cons (28, Tryz.f28) fnt29
theorem fnt_ok28 : ∀ x ∈ fnt28, FnOk Tryz.prog x := fn_cons Tryz.func28 Tryz.call28 fnt_ok29
noncomputable def fnt27 : List (Nat × Func) := List.cons (27, Tryz.f27) fnt28
theorem fnt_ok27 : ∀ x ∈ fnt27, FnOk Tryz.prog x := fn_cons Tryz.func27 Tryz.call27 fnt_ok28
noncomputable def fnt26 : List (Nat × Func) := List.cons (26, Tryz.f26) fnt27
theorem fnt_ok26 : ∀ x ∈ fnt26, FnOk Tryz.prog x := fn_cons Tryz.func26 Tryz.call26 fnt_ok27
noncomputable def fnt25 : List (Nat × Func) := List.cons (25, Tryz.f25) fnt26
theorem fnt_ok25 : ∀ x ∈ fnt25, FnOk Tryz.prog x := fn_cons Tryz.func25 Tryz.call25 fnt_ok26
noncomputable def fnt24 : List (Nat × Func) := List.cons (24, Tryz.f24) fnt25
theorem fnt_ok24 : ∀ x ∈ fnt24, FnOk Tryz.prog x := fn_cons Tryz.func24 Tryz.call24 fnt_ok25
noncomputable def fnt23 : List (Nat × Func) := List.cons (23, Tryz.f23) fnt24
theorem fnt_ok23 : ∀ x ∈ fnt23, FnOk Tryz.prog x := fn_cons Tryz.func23 Tryz.call23 fnt_ok24
noncomputable def fnt22 : List (Nat × Func) := List.cons (22, Tryz.f22) fnt23
theorem fnt_ok22 : ∀ x ∈ fnt22, FnOk Tryz.prog x := fn_cons Tryz.func22 Tryz.call22 fnt_ok23
noncomputable def fnt20 : List (Nat × Func) := List.cons (20, Tryz.f20) fnt22
theorem fnt_ok20 : ∀ x ∈ fnt20, FnOk Tryz.prog x := fn_cons Tryz.func20 Tryz.call20 fnt_ok22
noncomputable def fnt19 : List (Nat × Func) := List.cons (19, Tryz.f19) fnt20
theorem fnt_ok19 : ∀ x ∈ fnt19, FnOk Tryz.prog x := fn_cons Tryz.func19 Tryz.call19 fnt_ok20
noncomputable def fnt18 : List (Nat × Func) := List.cons (18, Tryz.f18) fnt19
theorem fnt_ok18 : ∀ x ∈ fnt18, FnOk Tryz.prog x := fn_cons Tryz.func18 Tryz.call18 fnt_ok19
noncomputable def fnt17 : List (Nat × Func) := List.cons (17, Tryz.f17) fnt18
theorem fnt_ok17 : ∀ x ∈ fnt17, FnOk Tryz.prog x := fn_cons Tryz.func17 Tryz.call17 fnt_ok18
noncomputable def fnt16 : List (Nat × Func) := List.cons (16, Tryz.f16) fnt17
theorem fnt_ok16 : ∀ x ∈ fnt16, FnOk Tryz.prog x := fn_cons Tryz.func16 Tryz.call16 fnt_ok17
noncomputable def fnt15 : List (Nat × Func) := List.cons (15, Tryz.f15) fnt16
theorem fnt_ok15 : ∀ x ∈ fnt15, FnOk Tryz.prog x := fn_cons Tryz.func15 Tryz.call15 fnt_ok16
noncomputable def fnt14 : List (Nat × Func) := List.cons (14, Tryz.f14) fnt15
theorem fnt_ok14 : ∀ x ∈ fnt14, FnOk Tryz.prog x := fn_cons Tryz.func14 Tryz.call14 fnt_ok15
noncomputable def fnt13 : List (Nat × Func) := List.cons (13, Tryz.f13) fnt14
theorem fnt_ok13 : ∀ x ∈ fnt13, FnOk Tryz.prog x := fn_cons Tryz.func13 Tryz.call13 fnt_ok14
noncomputable def fnt12 : List (Nat × Func) := List.cons (12, Tryz.f12) fnt13
theorem fnt_ok12 : ∀ x ∈ fnt12, FnOk Tryz.prog x := fn_cons Tryz.func12 Tryz.call12 fnt_ok13
noncomputable def fnt11 : List (Nat × Func) := List.cons (11, Tryz.f11) fnt12
theorem fnt_ok11 : ∀ x ∈ fnt11, FnOk Tryz.prog x := fn_cons Tryz.func11 Tryz.call11 fnt_ok12
noncomputable def fnt10 : List (Nat × Func) := List.cons (10, Tryz.f10) fnt11
theorem fnt_ok10 : ∀ x ∈ fnt10, FnOk Tryz.prog x := fn_cons Tryz.func10 Tryz.call10 fnt_ok11
noncomputable def fnt9 : List (Nat × Func) := List.cons (9, Tryz.f9) fnt10
theorem fnt_ok9 : ∀ x ∈ fnt9, FnOk Tryz.prog x := fn_cons Tryz.func9 Tryz.call9 fnt_ok10
noncomputable def fnt8 : List (Nat × Func) := List.cons (8, Tryz.f8) fnt9
theorem fnt_ok8 : ∀ x ∈ fnt8, FnOk Tryz.prog x := fn_cons Tryz.func8 Tryz.call8 fnt_ok9
noncomputable def fnt7 : List (Nat × Func) := List.cons (7, Tryz.f7) fnt8
theorem fnt_ok7 : ∀ x ∈ fnt7, FnOk Tryz.prog x := fn_cons Tryz.func7 Tryz.call7 fnt_ok8
noncomputable def fnt6 : List (Nat × Func) := List.cons (6, Tryz.f6) fnt7
theorem fnt_ok6 : ∀ x ∈ fnt6, FnOk Tryz.prog x := fn_cons Tryz.func6 Tryz.call6 fnt_ok7
noncomputable def fnt5 : List (Nat × Func) := List.cons (5, Tryz.f5) fnt6
theorem fnt_ok5 : ∀ x ∈ fnt5, FnOk Tryz.prog x := fn_cons Tryz.func5 Tryz.call5 fnt_ok6
noncomputable def fnt4 : List (Nat × Func) := List.cons (4, Tryz.f4) fnt5
theorem fnt_ok4 : ∀ x ∈ fnt4, FnOk Tryz.prog x := fn_cons Tryz.func4 Tryz.call4 fnt_ok5
noncomputable def fnt3 : List (Nat × Func) := List.cons (3, Tryz.f3) fnt4
theorem fnt_ok3 : ∀ x ∈ fnt3, FnOk Tryz.prog x := fn_cons Tryz.func3 Tryz.call3 fnt_ok4
noncomputable def fnt : List (Nat × Func) := fnt3
theorem fnt_ok : ∀ x ∈ fnt, FnOk Tryz.prog x := fnt_ok3
/-- The types that the runs look at. -/
noncomputable def tyl : List (Nat × TI) := [
  (2, ⟨(.int .i64), 1, 8, [(.int .i64 (Int.ofNat 0))], false⟩),
  (3, ⟨(.int .i64), 1, 8, [(.int .i64 (Int.ofNat 0))], false⟩),
  (4, ⟨.bool, 1, 1, [(.bool false)], false⟩),
  (5, ⟨(.int .u8), 1, 1, [(.int .u8 (Int.ofNat 0))], false⟩),
  (9, ⟨.str, 1, 16, [(.str [])], false⟩),
  (20, ⟨.iface, 1, 16, [.nilI], false⟩),
  (22, ⟨(.int .i64), 1, 8, [(.int .i64 (Int.ofNat 0))], false⟩),
  (23, ⟨(.slice 5), 1, 24, [.nilS], false⟩),
  (25, ⟨(.struct [(0, 1, 22), (1, 1, 2), (2, 1, 2), (3, 1, 23)]), 4, 48, [(.int .i64 (Int.ofNat 0)), (.int .i64 (Int.ofNat 0)), (.int .i64 (Int.ofNat 0)), .nilS], true⟩),
  (27, ⟨(.ptr 116), 1, 8, [.nilP], false⟩),
  (28, ⟨(.ptr 68), 1, 8, [.nilP], false⟩),
  (31, ⟨(.int .i64), 1, 8, [(.int .i64 (Int.ofNat 0))], false⟩),
  (32, ⟨.fnc, 1, 8, [.nilF], false⟩),
  (33, ⟨(.ptr 41), 1, 8, [.nilP], false⟩),
  (37, ⟨(.ptr 186), 1, 8, [.nilP], false⟩),
  (38, ⟨(.map 3 83), 1, 8, [.nilM], false⟩),
  (39, ⟨(.slice 55), 1, 24, [.nilS], false⟩),
  (41, ⟨(.struct [(0, 1, 28), (1, 1, 2), (2, 1, 37), (3, 1, 38), (4, 1, 39), (5, 1, 3), (6, 1, 3)]), 7, 72, [.nilP, (.int .i64 (Int.ofNat 0)), .nilP, .nilM, .nilS, (.int .i64 (Int.ofNat 0)), (.int .i64 (Int.ofNat 0))], true⟩),
  (46, ⟨(.slice 3), 1, 24, [.nilS], false⟩),
  (52, ⟨.fnc, 1, 8, [.nilF], false⟩),
  (55, ⟨(.struct [(0, 1, 3), (1, 4, 25), (5, 1, 31), (6, 1, 23), (7, 1, 3), (8, 1, 3)]), 9, 104, [(.int .i64 (Int.ofNat 0)), (.int .i64 (Int.ofNat 0)), (.int .i64 (Int.ofNat 0)), (.int .i64 (Int.ofNat 0)), .nilS, (.int .i64 (Int.ofNat 0)), .nilS, (.int .i64 (Int.ofNat 0)), (.int .i64 (Int.ofNat 0))], true⟩),
  (60, ⟨(.struct [(0, 1, 3), (1, 1, 3), (2, 1, 2), (3, 1, 9)]), 4, 40, [(.int .i64 (Int.ofNat 0)), (.int .i64 (Int.ofNat 0)), (.int .i64 (Int.ofNat 0)), (.str [])], true⟩),
  (64, ⟨(.ptr 179), 1, 8, [.nilP], false⟩),
  (65, ⟨(.ptr 158), 1, 8, [.nilP], false⟩),
  (66, ⟨(.slice 70), 1, 24, [.nilS], false⟩),
  (68, ⟨(.struct [(0, 1, 64), (1, 1, 9), (2, 1, 65), (3, 1, 66), (4, 1, 4)]), 5, 64, [.nilP, (.str []), .nilP, .nilS, (.bool false)], true⟩),
  (69, ⟨.fnc, 1, 8, [.nilF], false⟩),
  (70, ⟨(.ptr 152), 1, 8, [.nilP], false⟩),
  (71, ⟨(.int .u64), 1, 8, [(.int .u64 (Int.ofNat 0))], false⟩),
  (73, ⟨(.struct [(0, 1, 3), (1, 1, 71), (2, 1, 2), (3, 1, 2), (4, 1, 3), (5, 1, 3), (6, 1, 2), (7, 1, 3), (8, 1, 3), (9, 1, 2), (10, 1, 3), (11, 1, 3), (12, 1, 2), (13, 1, 3), (14, 1, 9)]), 15, 128, [(.int .i64 (Int.ofNat 0)), (.int .u64 (Int.ofNat 0)), (.int .i64 (Int.ofNat 0)), (.int .i64 (Int.ofNat 0)), (.int .i64 (Int.ofNat 0)), (.int .i64 (Int.ofNat 0)), (.int .i64 (Int.ofNat 0)), (.int .i64 (Int.ofNat 0)), (.int .i64 (Int.ofNat 0)), (.int .i64 (Int.ofNat 0)), (.int .i64 (Int.ofNat 0)), (.int .i64 (Int.ofNat 0)), (.int .i64 (Int.ofNat 0)), (.int .i64 (Int.ofNat 0)), (.str [])], true⟩),
  (83, ⟨(.ptr 87), 1, 8, [.nilP], false⟩),
  (85, ⟨.iface, 1, 16, [.nilI], false⟩),
  (87, ⟨(.struct [(0, 1, 3), (1, 4, 25), (5, 1, 85), (6, 1, 2), (7, 1, 2), (8, 1, 23), (9, 1, 3)]), 10, 120, [(.int .i64 (Int.ofNat 0)), (.int .i64 (Int.ofNat 0)), (.int .i64 (Int.ofNat 0)), (.int .i64 (Int.ofNat 0)), .nilS, .nilI, (.int .i64 (Int.ofNat 0)), (.int .i64 (Int.ofNat 0)), .nilS, (.int .i64 (Int.ofNat 0))], false⟩),
  (90, ⟨(.struct []), 0, 0, [], true⟩),
  (91, ⟨(.struct []), 0, 0, [], true⟩),
  (93, ⟨(.struct []), 0, 0, [], true⟩),
  (98, ⟨(.struct [(0, 1, 3), (1, 1, 2), (2, 1, 2), (3, 1, 4)]), 4, 32, [(.int .i64 (Int.ofNat 0)), (.int .i64 (Int.ofNat 0)), (.int .i64 (Int.ofNat 0)), (.bool false)], true⟩),
  (106, ⟨.fnc, 1, 8, [.nilF], false⟩),
  (108, ⟨(.slice 114), 1, 24, [.nilS], false⟩),
  (110, ⟨(.map 9 210), 1, 8, [.nilM], false⟩),
  (112, ⟨(.int .i64), 1, 8, [(.int .i64 (Int.ofNat 0))], false⟩),
  (114, ⟨(.struct [(0, 1, 112), (1, 1, 3)]), 2, 16, [(.int .i64 (Int.ofNat 0)), (.int .i64 (Int.ofNat 0))], true⟩),
  (116, ⟨(.struct [(0, 1, 110), (1, 1, 108), (2, 1, 3)]), 3, 40, [.nilM, .nilS, (.int .i64 (Int.ofNat 0))], true⟩),
  (125, ⟨(.slice 32), 1, 24, [.nilS], false⟩),
  (126, ⟨(.slice 9), 1, 24, [.nilS], false⟩),
  (131, ⟨(.slice 243), 1, 24, [.nilS], false⟩),
  (133, ⟨(.struct [(0, 1, 131), (1, 1, 4), (2, 1, 2), (3, 1, 2), (4, 1, 2), (5, 1, 2), (6, 1, 2)]), 7, 72, [.nilS, (.bool false), (.int .i64 (Int.ofNat 0)), (.int .i64 (Int.ofNat 0)), (.int .i64 (Int.ofNat 0)), (.int .i64 (Int.ofNat 0)), (.int .i64 (Int.ofNat 0))], true⟩),
  (148, ⟨(.ptr 323), 1, 8, [.nilP], false⟩),
  (150, ⟨(.struct [(0, 1, 148)]), 1, 8, [.nilP], true⟩),
  (152, ⟨(.struct [(0, 1, 150), (1, 1, 27), (2, 1, 9), (3, 15, 73), (18, 1, 2), (19, 1, 4), (20, 1, 4), (21, 1, 4)]), 22, 176, [.nilP, .nilP, (.str []), (.int .i64 (Int.ofNat 0)), (.int .u64 (Int.ofNat 0)), (.int .i64 (Int.ofNat 0)), (.int .i64 (Int.ofNat 0)), (.int .i64 (Int.ofNat 0)), (.int .i64 (Int.ofNat 0)), (.int .i64 (Int.ofNat 0)), (.int .i64 (Int.ofNat 0)), (.int .i64 (Int.ofNat 0)), (.int .i64 (Int.ofNat 0)), (.int .i64 (Int.ofNat 0)), (.int .i64 (Int.ofNat 0)), (.int .i64 (Int.ofNat 0)), (.int .i64 (Int.ofNat 0)), (.str []), (.int .i64 (Int.ofNat 0)), (.bool false), (.bool false), (.bool false)], true⟩),
  (156, ⟨(.slice 161), 1, 24, [.nilS], false⟩),
  (158, ⟨(.struct [(0, 1, 70), (1, 1, 4), (2, 1, 156), (3, 1, 4)]), 4, 48, [.nilP, (.bool false), .nilS, (.bool false)], true⟩),
  (161, ⟨(.ptr 166), 1, 8, [.nilP], false⟩),
  (163, ⟨(.struct [(0, 1, 9), (1, 1, 3), (2, 1, 3), (3, 1, 2), (4, 1, 3)]), 5, 48, [(.str []), (.int .i64 (Int.ofNat 0)), (.int .i64 (Int.ofNat 0)), (.int .i64 (Int.ofNat 0)), (.int .i64 (Int.ofNat 0))], true⟩),
  (175, ⟨(.int .i64), 1, 8, [(.int .i64 (Int.ofNat 0))], false⟩),
  (177, ⟨(.struct [(0, 1, 175), (1, 1, 2), (2, 1, 3)]), 3, 24, [(.int .i64 (Int.ofNat 0)), (.int .i64 (Int.ofNat 0)), (.int .i64 (Int.ofNat 0))], true⟩),
  (179, ⟨(.struct [(0, 1, 70), (1, 1, 64), (2, 1, 2), (3, 3, 177)]), 6, 48, [.nilP, .nilP, (.int .i64 (Int.ofNat 0)), (.int .i64 (Int.ofNat 0)), (.int .i64 (Int.ofNat 0)), (.int .i64 (Int.ofNat 0))], true⟩),
  (182, ⟨(.map 3 192), 1, 8, [.nilM], false⟩),
  (184, ⟨(.slice 192), 1, 24, [.nilS], false⟩),
  (186, ⟨(.struct [(0, 1, 182), (1, 1, 184), (2, 1, 3)]), 3, 40, [.nilM, .nilS, (.int .i64 (Int.ofNat 0))], true⟩),
  (192, ⟨(.ptr 196), 1, 8, [.nilP], false⟩),
  (196, ⟨(.struct [(0, 4, 98), (4, 1, 3)]), 5, 40, [(.int .i64 (Int.ofNat 0)), (.int .i64 (Int.ofNat 0)), (.int .i64 (Int.ofNat 0)), (.bool false), (.int .i64 (Int.ofNat 0))], true⟩),
  (199, ⟨(.ptr 184), 1, 8, [.nilP], false⟩),
  (210, ⟨(.ptr 213), 1, 8, [.nilP], false⟩),
  (211, ⟨(.slice 216), 1, 24, [.nilS], false⟩),
  (213, ⟨(.struct [(0, 1, 23), (1, 1, 211), (2, 1, 23)]), 3, 72, [.nilS, .nilS, .nilS], true⟩),
  (216, ⟨(.struct [(0, 1, 2), (1, 1, 23)]), 2, 32, [(.int .i64 (Int.ofNat 0)), .nilS], true⟩),
  (221, ⟨.fnc, 1, 8, [.nilF], false⟩),
  (223, ⟨(.slice 4), 1, 24, [.nilS], false⟩),
  (230, ⟨(.map 9 3), 1, 8, [.nilM], false⟩),
  (241, ⟨(.int .i64), 1, 8, [(.int .i64 (Int.ofNat 0))], false⟩),
  (243, ⟨(.struct [(0, 1, 241), (1, 1, 2), (2, 1, 71), (3, 1, 71)]), 4, 32, [(.int .i64 (Int.ofNat 0)), (.int .i64 (Int.ofNat 0)), (.int .u64 (Int.ofNat 0)), (.int .u64 (Int.ofNat 0))], true⟩),
  (252, ⟨(.slice 163), 1, 24, [.nilS], false⟩),
  (267, ⟨(.arr 2 2), 2, 16, [(.int .i64 (Int.ofNat 0)), (.int .i64 (Int.ofNat 0))], false⟩),
  (293, ⟨(.int .u64), 1, 8, [(.int .u64 (Int.ofNat 0))], false⟩),
  (300, ⟨(.slice 303), 1, 24, [.nilS], false⟩),
  (303, ⟨(.struct [(0, 1, 3), (1, 1, 3), (2, 1, 71)]), 3, 24, [(.int .i64 (Int.ofNat 0)), (.int .i64 (Int.ofNat 0)), (.int .u64 (Int.ofNat 0))], true⟩),
  (306, ⟨(.ptr 312), 1, 8, [.nilP], false⟩),
  (309, ⟨(.map 2 405), 1, 8, [.nilM], false⟩),
  (310, ⟨(.map 243 3), 1, 8, [.nilM], false⟩),
  (312, ⟨(.struct [(0, 1, 23), (1, 15, 73), (16, 1, 2), (17, 1, 2), (18, 1, 309), (19, 1, 310), (20, 7, 133)]), 27, 256, [.nilS, (.int .i64 (Int.ofNat 0)), (.int .u64 (Int.ofNat 0)), (.int .i64 (Int.ofNat 0)), (.int .i64 (Int.ofNat 0)), (.int .i64 (Int.ofNat 0)), (.int .i64 (Int.ofNat 0)), (.int .i64 (Int.ofNat 0)), (.int .i64 (Int.ofNat 0)), (.int .i64 (Int.ofNat 0)), (.int .i64 (Int.ofNat 0)), (.int .i64 (Int.ofNat 0)), (.int .i64 (Int.ofNat 0)), (.int .i64 (Int.ofNat 0)), (.int .i64 (Int.ofNat 0)), (.str []), (.int .i64 (Int.ofNat 0)), (.int .i64 (Int.ofNat 0)), .nilM, .nilM, .nilS, (.bool false), (.int .i64 (Int.ofNat 0)), (.int .i64 (Int.ofNat 0)), (.int .i64 (Int.ofNat 0)), (.int .i64 (Int.ofNat 0)), (.int .i64 (Int.ofNat 0))], true⟩),
  (323, ⟨(.struct [(0, 1, 27), (1, 1, 9), (2, 15, 73), (17, 1, 2), (18, 1, 2)]), 19, 168, [.nilP, (.str []), (.int .i64 (Int.ofNat 0)), (.int .u64 (Int.ofNat 0)), (.int .i64 (Int.ofNat 0)), (.int .i64 (Int.ofNat 0)), (.int .i64 (Int.ofNat 0)), (.int .i64 (Int.ofNat 0)), (.int .i64 (Int.ofNat 0)), (.int .i64 (Int.ofNat 0)), (.int .i64 (Int.ofNat 0)), (.int .i64 (Int.ofNat 0)), (.int .i64 (Int.ofNat 0)), (.int .i64 (Int.ofNat 0)), (.int .i64 (Int.ofNat 0)), (.int .i64 (Int.ofNat 0)), (.str []), (.int .i64 (Int.ofNat 0)), (.int .i64 (Int.ofNat 0))], true⟩),
  (328, ⟨(.slice 332), 1, 24, [.nilS], false⟩),
  (332, ⟨(.struct [(0, 1, 2), (1, 1, 2), (2, 1, 175), (3, 1, 3)]), 4, 32, [(.int .i64 (Int.ofNat 0)), (.int .i64 (Int.ofNat 0)), (.int .i64 (Int.ofNat 0)), (.int .i64 (Int.ofNat 0))], true⟩),
  (370, ⟨(.int .i64), 1, 8, [(.int .i64 (Int.ofNat 0))], false⟩),
  (382, ⟨.fnc, 1, 8, [.nilF], false⟩),
  (384, ⟨(.arr 4 382), 4, 32, [.nilF, .nilF, .nilF, .nilF], false⟩),
  (393, ⟨(.slice 2), 1, 24, [.nilS], false⟩),
  (403, ⟨(.arr 7 3), 7, 56, [(.int .i64 (Int.ofNat 0)), (.int .i64 (Int.ofNat 0)), (.int .i64 (Int.ofNat 0)), (.int .i64 (Int.ofNat 0)), (.int .i64 (Int.ofNat 0)), (.int .i64 (Int.ofNat 0)), (.int .i64 (Int.ofNat 0))], false⟩),
  (405, ⟨(.struct [(0, 1, 71), (1, 1, 370), (2, 1, 4)]), 3, 24, [(.int .u64 (Int.ofNat 0)), (.int .i64 (Int.ofNat 0)), (.bool false)], true⟩),
  (421, ⟨(.map 2 71), 1, 8, [.nilM], false⟩),
  (446, ⟨(.map 2 2), 1, 8, [.nilM], false⟩),
  (451, ⟨(.map 2 3), 1, 8, [.nilM], false⟩)]
theorem tyl_ok : ∀ x ∈ tyl, tyOf Tryz.prog x.1 x.2.eq = some x.2 :=
  List.forall_mem_cons.2 ⟨by kernel_rfl,
  List.forall_mem_cons.2 ⟨by kernel_rfl,
  List.forall_mem_cons.2 ⟨by kernel_rfl,
  List.forall_mem_cons.2 ⟨by kernel_rfl,
  List.forall_mem_cons.2 ⟨by kernel_rfl,
  List.forall_mem_cons.2 ⟨by kernel_rfl,
  List.forall_mem_cons.2 ⟨by kernel_rfl,
  List.forall_mem_cons.2 ⟨by kernel_rfl,
  List.forall_mem_cons.2 ⟨by kernel_rfl,
  List.forall_mem_cons.2 ⟨by kernel_rfl,
  List.forall_mem_cons.2 ⟨by kernel_rfl,
  List.forall_mem_cons.2 ⟨by kernel_rfl,
  List.forall_mem_cons.2 ⟨by kernel_rfl,
  List.forall_mem_cons.2 ⟨by kernel_rfl,
  List.forall_mem_cons.2 ⟨by kernel_rfl,
  List.forall_mem_cons.2 ⟨by kernel_rfl,
  List.forall_mem_cons.2 ⟨by kernel_rfl,
  List.forall_mem_cons.2 ⟨by kernel_rfl,
  List.forall_mem_cons.2 ⟨by kernel_rfl,
  List.forall_mem_cons.2 ⟨by kernel_rfl,
  List.forall_mem_cons.2 ⟨by kernel_rfl,
  List.forall_mem_cons.2 ⟨by kernel_rfl,
  List.forall_mem_cons.2 ⟨by kernel_rfl,
  List.forall_mem_cons.2 ⟨by kernel_rfl,
  List.forall_mem_cons.2 ⟨by kernel_rfl,
  List.forall_mem_cons.2 ⟨by kernel_rfl,
  List.forall_mem_cons.2 ⟨by kernel_rfl,
  List.forall_mem_cons.2 ⟨by kernel_rfl,
  List.forall_mem_cons.2 ⟨by kernel_rfl,
  List.forall_mem_cons.2 ⟨by kernel_rfl,
  List.forall_mem_cons.2 ⟨by kernel_rfl,
  List.forall_mem_cons.2 ⟨by kernel_rfl,
  List.forall_mem_cons.2 ⟨by kernel_rfl,
  List.forall_mem_cons.2 ⟨by kernel_rfl,
  List.forall_mem_cons.2 ⟨by kernel_rfl,
  List.forall_mem_cons.2 ⟨by kernel_rfl,
  List.forall_mem_cons.2 ⟨by kernel_rfl,
  List.forall_mem_cons.2 ⟨by kernel_rfl,
  List.forall_mem_cons.2 ⟨by kernel_rfl,
  List.forall_mem_cons.2 ⟨by kernel_rfl,
  List.forall_mem_cons.2 ⟨by kernel_rfl,
  List.forall_mem_cons.2 ⟨by kernel_rfl,
  List.forall_mem_cons.2 ⟨by kernel_rfl,
  List.forall_mem_cons.2 ⟨by kernel_rfl,
  List.forall_mem_cons.2 ⟨by kernel_rfl,
  List.forall_mem_cons.2 ⟨by kernel_rfl,
  List.forall_mem_cons.2 ⟨by kernel_rfl,
  List.forall_mem_cons.2 ⟨by kernel_rfl,
  List.forall_mem_cons.2 ⟨by kernel_rfl,
  List.forall_mem_cons.2 ⟨by kernel_rfl,
  List.forall_mem_cons.2 ⟨by kernel_rfl,
  List.forall_mem_cons.2 ⟨by kernel_rfl,
  List.forall_mem_cons.2 ⟨by kernel_rfl,
  List.forall_mem_cons.2 ⟨by kernel_rfl,
  List.forall_mem_cons.2 ⟨by kernel_rfl,
  List.forall_mem_cons.2 ⟨by kernel_rfl,
  List.forall_mem_cons.2 ⟨by kernel_rfl,
  List.forall_mem_cons.2 ⟨by kernel_rfl,
  List.forall_mem_cons.2 ⟨by kernel_rfl,
  List.forall_mem_cons.2 ⟨by kernel_rfl,
  List.forall_mem_cons.2 ⟨by kernel_rfl,
  List.forall_mem_cons.2 ⟨by kernel_rfl,
  List.forall_mem_cons.2 ⟨by kernel_rfl,
  List.forall_mem_cons.2 ⟨by kernel_rfl,
  List.forall_mem_cons.2 ⟨by kernel_rfl,
  List.forall_mem_cons.2 ⟨by kernel_rfl,
  List.forall_mem_cons.2 ⟨by kernel_rfl,
  List.forall_mem_cons.2 ⟨by kernel_rfl,
  List.forall_mem_cons.2 ⟨by kernel_rfl,
  List.forall_mem_cons.2 ⟨by kernel_rfl,
  List.forall_mem_cons.2 ⟨by kernel_rfl,
  List.forall_mem_cons.2 ⟨by kernel_rfl,
  List.forall_mem_cons.2 ⟨by kernel_rfl,
  List.forall_mem_cons.2 ⟨by kernel_rfl,
  List.forall_mem_cons.2 ⟨by kernel_rfl,
  List.forall_mem_cons.2 ⟨by kernel_rfl,
  List.forall_mem_cons.2 ⟨by kernel_rfl,
  List.forall_mem_cons.2 ⟨by kernel_rfl,
  List.forall_mem_cons.2 ⟨by kernel_rfl,
  List.forall_mem_cons.2 ⟨by kernel_rfl,
  List.forall_mem_cons.2 ⟨by kernel_rfl,
  List.forall_mem_cons.2 ⟨by kernel_rfl,
  List.forall_mem_cons.2 ⟨by kernel_rfl,
  List.forall_mem_cons.2 ⟨by kernel_rfl,
  List.forall_mem_cons.2 ⟨by kernel_rfl,
  List.forall_mem_cons.2 ⟨by kernel_rfl,
  List.forall_mem_cons.2 ⟨by kernel_rfl,
  List.forall_mem_cons.2 ⟨by kernel_rfl,
  List.forall_mem_cons.2 ⟨by kernel_rfl,
  List.forall_mem_cons.2 ⟨by kernel_rfl,
  List.forall_mem_cons.2 ⟨by kernel_rfl,
  List.forall_mem_cons.2 ⟨by kernel_rfl,
  List.forall_mem_cons.2 ⟨by kernel_rfl,
  fun x h => by cases h⟩⟩⟩⟩⟩⟩⟩⟩⟩⟩⟩⟩⟩⟩⟩⟩⟩⟩⟩⟩⟩⟩⟩⟩⟩⟩⟩⟩⟩⟩⟩⟩⟩⟩⟩⟩⟩⟩⟩⟩⟩⟩⟩⟩⟩⟩⟩⟩⟩⟩⟩⟩⟩⟩⟩⟩⟩⟩⟩⟩⟩⟩⟩⟩⟩⟩⟩⟩⟩⟩⟩⟩⟩⟩⟩⟩⟩⟩⟩⟩⟩⟩⟩⟩⟩⟩⟩⟩⟩⟩⟩⟩⟩
/-- Plans for the regions that draw their order. -/
noncomputable def pll : List (Nat × T Plan) := [
  (6, ofL [(10, [(0, []), (1, []), (2, []), (3, []), (4, []), (5, [0]), (6, [])]), (11, [(0, []), (1, []), (2, []), (3, []), (4, []), (5, []), (6, []), (7, [0]), (8, [])])]),
  (9, ofL [(3, [(0, []), (1, []), (2, []), (3, []), (4, []), (5, []), (6, []), (7, []), (8, []), (9, [])]), (31, [(0, []), (1, []), (2, []), (3, []), (4, []), (5, []), (6, []), (7, []), (8, []), (9, []), (10, []), (11, []), (12, []), (13, []), (14, []), (15, [])]), (35, [(0, []), (1, []), (2, []), (3, []), (4, []), (5, []), (6, []), (7, []), (8, []), (9, []), (10, []), (11, []), (12, []), (13, []), (14, [])]), (38, [(0, []), (1, []), (2, []), (3, []), (4, []), (5, []), (6, []), (7, []), (8, []), (9, []), (10, []), (11, []), (12, []), (13, []), (14, []), (15, []), (16, []), (17, [])]), (39, [(0, []), (1, []), (2, []), (3, []), (4, []), (5, []), (6, []), (7, []), (8, []), (9, []), (10, [])])]),
  (11, ofL [(9, [(0, []), (1, []), (2, []), (3, []), (4, []), (5, []), (6, []), (7, [])])]),
  (14, ofL [(3, [(0, []), (1, []), (2, []), (3, []), (4, []), (5, []), (6, []), (7, []), (8, []), (9, []), (10, []), (11, []), (12, []), (13, []), (14, []), (15, []), (16, [])])]),
  (22, ofL [(9, [(0, []), (1, []), (2, []), (3, []), (4, []), (5, []), (6, []), (7, []), (8, []), (9, [])])]),
  (29, ofL [(11, [(0, []), (1, []), (2, []), (3, []), (4, []), (5, []), (6, []), (7, []), (8, []), (9, []), (10, [])]), (12, [(0, []), (1, []), (2, []), (3, []), (4, []), (5, []), (6, []), (7, []), (8, []), (9, []), (10, []), (11, []), (12, []), (13, []), (14, []), (15, []), (16, []), (17, []), (18, []), (19, []), (20, []), (21, [])]), (19, [(0, []), (1, []), (2, []), (3, []), (4, []), (5, []), (6, []), (7, []), (8, []), (9, []), (10, []), (11, []), (12, [])]), (23, [(0, []), (1, []), (2, []), (3, []), (4, []), (5, []), (6, []), (7, []), (8, []), (9, []), (10, []), (13, []), (11, [4, 9]), (12, []), (14, [])]), (26, [(0, []), (1, []), (2, []), (3, []), (4, []), (5, []), (6, []), (7, []), (8, []), (9, []), (10, [])])]),
  (35, ofL [(9, [(0, []), (1, []), (2, []), (3, []), (4, []), (5, []), (6, []), (7, [])]), (11, [(0, []), (1, []), (2, []), (3, []), (4, []), (5, []), (6, []), (7, [])])]),
  (46, ofL [(3, [(0, []), (1, []), (2, []), (3, []), (4, []), (6, []), (7, []), (8, []), (9, []), (12, []), (5, [9]), (10, []), (11, []), (13, [])])]),
  (48, ofL [(29, [(0, []), (1, []), (2, [1]), (3, [])])]),
  (49, ofL [(7, [(0, []), (1, []), (2, []), (3, []), (4, []), (5, []), (6, []), (7, []), (8, []), (9, []), (10, []), (11, []), (15, []), (16, []), (17, []), (34, []), (35, []), (36, []), (42, []), (43, []), (44, []), (56, []), (57, []), (58, []), (59, []), (60, []), (61, []), (62, []), (64, []), (65, []), (66, []), (67, []), (68, []), (69, []), (70, []), (72, []), (73, []), (74, []), (75, []), (84, []), (12, [10, 16, 17, 35, 36, 42, 44, 58, 60, 62, 66, 68, 70, 73, 74, 75]), (13, []), (14, []), (18, []), (19, []), (20, []), (21, []), (22, []), (23, []), (24, []), (25, []), (26, []), (27, []), (28, []), (29, []), (30, []), (31, [10, 13, 35, 36, 42, 44, 58, 60, 62, 66, 68, 70, 73, 74, 75]), (32, []), (33, []), (37, []), (38, []), (39, []), (40, []), (41, []), (45, [10, 13, 39, 40, 58, 60, 62, 66, 68, 70, 73, 74, 75]), (46, []), (47, []), (48, []), (49, []), (50, []), (51, []), (52, []), (53, []), (54, []), (55, []), (63, [10, 13, 39, 40, 53, 54, 66, 68, 70, 73, 74, 75]), (71, [10, 13, 39, 40, 53, 54, 73, 74, 75]), (76, []), (77, []), (78, []), (79, [10, 13, 39, 40, 53, 54]), (80, []), (81, []), (82, []), (83, [])])]),
  (53, ofL [(12, [(0, []), (1, []), (2, []), (3, []), (4, []), (5, []), (6, []), (7, []), (8, []), (9, []), (10, []), (11, []), (12, []), (13, []), (14, []), (15, []), (16, []), (17, []), (18, []), (19, []), (20, []), (21, [])])]),
  (54, ofL [(1, [(0, []), (1, []), (2, []), (3, []), (4, []), (5, [])])]),
  (55, ofL [(12, [(0, []), (1, []), (2, []), (3, []), (4, []), (5, []), (6, []), (7, []), (8, []), (9, [4]), (10, []), (11, []), (12, []), (13, []), (14, []), (15, [])]), (13, [(0, []), (1, []), (2, []), (3, []), (4, []), (5, []), (6, []), (7, []), (8, []), (9, [])])]),
  (57, ofL [(11, [(0, []), (1, []), (2, []), (3, []), (4, []), (5, []), (6, []), (7, []), (8, []), (9, [])])]),
  (58, ofL [(1, [(0, []), (1, []), (2, []), (3, []), (4, []), (5, [])])]),
  (65, ofL [(6, [(0, []), (1, []), (2, []), (3, []), (4, []), (5, []), (7, []), (6, [4]), (8, []), (9, []), (10, [])])]),
  (69, ofL [(1, [(0, []), (1, []), (2, []), (3, []), (4, []), (5, []), (6, []), (7, [])])]),
  (75, ofL [(3, [(0, []), (1, []), (2, []), (3, []), (4, []), (5, []), (6, []), (7, []), (8, []), (9, []), (10, [])]), (4, [(0, []), (1, []), (2, []), (3, []), (4, []), (5, []), (6, []), (7, []), (8, []), (9, [])])]),
  (90, ofL [(1, [(0, []), (1, []), (2, []), (3, []), (4, []), (5, []), (6, []), (7, []), (8, []), (9, []), (10, [])])]),
  (128, ofL [(8, [(0, []), (1, []), (2, []), (3, []), (4, []), (5, []), (6, []), (7, []), (8, []), (9, []), (10, []), (11, []), (12, [])])]),
  (129, ofL [(3, [(0, []), (1, []), (2, []), (3, []), (4, []), (5, []), (6, []), (7, []), (8, []), (9, []), (10, []), (11, []), (12, []), (13, []), (14, []), (15, []), (16, []), (17, []), (18, []), (19, []), (20, []), (21, []), (22, []), (23, []), (24, []), (25, []), (26, []), (27, []), (28, []), (29, []), (30, []), (31, []), (32, []), (33, []), (34, []), (35, []), (36, []), (37, []), (38, []), (39, []), (40, []), (41, []), (42, []), (43, []), (44, []), (45, []), (46, []), (47, []), (48, []), (49, []), (50, [])])]),
  (131, ofL [(3, [(0, []), (1, []), (2, []), (3, []), (4, []), (5, []), (6, []), (7, []), (8, [7]), (9, []), (10, [])])]),
  (134, ofL [(13, [(0, []), (1, []), (2, []), (3, []), (4, []), (5, []), (6, []), (7, []), (8, []), (9, []), (10, []), (11, []), (12, []), (13, []), (14, []), (15, []), (16, []), (17, []), (18, []), (19, []), (20, []), (21, [])])]),
  (146, ofL [(7, [(0, []), (1, []), (2, []), (3, []), (4, []), (5, []), (6, []), (7, []), (8, []), (9, []), (10, []), (11, []), (12, []), (13, [])])]),
  (147, ofL [(5, [(0, []), (1, []), (2, []), (3, []), (4, []), (5, []), (6, []), (7, []), (8, []), (9, []), (10, []), (11, [])])]),
  (152, ofL [(7, [(0, []), (1, []), (2, []), (3, []), (4, []), (5, []), (6, []), (7, []), (8, []), (9, []), (10, [])])]),
  (156, ofL [(1, [(0, []), (1, []), (2, []), (3, []), (4, []), (5, []), (6, []), (7, [])])]),
  (158, ofL [(1, [(0, []), (1, []), (2, []), (3, []), (4, []), (5, []), (6, []), (7, []), (8, []), (9, []), (10, []), (11, []), (12, []), (13, []), (14, []), (15, []), (16, []), (17, []), (18, []), (19, []), (20, []), (21, []), (22, []), (23, []), (24, []), (25, []), (26, []), (27, []), (28, []), (29, []), (30, []), (31, []), (32, []), (33, []), (34, []), (35, []), (36, []), (37, []), (38, []), (39, []), (40, []), (41, []), (42, []), (43, []), (44, []), (45, []), (46, []), (47, []), (48, []), (49, []), (50, []), (51, []), (52, []), (53, []), (54, [])])]),
  (175, ofL [(4, [(0, []), (1, []), (2, []), (4, []), (5, []), (3, [1]), (6, []), (7, []), (8, [])])]),
  (184, ofL [(3, [(0, []), (1, []), (2, []), (3, []), (4, []), (5, []), (6, []), (7, []), (8, []), (9, []), (10, []), (11, []), (12, []), (13, [])]), (8, [(0, []), (1, []), (2, []), (3, []), (4, []), (5, []), (6, []), (7, []), (8, []), (9, []), (10, []), (11, []), (12, []), (13, []), (14, [])])]),
  (188, ofL [(8, [(0, []), (1, []), (2, []), (3, []), (4, []), (5, []), (12, []), (6, [3]), (7, []), (8, []), (9, []), (10, []), (11, []), (13, []), (14, [])])]),
  (191, ofL [(1, [(0, []), (1, []), (2, []), (3, []), (4, []), (5, []), (6, [3, 4, 5]), (7, [])])]),
  (192, ofL [(6, [(0, []), (1, []), (2, []), (3, []), (4, []), (5, []), (6, []), (7, []), (8, []), (9, []), (10, []), (11, []), (12, []), (13, [])]), (12, [(0, []), (1, []), (2, [1]), (3, []), (4, [])])]),
  (195, ofL [(1, [(0, []), (1, []), (2, []), (3, []), (4, []), (5, []), (6, []), (7, []), (8, []), (9, []), (10, []), (11, []), (12, []), (13, []), (14, [])]), (4, [(0, []), (1, []), (2, []), (3, []), (4, []), (5, []), (6, []), (7, []), (8, []), (9, []), (10, []), (11, []), (12, []), (13, []), (14, []), (15, []), (16, [])]), (11, [(0, []), (1, []), (2, []), (3, []), (4, []), (5, []), (6, []), (7, []), (8, []), (9, []), (10, []), (11, []), (12, []), (13, []), (14, []), (15, []), (16, []), (17, []), (18, []), (19, []), (20, []), (21, []), (22, []), (23, []), (24, [])]), (14, [(0, []), (1, []), (2, []), (3, []), (4, []), (5, []), (6, []), (7, []), (8, []), (9, []), (10, []), (11, [])]), (15, [(0, []), (1, []), (2, []), (3, []), (4, []), (5, []), (6, []), (7, []), (8, []), (9, []), (10, []), (11, []), (12, []), (13, []), (14, []), (15, []), (16, []), (17, []), (18, []), (19, []), (20, [3, 7, 13, 14, 15, 16, 17]), (21, []), (22, [])])]),
  (200, ofL [(0, [(0, []), (1, []), (2, []), (3, []), (4, []), (5, []), (6, []), (7, []), (8, []), (9, [])])]),
  (205, ofL [(3, [(0, []), (1, []), (2, []), (3, []), (4, []), (5, []), (6, []), (7, []), (8, []), (9, [7, 8]), (10, [])])]),
  (228, ofL [(4, [(0, []), (1, []), (2, []), (3, []), (4, []), (5, []), (6, [])])]),
  (229, ofL [(0, [(0, []), (1, []), (2, []), (3, []), (4, []), (5, []), (6, []), (7, []), (8, []), (9, []), (10, [])]), (7, [(0, []), (1, []), (3, []), (4, []), (5, []), (6, []), (7, []), (2, [6]), (8, [])])]),
  (234, ofL [(2, [(0, []), (1, []), (2, []), (3, []), (4, []), (5, []), (6, []), (7, []), (8, []), (9, []), (10, [])]), (3, [(0, []), (1, []), (2, []), (3, []), (4, []), (5, []), (6, []), (7, [])]), (7, [(0, []), (1, []), (2, []), (3, []), (4, []), (5, []), (6, []), (7, []), (8, []), (9, []), (10, []), (11, [])]), (8, [(0, []), (1, []), (2, []), (3, []), (4, []), (5, []), (6, []), (7, []), (8, []), (9, []), (10, []), (11, [])]), (9, [(0, []), (1, []), (2, []), (3, []), (4, []), (5, []), (6, []), (7, []), (8, []), (9, []), (10, []), (11, []), (12, [])])]),
  (242, ofL [(3, [(0, []), (1, []), (2, []), (3, []), (4, []), (5, []), (6, []), (7, []), (8, []), (9, []), (10, []), (11, []), (12, []), (13, [])]), (6, [(0, []), (1, []), (2, []), (3, []), (4, []), (5, []), (6, []), (7, []), (8, []), (9, []), (10, []), (11, []), (12, []), (13, []), (14, []), (15, []), (16, [])])]),
  (248, ofL [(1, [(0, []), (1, []), (2, []), (3, []), (4, []), (5, []), (6, []), (7, []), (8, []), (9, []), (10, []), (11, [])])]),
  (250, ofL [(3, [(0, []), (1, []), (2, []), (3, []), (4, []), (5, []), (6, []), (7, []), (8, []), (9, []), (10, []), (11, []), (12, []), (13, [])]), (11, [(0, []), (1, []), (2, []), (3, []), (4, []), (5, []), (6, []), (7, []), (8, []), (9, []), (10, []), (11, []), (12, []), (13, []), (14, []), (15, []), (16, []), (17, [])])]),
  (252, ofL [(8, [(0, []), (1, []), (2, []), (3, []), (4, []), (5, []), (6, []), (7, []), (8, []), (9, []), (10, []), (11, []), (12, []), (13, []), (14, []), (15, []), (16, []), (17, []), (18, []), (19, []), (20, []), (21, []), (22, []), (23, []), (24, []), (25, []), (26, []), (27, []), (28, [])])]),
  (253, ofL [(1, [(0, []), (1, []), (2, []), (3, []), (4, []), (5, []), (6, []), (7, []), (8, []), (9, []), (10, []), (11, []), (12, []), (13, [])])]),
  (254, ofL [(5, [(0, []), (1, []), (2, []), (3, []), (4, []), (5, []), (6, []), (7, []), (8, []), (9, []), (10, [3, 7]), (11, []), (12, [])]), (8, [(0, []), (1, []), (2, []), (3, []), (4, []), (5, []), (6, []), (7, []), (8, []), (9, []), (10, []), (11, []), (12, []), (13, []), (14, []), (15, []), (16, [])])]),
  (258, ofL [(5, [(0, []), (1, []), (2, []), (3, []), (4, []), (5, []), (6, []), (7, []), (8, []), (9, []), (10, []), (11, []), (12, []), (13, [])]), (24, [(0, []), (1, []), (2, []), (3, []), (4, []), (5, []), (6, []), (7, [])])]),
  (264, ofL [(5, [(0, []), (1, []), (2, []), (3, []), (4, []), (5, []), (6, []), (7, []), (8, []), (9, []), (10, []), (11, []), (12, []), (13, [])]), (53, [(0, []), (1, []), (2, []), (3, []), (4, []), (5, []), (6, []), (7, []), (8, []), (9, []), (10, []), (11, []), (12, []), (13, []), (14, []), (15, []), (16, []), (17, [])])]),
  (273, ofL [(4, [(0, []), (1, []), (2, []), (3, []), (4, []), (5, []), (6, []), (7, []), (8, []), (9, []), (10, []), (11, []), (12, [])])]),
  (281, ofL [(1, [(0, []), (1, []), (2, []), (3, []), (4, []), (5, []), (6, []), (7, []), (8, []), (9, []), (10, []), (11, []), (12, []), (13, []), (14, []), (15, []), (16, []), (17, []), (18, []), (19, []), (20, []), (21, []), (22, []), (23, []), (24, []), (25, []), (26, []), (27, []), (28, []), (29, []), (30, []), (31, []), (32, []), (33, []), (34, []), (35, []), (36, []), (37, []), (38, []), (39, []), (40, []), (41, [])])]),
  (292, ofL [(6, [(0, []), (1, []), (2, []), (3, []), (4, []), (5, []), (6, []), (7, []), (8, [])])]),
  (296, ofL [(11, [(0, []), (1, []), (2, []), (3, []), (4, []), (5, []), (6, []), (7, []), (8, [])])]),
  (297, ofL [(3, [(0, []), (1, []), (2, []), (3, []), (4, []), (5, []), (6, []), (7, []), (8, []), (9, []), (10, []), (11, []), (12, []), (13, []), (14, []), (15, []), (16, [])])]),
  (300, ofL [(1, [(0, []), (1, []), (2, []), (3, []), (4, []), (5, []), (6, []), (7, []), (8, []), (9, []), (10, []), (11, []), (12, []), (13, []), (14, [])])]),
  (301, ofL [(1, [(0, []), (1, []), (2, []), (3, []), (4, []), (5, []), (6, []), (7, []), (8, []), (9, []), (10, []), (11, []), (12, []), (13, []), (14, []), (15, [])])]),
  (305, ofL [(1, [(0, []), (1, []), (2, []), (3, []), (4, []), (5, []), (6, []), (7, []), (8, []), (9, []), (10, [])])]),
  (306, ofL [(3, [(0, []), (1, []), (2, []), (3, []), (4, []), (5, []), (6, []), (7, []), (8, []), (9, []), (10, []), (11, []), (12, []), (13, [])]), (6, [(0, []), (1, []), (2, []), (3, []), (4, []), (5, []), (6, []), (7, []), (8, []), (9, []), (10, []), (11, []), (12, []), (13, []), (14, []), (15, []), (16, []), (17, []), (18, []), (19, []), (20, []), (21, []), (22, []), (23, []), (24, []), (25, []), (26, [])])]),
  (308, ofL [(1, [(0, []), (1, []), (2, []), (3, []), (4, []), (5, []), (6, []), (7, []), (8, []), (9, [])])]),
  (314, ofL [(4, [(0, []), (1, []), (2, []), (4, []), (5, []), (6, []), (3, [5, 6]), (7, [5, 6]), (8, [])])]),
  (315, ofL [(6, [(0, []), (1, []), (2, []), (3, []), (4, []), (5, []), (6, []), (7, []), (8, []), (9, []), (10, []), (11, []), (12, []), (13, [])])]),
  (324, ofL [(4, [(0, []), (1, []), (3, []), (2, [0]), (4, []), (5, [])])]),
  (329, ofL [(7, [(0, []), (1, []), (2, []), (3, []), (4, []), (5, []), (6, []), (7, []), (8, []), (9, []), (10, []), (11, []), (12, []), (13, [])])]),
  (330, ofL [(1, [(0, []), (1, []), (2, []), (3, []), (4, []), (5, []), (6, []), (7, []), (8, []), (9, []), (10, []), (11, []), (12, []), (13, []), (14, []), (15, [])])]),
  (434, ofL [(2, [(0, []), (1, []), (2, []), (3, []), (4, []), (5, []), (6, []), (7, []), (8, []), (9, []), (10, []), (11, []), (12, []), (13, []), (14, []), (15, []), (16, [])])]),
  (446, ofL [(0, [(0, []), (1, []), (2, []), (3, []), (4, []), (5, []), (6, []), (7, []), (8, []), (9, []), (10, []), (11, []), (12, []), (13, []), (14, []), (15, [])])]),
  (448, ofL [(0, [(0, []), (1, []), (2, []), (3, []), (4, []), (5, []), (6, []), (7, []), (8, []), (9, [])])])]
noncomputable def exl : List (Nat × String) := [(227, "internal/bytealg.IndexByte"), (271, "internal/bytealg.IndexByteString")]
noncomputable def mdl : List (Nat × String × (Nat × Option Nat)) := [(90, "palimpsest/driver.do", (432, none)), (199, "Pop", (447, none)), (199, "Swap", (446, (some 184))), (91, "palimpsest/driver.do", (434, none)), (199, "Len", (208, (some 184))), (199, "Push", (448, none))]
theorem mdl_ok : ∀ x ∈ mdl, mdOf Tryz.prog x.1 x.2.1 = some x.2.2 :=
  List.forall_mem_cons.2 ⟨by kernel_rfl,
  List.forall_mem_cons.2 ⟨by kernel_rfl,
  List.forall_mem_cons.2 ⟨by kernel_rfl,
  List.forall_mem_cons.2 ⟨by kernel_rfl,
  List.forall_mem_cons.2 ⟨by kernel_rfl,
  List.forall_mem_cons.2 ⟨by kernel_rfl,
  fun x h => by cases h⟩⟩⟩⟩⟩⟩
noncomputable def tb : (Nat → List (List CV × CV)) → (Nat → List Mm) → Tb := mkB fnt tyl pll exl mdl
theorem mixed : Tryz.prog.follows .mixedOrders = true := by kernel_rfl
theorem extF_c : extF "count" = Extern.BytealgCount.count := by kernel_rfl
theorem extF_IndexByte : extF "internal/bytealg.IndexByte" = Extern.BytealgIndexByte.indexByte := by kernel_rfl
theorem extF_IndexByteString : extF "internal/bytealg.IndexByteString" = Extern.BytealgIndexByte.indexByte := by kernel_rfl
theorem exl_ok : ∀ x ∈ exl, ∀ (args : Array Value) (w : World), (callFunc x.1 args).run Tryz.prog w = ((extF x.2 args).run Tryz.prog w).andThen fun v w' => .ok (.value v) w' :=
  List.forall_mem_cons.2 ⟨fun args w => by rw [extF_IndexByte]; exact run_callFunc_extern Tryz.func227 (by kernel_rfl) (by kernel_rfl) (by kernel_rfl) (e := Extern.BytealgIndexByte.indexByte) (by kernel_rfl) args w,
  List.forall_mem_cons.2 ⟨fun args w => by rw [extF_IndexByteString]; exact run_callFunc_extern Tryz.func271 (by kernel_rfl) (by kernel_rfl) (by kernel_rfl) (e := Extern.BytealgIndexByte.indexByte) (by kernel_rfl) args w,
  fun x h => by cases h⟩⟩
end Go.Proofs.YtaodejbcmaeaaaaGreat.CE
