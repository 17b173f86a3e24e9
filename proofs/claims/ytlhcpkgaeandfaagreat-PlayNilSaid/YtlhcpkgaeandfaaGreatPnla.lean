/- The tables for the evaluator. No statement of the seat is proved here. Written by program (genseat.py). -/
import Derived.Test.YtlhcpkgaeandfaaGreatCe28
import Derived.Test.YtlhcpkgaeandfaaGreatProg
import Derived.KernelRfl
set_option linter.unusedVariables false
set_option linter.unusedSimpArgs false
namespace Go.Proofs.YtlhcpkgaeandfaaGreat.CE
open Go Go.RowKit
noncomputable def fnt575 : List (Nat × Func) := List.cons (575, Tryz.f575) []
theorem fnt_ok575 : ∀ x ∈ fnt575, FnOk Tryz.prog x := fn_cons Tryz.func575 Tryz.call575 (fun x h => by cases h)
noncomputable def fnt562 : List (Nat × Func) := List.cons (562, Tryz.f562) fnt575
theorem fnt_ok562 : ∀ x ∈ fnt562, FnOk Tryz.prog x := fn_cons Tryz.func562 Tryz.call562 fnt_ok575
noncomputable def fnt561 : List (Nat × Func) := List.cons (561, Tryz.f561) fnt562
theorem fnt_ok561 : ∀ x ∈ fnt561, FnOk Tryz.prog x := fn_cons Tryz.func561 Tryz.call561 fnt_ok562
noncomputable def fnt537 : List (Nat × Func) := List.cons (537, Tryz.f537) fnt561
theorem fnt_ok537 : ∀ x ∈ fnt537, FnOk Tryz.prog x := fn_cons Tryz.func537 Tryz.call537 fnt_ok561
noncomputable def fnt531 : List (Nat × Func) := List.cons (531, Tryz.f531) fnt537
theorem fnt_ok531 : ∀ x ∈ fnt531, FnOk Tryz.prog x := fn_cons Tryz.func531 Tryz.call531 fnt_ok537
noncomputable def fnt530 : List (Nat × Func) := List.cons (530, Tryz.f530) fnt531
theorem fnt_ok530 : ∀ x ∈ fnt530, FnOk Tryz.prog x := fn_cons Tryz.func530 Tryz.call530 fnt_ok531
noncomputable def fnt529 : List (Nat × Func) := List.cons (529, Tryz.f529) fnt530
theorem fnt_ok529 : ∀ x ∈ fnt529, FnOk Tryz.prog x := fn_cons Tryz.func529 Tryz.call529 fnt_ok530
noncomputable def fnt528 : List (Nat × Func) := List.cons (528, Tryz.f528) fnt529
theorem fnt_ok528 : ∀ x ∈ fnt528, FnOk Tryz.prog x := fn_cons Tryz.func528 Tryz.call528 fnt_ok529
noncomputable def fnt503 : List (Nat × Func) := List.cons (503, Tryz.f503) fnt528
theorem fnt_ok503 : ∀ x ∈ fnt503, FnOk Tryz.prog x := fn_cons Tryz.func503 Tryz.call503 fnt_ok528
noncomputable def fnt502 : List (Nat × Func) := List.cons (502, Tryz.f502) fnt503
theorem fnt_ok502 : ∀ x ∈ fnt502, FnOk Tryz.prog x := fn_cons Tryz.func502 Tryz.call502 fnt_ok503
noncomputable def fnt501 : List (Nat × Func) := List.cons (501, Tryz.f501) fnt502
theorem fnt_ok501 : ∀ x ∈ fnt501, FnOk Tryz.prog x := fn_cons Tryz.func501 Tryz.call501 fnt_ok502
noncomputable def fnt500 : List (Nat × Func) := List.cons (500, Tryz.f500) fnt501
theorem fnt_ok500 : ∀ x ∈ fnt500, FnOk Tryz.prog x := fn_cons Tryz.func500 Tryz.call500 fnt_ok501
noncomputable def fnt499 : List (Nat × Func) := List.cons (499, Tryz.f499) fnt500
theorem fnt_ok499 : ∀ x ∈ fnt499, FnOk Tryz.prog x := fn_cons Tryz.func499 Tryz.call499 fnt_ok500
noncomputable def fnt493 : List (Nat × Func) := List.cons (493, Tryz.f493) fnt499
theorem fnt_ok493 : ∀ x ∈ fnt493, FnOk Tryz.prog x := fn_cons Tryz.func493 Tryz.call493 fnt_ok499
noncomputable def fnt492 : List (Nat × Func) := List.cons (492, Tryz.f492) fnt493
theorem fnt_ok492 : ∀ x ∈ fnt492, FnOk Tryz.prog x := fn_cons Tryz.func492 Tryz.call492 fnt_ok493
noncomputable def fnt491 : List (Nat × Func) := List.cons (491, Tryz.f491) fnt492
theorem fnt_ok491 : ∀ x ∈ fnt491, FnOk Tryz.prog x := fn_cons Tryz.func491 Tryz.call491 fnt_ok492
noncomputable def fnt490 : List (Nat × Func) := List.cons (490, Tryz.f490) fnt491
theorem fnt_ok490 : ∀ x ∈ fnt490, FnOk Tryz.prog x := fn_cons Tryz.func490 Tryz.call490 fnt_ok491
noncomputable def fnt488 : List (Nat × Func) := List.cons (488, Tryz.f488) fnt490
theorem fnt_ok488 : ∀ x ∈ fnt488, FnOk Tryz.prog x := fn_cons Tryz.func488 Tryz.call488 fnt_ok490
noncomputable def fnt487 : List (Nat × Func) := List.cons (487, Tryz.f487) fnt488
theorem fnt_ok487 : ∀ x ∈ fnt487, FnOk Tryz.prog x := fn_cons Tryz.func487 Tryz.call487 fnt_ok488
noncomputable def fnt486 : List (Nat × Func) := List.cons (486, Tryz.f486) fnt487
theorem fnt_ok486 : ∀ x ∈ fnt486, FnOk Tryz.prog x := fn_cons Tryz.func486 Tryz.call486 fnt_ok487
noncomputable def fnt484 : List (Nat × Func) := List.cons (484, Tryz.f484) fnt486
theorem fnt_ok484 : ∀ x ∈ fnt484, FnOk Tryz.prog x := fn_cons Tryz.func484 Tryz.call484 fnt_ok486
noncomputable def fnt483 : List (Nat × Func) := List.cons (483, Tryz.f483) fnt484
theorem fnt_ok483 : ∀ x ∈ fnt483, FnOk Tryz.prog x := fn_cons Tryz.func483 Tryz.call483 fnt_ok484
noncomputable def fnt482 : List (Nat × Func) := List.cons (482, Tryz.f482) fnt483
theorem fnt_ok482 : ∀ x ∈ fnt482, FnOk Tryz.prog x := fn_cons Tryz.func482 Tryz.call482 fnt_ok483
noncomputable def fnt457 : List (Nat × Func) := List.cons (457, Tryz.f457) fnt482
theorem fnt_ok457 : ∀ x ∈ fnt457, FnOk Tryz.prog x := fn_cons Tryz.func457 Tryz.call457 fnt_ok482
noncomputable def fnt454 : List (Nat × Func) := List.cons (454, Tryz.f454) fnt457
theorem fnt_ok454 : ∀ x ∈ fnt454, FnOk Tryz.prog x := fn_cons Tryz.func454 Tryz.call454 fnt_ok457
noncomputable def fnt451 : List (Nat × Func) := List.cons (451, Tryz.f451) fnt454
theorem fnt_ok451 : ∀ x ∈ fnt451, FnOk Tryz.prog x := fn_cons Tryz.func451 Tryz.call451 fnt_ok454
noncomputable def fnt443 : List (Nat × Func) := List.cons (443, Tryz.f443) fnt451
theorem fnt_ok443 : ∀ x ∈ fnt443, FnOk Tryz.prog x := fn_cons Tryz.func443 Tryz.call443 fnt_ok451
noncomputable def fnt442 : List (Nat × Func) := List.cons (442, Tryz.f442) fnt443
theorem fnt_ok442 : ∀ x ∈ fnt442, FnOk Tryz.prog x := fn_cons Tryz.func442 Tryz.call442 fnt_ok443
noncomputable def fnt441 : List (Nat × Func) := List.cons (441, Tryz.f441) fnt442
theorem fnt_ok441 : ∀ x ∈ fnt441, FnOk Tryz.prog x := fn_cons Tryz.func441 Tryz.call441 fnt_ok442
noncomputable def fnt440 : List (Nat × Func) := List.cons (440, Tryz.f440) fnt441
theorem fnt_ok440 : ∀ x ∈ fnt440, FnOk Tryz.prog x := fn_cons Tryz.func440 Tryz.call440 fnt_ok441
noncomputable def fnt437 : List (Nat × Func) := List.cons (437, Tryz.f437) fnt440
theorem fnt_ok437 : ∀ x ∈ fnt437, FnOk Tryz.prog x := fn_cons Tryz.func437 Tryz.call437 fnt_ok440
noncomputable def fnt436 : List (Nat × Func) := List.cons (436, Tryz.f436) fnt437
theorem fnt_ok436 : ∀ x ∈ fnt436, FnOk Tryz.prog x := fn_cons Tryz.func436 Tryz.call436 fnt_ok437
noncomputable def fnt435 : List (Nat × Func) := List.cons (435, Tryz.f435) fnt436
theorem fnt_ok435 : ∀ x ∈ fnt435, FnOk Tryz.prog x := fn_cons Tryz.func435 Tryz.call435 fnt_ok436
noncomputable def fnt431 : List (Nat × Func) := List.cons (431, Tryz.f431) fnt435
theorem fnt_ok431 : ∀ x ∈ fnt431, FnOk Tryz.prog x := fn_cons Tryz.func431 Tryz.call431 fnt_ok435
noncomputable def fnt430 : List (Nat × Func) := List.cons (430, Tryz.f430) fnt431
theorem fnt_ok430 : ∀ x ∈ fnt430, FnOk Tryz.prog x := fn_cons Tryz.func430 Tryz.call430 fnt_ok431
noncomputable def fnt429 : List (Nat × Func) := List.cons (429, Tryz.f429) fnt430
theorem fnt_ok429 : ∀ x ∈ fnt429, FnOk Tryz.prog x := fn_cons Tryz.func429 Tryz.call429 fnt_ok430
noncomputable def fnt428 : List (Nat × Func) := List.cons (428, Tryz.f428) fnt429
theorem fnt_ok428 : ∀ x ∈ fnt428, FnOk Tryz.prog x := fn_cons Tryz.func428 Tryz.call428 fnt_ok429
noncomputable def fnt427 : List (Nat × Func) := List.cons (427, Tryz.f427) fnt428
theorem fnt_ok427 : ∀ x ∈ fnt427, FnOk Tryz.prog x := fn_cons Tryz.func427 Tryz.call427 fnt_ok428
noncomputable def fnt416 : List (Nat × Func) := List.cons (416, Tryz.f416) fnt427
theorem fnt_ok416 : ∀ x ∈ fnt416, FnOk Tryz.prog x := fn_cons Tryz.func416 Tryz.call416 fnt_ok427
noncomputable def fnt414 : List (Nat × Func) := List.cons (414, Tryz.f414) fnt416
theorem fnt_ok414 : ∀ x ∈ fnt414, FnOk Tryz.prog x := fn_cons Tryz.func414 Tryz.call414 fnt_ok416
noncomputable def fnt403 : List (Nat × Func) := List.cons (403, Tryz.f403) fnt414
theorem fnt_ok403 : ∀ x ∈ fnt403, FnOk Tryz.prog x := fn_cons Tryz.func403 Tryz.call403 fnt_ok414
noncomputable def fnt399 : List (Nat × Func) := List.cons (399, Tryz.f399) fnt403
theorem fnt_ok399 : ∀ x ∈ fnt399, FnOk Tryz.prog x := fn_cons Tryz.func399 Tryz.call399 fnt_ok403
noncomputable def fnt397 : List (Nat × Func) := List.cons (397, Tryz.f397) fnt399
theorem fnt_ok397 : ∀ x ∈ fnt397, FnOk Tryz.prog x := fn_cons Tryz.func397 Tryz.call397 fnt_ok399
noncomputable def fnt396 : List (Nat × Func) := List.cons (396, Tryz.f396) fnt397
theorem fnt_ok396 : ∀ x ∈ fnt396, FnOk Tryz.prog x := fn_cons Tryz.func396 Tryz.call396 fnt_ok397
noncomputable def fnt393 : List (Nat × Func) := List.cons (393, Tryz.f393) fnt396
theorem fnt_ok393 : ∀ x ∈ fnt393, FnOk Tryz.prog x := fn_cons Tryz.func393 Tryz.call393 fnt_ok396
noncomputable def fnt392 : List (Nat × Func) := List.cons (392, Tryz.f392) fnt393
theorem fnt_ok392 : ∀ x ∈ fnt392, FnOk Tryz.prog x := fn_cons Tryz.func392 Tryz.call392 fnt_ok393
noncomputable def fnt391 : List (Nat × Func) := List.cons (391, Tryz.f391) fnt392
theorem fnt_ok391 : ∀ x ∈ fnt391, FnOk Tryz.prog x := fn_cons Tryz.func391 Tryz.call391 fnt_ok392
noncomputable def fnt390 : List (Nat × Func) := List.cons (390, Tryz.f390) fnt391
theorem fnt_ok390 : ∀ x ∈ fnt390, FnOk Tryz.prog x := fn_cons Tryz.func390 Tryz.call390 fnt_ok391
noncomputable def fnt389 : List (Nat × Func) := List.cons (389, Tryz.f389) fnt390
theorem fnt_ok389 : ∀ x ∈ fnt389, FnOk Tryz.prog x := fn_cons Tryz.func389 Tryz.call389 fnt_ok390
noncomputable def fnt388 : List (Nat × Func) := List.cons (388, Tryz.f388) fnt389
theorem fnt_ok388 : ∀ x ∈ fnt388, FnOk Tryz.prog x := fn_cons Tryz.func388 Tryz.call388 fnt_ok389
noncomputable def fnt387 : List (Nat × Func) := List.cons (387, Tryz.f387) fnt388
theorem fnt_ok387 : ∀ x ∈ fnt387, FnOk Tryz.prog x := fn_cons Tryz.func387 Tryz.call387 fnt_ok388
noncomputable def fnt386 : List (Nat × Func) := List.cons (386, Tryz.f386) fnt387
theorem fnt_ok386 : ∀ x ∈ fnt386, FnOk Tryz.prog x := fn_cons Tryz.func386 Tryz.call386 fnt_ok387
noncomputable def fnt382 : List (Nat × Func) := List.cons (382, Tryz.f382) fnt386
theorem fnt_ok382 : ∀ x ∈ fnt382, FnOk Tryz.prog x := fn_cons Tryz.func382 Tryz.call382 fnt_ok386
noncomputable def fnt378 : List (Nat × Func) := List.cons (378, Tryz.f378) fnt382
theorem fnt_ok378 : ∀ x ∈ fnt378, FnOk Tryz.prog x := fn_cons Tryz.func378 Tryz.call378 fnt_ok382
noncomputable def fnt377 : List (Nat × Func) := List.cons (377, Tryz.f377) fnt378
theorem fnt_ok377 : ∀ x ∈ fnt377, FnOk Tryz.prog x := fn_cons Tryz.func377 Tryz.call377 fnt_ok378
noncomputable def fnt376 : List (Nat × Func) := List.cons (376, Tryz.f376) fnt377
theorem fnt_ok376 : ∀ x ∈ fnt376, FnOk Tryz.prog x := fn_cons Tryz.func376 Tryz.call376 fnt_ok377
noncomputable def fnt375 : List (Nat × Func) := List.cons (375, Tryz.f375) fnt376
theorem fnt_ok375 : ∀ x ∈ fnt375, FnOk Tryz.prog x := fn_cons Tryz.func375 Tryz.call375 fnt_ok376
noncomputable def fnt374 : List (Nat × Func) := List.cons (374, Tryz.f374) fnt375
theorem fnt_ok374 : ∀ x ∈ fnt374, FnOk Tryz.prog x := fn_cons Tryz.func374 Tryz.call374 fnt_ok375
noncomputable def fnt371 : List (Nat × Func) := List.cons (371, Tryz.f371) fnt374
theorem fnt_ok371 : ∀ x ∈ fnt371, FnOk Tryz.prog x := fn_cons Tryz.func371 Tryz.call371 fnt_ok374
noncomputable def fnt366 : List (Nat × Func) := List.cons (366, Tryz.f366) fnt371
theorem fnt_ok366 : ∀ x ∈ fnt366, FnOk Tryz.prog x := fn_cons Tryz.func366 Tryz.call366 fnt_ok371
noncomputable def fnt348 : List (Nat × Func) := List.cons (348, Tryz.f348) fnt366
theorem fnt_ok348 : ∀ x ∈ fnt348, FnOk Tryz.prog x := fn_cons Tryz.func348 Tryz.call348 fnt_ok366
noncomputable def fnt347 : List (Nat × Func) := List.cons (347, Tryz.f347) fnt348
theorem fnt_ok347 : ∀ x ∈ fnt347, FnOk Tryz.prog x := fn_cons Tryz.func347 Tryz.call347 fnt_ok348
noncomputable def fnt345 : List (Nat × Func) := List.cons (345, Tryz.f345) fnt347
theorem fnt_ok345 : ∀ x ∈ fnt345, FnOk Tryz.prog x := fn_cons Tryz.func345 Tryz.call345 fnt_ok347
noncomputable def fnt343 : List (Nat × Func) := List.cons (343, Tryz.f343) fnt345
theorem fnt_ok343 : ∀ x ∈ fnt343, FnOk Tryz.prog x := fn_cons Tryz.func343 Tryz.call343 fnt_ok345
noncomputable def fnt342 : List (Nat × Func) := List.cons (342, Tryz.f342) fnt343
theorem fnt_ok342 : ∀ x ∈ fnt342, FnOk Tryz.prog x := fn_cons Tryz.func342 Tryz.call342 fnt_ok343
noncomputable def fnt341 : List (Nat × Func) := List.cons (341, Tryz.f341) fnt342
theorem fnt_ok341 : ∀ x ∈ fnt341, FnOk Tryz.prog x := fn_cons Tryz.func341 Tryz.call341 fnt_ok342
noncomputable def fnt340 : List (Nat × Func) := List.cons (340, Tryz.f340) fnt341
theorem fnt_ok340 : ∀ x ∈ fnt340, FnOk Tryz.prog x := fn_cons Tryz.func340 Tryz.call340 fnt_ok341
noncomputable def fnt336 : List (Nat × Func) := List.cons (336, Tryz.f336) fnt340
theorem fnt_ok336 : ∀ x ∈ fnt336, FnOk Tryz.prog x := fn_cons Tryz.func336 Tryz.call336 fnt_ok340
noncomputable def fnt335 : List (Nat × Func) := List.cons (335, Tryz.f335) fnt336
theorem fnt_ok335 : ∀ x ∈ fnt335, FnOk Tryz.prog x := fn_cons Tryz.func335 Tryz.call335 fnt_ok336
noncomputable def fnt334 : List (Nat × Func) := List.cons (334, Tryz.f334) fnt335
theorem fnt_ok334 : ∀ x ∈ fnt334, FnOk Tryz.prog x := fn_cons Tryz.func334 Tryz.call334 fnt_ok335
noncomputable def fnt333 : List (Nat × Func) := List.cons (333, Tryz.f333) fnt334
theorem fnt_ok333 : ∀ x ∈ fnt333, FnOk Tryz.prog x := fn_cons Tryz.func333 Tryz.call333 fnt_ok334
noncomputable def fnt332 : List (Nat × Func) := List.cons (332, Tryz.f332) fnt333
theorem fnt_ok332 : ∀ x ∈ fnt332, FnOk Tryz.prog x := fn_cons Tryz.func332 Tryz.call332 fnt_ok333
noncomputable def fnt331 : List (Nat × Func) := List.cons (331, Tryz.f331) fnt332
theorem fnt_ok331 : ∀ x ∈ fnt331, FnOk Tryz.prog x := fn_cons Tryz.func331 Tryz.call331 fnt_ok332
noncomputable def fnt330 : List (Nat × Func) := List.cons (330, Tryz.f330) fnt331
theorem fnt_ok330 : ∀ x ∈ fnt330, FnOk Tryz.prog x := fn_cons Tryz.func330 Tryz.call330 fnt_ok331
noncomputable def fnt329 : List (Nat × Func) := List.cons (329, Tryz.f329) fnt330
theorem fnt_ok329 : ∀ x ∈ fnt329, FnOk Tryz.prog x := fn_cons Tryz.func329 Tryz.call329 fnt_ok330
noncomputable def fnt328 : List (Nat × Func) := List.cons (328, Tryz.f328) fnt329
theorem fnt_ok328 : ∀ x ∈ fnt328, FnOk Tryz.prog x := fn_cons Tryz.func328 Tryz.call328 fnt_ok329
noncomputable def fnt327 : List (Nat × Func) := List.cons (327, Tryz.f327) fnt328
theorem fnt_ok327 : ∀ x ∈ fnt327, FnOk Tryz.prog x := fn_cons Tryz.func327 Tryz.call327 fnt_ok328
noncomputable def fnt326 : List (Nat × Func) := List.cons (326, Tryz.f326) fnt327
theorem fnt_ok326 : ∀ x ∈ fnt326, FnOk Tryz.prog x := fn_cons Tryz.func326 Tryz.call326 fnt_ok327
noncomputable def fnt325 : List (Nat × Func) := List.cons (325, Tryz.f325) fnt326
theorem fnt_ok325 : ∀ x ∈ fnt325, FnOk Tryz.prog x := fn_cons Tryz.func325 Tryz.call325 fnt_ok326
noncomputable def fnt324 : List (Nat × Func) := List.cons (324, Tryz.f324) fnt325
theorem fnt_ok324 : ∀ x ∈ fnt324, FnOk Tryz.prog x := fn_cons Tryz.func324 Tryz.call324 fnt_ok325
noncomputable def fnt323 : List (Nat × Func) := List.cons (323, Tryz.f323) fnt324
theorem fnt_ok323 : ∀ x ∈ fnt323, FnOk Tryz.prog x := fn_cons Tryz.func323 Tryz.call323 fnt_ok324
noncomputable def fnt316 : List (Nat × Func) := List.cons (316, Tryz.f316) fnt323
theorem fnt_ok316 : ∀ x ∈ fnt316, FnOk Tryz.prog x := fn_cons Tryz.func316 Tryz.call316 fnt_ok323
noncomputable def fnt315 : List (Nat × Func) := List.cons (315, Tryz.f315) fnt316
theorem fnt_ok315 : ∀ x ∈ fnt315, FnOk Tryz.prog x := fn_cons Tryz.func315 Tryz.call315 fnt_ok316
noncomputable def fnt314 : List (Nat × Func) := List.cons (314, Tryz.f314) fnt315
theorem fnt_ok314 : ∀ x ∈ fnt314, FnOk Tryz.prog x := fn_cons Tryz.func314 Tryz.call314 fnt_ok315
noncomputable def fnt312 : List (Nat × Func) := List.cons (312, Tryz.f312) fnt314
theorem fnt_ok312 : ∀ x ∈ fnt312, FnOk Tryz.prog x := fn_cons Tryz.func312 Tryz.call312 fnt_ok314
noncomputable def fnt307 : List (Nat × Func) := List.cons (307, Tryz.f307) fnt312
theorem fnt_ok307 : ∀ x ∈ fnt307, FnOk Tryz.prog x := fn_cons Tryz.func307 Tryz.call307 fnt_ok312
noncomputable def fnt306 : List (Nat × Func) := List.cons (306, Tryz.f306) fnt307
theorem fnt_ok306 : ∀ x ∈ fnt306, FnOk Tryz.prog x := fn_cons Tryz.func306 Tryz.call306 fnt_ok307
noncomputable def fnt300 : List (Nat × Func) := List.cons (300, Tryz.f300) fnt306
theorem fnt_ok300 : ∀ x ∈ fnt300, FnOk Tryz.prog x := fn_cons Tryz.func300 Tryz.call300 fnt_ok306
noncomputable def fnt299 : List (Nat × Func) := List.cons (299, Tryz.f299) fnt300
theorem fnt_ok299 : ∀ x ∈ fnt299, FnOk Tryz.prog x := fn_cons Tryz.func299 Tryz.call299 fnt_ok300
noncomputable def fnt295 : List (Nat × Func) := List.cons (295, Tryz.f295) fnt299
theorem fnt_ok295 : ∀ x ∈ fnt295, FnOk Tryz.prog x := fn_cons Tryz.func295 Tryz.call295 fnt_ok299
noncomputable def fnt294 : List (Nat × Func) := List.cons (294, Tryz.f294) fnt295
theorem fnt_ok294 : ∀ x ∈ fnt294, FnOk Tryz.prog x := fn_cons Tryz.func294 Tryz.call294 fnt_ok295
noncomputable def fnt293 : List (Nat × Func) := List.cons (293, Tryz.f293) fnt294
theorem fnt_ok293 : ∀ x ∈ fnt293, FnOk Tryz.prog x := fn_cons Tryz.func293 Tryz.call293 fnt_ok294
noncomputable def fnt292 : List (Nat × Func) := List.cons (292, Tryz.f292) fnt293
theorem fnt_ok292 : ∀ x ∈ fnt292, FnOk Tryz.prog x := fn_cons Tryz.func292 Tryz.call292 fnt_ok293
noncomputable def fnt291 : List (Nat × Func) := List.cons (291, Tryz.f291) fnt292
theorem fnt_ok291 : ∀ x ∈ fnt291, FnOk Tryz.prog x := fn_cons Tryz.func291 Tryz.call291 fnt_ok292
noncomputable def fnt290 : List (Nat × Func) := List.cons (290, Tryz.f290) fnt291
theorem fnt_ok290 : ∀ x ∈ fnt290, FnOk Tryz.prog x := fn_cons Tryz.func290 Tryz.call290 fnt_ok291
noncomputable def fnt289 : List (Nat × Func) := List.cons (289, Tryz.f289) fnt290
theorem fnt_ok289 : ∀ x ∈ fnt289, FnOk Tryz.prog x := fn_cons Tryz.func289 Tryz.call289 fnt_ok290
noncomputable def fnt288 : List (Nat × Func) := List.cons (288, Tryz.f288) fnt289
theorem fnt_ok288 : ∀ x ∈ fnt288, FnOk Tryz.prog x := fn_cons Tryz.func288 Tryz.call288 fnt_ok289
noncomputable def fnt287 : List (Nat × Func) := List.cons (287, Tryz.f287) fnt288
theorem fnt_ok287 : ∀ x ∈ fnt287, FnOk Tryz.prog x := fn_cons Tryz.func287 Tryz.call287 fnt_ok288
noncomputable def fnt286 : List (Nat × Func) := List.cons (286, Tryz.f286) fnt287
theorem fnt_ok286 : ∀ x ∈ fnt286, FnOk Tryz.prog x := fn_cons Tryz.func286 Tryz.call286 fnt_ok287
noncomputable def fnt285 : List (Nat × Func) := List.cons (285, Tryz.f285) fnt286
theorem fnt_ok285 : ∀ x ∈ fnt285, FnOk Tryz.prog x := fn_cons Tryz.func285 Tryz.call285 fnt_ok286
noncomputable def fnt284 : List (Nat × Func) := List.cons (284, Tryz.f284) fnt285
theorem fnt_ok284 : ∀ x ∈ fnt284, FnOk Tryz.prog x := fn_cons Tryz.func284 Tryz.call284 fnt_ok285
noncomputable def fnt283 : List (Nat × Func) := List.cons (283, Tryz.f283) fnt284
theorem fnt_ok283 : ∀ x ∈ fnt283, FnOk Tryz.prog x := fn_cons Tryz.func283 Tryz.call283 fnt_ok284
noncomputable def fnt270 : List (Nat × Func) := List.cons (270, Tryz.f270) fnt283
theorem fnt_ok270 : ∀ x ∈ fnt270, FnOk Tryz.prog x := fn_cons Tryz.func270 Tryz.call270 fnt_ok283
noncomputable def fnt245 : List (Nat × Func) := List.cons (245, Tryz.f245) fnt270
theorem fnt_ok245 : ∀ x ∈ fnt245, FnOk Tryz.prog x := fn_cons Tryz.func245 Tryz.call245 fnt_ok270
noncomputable def fnt244 : List (Nat × Func) := List.cons (244, Tryz.f244) fnt245
theorem fnt_ok244 : ∀ x ∈ fnt244, FnOk Tryz.prog x := fn_cons Tryz.func244 Tryz.call244 fnt_ok245
noncomputable def fnt243 : List (Nat × Func) := List.cons (243, Tryz.f243) fnt244
theorem fnt_ok243 : ∀ x ∈ fnt243, FnOk Tryz.prog x := fn_cons Tryz.func243 Tryz.call243 fnt_ok244
noncomputable def fnt242 : List (Nat × Func) := List.cons (242, Tryz.f242) fnt243
theorem fnt_ok242 : ∀ x ∈ fnt242, FnOk Tryz.prog x := fn_cons Tryz.func242 Tryz.call242 fnt_ok243
noncomputable def fnt241 : List (Nat × Func) := List.cons (241, Tryz.f241) fnt242
theorem fnt_ok241 : ∀ x ∈ fnt241, FnOk Tryz.prog x := fn_cons Tryz.func241 Tryz.call241 fnt_ok242
noncomputable def fnt240 : List (Nat × Func) := List.cons (240, Tryz.f240) fnt241
theorem fnt_ok240 : ∀ x ∈ fnt240, FnOk Tryz.prog x := fn_cons Tryz.func240 Tryz.call240 fnt_ok241
noncomputable def fnt239 : List (Nat × Func) := List.cons (239, Tryz.f239) fnt240
theorem fnt_ok239 : ∀ x ∈ fnt239, FnOk Tryz.prog x := fn_cons Tryz.func239 Tryz.call239 fnt_ok240
noncomputable def fnt237 : List (Nat × Func) := List.cons (237, Tryz.f237) fnt239
theorem fnt_ok237 : ∀ x ∈ fnt237, FnOk Tryz.prog x := fn_cons Tryz.func237 Tryz.call237 fnt_ok239
noncomputable def fnt234 : List (Nat × Func) := List.cons (234, Tryz.f234) fnt237
theorem fnt_ok234 : ∀ x ∈ fnt234, FnOk Tryz.prog x := fn_cons Tryz.func234 Tryz.call234 fnt_ok237
noncomputable def fnt233 : List (Nat × Func) := List.cons (233, Tryz.f233) fnt234
theorem fnt_ok233 : ∀ x ∈ fnt233, FnOk Tryz.prog x := fn_cons Tryz.func233 Tryz.call233 fnt_ok234
noncomputable def fnt232 : List (Nat × Func) := List.cons (232, Tryz.f232) fnt233
theorem fnt_ok232 : ∀ x ∈ fnt232, FnOk Tryz.prog x := fn_cons Tryz.func232 Tryz.call232 fnt_ok233
noncomputable def fnt231 : List (Nat × Func) := List.cons (231, Tryz.f231) fnt232
theorem fnt_ok231 : ∀ x ∈ fnt231, FnOk Tryz.prog x := fn_cons Tryz.func231 Tryz.call231 fnt_ok232
noncomputable def fnt229 : List (Nat × Func) := List.cons (229, Tryz.f229) fnt231
theorem fnt_ok229 : ∀ x ∈ fnt229, FnOk Tryz.prog x := fn_cons Tryz.func229 Tryz.call229 fnt_ok231
noncomputable def fnt226 : List (Nat × Func) := List.cons (226, Tryz.f226) fnt229
theorem fnt_ok226 : ∀ x ∈ fnt226, FnOk Tryz.prog x := fn_cons Tryz.func226 Tryz.call226 fnt_ok229
noncomputable def fnt225 : List (Nat × Func) := List.cons (225, Tryz.f225) fnt226
theorem fnt_ok225 : ∀ x ∈ fnt225, FnOk Tryz.prog x := fn_cons Tryz.func225 Tryz.call225 fnt_ok226
noncomputable def fnt224 : List (Nat × Func) := List.cons (224, Tryz.f224) fnt225
theorem fnt_ok224 : ∀ x ∈ fnt224, FnOk Tryz.prog x := fn_cons Tryz.func224 Tryz.call224 fnt_ok225
noncomputable def fnt223 : List (Nat × Func) := List.cons (223, Tryz.f223) fnt224
theorem fnt_ok223 : ∀ x ∈ fnt223, FnOk Tryz.prog x := fn_cons Tryz.func223 Tryz.call223 fnt_ok224
noncomputable def fnt222 : List (Nat × Func) := List.cons (222, Tryz.f222) fnt223
theorem fnt_ok222 : ∀ x ∈ fnt222, FnOk Tryz.prog x := fn_cons Tryz.func222 Tryz.call222 fnt_ok223
noncomputable def fnt221 : List (Nat × Func) := List.cons (221, Tryz.f221) fnt222
theorem fnt_ok221 : ∀ x ∈ fnt221, FnOk Tryz.prog x := fn_cons Tryz.func221 Tryz.call221 fnt_ok222
noncomputable def fnt220 : List (Nat × Func) := List.cons (220, Tryz.f220) fnt221
theorem fnt_ok220 : ∀ x ∈ fnt220, FnOk Tryz.prog x := fn_cons Tryz.func220 Tryz.call220 fnt_ok221
noncomputable def fnt219 : List (Nat × Func) := List.cons (219, Tryz.f219) fnt220
theorem fnt_ok219 : ∀ x ∈ fnt219, FnOk Tryz.prog x := fn_cons Tryz.func219 Tryz.call219 fnt_ok220
noncomputable def fnt218 : List (Nat × Func) := List.cons (218, Tryz.f218) fnt219
theorem fnt_ok218 : ∀ x ∈ fnt218, FnOk Tryz.prog x := fn_cons Tryz.func218 Tryz.call218 fnt_ok219
noncomputable def fnt217 : List (Nat × Func) := List.cons (217, Tryz.f217) fnt218
theorem fnt_ok217 : ∀ x ∈ fnt217, FnOk Tryz.prog x := fn_cons Tryz.func217 Tryz.call217 fnt_ok218
noncomputable def fnt216 : List (Nat × Func) := List.cons (216, Tryz.f216) fnt217
theorem fnt_ok216 : ∀ x ∈ fnt216, FnOk Tryz.prog x := fn_cons Tryz.func216 Tryz.call216 fnt_ok217
noncomputable def fnt215 : List (Nat × Func) := List.cons (215, Tryz.f215) fnt216
theorem fnt_ok215 : ∀ x ∈ fnt215, FnOk Tryz.prog x := fn_cons Tryz.func215 Tryz.call215 fnt_ok216
noncomputable def fnt214 : List (Nat × Func) := List.cons (214, Tryz.f214) fnt215
theorem fnt_ok214 : ∀ x ∈ fnt214, FnOk Tryz.prog x := fn_cons Tryz.func214 Tryz.call214 fnt_ok215
noncomputable def fnt213 : List (Nat × Func) := List.cons (213, Tryz.f213) fnt214
theorem fnt_ok213 : ∀ x ∈ fnt213, FnOk Tryz.prog x := fn_cons Tryz.func213 Tryz.call213 fnt_ok214
noncomputable def fnt212 : List (Nat × Func) := List.cons (212, Tryz.f212) fnt213
theorem fnt_ok212 : ∀ x ∈ fnt212, FnOk Tryz.prog x := fn_cons Tryz.func212 Tryz.call212 fnt_ok213
noncomputable def fnt211 : List (Nat × Func) := List.cons (211, Tryz.f211) fnt212
theorem fnt_ok211 : ∀ x ∈ fnt211, FnOk Tryz.prog x := fn_cons Tryz.func211 Tryz.call211 fnt_ok212
noncomputable def fnt210 : List (Nat × Func) := List.cons (210, Tryz.f210) fnt211
theorem fnt_ok210 : ∀ x ∈ fnt210, FnOk Tryz.prog x := fn_cons Tryz.func210 Tryz.call210 fnt_ok211
noncomputable def fnt209 : List (Nat × Func) := List.cons (209, Tryz.f209) fnt210
theorem fnt_ok209 : ∀ x ∈ fnt209, FnOk Tryz.prog x := fn_cons Tryz.func209 Tryz.call209 fnt_ok210
noncomputable def fnt208 : List (Nat × Func) := List.cons (208, Tryz.f208) fnt209
theorem fnt_ok208 : ∀ x ∈ fnt208, FnOk Tryz.prog x := fn_cons Tryz.func208 Tryz.call208 fnt_ok209
noncomputable def fnt207 : List (Nat × Func) := List.cons (207, Tryz.f207) fnt208
theorem fnt_ok207 : ∀ x ∈ fnt207, FnOk Tryz.prog x := fn_cons Tryz.func207 Tryz.call207 fnt_ok208
noncomputable def fnt206 : List (Nat × Func) := List.cons (206, Tryz.f206) fnt207
theorem fnt_ok206 : ∀ x ∈ fnt206, FnOk Tryz.prog x := fn_cons Tryz.func206 Tryz.call206 fnt_ok207
noncomputable def fnt205 : List (Nat × Func) := List.cons (205, Tryz.f205) fnt206
theorem fnt_ok205 : ∀ x ∈ fnt205, FnOk Tryz.prog x := fn_cons Tryz.func205 Tryz.call205 fnt_ok206
noncomputable def fnt195 : List (Nat × Func) := List.cons (195, Tryz.f195) fnt205
theorem fnt_ok195 : ∀ x ∈ fnt195, FnOk Tryz.prog x := fn_cons Tryz.func195 Tryz.call195 fnt_ok205
noncomputable def fnt194 : List (Nat × Func) := List.cons (194, Tryz.f194) fnt195
theorem fnt_ok194 : ∀ x ∈ fnt194, FnOk Tryz.prog x := fn_cons Tryz.func194 Tryz.call194 fnt_ok195
noncomputable def fnt191 : List (Nat × Func) := List.cons (191, Tryz.f191) fnt194
theorem fnt_ok191 : ∀ x ∈ fnt191, FnOk Tryz.prog x := fn_cons Tryz.func191 Tryz.call191 fnt_ok194
noncomputable def fnt185 : List (Nat × Func) := List.cons (185, Tryz.f185) fnt191
theorem fnt_ok185 : ∀ x ∈ fnt185, FnOk Tryz.prog x := fn_cons Tryz.func185 Tryz.call185 fnt_ok191
noncomputable def fnt182 : List (Nat × Func) := List.cons (182, Tryz.f182) fnt185
theorem fnt_ok182 : ∀ x ∈ fnt182, FnOk Tryz.prog x := fn_cons Tryz.func182 Tryz.call182 fnt_ok185
noncomputable def fnt171 : List (Nat × Func) := List.cons (171, Tryz.f171) fnt182
theorem fnt_ok171 : ∀ x ∈ fnt171, FnOk Tryz.prog x := fn_cons Tryz.func171 Tryz.call171 fnt_ok182
noncomputable def fnt167 : List (Nat × Func) := List.cons (167, Tryz.f167) fnt171
theorem fnt_ok167 : ∀ x ∈ fnt167, FnOk Tryz.prog x := fn_cons Tryz.func167 Tryz.call167 fnt_ok171
noncomputable def fnt137 : List (Nat × Func) := List.cons (137, Tryz.f137) fnt167
theorem fnt_ok137 : ∀ x ∈ fnt137, FnOk Tryz.prog x := fn_cons Tryz.func137 Tryz.call137 fnt_ok167
noncomputable def fnt134 : List (Nat × Func) := List.cons (134, Tryz.f134) fnt137
theorem fnt_ok134 : ∀ x ∈ fnt134, FnOk Tryz.prog x := fn_cons Tryz.func134 Tryz.call134 fnt_ok137
noncomputable def fnt115 : List (Nat × Func) := List.cons (115, Tryz.f115) fnt134
theorem fnt_ok115 : ∀ x ∈ fnt115, FnOk Tryz.prog x := fn_cons Tryz.func115 Tryz.call115 fnt_ok134
noncomputable def fnt113 : List (Nat × Func) := List.cons (113, Tryz.f113) fnt115
theorem fnt_ok113 : ∀ x ∈ fnt113, FnOk Tryz.prog x := fn_cons Tryz.func113 Tryz.call113 fnt_ok115
noncomputable def fnt110 : List (Nat × Func) := List.cons (110, Tryz.f110) fnt113
theorem fnt_ok110 : ∀ x ∈ fnt110, FnOk Tryz.prog x := fn_cons Tryz.func110 Tryz.call110 fnt_ok113
noncomputable def fnt101 : List (Nat × Func) := List.cons (101, Tryz.f101) fnt110
theorem fnt_ok101 : ∀ x ∈ fnt101, FnOk Tryz.prog x := fn_cons Tryz.func101 Tryz.call101 fnt_ok110
noncomputable def fnt100 : List (Nat × Func) := List.cons (100, Tryz.f100) fnt101
theorem fnt_ok100 : ∀ x ∈ fnt100, FnOk Tryz.prog x := fn_cons Tryz.func100 Tryz.call100 fnt_ok101
noncomputable def fnt99 : List (Nat × Func) := List.cons (99, Tryz.f99) fnt100
theorem fnt_ok99 : ∀ x ∈ fnt99, FnOk Tryz.prog x := fn_cons Tryz.func99 Tryz.call99 fnt_ok100
noncomputable def fnt98 : List (Nat × Func) := List.cons (98, Tryz.f98) fnt99
theorem fnt_ok98 : ∀ x ∈ fnt98, FnOk Tryz.prog x := fn_cons Tryz.func98 Tryz.call98 fnt_ok99
noncomputable def fnt93 : List (Nat × Func) := List.cons (93, Tryz.f93) fnt98
theorem fnt_ok93 : ∀ x ∈ fnt93, FnOk Tryz.prog x := fn_cons Tryz.func93 Tryz.call93 fnt_ok98
noncomputable def fnt92 : List (Nat × Func) := List.cons (92, Tryz.f92) fnt93
theorem fnt_ok92 : ∀ x ∈ fnt92, FnOk Tryz.prog x := fn_cons Tryz.func92 Tryz.call92 fnt_ok93
noncomputable def fnt91 : List (Nat × Func) := List.cons (91, Tryz.f91) fnt92
theorem fnt_ok91 : ∀ x ∈ fnt91, FnOk Tryz.prog x := fn_cons Tryz.func91 Tryz.call91 fnt_ok92
noncomputable def fnt90 : List (Nat × Func) := List.cons (90, Tryz.f90) fnt91
theorem fnt_ok90 : ∀ x ∈ fnt90, FnOk Tryz.prog x := fn_cons Tryz.func90 Tryz.call90 fnt_ok91
noncomputable def fnt89 : List (Nat × Func) := List.cons (89, Tryz.f89) fnt90
theorem fnt_ok89 : ∀ x ∈ fnt89, FnOk Tryz.prog x := fn_cons Tryz.func89 Tryz.call89 fnt_ok90
noncomputable def fnt88 : List (Nat × Func) := List.cons (88, Tryz.f88) fnt89
theorem fnt_ok88 : ∀ x ∈ fnt88, FnOk Tryz.prog x := fn_cons Tryz.func88 Tryz.call88 fnt_ok89
noncomputable def fnt87 : List (Nat × Func) := List.cons (87, Tryz.f87) fnt88
theorem fnt_ok87 : ∀ x ∈ fnt87, FnOk Tryz.prog x := fn_cons Tryz.func87 Tryz.call87 fnt_ok88
noncomputable def fnt86 : List (Nat × Func) := List.cons (86, Tryz.f86) fnt87
theorem fnt_ok86 : ∀ x ∈ fnt86, FnOk Tryz.prog x := fn_cons Tryz.func86 Tryz.call86 fnt_ok87
noncomputable def fnt85 : List (Nat × Func) := List.cons (85, Tryz.f85) fnt86
theorem fnt_ok85 : ∀ x ∈ fnt85, FnOk Tryz.prog x := fn_cons Tryz.func85 Tryz.call85 fnt_ok86
noncomputable def fnt84 : List (Nat × Func) := List.cons (84, Tryz.f84) fnt85
theorem fnt_ok84 : ∀ x ∈ fnt84, FnOk Tryz.prog x := fn_cons Tryz.func84 Tryz.call84 fnt_ok85
noncomputable def fnt83 : List (Nat × Func) := List.cons (83, Tryz.f83) fnt84
theorem fnt_ok83 : ∀ x ∈ fnt83, FnOk Tryz.prog x := fn_cons Tryz.func83 Tryz.call83 fnt_ok84
noncomputable def fnt81 : List (Nat × Func) := List.cons (81, Tryz.f81) fnt83
theorem fnt_ok81 : ∀ x ∈ fnt81, FnOk Tryz.prog x := fn_cons Tryz.func81 Tryz.call81 fnt_ok83
noncomputable def fnt80 : List (Nat × Func) := List.cons (80, Tryz.f80) fnt81
theorem fnt_ok80 : ∀ x ∈ fnt80, FnOk Tryz.prog x := fn_cons Tryz.func80 Tryz.call80 fnt_ok81
noncomputable def fnt77 : List (Nat × Func) := List.cons (77, Tryz.f77) fnt80
theorem fnt_ok77 : ∀ x ∈ fnt77, FnOk Tryz.prog x := fn_cons Tryz.func77 Tryz.call77 fnt_ok80
noncomputable def fnt59 : List (Nat × Func) := List.cons (59, Tryz.f59) fnt77
theorem fnt_ok59 : ∀ x ∈ fnt59, FnOk Tryz.prog x := fn_cons Tryz.func59 Tryz.call59 fnt_ok77
noncomputable def fnt58 : List (Nat × Func) := List.cons (58, Tryz.f58) fnt59
theorem fnt_ok58 : ∀ x ∈ fnt58, FnOk Tryz.prog x := fn_cons Tryz.func58 Tryz.call58 fnt_ok59
noncomputable def fnt56 : List (Nat × Func) := List.cons (56, Tryz.f56) fnt58
theorem fnt_ok56 : ∀ x ∈ fnt56, FnOk Tryz.prog x := fn_cons Tryz.func56 Tryz.call56 fnt_ok58
noncomputable def fnt55 : List (Nat × Func) := List.cons (55, Tryz.f55) fnt56
theorem fnt_ok55 : ∀ x ∈ fnt55, FnOk Tryz.prog x := fn_cons Tryz.func55 Tryz.call55 fnt_ok56
noncomputable def fnt54 : List (Nat × Func) := List.cons (54, Tryz.f54) fnt55
theorem fnt_ok54 : ∀ x ∈ fnt54, FnOk Tryz.prog x := fn_cons Tryz.func54 Tryz.call54 fnt_ok55
noncomputable def fnt53 : List (Nat × Func) := List.cons (53, Tryz.f53) fnt54
theorem fnt_ok53 : ∀ x ∈ fnt53, FnOk Tryz.prog x := fn_cons Tryz.func53 Tryz.call53 fnt_ok54
noncomputable def fnt52 : List (Nat × Func) := List.cons (52, Tryz.f52) fnt53
theorem fnt_ok52 : ∀ x ∈ fnt52, FnOk Tryz.prog x := fn_cons Tryz.func52 Tryz.call52 fnt_ok53
noncomputable def fnt51 : List (Nat × Func) := List.cons (51, Tryz.f51) fnt52
theorem fnt_ok51 : ∀ x ∈ fnt51, FnOk Tryz.prog x := fn_cons Tryz.func51 Tryz.call51 fnt_ok52
noncomputable def fnt50 : List (Nat × Func) := List.cons (50, Tryz.f50) fnt51
theorem fnt_ok50 : ∀ x ∈ fnt50, FnOk Tryz.prog x := fn_cons Tryz.func50 Tryz.call50 fnt_ok51
noncomputable def fnt49 : List (Nat × Func) := List.cons (49, Tryz.f49) fnt50
theorem fnt_ok49 : ∀ x ∈ fnt49, FnOk Tryz.prog x := fn_cons Tryz.func49 Tryz.call49 fnt_ok50
noncomputable def fnt48 : List (Nat × Func) := List.cons (48, Tryz.f48) fnt49
theorem fnt_ok48 : ∀ x ∈ fnt48, FnOk Tryz.prog x := fn_cons Tryz.func48 Tryz.call48 fnt_ok49
noncomputable def fnt47 : List (Nat × Func) := List.cons (47, Tryz.f47) fnt48
theorem fnt_ok47 : ∀ x ∈ fnt47, FnOk Tryz.prog x := fn_cons Tryz.func47 Tryz.call47 fnt_ok48
noncomputable def fnt46 : List (Nat × Func) := List.cons (46, Tryz.f46) fnt47
theorem fnt_ok46 : ∀ x ∈ fnt46, FnOk Tryz.prog x := fn_cons Tryz.func46 Tryz.call46 fnt_ok47
noncomputable def fnt45 : List (Nat × Func) := List.cons (45, Tryz.f45) fnt46
theorem fnt_ok45 : ∀ x ∈ fnt45, FnOk Tryz.prog x := fn_cons Tryz.func45 Tryz.call45 fnt_ok46
noncomputable def fnt44 : List (Nat × Func) := List.cons (44, Tryz.f44) fnt45
theorem fnt_ok44 : ∀ x ∈ fnt44, FnOk Tryz.prog x := fn_cons Tryz.func44 Tryz.call44 fnt_ok45
noncomputable def fnt43 : List (Nat × Func) := List.cons (43, Tryz.f43) fnt44
theorem fnt_ok43 : ∀ x ∈ fnt43, FnOk Tryz.prog x := fn_cons Tryz.func43 Tryz.call43 fnt_ok44
noncomputable def fnt40 : List (Nat × Func) := List.cons (40, Tryz.f40) fnt43
theorem fnt_ok40 : ∀ x ∈ fnt40, FnOk Tryz.prog x := fn_cons Tryz.func40 Tryz.call40 fnt_ok43
noncomputable def fnt23 : List (Nat × Func) := List.cons (23, Tryz.f23) fnt40
theorem fnt_ok23 : ∀ x ∈ fnt23, FnOk Tryz.prog x := fn_cons Tryz.func23 Tryz.call23 fnt_ok40
noncomputable def fnt22 : List (Nat × Func) := List.cons (22, Tryz.f22) fnt23
theorem fnt_ok22 : ∀ x ∈ fnt22, FnOk Tryz.prog x := fn_cons Tryz.func22 Tryz.call22 fnt_ok23
noncomputable def fnt20 : List (Nat × Func) := List.cons (20, Tryz.f20) fnt22
theorem fnt_ok20 : ∀ x ∈ fnt20, FnOk Tryz.prog x := fn_cons Tryz.func20 Tryz.call20 fnt_ok22
noncomputable def fnt19 : List (Nat × Func) := List.cons (19, Tryz.f19) fnt20
theorem fnt_ok19 : ∀ x ∈ fnt19, FnOk Tryz.prog x := fn_cons Tryz.func19 Tryz.call19 fnt_ok20
noncomputable def fnt18 : List (Nat × Func) := List.cons (18, Tryz.f18) fnt19
theorem fnt_ok18 : ∀ x ∈ fnt18, FnOk Tryz.prog x := fn_cons Tryz.func18 Tryz.call18 fnt_ok19
noncomputable def fnt17 : List (Nat × Func) := List.cons (17, Tryz.f17) fnt18
theorem fnt_ok17 : ∀ x ∈ fnt17, FnOk Tryz.prog x := fn_cons Tryz.func17 Tryz.call17 fnt_ok18
noncomputable def fnt16 : List (Nat × Func) := List.cons (16, Tryz.f16) fnt17
theorem fnt_ok16 : ∀ x ∈ fnt16, FnOk Tryz.prog x := fn_cons Tryz.func16 Tryz.call16 fnt_ok17
noncomputable def fnt15 : List (Nat × Func) := List.cons (15, Tryz.f15) fnt16
theorem fnt_ok15 : ∀ x ∈ fnt15, FnOk Tryz.prog x := fn_cons Tryz.func15 Tryz.call15 fnt_ok16
noncomputable def fnt14 : List (Nat × Func) := List.cons (14, Tryz.f14) fnt15
theorem fnt_ok14 : ∀ x ∈ fnt14, FnOk Tryz.prog x := fn_cons Tryz.func14 Tryz.call14 fnt_ok15
noncomputable def fnt13 : List (Nat × Func) := List.cons (13, Tryz.f13) fnt14
theorem fnt_ok13 : ∀ x ∈ fnt13, FnOk Tryz.prog x := fn_cons Tryz.func13 Tryz.call13 fnt_ok14
noncomputable def fnt12 : List (Nat × Func) := List.cons (12, Tryz.f12) fnt13
theorem fnt_ok12 : ∀ x ∈ fnt12, FnOk Tryz.prog x := fn_cons Tryz.func12 Tryz.call12 fnt_ok13
noncomputable def fnt11 : List (Nat × Func) := List.cons (11, Tryz.f11) fnt12
theorem fnt_ok11 : ∀ x ∈ fnt11, FnOk Tryz.prog x := fn_cons Tryz.func11 Tryz.call11 fnt_ok12
noncomputable def fnt10 : List (Nat × Func) := List.cons (10, Tryz.f10) fnt11
theorem fnt_ok10 : ∀ x ∈ fnt10, FnOk Tryz.prog x := fn_cons Tryz.func10 Tryz.call10 fnt_ok11
noncomputable def fnt9 : List (Nat × Func) := List.cons (9, Tryz.f9) fnt10
theorem fnt_ok9 : ∀ x ∈ fnt9, FnOk Tryz.prog x := fn_cons Tryz.func9 Tryz.call9 fnt_ok10
noncomputable def fnt8 : List (Nat × Func) := List.cons (8, Tryz.f8) fnt9
theorem fnt_ok8 : ∀ x ∈ fnt8, FnOk Tryz.prog x := fn_cons Tryz.func8 Tryz.call8 fnt_ok9
noncomputable def fnt7 : List (Nat × Func) := List.cons (7, Tryz.f7) fnt8
theorem fnt_ok7 : ∀ x ∈ fnt7, FnOk Tryz.prog x := fn_cons Tryz.func7 Tryz.call7 fnt_ok8
noncomputable def fnt6 : List (Nat × Func) := List.cons (6, Tryz.f6) fnt7
theorem fnt_ok6 : ∀ x ∈ fnt6, FnOk Tryz.prog x := fn_cons Tryz.func6 Tryz.call6 fnt_ok7
noncomputable def fnt5 : List (Nat × Func) := List.cons (5, Tryz.f5) fnt6
theorem fnt_ok5 : ∀ x ∈ fnt5, FnOk Tryz.prog x := fn_cons Tryz.func5 Tryz.call5 fnt_ok6
noncomputable def fnt4 : List (Nat × Func) := List.cons (4, Tryz.f4) fnt5
theorem fnt_ok4 : ∀ x ∈ fnt4, FnOk Tryz.prog x := fn_cons Tryz.func4 Tryz.call4 fnt_ok5
noncomputable def fnt3 : List (Nat × Func) := List.cons (3, Tryz.f3) fnt4
theorem fnt_ok3 : ∀ x ∈ fnt3, FnOk Tryz.prog x := fn_cons Tryz.func3 Tryz.call3 fnt_ok4
noncomputable def fnt : List (Nat × Func) := fnt3
theorem fnt_ok : ∀ x ∈ fnt, FnOk Tryz.prog x := fnt_ok3
/-- The types that the runs look at. -/
noncomputable def tyl : List (Nat × TI) := [
  (2, ⟨(.int .i64), 1, 8, [(.int .i64 (Int.ofNat 0))], false⟩),
  (3, ⟨(.int .i64), 1, 8, [(.int .i64 (Int.ofNat 0))], false⟩),
  (4, ⟨.bool, 1, 1, [(.bool false)], false⟩),
  (5, ⟨(.int .u8), 1, 1, [(.int .u8 (Int.ofNat 0))], false⟩),
  (9, ⟨.str, 1, 16, [(.str [])], false⟩),
  (20, ⟨.iface, 1, 16, [.nilI], false⟩),
  (22, ⟨(.int .i64), 1, 8, [(.int .i64 (Int.ofNat 0))], false⟩),
  (23, ⟨(.slice 5), 1, 24, [.nilS], false⟩),
  (24, ⟨(.int .i64), 1, 8, [(.int .i64 (Int.ofNat 0))], false⟩),
  (26, ⟨(.struct [(0, 1, 24), (1, 1, 3)]), 2, 16, [(.int .i64 (Int.ofNat 0)), (.int .i64 (Int.ofNat 0))], true⟩),
  (27, ⟨(.slice 3), 1, 24, [.nilS], false⟩),
  (29, ⟨(.struct [(0, 1, 22), (1, 1, 9), (2, 1, 9), (3, 1, 9), (4, 1, 2), (5, 1, 2), (6, 1, 23), (7, 1, 3), (8, 1, 3), (9, 1, 4), (10, 2, 26), (12, 1, 27)]), 13, 160, [(.int .i64 (Int.ofNat 0)), (.str []), (.str []), (.str []), (.int .i64 (Int.ofNat 0)), (.int .i64 (Int.ofNat 0)), .nilS, (.int .i64 (Int.ofNat 0)), (.int .i64 (Int.ofNat 0)), (.bool false), (.int .i64 (Int.ofNat 0)), (.int .i64 (Int.ofNat 0)), .nilS], true⟩),
  (31, ⟨(.ptr 40), 1, 8, [.nilP], false⟩),
  (32, ⟨(.int .i64), 1, 8, [(.int .i64 (Int.ofNat 0))], false⟩),
  (34, ⟨(.struct [(0, 1, 32), (1, 1, 23), (2, 1, 2), (3, 1, 4)]), 4, 48, [(.int .i64 (Int.ofNat 0)), .nilS, (.int .i64 (Int.ofNat 0)), (.bool false)], true⟩),
  (37, ⟨(.ptr 67), 1, 8, [.nilP], false⟩),
  (38, ⟨(.ptr 75), 1, 8, [.nilP], false⟩),
  (40, ⟨(.struct [(0, 1, 37), (1, 1, 38), (2, 1, 3)]), 3, 24, [.nilP, .nilP, (.int .i64 (Int.ofNat 0))], true⟩),
  (45, ⟨(.slice 9), 1, 24, [.nilS], false⟩),
  (48, ⟨(.slice 34), 1, 24, [.nilS], false⟩),
  (51, ⟨.fnc, 1, 8, [.nilF], false⟩),
  (55, ⟨(.struct [(0, 1, 32)]), 1, 8, [(.int .i64 (Int.ofNat 0))], true⟩),
  (63, ⟨(.map 9 64), 1, 8, [.nilM], false⟩),
  (64, ⟨(.ptr 84), 1, 8, [.nilP], false⟩),
  (65, ⟨(.slice 26), 1, 24, [.nilS], false⟩),
  (67, ⟨(.struct [(0, 1, 63), (1, 1, 65), (2, 1, 3)]), 3, 40, [.nilM, .nilS, (.int .i64 (Int.ofNat 0))], true⟩),
  (68, ⟨(.slice 29), 1, 24, [.nilS], false⟩),
  (70, ⟨(.arr 25 51), 25, 200, [.nilF, .nilF, .nilF, .nilF, .nilF, .nilF, .nilF, .nilF, .nilF, .nilF, .nilF, .nilF, .nilF, .nilF, .nilF, .nilF, .nilF, .nilF, .nilF, .nilF, .nilF, .nilF, .nilF, .nilF, .nilF], false⟩),
  (71, ⟨(.ptr 258), 1, 8, [.nilP], false⟩),
  (72, ⟨(.ptr 156), 1, 8, [.nilP], false⟩),
  (73, ⟨(.slice 139), 1, 24, [.nilS], false⟩),
  (75, ⟨(.struct [(0, 1, 71), (1, 1, 9), (2, 1, 72), (3, 1, 73), (4, 1, 4)]), 5, 64, [.nilP, (.str []), .nilP, .nilS, (.bool false)], true⟩),
  (82, ⟨(.slice 87), 1, 24, [.nilS], false⟩),
  (84, ⟨(.struct [(0, 1, 23), (1, 1, 82), (2, 1, 23)]), 3, 72, [.nilS, .nilS, .nilS], true⟩),
  (87, ⟨(.struct [(0, 1, 2), (1, 1, 23)]), 2, 32, [(.int .i64 (Int.ofNat 0)), .nilS], true⟩),
  (92, ⟨(.struct [(0, 1, 3), (1, 1, 3), (2, 1, 2), (3, 1, 9)]), 4, 40, [(.int .i64 (Int.ofNat 0)), (.int .i64 (Int.ofNat 0)), (.int .i64 (Int.ofNat 0)), (.str [])], true⟩),
  (96, ⟨.fnc, 1, 8, [.nilF], false⟩),
  (113, ⟨(.slice 214), 1, 24, [.nilS], false⟩),
  (115, ⟨(.struct [(0, 1, 113), (1, 1, 4), (2, 1, 2), (3, 1, 2), (4, 1, 2), (5, 1, 2), (6, 1, 2)]), 7, 72, [.nilS, (.bool false), (.int .i64 (Int.ofNat 0)), (.int .i64 (Int.ofNat 0)), (.int .i64 (Int.ofNat 0)), (.int .i64 (Int.ofNat 0)), (.int .i64 (Int.ofNat 0))], true⟩),
  (130, ⟨(.int .u64), 1, 8, [(.int .u64 (Int.ofNat 0))], false⟩),
  (134, ⟨(.int .u64), 1, 8, [(.int .u64 (Int.ofNat 0))], false⟩),
  (136, ⟨(.struct [(0, 1, 3), (1, 1, 134), (2, 1, 2), (3, 1, 2), (4, 1, 3), (5, 1, 3), (6, 1, 2), (7, 1, 3), (8, 1, 3), (9, 1, 2), (10, 1, 3), (11, 1, 3), (12, 1, 2), (13, 1, 3), (14, 1, 9)]), 15, 128, [(.int .i64 (Int.ofNat 0)), (.int .u64 (Int.ofNat 0)), (.int .i64 (Int.ofNat 0)), (.int .i64 (Int.ofNat 0)), (.int .i64 (Int.ofNat 0)), (.int .i64 (Int.ofNat 0)), (.int .i64 (Int.ofNat 0)), (.int .i64 (Int.ofNat 0)), (.int .i64 (Int.ofNat 0)), (.int .i64 (Int.ofNat 0)), (.int .i64 (Int.ofNat 0)), (.int .i64 (Int.ofNat 0)), (.int .i64 (Int.ofNat 0)), (.int .i64 (Int.ofNat 0)), (.str [])], true⟩),
  (139, ⟨(.ptr 256), 1, 8, [.nilP], false⟩),
  (151, ⟨(.ptr 162), 1, 8, [.nilP], false⟩),
  (154, ⟨(.slice 151), 1, 24, [.nilS], false⟩),
  (156, ⟨(.struct [(0, 1, 139), (1, 1, 4), (2, 1, 154), (3, 1, 4)]), 4, 48, [.nilP, (.bool false), .nilS, (.bool false)], true⟩),
  (159, ⟨(.struct [(0, 1, 9), (1, 1, 3), (2, 1, 3), (3, 1, 2), (4, 1, 3)]), 5, 48, [(.str []), (.int .i64 (Int.ofNat 0)), (.int .i64 (Int.ofNat 0)), (.int .i64 (Int.ofNat 0)), (.int .i64 (Int.ofNat 0))], true⟩),
  (174, ⟨(.map 9 3), 1, 8, [.nilM], false⟩),
  (184, ⟨(.int .i64), 1, 8, [(.int .i64 (Int.ofNat 0))], false⟩),
  (186, ⟨(.struct [(0, 1, 184), (1, 1, 2), (2, 1, 3)]), 3, 24, [(.int .i64 (Int.ofNat 0)), (.int .i64 (Int.ofNat 0)), (.int .i64 (Int.ofNat 0))], true⟩),
  (212, ⟨(.int .i64), 1, 8, [(.int .i64 (Int.ofNat 0))], false⟩),
  (214, ⟨(.struct [(0, 1, 212), (1, 1, 2), (2, 1, 134), (3, 1, 134)]), 4, 32, [(.int .i64 (Int.ofNat 0)), (.int .i64 (Int.ofNat 0)), (.int .u64 (Int.ofNat 0)), (.int .u64 (Int.ofNat 0))], true⟩),
  (241, ⟨(.slice 96), 1, 24, [.nilS], false⟩),
  (250, ⟨(.ptr 371), 1, 8, [.nilP], false⟩),
  (254, ⟨(.struct [(0, 1, 250)]), 1, 8, [.nilP], true⟩),
  (256, ⟨(.struct [(0, 1, 254), (1, 1, 37), (2, 1, 9), (3, 15, 136), (18, 1, 2), (19, 1, 4), (20, 1, 4), (21, 1, 4)]), 22, 176, [.nilP, .nilP, (.str []), (.int .i64 (Int.ofNat 0)), (.int .u64 (Int.ofNat 0)), (.int .i64 (Int.ofNat 0)), (.int .i64 (Int.ofNat 0)), (.int .i64 (Int.ofNat 0)), (.int .i64 (Int.ofNat 0)), (.int .i64 (Int.ofNat 0)), (.int .i64 (Int.ofNat 0)), (.int .i64 (Int.ofNat 0)), (.int .i64 (Int.ofNat 0)), (.int .i64 (Int.ofNat 0)), (.int .i64 (Int.ofNat 0)), (.int .i64 (Int.ofNat 0)), (.int .i64 (Int.ofNat 0)), (.str []), (.int .i64 (Int.ofNat 0)), (.bool false), (.bool false), (.bool false)], true⟩),
  (258, ⟨(.struct [(0, 1, 139), (1, 1, 71), (2, 1, 2), (3, 3, 186)]), 6, 48, [.nilP, .nilP, (.int .i64 (Int.ofNat 0)), (.int .i64 (Int.ofNat 0)), (.int .i64 (Int.ofNat 0)), (.int .i64 (Int.ofNat 0))], true⟩),
  (259, ⟨(.slice 159), 1, 24, [.nilS], false⟩),
  (277, ⟨(.arr 2 2), 2, 16, [(.int .i64 (Int.ofNat 0)), (.int .i64 (Int.ofNat 0))], false⟩),
  (323, ⟨.fnc, 1, 8, [.nilF], false⟩),
  (332, ⟨(.ptr 338), 1, 8, [.nilP], false⟩),
  (335, ⟨(.map 2 463), 1, 8, [.nilM], false⟩),
  (336, ⟨(.map 214 3), 1, 8, [.nilM], false⟩),
  (338, ⟨(.struct [(0, 1, 23), (1, 15, 136), (16, 1, 2), (17, 1, 2), (18, 1, 335), (19, 1, 336), (20, 7, 115)]), 27, 256, [.nilS, (.int .i64 (Int.ofNat 0)), (.int .u64 (Int.ofNat 0)), (.int .i64 (Int.ofNat 0)), (.int .i64 (Int.ofNat 0)), (.int .i64 (Int.ofNat 0)), (.int .i64 (Int.ofNat 0)), (.int .i64 (Int.ofNat 0)), (.int .i64 (Int.ofNat 0)), (.int .i64 (Int.ofNat 0)), (.int .i64 (Int.ofNat 0)), (.int .i64 (Int.ofNat 0)), (.int .i64 (Int.ofNat 0)), (.int .i64 (Int.ofNat 0)), (.int .i64 (Int.ofNat 0)), (.str []), (.int .i64 (Int.ofNat 0)), (.int .i64 (Int.ofNat 0)), .nilM, .nilM, .nilS, (.bool false), (.int .i64 (Int.ofNat 0)), (.int .i64 (Int.ofNat 0)), (.int .i64 (Int.ofNat 0)), (.int .i64 (Int.ofNat 0)), (.int .i64 (Int.ofNat 0))], true⟩),
  (357, ⟨(.slice 4), 1, 24, [.nilS], false⟩),
  (365, ⟨(.slice 368), 1, 24, [.nilS], false⟩),
  (368, ⟨(.struct [(0, 1, 3), (1, 1, 3), (2, 1, 134)]), 3, 24, [(.int .i64 (Int.ofNat 0)), (.int .i64 (Int.ofNat 0)), (.int .u64 (Int.ofNat 0))], true⟩),
  (371, ⟨(.struct [(0, 1, 37), (1, 1, 9), (2, 15, 136), (17, 1, 2), (18, 1, 2)]), 19, 168, [.nilP, (.str []), (.int .i64 (Int.ofNat 0)), (.int .u64 (Int.ofNat 0)), (.int .i64 (Int.ofNat 0)), (.int .i64 (Int.ofNat 0)), (.int .i64 (Int.ofNat 0)), (.int .i64 (Int.ofNat 0)), (.int .i64 (Int.ofNat 0)), (.int .i64 (Int.ofNat 0)), (.int .i64 (Int.ofNat 0)), (.int .i64 (Int.ofNat 0)), (.int .i64 (Int.ofNat 0)), (.int .i64 (Int.ofNat 0)), (.int .i64 (Int.ofNat 0)), (.int .i64 (Int.ofNat 0)), (.str []), (.int .i64 (Int.ofNat 0)), (.int .i64 (Int.ofNat 0))], true⟩),
  (380, ⟨.fnc, 1, 8, [.nilF], false⟩),
  (382, ⟨(.arr 4 380), 4, 32, [.nilF, .nilF, .nilF, .nilF], false⟩),
  (383, ⟨(.slice 387), 1, 24, [.nilS], false⟩),
  (387, ⟨(.struct [(0, 1, 2), (1, 1, 2), (2, 1, 184), (3, 1, 3)]), 4, 32, [(.int .i64 (Int.ofNat 0)), (.int .i64 (Int.ofNat 0)), (.int .i64 (Int.ofNat 0)), (.int .i64 (Int.ofNat 0))], true⟩),
  (395, ⟨(.slice 2), 1, 24, [.nilS], false⟩),
  (418, ⟨(.int .i64), 1, 8, [(.int .i64 (Int.ofNat 0))], false⟩),
  (463, ⟨(.struct [(0, 1, 134), (1, 1, 418), (2, 1, 4)]), 3, 24, [(.int .u64 (Int.ofNat 0)), (.int .i64 (Int.ofNat 0)), (.bool false)], true⟩),
  (470, ⟨(.map 2 134), 1, 8, [.nilM], false⟩),
  (481, ⟨(.arr 7 3), 7, 56, [(.int .i64 (Int.ofNat 0)), (.int .i64 (Int.ofNat 0)), (.int .i64 (Int.ofNat 0)), (.int .i64 (Int.ofNat 0)), (.int .i64 (Int.ofNat 0)), (.int .i64 (Int.ofNat 0)), (.int .i64 (Int.ofNat 0))], false⟩),
  (533, ⟨(.map 2 2), 1, 8, [.nilM], false⟩),
  (538, ⟨(.map 2 3), 1, 8, [.nilM], false⟩)]
theorem tyl_ok : ∀ x ∈ tyl, tyOf Tryz.prog x.1 x.2.eq = some x.2 :=
  List.forall_mem_cons.2 ⟨by kernel_rfl,
  List.forall_mem_cons.2 ⟨by kernel_rfl,
  List.forall_mem_cons.2 ⟨by kernel_rfl,
  List.forall_mem_cons.2 ⟨by kernel_rfl,
  List.forall_mem_cons.2 ⟨by kernel_rfl,
  List.forall_mem_cons.2 ⟨by kernel_rfl,
  List.forall_mem_cons.2 ⟨by kernel_rfl,
  List.forall_mem_cons.2 ⟨by kernel_rfl,
  List.forall_mem_cons.2 ⟨by kernel_rfl,
  List.forall_mem_cons.2 ⟨by kernel_rfl,
  List.forall_mem_cons.2 ⟨by kernel_rfl,
  List.forall_mem_cons.2 ⟨by kernel_rfl,
  List.forall_mem_cons.2 ⟨by kernel_rfl,
  List.forall_mem_cons.2 ⟨by kernel_rfl,
  List.forall_mem_cons.2 ⟨by kernel_rfl,
  List.forall_mem_cons.2 ⟨by kernel_rfl,
  List.forall_mem_cons.2 ⟨by kernel_rfl,
  List.forall_mem_cons.2 ⟨by kernel_rfl,
  List.forall_mem_cons.2 ⟨by kernel_rfl,
  List.forall_mem_cons.2 ⟨by kernel_rfl,
  List.forall_mem_cons.2 ⟨by kernel_rfl,
  List.forall_mem_cons.2 ⟨by kernel_rfl,
  List.forall_mem_cons.2 ⟨by kernel_rfl,
  List.forall_mem_cons.2 ⟨by kernel_rfl,
  List.forall_mem_cons.2 ⟨by kernel_rfl,
  List.forall_mem_cons.2 ⟨by kernel_rfl,
  List.forall_mem_cons.2 ⟨by kernel_rfl,
  List.forall_mem_cons.2 ⟨by kernel_rfl,
  List.forall_mem_cons.2 ⟨by kernel_rfl,
  List.forall_mem_cons.2 ⟨by kernel_rfl,
  List.forall_mem_cons.2 ⟨by kernel_rfl,
  List.forall_mem_cons.2 ⟨by kernel_rfl,
  List.forall_mem_cons.2 ⟨by kernel_rfl,
  List.forall_mem_cons.2 ⟨by kernel_rfl,
  List.forall_mem_cons.2 ⟨by kernel_rfl,
  List.forall_mem_cons.2 ⟨by kernel_rfl,
  List.forall_mem_cons.2 ⟨by kernel_rfl,
  List.forall_mem_cons.2 ⟨by kernel_rfl,
  List.forall_mem_cons.2 ⟨by kernel_rfl,
  List.forall_mem_cons.2 ⟨by kernel_rfl,
  List.forall_mem_cons.2 ⟨by kernel_rfl,
  List.forall_mem_cons.2 ⟨by kernel_rfl,
  List.forall_mem_cons.2 ⟨by kernel_rfl,
  List.forall_mem_cons.2 ⟨by kernel_rfl,
  List.forall_mem_cons.2 ⟨by kernel_rfl,
  List.forall_mem_cons.2 ⟨by kernel_rfl,
  List.forall_mem_cons.2 ⟨by kernel_rfl,
  List.forall_mem_cons.2 ⟨by kernel_rfl,
  List.forall_mem_cons.2 ⟨by kernel_rfl,
  List.forall_mem_cons.2 ⟨by kernel_rfl,
  List.forall_mem_cons.2 ⟨by kernel_rfl,
  List.forall_mem_cons.2 ⟨by kernel_rfl,
  List.forall_mem_cons.2 ⟨by kernel_rfl,
  List.forall_mem_cons.2 ⟨by kernel_rfl,
  List.forall_mem_cons.2 ⟨by kernel_rfl,
  List.forall_mem_cons.2 ⟨by kernel_rfl,
  List.forall_mem_cons.2 ⟨by kernel_rfl,
  List.forall_mem_cons.2 ⟨by kernel_rfl,
  List.forall_mem_cons.2 ⟨by kernel_rfl,
  List.forall_mem_cons.2 ⟨by kernel_rfl,
  List.forall_mem_cons.2 ⟨by kernel_rfl,
  List.forall_mem_cons.2 ⟨by kernel_rfl,
  List.forall_mem_cons.2 ⟨by kernel_rfl,
  List.forall_mem_cons.2 ⟨by kernel_rfl,
  List.forall_mem_cons.2 ⟨by kernel_rfl,
  List.forall_mem_cons.2 ⟨by kernel_rfl,
  List.forall_mem_cons.2 ⟨by kernel_rfl,
  List.forall_mem_cons.2 ⟨by kernel_rfl,
  List.forall_mem_cons.2 ⟨by kernel_rfl,
  List.forall_mem_cons.2 ⟨by kernel_rfl,
  List.forall_mem_cons.2 ⟨by kernel_rfl,
  List.forall_mem_cons.2 ⟨by kernel_rfl,
  List.forall_mem_cons.2 ⟨by kernel_rfl,
  List.forall_mem_cons.2 ⟨by kernel_rfl,
  List.forall_mem_cons.2 ⟨by kernel_rfl,
  List.forall_mem_cons.2 ⟨by kernel_rfl,
  List.forall_mem_cons.2 ⟨by kernel_rfl,
  List.forall_mem_cons.2 ⟨by kernel_rfl,
  List.forall_mem_cons.2 ⟨by kernel_rfl,
  fun x h => by cases h⟩⟩⟩⟩⟩⟩⟩⟩⟩⟩⟩⟩⟩⟩⟩⟩⟩⟩⟩⟩⟩⟩⟩⟩⟩⟩⟩⟩⟩⟩⟩⟩⟩⟩⟩⟩⟩⟩⟩⟩⟩⟩⟩⟩⟩⟩⟩⟩⟩⟩⟩⟩⟩⟩⟩⟩⟩⟩⟩⟩⟩⟩⟩⟩⟩⟩⟩⟩⟩⟩⟩⟩⟩⟩⟩⟩⟩⟩⟩
/-- Plans for the regions that draw their order. -/
noncomputable def pll : List (Nat × T Plan) := [
  (15, ofL [(3, [(0, []), (1, []), (2, []), (3, []), (4, []), (6, []), (7, []), (8, []), (9, []), (12, []), (5, [9]), (10, []), (11, []), (13, [])])]),
  (19, ofL [(1, [(0, []), (1, []), (2, []), (3, []), (4, []), (5, []), (6, []), (7, []), (8, []), (9, []), (10, []), (11, []), (12, []), (13, []), (14, []), (15, []), (16, []), (17, [])])]),
  (20, ofL [(2, [(0, []), (1, []), (2, []), (3, []), (4, []), (5, []), (6, []), (7, []), (8, []), (9, []), (10, []), (11, []), (12, []), (13, [])])]),
  (22, ofL [(2, [(0, []), (1, []), (2, []), (4, []), (5, []), (6, []), (3, [5]), (7, []), (8, []), (9, []), (10, []), (11, []), (12, [])])]),
  (23, ofL [(1, [(0, []), (1, []), (2, []), (4, []), (5, []), (6, []), (7, []), (3, [5, 7]), (8, []), (9, []), (10, [])])]),
  (40, ofL [(2, [(0, []), (1, []), (2, []), (3, []), (4, []), (5, []), (10, []), (6, []), (7, []), (8, []), (9, []), (11, []), (12, [])])]),
  (43, ofL [(1, [(0, []), (1, []), (2, []), (3, []), (4, []), (5, []), (6, []), (7, []), (8, []), (9, []), (10, []), (11, [])])]),
  (80, ofL [(18, [(0, []), (1, []), (2, []), (3, []), (4, []), (5, []), (6, []), (7, [3]), (8, []), (9, []), (10, [])])]),
  (91, ofL [(6, [(0, []), (1, []), (2, []), (3, []), (4, []), (5, []), (7, []), (6, [4]), (8, []), (9, []), (10, [])])]),
  (98, ofL [(11, [(0, []), (1, []), (2, []), (3, []), (4, []), (5, []), (6, []), (7, []), (8, [])])]),
  (100, ofL [(1, [(0, []), (1, []), (2, []), (3, []), (4, []), (5, []), (6, []), (7, [])])]),
  (137, ofL [(1, [(0, []), (1, []), (2, []), (3, []), (4, []), (5, []), (6, []), (7, []), (8, []), (9, []), (10, []), (11, []), (12, []), (13, []), (14, [])]), (4, [(0, []), (1, []), (2, []), (3, []), (4, []), (5, []), (6, []), (7, []), (8, []), (9, []), (10, []), (11, []), (12, []), (13, []), (14, []), (15, []), (16, [])]), (11, [(0, []), (1, []), (2, []), (3, []), (4, []), (5, []), (6, []), (7, []), (8, []), (9, []), (10, []), (11, []), (12, []), (13, []), (14, []), (15, []), (16, []), (17, []), (18, []), (19, []), (20, []), (21, []), (22, []), (23, []), (24, [])]), (14, [(0, []), (1, []), (2, []), (3, []), (4, []), (5, []), (6, []), (7, []), (8, []), (9, []), (10, []), (11, [])]), (15, [(0, []), (1, []), (2, []), (3, []), (4, []), (5, []), (6, []), (7, []), (8, []), (9, []), (10, []), (11, []), (12, []), (13, []), (14, []), (15, []), (16, []), (17, []), (18, []), (19, []), (20, [3, 7, 13, 14, 15, 16, 17]), (21, []), (22, [])])]),
  (171, ofL [(3, [(0, []), (1, []), (2, []), (3, []), (4, []), (5, []), (6, []), (7, []), (8, []), (9, []), (10, []), (11, []), (12, []), (13, []), (14, []), (15, []), (16, []), (17, []), (18, []), (19, []), (20, []), (21, []), (22, []), (23, []), (24, []), (25, []), (26, []), (27, []), (28, []), (29, []), (30, []), (31, []), (32, []), (33, []), (34, []), (35, []), (36, []), (37, []), (38, []), (39, []), (40, []), (41, []), (42, []), (43, []), (44, []), (45, []), (46, []), (47, []), (48, []), (49, []), (50, [])])]),
  (207, ofL [(29, [(0, []), (1, []), (2, [1]), (3, [])])]),
  (208, ofL [(7, [(0, []), (1, []), (2, []), (3, []), (4, []), (5, []), (6, []), (7, []), (8, []), (9, []), (10, []), (11, []), (15, []), (16, []), (17, []), (34, []), (35, []), (36, []), (42, []), (43, []), (44, []), (56, []), (57, []), (58, []), (59, []), (60, []), (61, []), (62, []), (64, []), (65, []), (66, []), (67, []), (68, []), (69, []), (70, []), (72, []), (73, []), (74, []), (75, []), (84, []), (12, [10, 16, 17, 35, 36, 42, 44, 58, 60, 62, 66, 68, 70, 73, 74, 75]), (13, []), (14, []), (18, []), (19, []), (20, []), (21, []), (22, []), (23, []), (24, []), (25, []), (26, []), (27, []), (28, []), (29, []), (30, []), (31, [10, 13, 35, 36, 42, 44, 58, 60, 62, 66, 68, 70, 73, 74, 75]), (32, []), (33, []), (37, []), (38, []), (39, []), (40, []), (41, []), (45, [10, 13, 39, 40, 58, 60, 62, 66, 68, 70, 73, 74, 75]), (46, []), (47, []), (48, []), (49, []), (50, []), (51, []), (52, []), (53, []), (54, []), (55, []), (63, [10, 13, 39, 40, 53, 54, 66, 68, 70, 73, 74, 75]), (71, [10, 13, 39, 40, 53, 54, 73, 74, 75]), (76, []), (77, []), (78, []), (79, [10, 13, 39, 40, 53, 54]), (80, []), (81, []), (82, []), (83, [])])]),
  (212, ofL [(12, [(0, []), (1, []), (2, []), (3, []), (4, []), (5, []), (6, []), (7, []), (8, []), (9, []), (10, []), (11, []), (12, []), (13, []), (14, []), (15, []), (16, []), (17, []), (18, []), (19, []), (20, []), (21, [])])]),
  (213, ofL [(1, [(0, []), (1, []), (2, []), (3, []), (4, []), (5, [])])]),
  (214, ofL [(12, [(0, []), (1, []), (2, []), (3, []), (4, []), (5, []), (6, []), (7, []), (8, []), (9, [4]), (10, []), (11, []), (12, []), (13, []), (14, []), (15, [])]), (13, [(0, []), (1, []), (2, []), (3, []), (4, []), (5, []), (6, []), (7, []), (8, []), (9, [])])]),
  (216, ofL [(11, [(0, []), (1, []), (2, []), (3, []), (4, []), (5, []), (6, []), (7, []), (8, []), (9, [])])]),
  (217, ofL [(1, [(0, []), (1, []), (2, []), (3, []), (4, []), (5, [])])]),
  (224, ofL [(8, [(0, []), (1, []), (2, []), (3, []), (4, []), (5, []), (6, []), (7, []), (8, []), (9, []), (10, []), (11, []), (12, [])])]),
  (226, ofL [(3, [(0, []), (1, []), (2, []), (3, []), (4, []), (5, []), (6, []), (7, []), (8, [7]), (9, []), (10, [])])]),
  (233, ofL [(3, [(0, []), (1, []), (2, []), (3, []), (4, []), (5, []), (6, []), (7, []), (8, []), (9, []), (10, [])]), (4, [(0, []), (1, []), (2, []), (3, []), (4, []), (5, []), (6, []), (7, []), (8, []), (9, [])])]),
  (241, ofL [(6, [(0, []), (1, []), (2, []), (3, []), (4, []), (5, []), (6, []), (7, []), (8, []), (9, []), (10, []), (11, []), (12, []), (13, [])]), (12, [(0, []), (1, []), (2, [1]), (3, []), (4, [])])]),
  (242, ofL [(13, [(0, []), (1, []), (2, []), (3, []), (4, []), (5, []), (6, []), (7, []), (8, []), (9, []), (10, []), (11, []), (12, []), (13, []), (14, []), (15, []), (16, []), (17, []), (18, []), (19, []), (20, []), (21, [])])]),
  (285, ofL [(7, [(0, []), (1, []), (2, []), (3, []), (4, []), (5, []), (6, []), (7, []), (8, []), (9, []), (10, []), (11, []), (12, []), (13, [])])]),
  (286, ofL [(0, [(0, []), (1, []), (2, []), (3, []), (4, []), (5, []), (6, []), (7, []), (8, []), (9, [])])]),
  (288, ofL [(8, [(0, []), (1, []), (2, []), (3, []), (4, []), (5, []), (6, []), (7, []), (8, []), (9, []), (10, []), (11, []), (12, []), (13, []), (14, []), (15, []), (16, []), (17, []), (18, []), (19, []), (20, []), (21, []), (22, []), (23, []), (24, []), (25, []), (26, []), (27, []), (28, [])])]),
  (290, ofL [(1, [(0, []), (1, []), (2, []), (3, []), (4, []), (5, []), (6, []), (7, []), (8, []), (9, []), (10, []), (11, []), (12, []), (13, [])])]),
  (291, ofL [(5, [(0, []), (1, []), (2, []), (3, []), (4, []), (5, []), (6, []), (7, []), (8, []), (9, []), (10, [3, 7]), (11, []), (12, [])])]),
  (295, ofL [(3, [(0, []), (1, []), (2, []), (3, []), (4, []), (5, []), (6, []), (7, []), (8, []), (9, []), (10, []), (11, []), (12, []), (13, [])]), (6, [(0, []), (1, []), (2, []), (3, []), (4, []), (5, []), (6, []), (7, []), (8, []), (9, []), (10, []), (11, []), (12, []), (13, []), (14, []), (15, []), (16, [])])]),
  (300, ofL [(3, [(0, []), (1, []), (2, []), (3, []), (4, []), (5, []), (6, []), (7, []), (8, []), (9, []), (10, []), (11, []), (12, []), (13, [])]), (8, [(0, []), (1, []), (2, []), (3, []), (4, []), (5, []), (6, []), (7, []), (8, []), (9, []), (10, []), (11, []), (12, []), (13, []), (14, [])])]),
  (306, ofL [(4, [(0, []), (1, []), (2, []), (4, []), (5, []), (3, [1]), (6, []), (7, []), (8, [])])]),
  (340, ofL [(5, [(0, []), (1, []), (2, []), (3, []), (4, []), (5, []), (6, []), (7, []), (8, []), (9, []), (10, []), (11, [])])]),
  (342, ofL [(1, [(0, []), (1, []), (2, []), (3, []), (4, []), (5, []), (6, [3, 4, 5]), (7, [])])]),
  (345, ofL [(1, [(0, []), (1, []), (2, []), (3, []), (4, []), (5, []), (6, []), (7, []), (8, []), (9, []), (10, []), (11, [])])]),
  (347, ofL [(8, [(0, []), (1, []), (2, []), (3, []), (4, []), (5, []), (12, []), (6, [3]), (7, []), (8, []), (9, []), (10, []), (11, []), (13, []), (14, [])])]),
  (371, ofL [(3, [(0, []), (1, []), (2, []), (3, []), (4, []), (5, []), (6, []), (7, []), (8, []), (9, [7, 8]), (10, [])])]),
  (375, ofL [(1, [(0, []), (1, []), (2, []), (3, []), (4, []), (5, []), (6, []), (7, []), (8, []), (9, []), (10, []), (11, []), (12, []), (13, []), (14, [])])]),
  (376, ofL [(1, [(0, []), (1, []), (2, []), (3, []), (4, []), (5, []), (6, []), (7, []), (8, []), (9, []), (10, []), (11, []), (12, []), (13, []), (14, []), (15, [])])]),
  (378, ofL [(3, [(0, []), (1, []), (2, []), (3, []), (4, []), (5, []), (6, []), (7, []), (8, []), (9, []), (10, []), (11, []), (12, []), (13, [])]), (11, [(0, []), (1, []), (2, []), (3, []), (4, []), (5, []), (6, []), (7, []), (8, []), (9, []), (10, []), (11, []), (12, []), (13, []), (14, []), (15, []), (16, []), (17, [])])]),
  (386, ofL [(4, [(0, []), (1, []), (2, []), (3, []), (4, []), (5, []), (6, [])])]),
  (387, ofL [(0, [(0, []), (1, []), (2, []), (3, []), (4, []), (5, []), (6, []), (7, []), (8, []), (9, []), (10, [])]), (7, [(0, []), (1, []), (3, []), (4, []), (5, []), (6, []), (7, []), (2, [6]), (8, [])])]),
  (388, ofL [(12, [(0, []), (1, []), (2, []), (3, []), (4, []), (6, []), (7, []), (8, []), (9, []), (10, []), (15, []), (5, [10]), (11, []), (12, []), (13, []), (14, []), (16, []), (17, [])])]),
  (389, ofL [(3, [(0, []), (1, []), (2, []), (3, []), (4, []), (5, []), (6, []), (7, []), (8, [])])]),
  (392, ofL [(2, [(0, []), (1, []), (2, []), (3, []), (4, []), (5, []), (6, []), (7, []), (8, []), (9, []), (10, [])]), (3, [(0, []), (1, []), (2, []), (3, []), (4, []), (5, []), (6, []), (7, [])]), (7, [(0, []), (1, []), (2, []), (3, []), (4, []), (5, []), (6, []), (7, []), (8, []), (9, []), (10, []), (11, [])]), (8, [(0, []), (1, []), (2, []), (3, []), (4, []), (5, []), (6, []), (7, []), (8, []), (9, []), (10, []), (11, [])]), (9, [(0, []), (1, []), (2, []), (3, []), (4, []), (5, []), (6, []), (7, []), (8, []), (9, []), (10, []), (11, []), (12, [])])]),
  (414, ofL [(5, [(0, []), (1, []), (2, []), (3, []), (4, []), (5, []), (6, []), (7, []), (8, []), (9, []), (10, []), (11, []), (12, []), (13, [])]), (53, [(0, []), (1, []), (2, []), (3, []), (4, []), (5, []), (6, []), (7, []), (8, []), (9, []), (10, []), (11, []), (12, []), (13, []), (14, []), (15, []), (16, []), (17, [])])]),
  (429, ofL [(3, [(0, []), (1, []), (2, []), (3, []), (4, []), (5, []), (6, []), (7, []), (8, []), (9, []), (10, []), (11, []), (12, []), (13, []), (14, []), (15, []), (16, [])])]),
  (435, ofL [(4, [(0, []), (1, []), (2, []), (3, []), (4, []), (5, []), (6, []), (7, []), (8, []), (9, []), (10, []), (11, []), (12, [])])]),
  (440, ofL [(1, [(0, []), (1, []), (2, []), (3, []), (4, []), (5, []), (6, []), (7, []), (8, []), (9, []), (10, []), (11, []), (12, []), (13, []), (14, []), (15, []), (16, []), (17, []), (18, []), (19, []), (20, []), (21, []), (22, []), (23, []), (24, []), (25, []), (26, []), (27, []), (28, []), (29, []), (30, []), (31, []), (32, []), (33, []), (34, []), (35, []), (36, []), (37, []), (38, []), (39, []), (40, []), (41, [])])]),
  (454, ofL [(6, [(0, []), (1, []), (2, []), (3, []), (4, []), (5, []), (6, []), (7, []), (8, [])])]),
  (457, ofL [(5, [(0, []), (1, []), (2, []), (3, []), (4, []), (5, []), (6, []), (7, []), (8, []), (9, []), (10, []), (11, []), (12, []), (13, [])]), (24, [(0, []), (1, []), (2, []), (3, []), (4, []), (5, []), (6, []), (7, [])])]),
  (487, ofL [(4, [(0, []), (1, []), (2, []), (4, []), (5, []), (6, []), (3, [5, 6]), (7, [5, 6]), (8, [])])]),
  (488, ofL [(6, [(0, []), (1, []), (2, []), (3, []), (4, []), (5, []), (6, []), (7, []), (8, []), (9, []), (10, []), (11, []), (12, []), (13, [])])]),
  (490, ofL [(7, [(0, []), (1, []), (2, []), (3, []), (4, []), (5, []), (6, []), (7, []), (8, []), (9, []), (10, []), (11, []), (12, []), (13, [])])]),
  (491, ofL [(1, [(0, []), (1, []), (2, []), (3, []), (4, []), (5, []), (6, []), (7, []), (8, []), (9, []), (10, []), (11, []), (12, []), (13, []), (14, []), (15, [])])]),
  (493, ofL [(4, [(0, []), (1, []), (3, []), (2, [0]), (4, []), (5, [])])]),
  (500, ofL [(1, [(0, []), (1, []), (2, []), (3, []), (4, []), (5, []), (6, []), (7, []), (8, []), (9, []), (10, [])])]),
  (501, ofL [(3, [(0, []), (1, []), (2, []), (3, []), (4, []), (5, []), (6, []), (7, []), (8, []), (9, []), (10, []), (11, []), (12, []), (13, [])]), (6, [(0, []), (1, []), (2, []), (3, []), (4, []), (5, []), (6, []), (7, []), (8, []), (9, []), (10, []), (11, []), (12, []), (13, []), (14, []), (15, []), (16, []), (17, []), (18, []), (19, []), (20, []), (21, []), (22, []), (23, []), (24, []), (25, []), (26, [])])]),
  (503, ofL [(1, [(0, []), (1, []), (2, []), (3, []), (4, []), (5, []), (6, []), (7, []), (8, []), (9, [])])])]
noncomputable def exl : List (Nat × String) := [(433, "internal/bytealg.IndexByte"), (497, "internal/bytealg.IndexByteString")]
noncomputable def tb : (Nat → Option CV) → (Nat → List Mm) → Tb := mkB fnt tyl pll exl
theorem mixed : Tryz.prog.follows .mixedOrders = true := by kernel_rfl
theorem exl_ok : ∀ x ∈ exl, ∀ (args : Array Value) (w : World), (callFunc x.1 args).run Tryz.prog w = ((Extern.BytealgIndexByte.indexByte args).run Tryz.prog w).andThen fun v w' => .ok (.value v) w' :=
  List.forall_mem_cons.2 ⟨fun args w => run_callFunc_extern Tryz.func433 (by kernel_rfl) (by kernel_rfl) (by kernel_rfl) (e := Extern.BytealgIndexByte.indexByte) (by kernel_rfl) args w,
  List.forall_mem_cons.2 ⟨fun args w => run_callFunc_extern Tryz.func497 (by kernel_rfl) (by kernel_rfl) (by kernel_rfl) (e := Extern.BytealgIndexByte.indexByte) (by kernel_rfl) args w,
  fun x h => by cases h⟩⟩
end Go.Proofs.YtlhcpkgaeandfaaGreat.CE
