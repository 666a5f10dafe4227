/- The run, put together. -/
import Derived.Test.YtjjmechghfjbmaaVanKRun1
import Derived.Test.YtjjmechghfjbmaaVanKRun2
import Derived.Test.YtjjmechghfjbmaaVanKRun3
import Derived.Test.YtjjmechghfjbmaaVanKRun4
set_option linter.unusedVariables false
set_option linter.unusedSimpArgs false
set_option linter.unnecessarySimpa false
set_option maxRecDepth 100000
set_option maxHeartbeats 0
namespace Go.Proofs.Ytjjmechghfjbmaa.Rn
open Go Am
theorem t273 : CodeR Cd.tab k231 s266 (.exit 0) s265 := .iter (body := k232) (tr := true) (live := [0, 1, 3, 4, 25, 26]) (k := 2) (n := 121) (st1 := s270) (by kernel_rfl) t271 t272
theorem t274 : CodeR Cd.tab k230 s266 .normal s265 := .blockExit (a := k231) (id := 0) (by kernel_rfl) t273
theorem t275 : CodeR Cd.tab k225 s263 .normal s265 := .seq (a := k227) (b := k230) (st1 := s266) (by kernel_rfl) t267 t274
theorem t278 : CodeR Cd.tab k224 s263 .ret s261 := .seq (a := k225) (b := k276) (st1 := s265) (by kernel_rfl) t275 t277
theorem t279 : CodeR Cd.tab k220 s260 .ret s261 := .seq (a := k221) (b := k224) (st1 := s263) (by kernel_rfl) t264 t278
theorem t280 : CodeR Cd.tab k215 s260 .ret s261 := .seq (a := k218) (b := k220) (st1 := s260) (by kernel_rfl) t262 t279
theorem t281 : CallR Cd.tab ⟨15, [15, 12, 2, 1, 0, 0]⟩ h252 v189 [(.lit (.int .i64 1))] [(.lit (.bool true))] h235 := .fn (i := 99) (fa := []) (fc := [(.ptr 10 0), (.ptr 12 0), (.ptr 13 0), (.ptr 14 0)]) (as := [(.lit (.int .i64 1)), (.ptr 10 0), (.ptr 12 0), (.ptr 13 0), (.ptr 14 0)]) (rs0 := [(.lit (.bool true))]) (rs1 := [(.lit (.bool true))]) (H1 := h235) (af := Cd.a99) (bd := k215) (st := s260) (st' := s261) (e := .ret) (by kernel_rfl) (by kernel_rfl) (by kernel_rfl) (by kernel_rfl) (by kernel_rfl) (by kernel_rfl) t280 (by kernel_rfl) (by kernel_rfl) (by kernel_rfl) (by kernel_rfl) (by kernel_rfl)
theorem t283 : OpsR Cd.tab ⟨15, [15, 12, 2, 1, 0, 0]⟩ 15 [(opAt (opsOf k256) 8)] x258 x282 := .call (o := (opAt (opsOf k256) 8)) (f := opF (opAt (opsOf k256) 8).op) (args := opArgs (opAt (opsOf k256) 8).op) (own := opOwn (opAt (opsOf k256) 8).op) (hs := []) (fv := v189) (as := [(.lit (.int .i64 1))]) (as' := [(.lit (.int .i64 1))]) (H1 := h252) (rs := [(.lit (.bool true))]) (H2 := h235) (by kernel_rfl) (by kernel_rfl) (by kernel_rfl) (by kernel_rfl) (by kernel_rfl) (by kernel_rfl) (by kernel_rfl) t281 (by kernel_rfl) (by kernel_rfl)
theorem t286 : OpsR Cd.tab ⟨15, [15, 12, 2, 1, 0, 0]⟩ 15 ((opsOf k256).drop 8) x258 x284 := .app (l1 := [(opAt (opsOf k256) 8)]) (l2 := ((opsOf k256).drop 9)) (y := x282) (by kernel_rfl) t283 t285
theorem t287 : OpsR Cd.tab ⟨15, [15, 12, 2, 1, 0, 0]⟩ 15 (opsOf k256) x257 x284 := .app (l1 := ((opsOf k256).take 8)) (l2 := ((opsOf k256).drop 8)) (y := x258) (by kernel_rfl) t259 t286
theorem t288 : CodeR Cd.tab k256 s253 .normal s245 := .region (d := false) (nres := 0) (pre := []) (live := [0, 1, 3, 4, 25, 26, 51]) (ops := opsOf k256) (H := h252) (n0 := 15) (x := x257) (y := x284) (by kernel_rfl) (by kernel_rfl) (by kernel_rfl) (by kernel_rfl) t287 (by kernel_rfl)
theorem t291 : CodeR Cd.tab k255 s253 .normal s245 := .seq (a := k256) (b := k289) (st1 := s245) (by kernel_rfl) t288 t290
theorem t292 : CodeR Cd.tab k250 s248 .normal s245 := .seq (a := k251) (b := k255) (st1 := s253) (by kernel_rfl) t254 t291
theorem t293 : CodeR Cd.tab k246 s238 .normal s245 := .seq (a := k247) (b := k250) (st1 := s248) (by kernel_rfl) t249 t292
theorem t294 : CodeR Cd.tab k244 s238 .normal s245 := .block (a := k246) (id := 1) (by kernel_rfl) (by kernel_rfl) t293
theorem t297 : CodeR Cd.tab k243 s238 .normal s236 := .seq (a := k244) (b := k295) (st1 := s245) (by kernel_rfl) t294 t296
theorem t298 : CodeR Cd.tab k240 s238 .normal s236 := .seq (a := k241) (b := k243) (st1 := s238) (by kernel_rfl) t242 t297
theorem t299 : CodeR Cd.tab k232 s233 .normal s236 := .seq (a := k237) (b := k240) (st1 := s238) (by kernel_rfl) t239 t298
theorem t329 : CodeR Cd.tab k231 s322 (.exit 0) s321 := .iter (body := k232) (tr := true) (live := [0, 1, 3, 4, 25, 26]) (k := 2) (n := 121) (st1 := s326) (by kernel_rfl) t327 t328
theorem t330 : CodeR Cd.tab k230 s322 .normal s321 := .blockExit (a := k231) (id := 0) (by kernel_rfl) t329
theorem t331 : CodeR Cd.tab k225 s319 .normal s321 := .seq (a := k227) (b := k230) (st1 := s322) (by kernel_rfl) t323 t330
theorem t333 : CodeR Cd.tab k224 s319 .ret s317 := .seq (a := k225) (b := k276) (st1 := s321) (by kernel_rfl) t331 t332
theorem t334 : CodeR Cd.tab k220 s316 .ret s317 := .seq (a := k221) (b := k224) (st1 := s319) (by kernel_rfl) t320 t333
theorem t335 : CodeR Cd.tab k215 s316 .ret s317 := .seq (a := k218) (b := k220) (st1 := s316) (by kernel_rfl) t318 t334
theorem t336 : CallR Cd.tab ⟨15, [15, 12, 2, 1, 0, 0]⟩ h310 v189 [(.lit (.int .i64 1))] [(.lit (.bool true))] h302 := .fn (i := 99) (fa := []) (fc := [(.ptr 10 0), (.ptr 12 0), (.ptr 13 0), (.ptr 14 0)]) (as := [(.lit (.int .i64 1)), (.ptr 10 0), (.ptr 12 0), (.ptr 13 0), (.ptr 14 0)]) (rs0 := [(.lit (.bool true))]) (rs1 := [(.lit (.bool true))]) (H1 := h302) (af := Cd.a99) (bd := k215) (st := s316) (st' := s317) (e := .ret) (by kernel_rfl) (by kernel_rfl) (by kernel_rfl) (by kernel_rfl) (by kernel_rfl) (by kernel_rfl) t335 (by kernel_rfl) (by kernel_rfl) (by kernel_rfl) (by kernel_rfl) (by kernel_rfl)
theorem t338 : OpsR Cd.tab ⟨15, [15, 12, 2, 1, 0, 0]⟩ 15 [(opAt (opsOf k256) 8)] x314 x337 := .call (o := (opAt (opsOf k256) 8)) (f := opF (opAt (opsOf k256) 8).op) (args := opArgs (opAt (opsOf k256) 8).op) (own := opOwn (opAt (opsOf k256) 8).op) (hs := []) (fv := v189) (as := [(.lit (.int .i64 1))]) (as' := [(.lit (.int .i64 1))]) (H1 := h310) (rs := [(.lit (.bool true))]) (H2 := h302) (by kernel_rfl) (by kernel_rfl) (by kernel_rfl) (by kernel_rfl) (by kernel_rfl) (by kernel_rfl) (by kernel_rfl) t336 (by kernel_rfl) (by kernel_rfl)
theorem t341 : OpsR Cd.tab ⟨15, [15, 12, 2, 1, 0, 0]⟩ 15 ((opsOf k256).drop 8) x314 x339 := .app (l1 := [(opAt (opsOf k256) 8)]) (l2 := ((opsOf k256).drop 9)) (y := x337) (by kernel_rfl) t338 t340
theorem t342 : OpsR Cd.tab ⟨15, [15, 12, 2, 1, 0, 0]⟩ 15 (opsOf k256) x313 x339 := .app (l1 := ((opsOf k256).take 8)) (l2 := ((opsOf k256).drop 8)) (y := x314) (by kernel_rfl) t315 t341
theorem t343 : CodeR Cd.tab k256 s311 .normal s307 := .region (d := false) (nres := 0) (pre := []) (live := [0, 1, 3, 4, 25, 26, 51]) (ops := opsOf k256) (H := h310) (n0 := 15) (x := x313) (y := x339) (by kernel_rfl) (by kernel_rfl) (by kernel_rfl) (by kernel_rfl) t342 (by kernel_rfl)
theorem t345 : CodeR Cd.tab k255 s311 .normal s307 := .seq (a := k256) (b := k289) (st1 := s307) (by kernel_rfl) t343 t344
theorem t346 : CodeR Cd.tab k250 s308 .normal s307 := .seq (a := k251) (b := k255) (st1 := s311) (by kernel_rfl) t312 t345
theorem t347 : CodeR Cd.tab k246 s304 .normal s307 := .seq (a := k247) (b := k250) (st1 := s308) (by kernel_rfl) t309 t346
theorem t348 : CodeR Cd.tab k244 s304 .normal s307 := .block (a := k246) (id := 1) (by kernel_rfl) (by kernel_rfl) t347
theorem t350 : CodeR Cd.tab k243 s304 .normal s303 := .seq (a := k244) (b := k295) (st1 := s307) (by kernel_rfl) t348 t349
theorem t351 : CodeR Cd.tab k240 s304 .normal s303 := .seq (a := k241) (b := k243) (st1 := s304) (by kernel_rfl) t306 t350
theorem t352 : CodeR Cd.tab k232 s236 .normal s303 := .seq (a := k237) (b := k240) (st1 := s304) (by kernel_rfl) t305 t351
theorem t384 : CodeR Cd.tab k231 s377 (.exit 0) s372 := .iter (body := k232) (tr := true) (live := [0, 1, 3, 4, 25, 26]) (k := 1) (n := 121) (st1 := s381) (by kernel_rfl) t382 t383
theorem t385 : CodeR Cd.tab k231 s373 (.exit 0) s372 := .iter (body := k232) (tr := true) (live := [0, 1, 3, 4, 25, 26]) (k := 1) (n := 121) (st1 := s377) (by kernel_rfl) t378 t384
theorem t386 : CodeR Cd.tab k230 s373 .normal s372 := .blockExit (a := k231) (id := 0) (by kernel_rfl) t385
theorem t387 : CodeR Cd.tab k225 s370 .normal s372 := .seq (a := k227) (b := k230) (st1 := s373) (by kernel_rfl) t374 t386
theorem t389 : CodeR Cd.tab k224 s370 .ret s368 := .seq (a := k225) (b := k276) (st1 := s372) (by kernel_rfl) t387 t388
theorem t390 : CodeR Cd.tab k220 s367 .ret s368 := .seq (a := k221) (b := k224) (st1 := s370) (by kernel_rfl) t371 t389
theorem t391 : CodeR Cd.tab k215 s367 .ret s368 := .seq (a := k218) (b := k220) (st1 := s367) (by kernel_rfl) t369 t390
theorem t392 : CallR Cd.tab ⟨15, [15, 12, 2, 1, 0, 0]⟩ h361 v189 [(.lit (.int .i64 1))] [(.lit (.bool true))] h190 := .fn (i := 99) (fa := []) (fc := [(.ptr 10 0), (.ptr 12 0), (.ptr 13 0), (.ptr 14 0)]) (as := [(.lit (.int .i64 1)), (.ptr 10 0), (.ptr 12 0), (.ptr 13 0), (.ptr 14 0)]) (rs0 := [(.lit (.bool true))]) (rs1 := [(.lit (.bool true))]) (H1 := h190) (af := Cd.a99) (bd := k215) (st := s367) (st' := s368) (e := .ret) (by kernel_rfl) (by kernel_rfl) (by kernel_rfl) (by kernel_rfl) (by kernel_rfl) (by kernel_rfl) t391 (by kernel_rfl) (by kernel_rfl) (by kernel_rfl) (by kernel_rfl) (by kernel_rfl)
theorem t394 : OpsR Cd.tab ⟨15, [15, 12, 2, 1, 0, 0]⟩ 15 [(opAt (opsOf k256) 8)] x365 x393 := .call (o := (opAt (opsOf k256) 8)) (f := opF (opAt (opsOf k256) 8).op) (args := opArgs (opAt (opsOf k256) 8).op) (own := opOwn (opAt (opsOf k256) 8).op) (hs := []) (fv := v189) (as := [(.lit (.int .i64 1))]) (as' := [(.lit (.int .i64 1))]) (H1 := h361) (rs := [(.lit (.bool true))]) (H2 := h190) (by kernel_rfl) (by kernel_rfl) (by kernel_rfl) (by kernel_rfl) (by kernel_rfl) (by kernel_rfl) (by kernel_rfl) t392 (by kernel_rfl) (by kernel_rfl)
theorem t397 : OpsR Cd.tab ⟨15, [15, 12, 2, 1, 0, 0]⟩ 15 ((opsOf k256).drop 8) x365 x395 := .app (l1 := [(opAt (opsOf k256) 8)]) (l2 := ((opsOf k256).drop 9)) (y := x393) (by kernel_rfl) t394 t396
theorem t398 : OpsR Cd.tab ⟨15, [15, 12, 2, 1, 0, 0]⟩ 15 (opsOf k256) x364 x395 := .app (l1 := ((opsOf k256).take 8)) (l2 := ((opsOf k256).drop 8)) (y := x365) (by kernel_rfl) t366 t397
theorem t399 : CodeR Cd.tab k256 s362 .normal s358 := .region (d := false) (nres := 0) (pre := []) (live := [0, 1, 3, 4, 25, 26, 51]) (ops := opsOf k256) (H := h361) (n0 := 15) (x := x364) (y := x395) (by kernel_rfl) (by kernel_rfl) (by kernel_rfl) (by kernel_rfl) t398 (by kernel_rfl)
theorem t401 : CodeR Cd.tab k255 s362 .normal s358 := .seq (a := k256) (b := k289) (st1 := s358) (by kernel_rfl) t399 t400
theorem t402 : CodeR Cd.tab k250 s359 .normal s358 := .seq (a := k251) (b := k255) (st1 := s362) (by kernel_rfl) t363 t401
theorem t403 : CodeR Cd.tab k246 s355 .normal s358 := .seq (a := k247) (b := k250) (st1 := s359) (by kernel_rfl) t360 t402
theorem t404 : CodeR Cd.tab k244 s355 .normal s358 := .block (a := k246) (id := 1) (by kernel_rfl) (by kernel_rfl) t403
theorem t406 : CodeR Cd.tab k243 s355 .normal s354 := .seq (a := k244) (b := k295) (st1 := s358) (by kernel_rfl) t404 t405
theorem t407 : CodeR Cd.tab k240 s355 .normal s354 := .seq (a := k241) (b := k243) (st1 := s355) (by kernel_rfl) t357 t406
theorem t408 : CodeR Cd.tab k232 s303 .normal s354 := .seq (a := k237) (b := k240) (st1 := s355) (by kernel_rfl) t356 t407
theorem t411 : CodeR Cd.tab k231 s353 (.exit 0) s226 := .loop (body := k232) (tr := true) (live := [0, 1, 3, 4, 25, 26]) (st0 := s303) (st1 := s354) (st2 := s409) (by kernel_rfl) (by kernel_rfl) t408 (by kernel_rfl) t410
theorem t412 : CodeR Cd.tab k231 s300 (.exit 0) s226 := .loop (body := k232) (tr := true) (live := [0, 1, 3, 4, 25, 26]) (st0 := s236) (st1 := s303) (st2 := s353) (by kernel_rfl) (by kernel_rfl) t352 (by kernel_rfl) t411
theorem t413 : CodeR Cd.tab k231 s228 (.exit 0) s226 := .loop (body := k232) (tr := true) (live := [0, 1, 3, 4, 25, 26]) (st0 := s233) (st1 := s236) (st2 := s300) (by kernel_rfl) (by kernel_rfl) t299 (by kernel_rfl) t412
theorem t414 : CodeR Cd.tab k230 s228 .normal s226 := .blockExit (a := k231) (id := 0) (by kernel_rfl) t413
theorem t415 : CodeR Cd.tab k225 s222 .normal s226 := .seq (a := k227) (b := k230) (st1 := s228) (by kernel_rfl) t229 t414
theorem t417 : CodeR Cd.tab k224 s222 .ret s217 := .seq (a := k225) (b := k276) (st1 := s226) (by kernel_rfl) t415 t416
theorem t418 : CodeR Cd.tab k220 s216 .ret s217 := .seq (a := k221) (b := k224) (st1 := s222) (by kernel_rfl) t223 t417
theorem t419 : CodeR Cd.tab k215 s216 .ret s217 := .seq (a := k218) (b := k220) (st1 := s216) (by kernel_rfl) t219 t418
theorem t420 : CallR Cd.tab ⟨12, [2, 1, 0, 0]⟩ h208 v189 [(.lit (.int .i64 0))] [(.lit (.bool true))] h190 := .fn (i := 99) (fa := []) (fc := [(.ptr 10 0), (.ptr 12 0), (.ptr 13 0), (.ptr 14 0)]) (as := [(.lit (.int .i64 0)), (.ptr 10 0), (.ptr 12 0), (.ptr 13 0), (.ptr 14 0)]) (rs0 := [(.lit (.bool true))]) (rs1 := [(.lit (.bool true))]) (H1 := h190) (af := Cd.a99) (bd := k215) (st := s216) (st' := s217) (e := .ret) (by kernel_rfl) (by kernel_rfl) (by kernel_rfl) (by kernel_rfl) (by kernel_rfl) (by kernel_rfl) t419 (by kernel_rfl) (by kernel_rfl) (by kernel_rfl) (by kernel_rfl) (by kernel_rfl)
theorem t422 : OpsR Cd.tab ⟨12, [2, 1, 0, 0]⟩ 15 [(opAt (opsOf k211) 1)] x213 x421 := .call (o := (opAt (opsOf k211) 1)) (f := opF (opAt (opsOf k211) 1).op) (args := opArgs (opAt (opsOf k211) 1).op) (own := opOwn (opAt (opsOf k211) 1).op) (hs := []) (fv := v189) (as := [(.lit (.int .i64 0))]) (as' := [(.lit (.int .i64 0))]) (H1 := h208) (rs := [(.lit (.bool true))]) (H2 := h190) (by kernel_rfl) (by kernel_rfl) (by kernel_rfl) (by kernel_rfl) (by kernel_rfl) (by kernel_rfl) (by kernel_rfl) t420 (by kernel_rfl) (by kernel_rfl)
theorem t423 : OpsR Cd.tab ⟨12, [2, 1, 0, 0]⟩ 15 ((opsOf k211).drop 2) x421 x421 := .nil (by kernel_rfl)
theorem t424 : OpsR Cd.tab ⟨12, [2, 1, 0, 0]⟩ 15 ((opsOf k211).drop 1) x213 x421 := .app (l1 := [(opAt (opsOf k211) 1)]) (l2 := ((opsOf k211).drop 2)) (y := x421) (by kernel_rfl) t422 t423
theorem t425 : OpsR Cd.tab ⟨12, [2, 1, 0, 0]⟩ 15 (opsOf k211) x212 x421 := .app (l1 := ((opsOf k211).take 1)) (l2 := ((opsOf k211).drop 1)) (y := x213) (by kernel_rfl) t214 t424
theorem t426 : CodeR Cd.tab k211 s209 .normal s191 := .region (d := false) (nres := 0) (pre := []) (live := []) (ops := opsOf k211) (H := h208) (n0 := 15) (x := x212) (y := x421) (by kernel_rfl) (by kernel_rfl) (by kernel_rfl) (by kernel_rfl) t425 (by kernel_rfl)
theorem t427 : CodeR Cd.tab k206 s204 .normal s191 := .seq (a := k207) (b := k211) (st1 := s209) (by kernel_rfl) t210 t426
theorem t428 : CodeR Cd.tab k201 s199 .normal s191 := .seq (a := k202) (b := k206) (st1 := s204) (by kernel_rfl) t205 t427
theorem t429 : CodeR Cd.tab k196 s194 .normal s191 := .seq (a := k197) (b := k201) (st1 := s199) (by kernel_rfl) t200 t428
theorem t430 : CodeR Cd.tab k187 s188 .normal s191 := .seq (a := k192) (b := k196) (st1 := s194) (by kernel_rfl) t195 t429
theorem t431 : CallR Cd.tab ⟨2, [1, 0, 0]⟩ h185 (.fn (.func 98) [] [(.ptr 10 0)]) [(.fn (.yield 11) [] [])] [] h186 := .fn (i := 98) (fa := []) (fc := [(.ptr 10 0)]) (as := [(.fn (.yield 11) [] []), (.ptr 10 0)]) (rs0 := []) (rs1 := []) (H1 := h190) (af := Cd.a98) (bd := k187) (st := s188) (st' := s191) (e := .normal) (by kernel_rfl) (by kernel_rfl) (by kernel_rfl) (by kernel_rfl) (by kernel_rfl) (by kernel_rfl) t430 (by kernel_rfl) (by kernel_rfl) (by kernel_rfl) (by kernel_rfl) (by kernel_rfl)
theorem t432 : CodeR Cd.tab k182 s179 .normal s176 := .rangeFunc (as := k183) (bd := k184) (f := (match k182 with | .rangeFunc f _ _ _ => f | _ => .t 0)) (ps := [23]) (i := 98) (l := 11) (fa := []) (fc := [(.ptr 10 0)]) (rs := []) (H0 := h185) (H' := h186) (f1 := 0) (s1 := [(1, (.ptr 2 0)), (6, (.ptr 4 0)), (7, (.ptr 8 0)), (8, (.ptr 9 0)), (22, (.fn (.func 98) [] [(.ptr 10 0)]))]) (ps1 := [23]) (as1 := k183) (bd1 := k184) (pend := none) (by kernel_rfl) (by kernel_rfl) (by kernel_rfl) (by kernel_rfl) t431 (by kernel_rfl) (by kernel_rfl) (by kernel_rfl)
theorem t433 : CodeR Cd.tab k181 s179 .normal s176 := .block (a := k182) (id := 0) (by kernel_rfl) (by kernel_rfl) t432
theorem t434 : CodeR Cd.tab k174 s171 .normal s176 := .seq (a := k177) (b := k181) (st1 := s179) (by kernel_rfl) t180 t433
theorem t437 : CodeR Cd.tab k173 s171 .ret s149 := .seq (a := k174) (b := k435) (st1 := s176) (by kernel_rfl) t434 t436
theorem t438 : CodeR Cd.tab k168 s166 .ret s149 := .seq (a := k169) (b := k173) (st1 := s171) (by kernel_rfl) t172 t437
theorem t439 : CodeR Cd.tab k163 s161 .ret s149 := .seq (a := k164) (b := k168) (st1 := s166) (by kernel_rfl) t167 t438
theorem t440 : CodeR Cd.tab k159 s157 .ret s149 := .seq (a := k160) (b := k163) (st1 := s161) (by kernel_rfl) t162 t439
theorem t441 : CodeR Cd.tab k154 s152 .ret s149 := .seq (a := k155) (b := k159) (st1 := s157) (by kernel_rfl) t158 t440
theorem t442 : CodeR Cd.tab k78 s79 .ret s149 := .seq (a := k150) (b := k154) (st1 := s152) (by kernel_rfl) t153 t441
theorem t444 : CallR Cd.tab ⟨1, [0, 0]⟩ h39 (.fn (.func 29) [] []) [v74] [v77, (.lit (.int .i64 3)), (.lit (.int .i64 0)), (.lit (.int .i64 0))] h39 := .fn (i := 29) (fa := []) (fc := []) (as := [v74]) (rs0 := [(.asl 12 4), (.lit (.int .i64 3)), (.lit (.int .i64 0)), (.lit (.int .i64 0))]) (rs1 := [v77, (.lit (.int .i64 3)), (.lit (.int .i64 0)), (.lit (.int .i64 0))]) (H1 := h443) (af := Cd.a29) (bd := k78) (st := s79) (st' := s149) (e := .ret) (by kernel_rfl) (by kernel_rfl) (by kernel_rfl) (by kernel_rfl) (by kernel_rfl) (by kernel_rfl) t442 (by kernel_rfl) (by kernel_rfl) (by kernel_rfl) (by kernel_rfl) (by kernel_rfl)
theorem t447 : OpsR Cd.tab ⟨1, [0, 0]⟩ 2 [(opAt (opsOf k70) 1)] x75 x446 := .call (o := (opAt (opsOf k70) 1)) (f := opF (opAt (opsOf k70) 1).op) (args := opArgs (opAt (opsOf k70) 1).op) (own := opOwn (opAt (opsOf k70) 1).op) (hs := []) (fv := (.fn (.func 29) [] [])) (as := [v74]) (as' := [v74]) (H1 := h39) (rs := [v77, (.lit (.int .i64 3)), (.lit (.int .i64 0)), (.lit (.int .i64 0))]) (H2 := h39) (by kernel_rfl) (by kernel_rfl) (by kernel_rfl) (by kernel_rfl) (by kernel_rfl) (by kernel_rfl) (by kernel_rfl) t444 (by kernel_rfl) (by kernel_rfl)
theorem t450 : OpsR Cd.tab ⟨1, [0, 0]⟩ 2 ((opsOf k70).drop 1) x75 x448 := .app (l1 := [(opAt (opsOf k70) 1)]) (l2 := ((opsOf k70).drop 2)) (y := x446) (by kernel_rfl) t447 t449
theorem t451 : OpsR Cd.tab ⟨1, [0, 0]⟩ 2 (opsOf k70) x73 x448 := .app (l1 := ((opsOf k70).take 1)) (l2 := ((opsOf k70).drop 1)) (y := x75) (by kernel_rfl) t76 t450
theorem t452 : CodeR Cd.tab k70 s67 .normal s72 := .region (d := false) (nres := 0) (pre := []) (live := [1, 2, 3, 4, 5, 6, 7, 8, 9, 10, 11, 12, 13, 14, 15]) (ops := opsOf k70) (H := h39) (n0 := 2) (x := x73) (y := x448) (by kernel_rfl) (by kernel_rfl) (by kernel_rfl) (by kernel_rfl) t451 (by kernel_rfl)
theorem t619 : CodeR Cd.tab k231 s613 (.exit 0) s612 := .iter (body := k232) (tr := true) (live := [0, 1, 3, 4, 25, 26]) (k := 2) (n := 121) (st1 := s616) (by kernel_rfl) t617 t618
theorem t620 : CodeR Cd.tab k230 s613 .normal s612 := .blockExit (a := k231) (id := 0) (by kernel_rfl) t619
theorem t621 : CodeR Cd.tab k225 s610 .normal s612 := .seq (a := k227) (b := k230) (st1 := s613) (by kernel_rfl) t614 t620
theorem t623 : CodeR Cd.tab k224 s610 .ret s608 := .seq (a := k225) (b := k276) (st1 := s612) (by kernel_rfl) t621 t622
theorem t624 : CodeR Cd.tab k220 s607 .ret s608 := .seq (a := k221) (b := k224) (st1 := s610) (by kernel_rfl) t611 t623
theorem t625 : CodeR Cd.tab k215 s607 .ret s608 := .seq (a := k218) (b := k220) (st1 := s607) (by kernel_rfl) t609 t624
theorem t626 : CallR Cd.tab ⟨19, [19, 16, 7, 2, 1, 0, 0]⟩ h604 v565 [(.lit (.int .i64 1))] [(.lit (.bool true))] h592 := .fn (i := 99) (fa := []) (fc := [(.ptr 14 0), (.ptr 16 0), (.ptr 17 0), (.ptr 18 0)]) (as := [(.lit (.int .i64 1)), (.ptr 14 0), (.ptr 16 0), (.ptr 17 0), (.ptr 18 0)]) (rs0 := [(.lit (.bool true))]) (rs1 := [(.lit (.bool true))]) (H1 := h592) (af := Cd.a99) (bd := k215) (st := s607) (st' := s608) (e := .ret) (by kernel_rfl) (by kernel_rfl) (by kernel_rfl) (by kernel_rfl) (by kernel_rfl) (by kernel_rfl) t625 (by kernel_rfl) (by kernel_rfl) (by kernel_rfl) (by kernel_rfl) (by kernel_rfl)
theorem t628 : OpsR Cd.tab ⟨19, [19, 16, 7, 2, 1, 0, 0]⟩ 19 [(opAt (opsOf k256) 8)] x605 x627 := .call (o := (opAt (opsOf k256) 8)) (f := opF (opAt (opsOf k256) 8).op) (args := opArgs (opAt (opsOf k256) 8).op) (own := opOwn (opAt (opsOf k256) 8).op) (hs := []) (fv := v565) (as := [(.lit (.int .i64 1))]) (as' := [(.lit (.int .i64 1))]) (H1 := h604) (rs := [(.lit (.bool true))]) (H2 := h592) (by kernel_rfl) (by kernel_rfl) (by kernel_rfl) (by kernel_rfl) (by kernel_rfl) (by kernel_rfl) (by kernel_rfl) t626 (by kernel_rfl) (by kernel_rfl)
theorem t631 : OpsR Cd.tab ⟨19, [19, 16, 7, 2, 1, 0, 0]⟩ 19 ((opsOf k256).drop 8) x605 x629 := .app (l1 := [(opAt (opsOf k256) 8)]) (l2 := ((opsOf k256).drop 9)) (y := x627) (by kernel_rfl) t628 t630
theorem t632 : OpsR Cd.tab ⟨19, [19, 16, 7, 2, 1, 0, 0]⟩ 19 (opsOf k256) x603 x629 := .app (l1 := ((opsOf k256).take 8)) (l2 := ((opsOf k256).drop 8)) (y := x605) (by kernel_rfl) t606 t631
theorem t633 : CodeR Cd.tab k256 s601 .normal s597 := .region (d := false) (nres := 0) (pre := []) (live := [0, 1, 3, 4, 25, 26, 51]) (ops := opsOf k256) (H := h600) (n0 := 19) (x := x603) (y := x629) (by kernel_rfl) (by kernel_rfl) (by kernel_rfl) (by kernel_rfl) t632 (by kernel_rfl)
theorem t635 : CodeR Cd.tab k255 s601 .normal s597 := .seq (a := k256) (b := k289) (st1 := s597) (by kernel_rfl) t633 t634
theorem t636 : CodeR Cd.tab k250 s598 .normal s597 := .seq (a := k251) (b := k255) (st1 := s601) (by kernel_rfl) t602 t635
theorem t637 : CodeR Cd.tab k246 s594 .normal s597 := .seq (a := k247) (b := k250) (st1 := s598) (by kernel_rfl) t599 t636
theorem t638 : CodeR Cd.tab k244 s594 .normal s597 := .block (a := k246) (id := 1) (by kernel_rfl) (by kernel_rfl) t637
theorem t640 : CodeR Cd.tab k243 s594 .normal s593 := .seq (a := k244) (b := k295) (st1 := s597) (by kernel_rfl) t638 t639
theorem t641 : CodeR Cd.tab k240 s594 .normal s593 := .seq (a := k241) (b := k243) (st1 := s594) (by kernel_rfl) t596 t640
theorem t642 : CodeR Cd.tab k232 s591 .normal s593 := .seq (a := k237) (b := k240) (st1 := s594) (by kernel_rfl) t595 t641
theorem t670 : CodeR Cd.tab k231 s664 (.exit 0) s663 := .iter (body := k232) (tr := true) (live := [0, 1, 3, 4, 25, 26]) (k := 2) (n := 121) (st1 := s667) (by kernel_rfl) t668 t669
theorem t671 : CodeR Cd.tab k230 s664 .normal s663 := .blockExit (a := k231) (id := 0) (by kernel_rfl) t670
theorem t672 : CodeR Cd.tab k225 s661 .normal s663 := .seq (a := k227) (b := k230) (st1 := s664) (by kernel_rfl) t665 t671
theorem t674 : CodeR Cd.tab k224 s661 .ret s659 := .seq (a := k225) (b := k276) (st1 := s663) (by kernel_rfl) t672 t673
theorem t675 : CodeR Cd.tab k220 s658 .ret s659 := .seq (a := k221) (b := k224) (st1 := s661) (by kernel_rfl) t662 t674
theorem t676 : CodeR Cd.tab k215 s658 .ret s659 := .seq (a := k218) (b := k220) (st1 := s658) (by kernel_rfl) t660 t675
theorem t677 : CallR Cd.tab ⟨19, [19, 16, 7, 2, 1, 0, 0]⟩ h652 v565 [(.lit (.int .i64 1))] [(.lit (.bool true))] h644 := .fn (i := 99) (fa := []) (fc := [(.ptr 14 0), (.ptr 16 0), (.ptr 17 0), (.ptr 18 0)]) (as := [(.lit (.int .i64 1)), (.ptr 14 0), (.ptr 16 0), (.ptr 17 0), (.ptr 18 0)]) (rs0 := [(.lit (.bool true))]) (rs1 := [(.lit (.bool true))]) (H1 := h644) (af := Cd.a99) (bd := k215) (st := s658) (st' := s659) (e := .ret) (by kernel_rfl) (by kernel_rfl) (by kernel_rfl) (by kernel_rfl) (by kernel_rfl) (by kernel_rfl) t676 (by kernel_rfl) (by kernel_rfl) (by kernel_rfl) (by kernel_rfl) (by kernel_rfl)
theorem t679 : OpsR Cd.tab ⟨19, [19, 16, 7, 2, 1, 0, 0]⟩ 19 [(opAt (opsOf k256) 8)] x656 x678 := .call (o := (opAt (opsOf k256) 8)) (f := opF (opAt (opsOf k256) 8).op) (args := opArgs (opAt (opsOf k256) 8).op) (own := opOwn (opAt (opsOf k256) 8).op) (hs := []) (fv := v565) (as := [(.lit (.int .i64 1))]) (as' := [(.lit (.int .i64 1))]) (H1 := h652) (rs := [(.lit (.bool true))]) (H2 := h644) (by kernel_rfl) (by kernel_rfl) (by kernel_rfl) (by kernel_rfl) (by kernel_rfl) (by kernel_rfl) (by kernel_rfl) t677 (by kernel_rfl) (by kernel_rfl)
theorem t682 : OpsR Cd.tab ⟨19, [19, 16, 7, 2, 1, 0, 0]⟩ 19 ((opsOf k256).drop 8) x656 x680 := .app (l1 := [(opAt (opsOf k256) 8)]) (l2 := ((opsOf k256).drop 9)) (y := x678) (by kernel_rfl) t679 t681
theorem t683 : OpsR Cd.tab ⟨19, [19, 16, 7, 2, 1, 0, 0]⟩ 19 (opsOf k256) x655 x680 := .app (l1 := ((opsOf k256).take 8)) (l2 := ((opsOf k256).drop 8)) (y := x656) (by kernel_rfl) t657 t682
theorem t684 : CodeR Cd.tab k256 s653 .normal s649 := .region (d := false) (nres := 0) (pre := []) (live := [0, 1, 3, 4, 25, 26, 51]) (ops := opsOf k256) (H := h652) (n0 := 19) (x := x655) (y := x680) (by kernel_rfl) (by kernel_rfl) (by kernel_rfl) (by kernel_rfl) t683 (by kernel_rfl)
theorem t686 : CodeR Cd.tab k255 s653 .normal s649 := .seq (a := k256) (b := k289) (st1 := s649) (by kernel_rfl) t684 t685
theorem t687 : CodeR Cd.tab k250 s650 .normal s649 := .seq (a := k251) (b := k255) (st1 := s653) (by kernel_rfl) t654 t686
theorem t688 : CodeR Cd.tab k246 s646 .normal s649 := .seq (a := k247) (b := k250) (st1 := s650) (by kernel_rfl) t651 t687
theorem t689 : CodeR Cd.tab k244 s646 .normal s649 := .block (a := k246) (id := 1) (by kernel_rfl) (by kernel_rfl) t688
theorem t691 : CodeR Cd.tab k243 s646 .normal s645 := .seq (a := k244) (b := k295) (st1 := s649) (by kernel_rfl) t689 t690
theorem t692 : CodeR Cd.tab k240 s646 .normal s645 := .seq (a := k241) (b := k243) (st1 := s646) (by kernel_rfl) t648 t691
theorem t693 : CodeR Cd.tab k232 s593 .normal s645 := .seq (a := k237) (b := k240) (st1 := s646) (by kernel_rfl) t647 t692
theorem t723 : CodeR Cd.tab k231 s717 (.exit 0) s713 := .iter (body := k232) (tr := true) (live := [0, 1, 3, 4, 25, 26]) (k := 1) (n := 121) (st1 := s720) (by kernel_rfl) t721 t722
theorem t724 : CodeR Cd.tab k231 s714 (.exit 0) s713 := .iter (body := k232) (tr := true) (live := [0, 1, 3, 4, 25, 26]) (k := 1) (n := 121) (st1 := s717) (by kernel_rfl) t718 t723
theorem t725 : CodeR Cd.tab k230 s714 .normal s713 := .blockExit (a := k231) (id := 0) (by kernel_rfl) t724
theorem t726 : CodeR Cd.tab k225 s711 .normal s713 := .seq (a := k227) (b := k230) (st1 := s714) (by kernel_rfl) t715 t725
theorem t728 : CodeR Cd.tab k224 s711 .ret s709 := .seq (a := k225) (b := k276) (st1 := s713) (by kernel_rfl) t726 t727
theorem t729 : CodeR Cd.tab k220 s708 .ret s709 := .seq (a := k221) (b := k224) (st1 := s711) (by kernel_rfl) t712 t728
theorem t730 : CodeR Cd.tab k215 s708 .ret s709 := .seq (a := k218) (b := k220) (st1 := s708) (by kernel_rfl) t710 t729
theorem t731 : CallR Cd.tab ⟨19, [19, 16, 7, 2, 1, 0, 0]⟩ h702 v565 [(.lit (.int .i64 1))] [(.lit (.bool true))] h566 := .fn (i := 99) (fa := []) (fc := [(.ptr 14 0), (.ptr 16 0), (.ptr 17 0), (.ptr 18 0)]) (as := [(.lit (.int .i64 1)), (.ptr 14 0), (.ptr 16 0), (.ptr 17 0), (.ptr 18 0)]) (rs0 := [(.lit (.bool true))]) (rs1 := [(.lit (.bool true))]) (H1 := h566) (af := Cd.a99) (bd := k215) (st := s708) (st' := s709) (e := .ret) (by kernel_rfl) (by kernel_rfl) (by kernel_rfl) (by kernel_rfl) (by kernel_rfl) (by kernel_rfl) t730 (by kernel_rfl) (by kernel_rfl) (by kernel_rfl) (by kernel_rfl) (by kernel_rfl)
theorem t733 : OpsR Cd.tab ⟨19, [19, 16, 7, 2, 1, 0, 0]⟩ 19 [(opAt (opsOf k256) 8)] x706 x732 := .call (o := (opAt (opsOf k256) 8)) (f := opF (opAt (opsOf k256) 8).op) (args := opArgs (opAt (opsOf k256) 8).op) (own := opOwn (opAt (opsOf k256) 8).op) (hs := []) (fv := v565) (as := [(.lit (.int .i64 1))]) (as' := [(.lit (.int .i64 1))]) (H1 := h702) (rs := [(.lit (.bool true))]) (H2 := h566) (by kernel_rfl) (by kernel_rfl) (by kernel_rfl) (by kernel_rfl) (by kernel_rfl) (by kernel_rfl) (by kernel_rfl) t731 (by kernel_rfl) (by kernel_rfl)
theorem t736 : OpsR Cd.tab ⟨19, [19, 16, 7, 2, 1, 0, 0]⟩ 19 ((opsOf k256).drop 8) x706 x734 := .app (l1 := [(opAt (opsOf k256) 8)]) (l2 := ((opsOf k256).drop 9)) (y := x732) (by kernel_rfl) t733 t735
theorem t737 : OpsR Cd.tab ⟨19, [19, 16, 7, 2, 1, 0, 0]⟩ 19 (opsOf k256) x705 x734 := .app (l1 := ((opsOf k256).take 8)) (l2 := ((opsOf k256).drop 8)) (y := x706) (by kernel_rfl) t707 t736
theorem t738 : CodeR Cd.tab k256 s703 .normal s699 := .region (d := false) (nres := 0) (pre := []) (live := [0, 1, 3, 4, 25, 26, 51]) (ops := opsOf k256) (H := h702) (n0 := 19) (x := x705) (y := x734) (by kernel_rfl) (by kernel_rfl) (by kernel_rfl) (by kernel_rfl) t737 (by kernel_rfl)
theorem t740 : CodeR Cd.tab k255 s703 .normal s699 := .seq (a := k256) (b := k289) (st1 := s699) (by kernel_rfl) t738 t739
theorem t741 : CodeR Cd.tab k250 s700 .normal s699 := .seq (a := k251) (b := k255) (st1 := s703) (by kernel_rfl) t704 t740
theorem t742 : CodeR Cd.tab k246 s696 .normal s699 := .seq (a := k247) (b := k250) (st1 := s700) (by kernel_rfl) t701 t741
theorem t743 : CodeR Cd.tab k244 s696 .normal s699 := .block (a := k246) (id := 1) (by kernel_rfl) (by kernel_rfl) t742
theorem t745 : CodeR Cd.tab k243 s696 .normal s695 := .seq (a := k244) (b := k295) (st1 := s699) (by kernel_rfl) t743 t744
theorem t746 : CodeR Cd.tab k240 s696 .normal s695 := .seq (a := k241) (b := k243) (st1 := s696) (by kernel_rfl) t698 t745
theorem t747 : CodeR Cd.tab k232 s645 .normal s695 := .seq (a := k237) (b := k240) (st1 := s696) (by kernel_rfl) t697 t746
theorem t750 : CodeR Cd.tab k231 s694 (.exit 0) s588 := .loop (body := k232) (tr := true) (live := [0, 1, 3, 4, 25, 26]) (st0 := s645) (st1 := s695) (st2 := s748) (by kernel_rfl) (by kernel_rfl) t747 (by kernel_rfl) t749
theorem t751 : CodeR Cd.tab k231 s643 (.exit 0) s588 := .loop (body := k232) (tr := true) (live := [0, 1, 3, 4, 25, 26]) (st0 := s593) (st1 := s645) (st2 := s694) (by kernel_rfl) (by kernel_rfl) t693 (by kernel_rfl) t750
theorem t752 : CodeR Cd.tab k231 s589 (.exit 0) s588 := .loop (body := k232) (tr := true) (live := [0, 1, 3, 4, 25, 26]) (st0 := s591) (st1 := s593) (st2 := s643) (by kernel_rfl) (by kernel_rfl) t642 (by kernel_rfl) t751
theorem t753 : CodeR Cd.tab k230 s589 .normal s588 := .blockExit (a := k231) (id := 0) (by kernel_rfl) t752
theorem t754 : CodeR Cd.tab k225 s586 .normal s588 := .seq (a := k227) (b := k230) (st1 := s589) (by kernel_rfl) t590 t753
theorem t756 : CodeR Cd.tab k224 s586 .ret s584 := .seq (a := k225) (b := k276) (st1 := s588) (by kernel_rfl) t754 t755
theorem t757 : CodeR Cd.tab k220 s583 .ret s584 := .seq (a := k221) (b := k224) (st1 := s586) (by kernel_rfl) t587 t756
theorem t758 : CodeR Cd.tab k215 s583 .ret s584 := .seq (a := k218) (b := k220) (st1 := s583) (by kernel_rfl) t585 t757
theorem t759 : CallR Cd.tab ⟨16, [7, 2, 1, 0, 0]⟩ h577 v565 [(.lit (.int .i64 0))] [(.lit (.bool true))] h566 := .fn (i := 99) (fa := []) (fc := [(.ptr 14 0), (.ptr 16 0), (.ptr 17 0), (.ptr 18 0)]) (as := [(.lit (.int .i64 0)), (.ptr 14 0), (.ptr 16 0), (.ptr 17 0), (.ptr 18 0)]) (rs0 := [(.lit (.bool true))]) (rs1 := [(.lit (.bool true))]) (H1 := h566) (af := Cd.a99) (bd := k215) (st := s583) (st' := s584) (e := .ret) (by kernel_rfl) (by kernel_rfl) (by kernel_rfl) (by kernel_rfl) (by kernel_rfl) (by kernel_rfl) t758 (by kernel_rfl) (by kernel_rfl) (by kernel_rfl) (by kernel_rfl) (by kernel_rfl)
theorem t761 : OpsR Cd.tab ⟨16, [7, 2, 1, 0, 0]⟩ 19 [(opAt (opsOf k211) 1)] x581 x760 := .call (o := (opAt (opsOf k211) 1)) (f := opF (opAt (opsOf k211) 1).op) (args := opArgs (opAt (opsOf k211) 1).op) (own := opOwn (opAt (opsOf k211) 1).op) (hs := []) (fv := v565) (as := [(.lit (.int .i64 0))]) (as' := [(.lit (.int .i64 0))]) (H1 := h577) (rs := [(.lit (.bool true))]) (H2 := h566) (by kernel_rfl) (by kernel_rfl) (by kernel_rfl) (by kernel_rfl) (by kernel_rfl) (by kernel_rfl) (by kernel_rfl) t759 (by kernel_rfl) (by kernel_rfl)
theorem t762 : OpsR Cd.tab ⟨16, [7, 2, 1, 0, 0]⟩ 19 ((opsOf k211).drop 2) x760 x760 := .nil (by kernel_rfl)
theorem t763 : OpsR Cd.tab ⟨16, [7, 2, 1, 0, 0]⟩ 19 ((opsOf k211).drop 1) x581 x760 := .app (l1 := [(opAt (opsOf k211) 1)]) (l2 := ((opsOf k211).drop 2)) (y := x760) (by kernel_rfl) t761 t762
theorem t764 : OpsR Cd.tab ⟨16, [7, 2, 1, 0, 0]⟩ 19 (opsOf k211) x580 x760 := .app (l1 := ((opsOf k211).take 1)) (l2 := ((opsOf k211).drop 1)) (y := x581) (by kernel_rfl) t582 t763
theorem t765 : CodeR Cd.tab k211 s578 .normal s567 := .region (d := false) (nres := 0) (pre := []) (live := []) (ops := opsOf k211) (H := h577) (n0 := 19) (x := x580) (y := x760) (by kernel_rfl) (by kernel_rfl) (by kernel_rfl) (by kernel_rfl) t764 (by kernel_rfl)
theorem t766 : CodeR Cd.tab k206 s575 .normal s567 := .seq (a := k207) (b := k211) (st1 := s578) (by kernel_rfl) t579 t765
theorem t767 : CodeR Cd.tab k201 s572 .normal s567 := .seq (a := k202) (b := k206) (st1 := s575) (by kernel_rfl) t576 t766
theorem t768 : CodeR Cd.tab k196 s569 .normal s567 := .seq (a := k197) (b := k201) (st1 := s572) (by kernel_rfl) t573 t767
theorem t769 : CodeR Cd.tab k187 s564 .normal s567 := .seq (a := k192) (b := k196) (st1 := s569) (by kernel_rfl) t570 t768
theorem t770 : CallR Cd.tab ⟨7, [2, 1, 0, 0]⟩ h562 (.fn (.func 98) [] [(.ptr 14 0)]) [(.fn (.yield 15) [] [])] [] h563 := .fn (i := 98) (fa := []) (fc := [(.ptr 14 0)]) (as := [(.fn (.yield 15) [] []), (.ptr 14 0)]) (rs0 := []) (rs1 := []) (H1 := h566) (af := Cd.a98) (bd := k187) (st := s564) (st' := s567) (e := .normal) (by kernel_rfl) (by kernel_rfl) (by kernel_rfl) (by kernel_rfl) (by kernel_rfl) (by kernel_rfl) t769 (by kernel_rfl) (by kernel_rfl) (by kernel_rfl) (by kernel_rfl) (by kernel_rfl)
theorem t771 : CodeR Cd.tab k559 s556 .normal s553 := .rangeFunc (as := k560) (bd := k561) (f := (match k559 with | .rangeFunc f _ _ _ => f | _ => .t 0)) (ps := [42]) (i := 98) (l := 15) (fa := []) (fc := [(.ptr 14 0)]) (rs := []) (H0 := h562) (H' := h563) (f1 := 0) (s1 := [(2, (.ptr 7 0)), (4, (.ptr 8 0)), (5, (.ptr 10 0)), (41, (.fn (.func 98) [] [(.ptr 14 0)]))]) (ps1 := [42]) (as1 := k560) (bd1 := k561) (pend := none) (by kernel_rfl) (by kernel_rfl) (by kernel_rfl) (by kernel_rfl) t770 (by kernel_rfl) (by kernel_rfl) (by kernel_rfl)
theorem t772 : CodeR Cd.tab k558 s556 .normal s553 := .block (a := k559) (id := 2) (by kernel_rfl) (by kernel_rfl) t771
theorem t773 : CodeR Cd.tab k552 s549 .normal s553 := .seq (a := k554) (b := k558) (st1 := s556) (by kernel_rfl) t557 t772
theorem t776 : CodeR Cd.tab k551 s549 .ret s531 := .seq (a := k552) (b := k774) (st1 := s553) (by kernel_rfl) t773 t775
theorem t777 : CodeR Cd.tab k546 s544 .ret s531 := .seq (a := k547) (b := k551) (st1 := s549) (by kernel_rfl) t550 t776
theorem t778 : CodeR Cd.tab k541 s539 .ret s531 := .seq (a := k542) (b := k546) (st1 := s544) (by kernel_rfl) t545 t777
theorem t779 : CodeR Cd.tab k536 s534 .ret s531 := .seq (a := k537) (b := k541) (st1 := s539) (by kernel_rfl) t540 t778
theorem t780 : CodeR Cd.tab k528 s529 .ret s531 := .seq (a := k532) (b := k536) (st1 := s534) (by kernel_rfl) t535 t779
theorem t781 : CallR Cd.tab ⟨2, [1, 0, 0]⟩ h496 (.fn (.func 84) [] []) [(.ptr 5 0), (.lit (.int .i64 0))] [(.lit (.bool false))] h496 := .fn (i := 84) (fa := []) (fc := []) (as := [(.ptr 5 0), (.lit (.int .i64 0))]) (rs0 := [(.lit (.bool false))]) (rs1 := [(.lit (.bool false))]) (H1 := h530) (af := Cd.a84) (bd := k528) (st := s529) (st' := s531) (e := .ret) (by kernel_rfl) (by kernel_rfl) (by kernel_rfl) (by kernel_rfl) (by kernel_rfl) (by kernel_rfl) t780 (by kernel_rfl) (by kernel_rfl) (by kernel_rfl) (by kernel_rfl) (by kernel_rfl)
theorem t783 : OpsR Cd.tab ⟨2, [1, 0, 0]⟩ 7 [(opAt (opsOf k524) 2)] x526 x782 := .call (o := (opAt (opsOf k524) 2)) (f := opF (opAt (opsOf k524) 2).op) (args := opArgs (opAt (opsOf k524) 2).op) (own := opOwn (opAt (opsOf k524) 2).op) (hs := []) (fv := (.fn (.func 84) [] [])) (as := [(.ptr 5 0), (.lit (.int .i64 0))]) (as' := [(.ptr 5 0), (.lit (.int .i64 0))]) (H1 := h496) (rs := [(.lit (.bool false))]) (H2 := h496) (by kernel_rfl) (by kernel_rfl) (by kernel_rfl) (by kernel_rfl) (by kernel_rfl) (by kernel_rfl) (by kernel_rfl) t781 (by kernel_rfl) (by kernel_rfl)
theorem t784 : OpsR Cd.tab ⟨2, [1, 0, 0]⟩ 7 ((opsOf k524).drop 3) x782 x782 := .nil (by kernel_rfl)
theorem t785 : OpsR Cd.tab ⟨2, [1, 0, 0]⟩ 7 ((opsOf k524).drop 2) x526 x782 := .app (l1 := [(opAt (opsOf k524) 2)]) (l2 := ((opsOf k524).drop 3)) (y := x782) (by kernel_rfl) t783 t784
theorem t786 : OpsR Cd.tab ⟨2, [1, 0, 0]⟩ 7 (opsOf k524) x525 x782 := .app (l1 := ((opsOf k524).take 2)) (l2 := ((opsOf k524).drop 2)) (y := x526) (by kernel_rfl) t527 t785
theorem t787 : CodeR Cd.tab k524 s521 .normal s506 := .region (d := false) (nres := 0) (pre := []) (live := [1, 2, 4, 5, 7, 20, 21, 64]) (ops := opsOf k524) (H := h496) (n0 := 7) (x := x525) (y := x782) (by kernel_rfl) (by kernel_rfl) (by kernel_rfl) (by kernel_rfl) t786 (by kernel_rfl)
theorem t790 : CodeR Cd.tab k523 s521 .normal s506 := .seq (a := k524) (b := k788) (st1 := s506) (by kernel_rfl) t787 t789
theorem t791 : CodeR Cd.tab k519 s517 .normal s506 := .seq (a := k520) (b := k523) (st1 := s521) (by kernel_rfl) t522 t790
theorem t792 : CodeR Cd.tab k515 s513 .normal s506 := .seq (a := k516) (b := k519) (st1 := s517) (by kernel_rfl) t518 t791
theorem t793 : CodeR Cd.tab k511 s509 .normal s506 := .seq (a := k512) (b := k515) (st1 := s513) (by kernel_rfl) t514 t792
theorem t794 : CodeR Cd.tab k507 s499 .normal s506 := .seq (a := k508) (b := k511) (st1 := s509) (by kernel_rfl) t510 t793
theorem t795 : CodeR Cd.tab k505 s499 .normal s506 := .block (a := k507) (id := 1) (by kernel_rfl) (by kernel_rfl) t794
theorem t798 : CodeR Cd.tab k504 s499 .normal s497 := .seq (a := k505) (b := k796) (st1 := s506) (by kernel_rfl) t795 t797
theorem t799 : CodeR Cd.tab k501 s499 .normal s497 := .seq (a := k502) (b := k504) (st1 := s499) (by kernel_rfl) t503 t798
theorem t800 : CodeR Cd.tab k495 s491 .normal s497 := .seq (a := k498) (b := k501) (st1 := s499) (by kernel_rfl) t500 t799
theorem t903 : CodeR Cd.tab k231 s896 (.exit 0) s892 := .iter (body := k232) (tr := true) (live := [0, 1, 3, 4, 25, 26]) (k := 1) (n := 121) (st1 := s900) (by kernel_rfl) t901 t902
theorem t904 : CodeR Cd.tab k231 s893 (.exit 0) s892 := .iter (body := k232) (tr := true) (live := [0, 1, 3, 4, 25, 26]) (k := 1) (n := 121) (st1 := s896) (by kernel_rfl) t897 t903
theorem t905 : CodeR Cd.tab k230 s893 .normal s892 := .blockExit (a := k231) (id := 0) (by kernel_rfl) t904
theorem t906 : CodeR Cd.tab k225 s890 .normal s892 := .seq (a := k227) (b := k230) (st1 := s893) (by kernel_rfl) t894 t905
theorem t908 : CodeR Cd.tab k224 s890 .ret s888 := .seq (a := k225) (b := k276) (st1 := s892) (by kernel_rfl) t906 t907
theorem t909 : CodeR Cd.tab k220 s887 .ret s888 := .seq (a := k221) (b := k224) (st1 := s890) (by kernel_rfl) t891 t908
theorem t910 : CodeR Cd.tab k215 s887 .ret s888 := .seq (a := k218) (b := k220) (st1 := s887) (by kernel_rfl) t889 t909
theorem t911 : CallR Cd.tab ⟨19, [19, 16, 8, 2, 1, 0, 0]⟩ h881 v565 [(.lit (.int .i64 1))] [(.lit (.bool true))] h873 := .fn (i := 99) (fa := []) (fc := [(.ptr 14 0), (.ptr 16 0), (.ptr 17 0), (.ptr 18 0)]) (as := [(.lit (.int .i64 1)), (.ptr 14 0), (.ptr 16 0), (.ptr 17 0), (.ptr 18 0)]) (rs0 := [(.lit (.bool true))]) (rs1 := [(.lit (.bool true))]) (H1 := h873) (af := Cd.a99) (bd := k215) (st := s887) (st' := s888) (e := .ret) (by kernel_rfl) (by kernel_rfl) (by kernel_rfl) (by kernel_rfl) (by kernel_rfl) (by kernel_rfl) t910 (by kernel_rfl) (by kernel_rfl) (by kernel_rfl) (by kernel_rfl) (by kernel_rfl)
theorem t913 : OpsR Cd.tab ⟨19, [19, 16, 8, 2, 1, 0, 0]⟩ 19 [(opAt (opsOf k256) 8)] x885 x912 := .call (o := (opAt (opsOf k256) 8)) (f := opF (opAt (opsOf k256) 8).op) (args := opArgs (opAt (opsOf k256) 8).op) (own := opOwn (opAt (opsOf k256) 8).op) (hs := []) (fv := v565) (as := [(.lit (.int .i64 1))]) (as' := [(.lit (.int .i64 1))]) (H1 := h881) (rs := [(.lit (.bool true))]) (H2 := h873) (by kernel_rfl) (by kernel_rfl) (by kernel_rfl) (by kernel_rfl) (by kernel_rfl) (by kernel_rfl) (by kernel_rfl) t911 (by kernel_rfl) (by kernel_rfl)
theorem t916 : OpsR Cd.tab ⟨19, [19, 16, 8, 2, 1, 0, 0]⟩ 19 ((opsOf k256).drop 8) x885 x914 := .app (l1 := [(opAt (opsOf k256) 8)]) (l2 := ((opsOf k256).drop 9)) (y := x912) (by kernel_rfl) t913 t915
theorem t917 : OpsR Cd.tab ⟨19, [19, 16, 8, 2, 1, 0, 0]⟩ 19 (opsOf k256) x884 x914 := .app (l1 := ((opsOf k256).take 8)) (l2 := ((opsOf k256).drop 8)) (y := x885) (by kernel_rfl) t886 t916
theorem t918 : CodeR Cd.tab k256 s882 .normal s878 := .region (d := false) (nres := 0) (pre := []) (live := [0, 1, 3, 4, 25, 26, 51]) (ops := opsOf k256) (H := h881) (n0 := 19) (x := x884) (y := x914) (by kernel_rfl) (by kernel_rfl) (by kernel_rfl) (by kernel_rfl) t917 (by kernel_rfl)
theorem t920 : CodeR Cd.tab k255 s882 .normal s878 := .seq (a := k256) (b := k289) (st1 := s878) (by kernel_rfl) t918 t919
theorem t921 : CodeR Cd.tab k250 s879 .normal s878 := .seq (a := k251) (b := k255) (st1 := s882) (by kernel_rfl) t883 t920
theorem t922 : CodeR Cd.tab k246 s875 .normal s878 := .seq (a := k247) (b := k250) (st1 := s879) (by kernel_rfl) t880 t921
theorem t923 : CodeR Cd.tab k244 s875 .normal s878 := .block (a := k246) (id := 1) (by kernel_rfl) (by kernel_rfl) t922
theorem t925 : CodeR Cd.tab k243 s875 .normal s874 := .seq (a := k244) (b := k295) (st1 := s878) (by kernel_rfl) t923 t924
theorem t926 : CodeR Cd.tab k240 s875 .normal s874 := .seq (a := k241) (b := k243) (st1 := s875) (by kernel_rfl) t877 t925
theorem t927 : CodeR Cd.tab k232 s871 .normal s874 := .seq (a := k237) (b := k240) (st1 := s875) (by kernel_rfl) t876 t926
theorem t957 : CodeR Cd.tab k231 s950 (.exit 0) s949 := .iter (body := k232) (tr := true) (live := [0, 1, 3, 4, 25, 26]) (k := 2) (n := 121) (st1 := s954) (by kernel_rfl) t955 t956
theorem t958 : CodeR Cd.tab k230 s950 .normal s949 := .blockExit (a := k231) (id := 0) (by kernel_rfl) t957
theorem t959 : CodeR Cd.tab k225 s947 .normal s949 := .seq (a := k227) (b := k230) (st1 := s950) (by kernel_rfl) t951 t958
theorem t961 : CodeR Cd.tab k224 s947 .ret s945 := .seq (a := k225) (b := k276) (st1 := s949) (by kernel_rfl) t959 t960
theorem t962 : CodeR Cd.tab k220 s944 .ret s945 := .seq (a := k221) (b := k224) (st1 := s947) (by kernel_rfl) t948 t961
theorem t963 : CodeR Cd.tab k215 s944 .ret s945 := .seq (a := k218) (b := k220) (st1 := s944) (by kernel_rfl) t946 t962
theorem t964 : CallR Cd.tab ⟨19, [19, 16, 8, 2, 1, 0, 0]⟩ h938 v565 [(.lit (.int .i64 1))] [(.lit (.bool true))] h930 := .fn (i := 99) (fa := []) (fc := [(.ptr 14 0), (.ptr 16 0), (.ptr 17 0), (.ptr 18 0)]) (as := [(.lit (.int .i64 1)), (.ptr 14 0), (.ptr 16 0), (.ptr 17 0), (.ptr 18 0)]) (rs0 := [(.lit (.bool true))]) (rs1 := [(.lit (.bool true))]) (H1 := h930) (af := Cd.a99) (bd := k215) (st := s944) (st' := s945) (e := .ret) (by kernel_rfl) (by kernel_rfl) (by kernel_rfl) (by kernel_rfl) (by kernel_rfl) (by kernel_rfl) t963 (by kernel_rfl) (by kernel_rfl) (by kernel_rfl) (by kernel_rfl) (by kernel_rfl)
theorem t966 : OpsR Cd.tab ⟨19, [19, 16, 8, 2, 1, 0, 0]⟩ 19 [(opAt (opsOf k256) 8)] x942 x965 := .call (o := (opAt (opsOf k256) 8)) (f := opF (opAt (opsOf k256) 8).op) (args := opArgs (opAt (opsOf k256) 8).op) (own := opOwn (opAt (opsOf k256) 8).op) (hs := []) (fv := v565) (as := [(.lit (.int .i64 1))]) (as' := [(.lit (.int .i64 1))]) (H1 := h938) (rs := [(.lit (.bool true))]) (H2 := h930) (by kernel_rfl) (by kernel_rfl) (by kernel_rfl) (by kernel_rfl) (by kernel_rfl) (by kernel_rfl) (by kernel_rfl) t964 (by kernel_rfl) (by kernel_rfl)
theorem t969 : OpsR Cd.tab ⟨19, [19, 16, 8, 2, 1, 0, 0]⟩ 19 ((opsOf k256).drop 8) x942 x967 := .app (l1 := [(opAt (opsOf k256) 8)]) (l2 := ((opsOf k256).drop 9)) (y := x965) (by kernel_rfl) t966 t968
theorem t970 : OpsR Cd.tab ⟨19, [19, 16, 8, 2, 1, 0, 0]⟩ 19 (opsOf k256) x941 x967 := .app (l1 := ((opsOf k256).take 8)) (l2 := ((opsOf k256).drop 8)) (y := x942) (by kernel_rfl) t943 t969
theorem t971 : CodeR Cd.tab k256 s939 .normal s935 := .region (d := false) (nres := 0) (pre := []) (live := [0, 1, 3, 4, 25, 26, 51]) (ops := opsOf k256) (H := h938) (n0 := 19) (x := x941) (y := x967) (by kernel_rfl) (by kernel_rfl) (by kernel_rfl) (by kernel_rfl) t970 (by kernel_rfl)
theorem t973 : CodeR Cd.tab k255 s939 .normal s935 := .seq (a := k256) (b := k289) (st1 := s935) (by kernel_rfl) t971 t972
theorem t974 : CodeR Cd.tab k250 s936 .normal s935 := .seq (a := k251) (b := k255) (st1 := s939) (by kernel_rfl) t940 t973
theorem t975 : CodeR Cd.tab k246 s932 .normal s935 := .seq (a := k247) (b := k250) (st1 := s936) (by kernel_rfl) t937 t974
theorem t976 : CodeR Cd.tab k244 s932 .normal s935 := .block (a := k246) (id := 1) (by kernel_rfl) (by kernel_rfl) t975
theorem t978 : CodeR Cd.tab k243 s932 .normal s931 := .seq (a := k244) (b := k295) (st1 := s935) (by kernel_rfl) t976 t977
theorem t979 : CodeR Cd.tab k240 s932 .normal s931 := .seq (a := k241) (b := k243) (st1 := s932) (by kernel_rfl) t934 t978
theorem t980 : CodeR Cd.tab k232 s874 .normal s931 := .seq (a := k237) (b := k240) (st1 := s932) (by kernel_rfl) t933 t979
theorem t1012 : CodeR Cd.tab k231 s1005 (.exit 0) s1000 := .iter (body := k232) (tr := true) (live := [0, 1, 3, 4, 25, 26]) (k := 1) (n := 121) (st1 := s1009) (by kernel_rfl) t1010 t1011
theorem t1013 : CodeR Cd.tab k231 s1001 (.exit 0) s1000 := .iter (body := k232) (tr := true) (live := [0, 1, 3, 4, 25, 26]) (k := 1) (n := 121) (st1 := s1005) (by kernel_rfl) t1006 t1012
theorem t1014 : CodeR Cd.tab k230 s1001 .normal s1000 := .blockExit (a := k231) (id := 0) (by kernel_rfl) t1013
theorem t1015 : CodeR Cd.tab k225 s998 .normal s1000 := .seq (a := k227) (b := k230) (st1 := s1001) (by kernel_rfl) t1002 t1014
theorem t1017 : CodeR Cd.tab k224 s998 .ret s996 := .seq (a := k225) (b := k276) (st1 := s1000) (by kernel_rfl) t1015 t1016
theorem t1018 : CodeR Cd.tab k220 s995 .ret s996 := .seq (a := k221) (b := k224) (st1 := s998) (by kernel_rfl) t999 t1017
theorem t1019 : CodeR Cd.tab k215 s995 .ret s996 := .seq (a := k218) (b := k220) (st1 := s995) (by kernel_rfl) t997 t1018
theorem t1020 : CallR Cd.tab ⟨19, [19, 16, 8, 2, 1, 0, 0]⟩ h989 v565 [(.lit (.int .i64 1))] [(.lit (.bool true))] h846 := .fn (i := 99) (fa := []) (fc := [(.ptr 14 0), (.ptr 16 0), (.ptr 17 0), (.ptr 18 0)]) (as := [(.lit (.int .i64 1)), (.ptr 14 0), (.ptr 16 0), (.ptr 17 0), (.ptr 18 0)]) (rs0 := [(.lit (.bool true))]) (rs1 := [(.lit (.bool true))]) (H1 := h846) (af := Cd.a99) (bd := k215) (st := s995) (st' := s996) (e := .ret) (by kernel_rfl) (by kernel_rfl) (by kernel_rfl) (by kernel_rfl) (by kernel_rfl) (by kernel_rfl) t1019 (by kernel_rfl) (by kernel_rfl) (by kernel_rfl) (by kernel_rfl) (by kernel_rfl)
theorem t1022 : OpsR Cd.tab ⟨19, [19, 16, 8, 2, 1, 0, 0]⟩ 19 [(opAt (opsOf k256) 8)] x993 x1021 := .call (o := (opAt (opsOf k256) 8)) (f := opF (opAt (opsOf k256) 8).op) (args := opArgs (opAt (opsOf k256) 8).op) (own := opOwn (opAt (opsOf k256) 8).op) (hs := []) (fv := v565) (as := [(.lit (.int .i64 1))]) (as' := [(.lit (.int .i64 1))]) (H1 := h989) (rs := [(.lit (.bool true))]) (H2 := h846) (by kernel_rfl) (by kernel_rfl) (by kernel_rfl) (by kernel_rfl) (by kernel_rfl) (by kernel_rfl) (by kernel_rfl) t1020 (by kernel_rfl) (by kernel_rfl)
theorem t1025 : OpsR Cd.tab ⟨19, [19, 16, 8, 2, 1, 0, 0]⟩ 19 ((opsOf k256).drop 8) x993 x1023 := .app (l1 := [(opAt (opsOf k256) 8)]) (l2 := ((opsOf k256).drop 9)) (y := x1021) (by kernel_rfl) t1022 t1024
theorem t1026 : OpsR Cd.tab ⟨19, [19, 16, 8, 2, 1, 0, 0]⟩ 19 (opsOf k256) x992 x1023 := .app (l1 := ((opsOf k256).take 8)) (l2 := ((opsOf k256).drop 8)) (y := x993) (by kernel_rfl) t994 t1025
theorem t1027 : CodeR Cd.tab k256 s990 .normal s986 := .region (d := false) (nres := 0) (pre := []) (live := [0, 1, 3, 4, 25, 26, 51]) (ops := opsOf k256) (H := h989) (n0 := 19) (x := x992) (y := x1023) (by kernel_rfl) (by kernel_rfl) (by kernel_rfl) (by kernel_rfl) t1026 (by kernel_rfl)
theorem t1029 : CodeR Cd.tab k255 s990 .normal s986 := .seq (a := k256) (b := k289) (st1 := s986) (by kernel_rfl) t1027 t1028
theorem t1030 : CodeR Cd.tab k250 s987 .normal s986 := .seq (a := k251) (b := k255) (st1 := s990) (by kernel_rfl) t991 t1029
theorem t1031 : CodeR Cd.tab k246 s983 .normal s986 := .seq (a := k247) (b := k250) (st1 := s987) (by kernel_rfl) t988 t1030
theorem t1032 : CodeR Cd.tab k244 s983 .normal s986 := .block (a := k246) (id := 1) (by kernel_rfl) (by kernel_rfl) t1031
theorem t1034 : CodeR Cd.tab k243 s983 .normal s982 := .seq (a := k244) (b := k295) (st1 := s986) (by kernel_rfl) t1032 t1033
theorem t1035 : CodeR Cd.tab k240 s983 .normal s982 := .seq (a := k241) (b := k243) (st1 := s983) (by kernel_rfl) t985 t1034
theorem t1036 : CodeR Cd.tab k232 s931 .normal s982 := .seq (a := k237) (b := k240) (st1 := s983) (by kernel_rfl) t984 t1035
theorem t1039 : CodeR Cd.tab k231 s981 (.exit 0) s868 := .loop (body := k232) (tr := true) (live := [0, 1, 3, 4, 25, 26]) (st0 := s931) (st1 := s982) (st2 := s1037) (by kernel_rfl) (by kernel_rfl) t1036 (by kernel_rfl) t1038
theorem t1040 : CodeR Cd.tab k231 s928 (.exit 0) s868 := .loop (body := k232) (tr := true) (live := [0, 1, 3, 4, 25, 26]) (st0 := s874) (st1 := s931) (st2 := s981) (by kernel_rfl) (by kernel_rfl) t980 (by kernel_rfl) t1039
theorem t1041 : CodeR Cd.tab k231 s869 (.exit 0) s868 := .loop (body := k232) (tr := true) (live := [0, 1, 3, 4, 25, 26]) (st0 := s871) (st1 := s874) (st2 := s928) (by kernel_rfl) (by kernel_rfl) t927 (by kernel_rfl) t1040
theorem t1042 : CodeR Cd.tab k230 s869 .normal s868 := .blockExit (a := k231) (id := 0) (by kernel_rfl) t1041
theorem t1043 : CodeR Cd.tab k225 s866 .normal s868 := .seq (a := k227) (b := k230) (st1 := s869) (by kernel_rfl) t870 t1042
theorem t1045 : CodeR Cd.tab k224 s866 .ret s864 := .seq (a := k225) (b := k276) (st1 := s868) (by kernel_rfl) t1043 t1044
theorem t1046 : CodeR Cd.tab k220 s863 .ret s864 := .seq (a := k221) (b := k224) (st1 := s866) (by kernel_rfl) t867 t1045
theorem t1047 : CodeR Cd.tab k215 s863 .ret s864 := .seq (a := k218) (b := k220) (st1 := s863) (by kernel_rfl) t865 t1046
theorem t1048 : CallR Cd.tab ⟨16, [8, 2, 1, 0, 0]⟩ h857 v565 [(.lit (.int .i64 0))] [(.lit (.bool true))] h846 := .fn (i := 99) (fa := []) (fc := [(.ptr 14 0), (.ptr 16 0), (.ptr 17 0), (.ptr 18 0)]) (as := [(.lit (.int .i64 0)), (.ptr 14 0), (.ptr 16 0), (.ptr 17 0), (.ptr 18 0)]) (rs0 := [(.lit (.bool true))]) (rs1 := [(.lit (.bool true))]) (H1 := h846) (af := Cd.a99) (bd := k215) (st := s863) (st' := s864) (e := .ret) (by kernel_rfl) (by kernel_rfl) (by kernel_rfl) (by kernel_rfl) (by kernel_rfl) (by kernel_rfl) t1047 (by kernel_rfl) (by kernel_rfl) (by kernel_rfl) (by kernel_rfl) (by kernel_rfl)
theorem t1050 : OpsR Cd.tab ⟨16, [8, 2, 1, 0, 0]⟩ 19 [(opAt (opsOf k211) 1)] x861 x1049 := .call (o := (opAt (opsOf k211) 1)) (f := opF (opAt (opsOf k211) 1).op) (args := opArgs (opAt (opsOf k211) 1).op) (own := opOwn (opAt (opsOf k211) 1).op) (hs := []) (fv := v565) (as := [(.lit (.int .i64 0))]) (as' := [(.lit (.int .i64 0))]) (H1 := h857) (rs := [(.lit (.bool true))]) (H2 := h846) (by kernel_rfl) (by kernel_rfl) (by kernel_rfl) (by kernel_rfl) (by kernel_rfl) (by kernel_rfl) (by kernel_rfl) t1048 (by kernel_rfl) (by kernel_rfl)
theorem t1051 : OpsR Cd.tab ⟨16, [8, 2, 1, 0, 0]⟩ 19 ((opsOf k211).drop 2) x1049 x1049 := .nil (by kernel_rfl)
theorem t1052 : OpsR Cd.tab ⟨16, [8, 2, 1, 0, 0]⟩ 19 ((opsOf k211).drop 1) x861 x1049 := .app (l1 := [(opAt (opsOf k211) 1)]) (l2 := ((opsOf k211).drop 2)) (y := x1049) (by kernel_rfl) t1050 t1051
theorem t1053 : OpsR Cd.tab ⟨16, [8, 2, 1, 0, 0]⟩ 19 (opsOf k211) x860 x1049 := .app (l1 := ((opsOf k211).take 1)) (l2 := ((opsOf k211).drop 1)) (y := x861) (by kernel_rfl) t862 t1052
theorem t1054 : CodeR Cd.tab k211 s858 .normal s847 := .region (d := false) (nres := 0) (pre := []) (live := []) (ops := opsOf k211) (H := h857) (n0 := 19) (x := x860) (y := x1049) (by kernel_rfl) (by kernel_rfl) (by kernel_rfl) (by kernel_rfl) t1053 (by kernel_rfl)
theorem t1055 : CodeR Cd.tab k206 s855 .normal s847 := .seq (a := k207) (b := k211) (st1 := s858) (by kernel_rfl) t859 t1054
theorem t1056 : CodeR Cd.tab k201 s852 .normal s847 := .seq (a := k202) (b := k206) (st1 := s855) (by kernel_rfl) t856 t1055
theorem t1057 : CodeR Cd.tab k196 s849 .normal s847 := .seq (a := k197) (b := k201) (st1 := s852) (by kernel_rfl) t853 t1056
theorem t1058 : CodeR Cd.tab k187 s845 .normal s847 := .seq (a := k192) (b := k196) (st1 := s849) (by kernel_rfl) t850 t1057
theorem t1059 : CallR Cd.tab ⟨8, [2, 1, 0, 0]⟩ h843 (.fn (.func 98) [] [(.ptr 14 0)]) [(.fn (.yield 15) [] [])] [] h844 := .fn (i := 98) (fa := []) (fc := [(.ptr 14 0)]) (as := [(.fn (.yield 15) [] []), (.ptr 14 0)]) (rs0 := []) (rs1 := []) (H1 := h846) (af := Cd.a98) (bd := k187) (st := s845) (st' := s847) (e := .normal) (by kernel_rfl) (by kernel_rfl) (by kernel_rfl) (by kernel_rfl) (by kernel_rfl) (by kernel_rfl) t1058 (by kernel_rfl) (by kernel_rfl) (by kernel_rfl) (by kernel_rfl) (by kernel_rfl)
theorem t1060 : CodeR Cd.tab k559 s841 .normal s839 := .rangeFunc (as := k560) (bd := k561) (f := (match k559 with | .rangeFunc f _ _ _ => f | _ => .t 0)) (ps := [42]) (i := 98) (l := 15) (fa := []) (fc := [(.ptr 14 0)]) (rs := []) (H0 := h843) (H' := h844) (f1 := 0) (s1 := [(2, (.ptr 8 0)), (4, (.ptr 9 0)), (5, (.ptr 11 0)), (41, (.fn (.func 98) [] [(.ptr 14 0)]))]) (ps1 := [42]) (as1 := k560) (bd1 := k561) (pend := none) (by kernel_rfl) (by kernel_rfl) (by kernel_rfl) (by kernel_rfl) t1059 (by kernel_rfl) (by kernel_rfl) (by kernel_rfl)
theorem t1061 : CodeR Cd.tab k558 s841 .normal s839 := .block (a := k559) (id := 2) (by kernel_rfl) (by kernel_rfl) t1060
theorem t1062 : CodeR Cd.tab k552 s837 .normal s839 := .seq (a := k554) (b := k558) (st1 := s841) (by kernel_rfl) t842 t1061
theorem t1064 : CodeR Cd.tab k551 s837 .ret s826 := .seq (a := k552) (b := k774) (st1 := s839) (by kernel_rfl) t1062 t1063
theorem t1065 : CodeR Cd.tab k546 s834 .ret s826 := .seq (a := k547) (b := k551) (st1 := s837) (by kernel_rfl) t838 t1064
theorem t1066 : CodeR Cd.tab k541 s831 .ret s826 := .seq (a := k542) (b := k546) (st1 := s834) (by kernel_rfl) t835 t1065
theorem t1067 : CodeR Cd.tab k536 s828 .ret s826 := .seq (a := k537) (b := k541) (st1 := s831) (by kernel_rfl) t832 t1066
theorem t1068 : CodeR Cd.tab k528 s818 .ret s826 := .seq (a := k532) (b := k536) (st1 := s828) (by kernel_rfl) t829 t1067
theorem t1069 : CallR Cd.tab ⟨2, [1, 0, 0]⟩ h468 (.fn (.func 84) [] []) [(.ptr 5 0), (.lit (.int .i64 1))] [(.lit (.bool false))] h468 := .fn (i := 84) (fa := []) (fc := []) (as := [(.ptr 5 0), (.lit (.int .i64 1))]) (rs0 := [(.lit (.bool false))]) (rs1 := [(.lit (.bool false))]) (H1 := h825) (af := Cd.a84) (bd := k528) (st := s818) (st' := s826) (e := .ret) (by kernel_rfl) (by kernel_rfl) (by kernel_rfl) (by kernel_rfl) (by kernel_rfl) (by kernel_rfl) t1068 (by kernel_rfl) (by kernel_rfl) (by kernel_rfl) (by kernel_rfl) (by kernel_rfl)
theorem t1071 : OpsR Cd.tab ⟨2, [1, 0, 0]⟩ 8 [(opAt (opsOf k524) 2)] x816 x1070 := .call (o := (opAt (opsOf k524) 2)) (f := opF (opAt (opsOf k524) 2).op) (args := opArgs (opAt (opsOf k524) 2).op) (own := opOwn (opAt (opsOf k524) 2).op) (hs := []) (fv := (.fn (.func 84) [] [])) (as := [(.ptr 5 0), (.lit (.int .i64 1))]) (as' := [(.ptr 5 0), (.lit (.int .i64 1))]) (H1 := h468) (rs := [(.lit (.bool false))]) (H2 := h468) (by kernel_rfl) (by kernel_rfl) (by kernel_rfl) (by kernel_rfl) (by kernel_rfl) (by kernel_rfl) (by kernel_rfl) t1069 (by kernel_rfl) (by kernel_rfl)
theorem t1072 : OpsR Cd.tab ⟨2, [1, 0, 0]⟩ 8 ((opsOf k524).drop 3) x1070 x1070 := .nil (by kernel_rfl)
theorem t1073 : OpsR Cd.tab ⟨2, [1, 0, 0]⟩ 8 ((opsOf k524).drop 2) x816 x1070 := .app (l1 := [(opAt (opsOf k524) 2)]) (l2 := ((opsOf k524).drop 3)) (y := x1070) (by kernel_rfl) t1071 t1072
theorem t1074 : OpsR Cd.tab ⟨2, [1, 0, 0]⟩ 8 (opsOf k524) x815 x1070 := .app (l1 := ((opsOf k524).take 2)) (l2 := ((opsOf k524).drop 2)) (y := x816) (by kernel_rfl) t817 t1073
theorem t1075 : CodeR Cd.tab k524 s813 .normal s805 := .region (d := false) (nres := 0) (pre := []) (live := [1, 2, 4, 5, 7, 20, 21, 64]) (ops := opsOf k524) (H := h468) (n0 := 8) (x := x815) (y := x1070) (by kernel_rfl) (by kernel_rfl) (by kernel_rfl) (by kernel_rfl) t1074 (by kernel_rfl)
theorem t1077 : CodeR Cd.tab k523 s813 .normal s805 := .seq (a := k524) (b := k788) (st1 := s805) (by kernel_rfl) t1075 t1076
theorem t1078 : CodeR Cd.tab k519 s811 .normal s805 := .seq (a := k520) (b := k523) (st1 := s813) (by kernel_rfl) t814 t1077
theorem t1079 : CodeR Cd.tab k515 s809 .normal s805 := .seq (a := k516) (b := k519) (st1 := s811) (by kernel_rfl) t812 t1078
theorem t1080 : CodeR Cd.tab k511 s806 .normal s805 := .seq (a := k512) (b := k515) (st1 := s809) (by kernel_rfl) t810 t1079
theorem t1081 : CodeR Cd.tab k507 s802 .normal s805 := .seq (a := k508) (b := k511) (st1 := s806) (by kernel_rfl) t807 t1080
theorem t1082 : CodeR Cd.tab k505 s802 .normal s805 := .block (a := k507) (id := 1) (by kernel_rfl) (by kernel_rfl) t1081
theorem t1084 : CodeR Cd.tab k504 s802 .normal s801 := .seq (a := k505) (b := k796) (st1 := s805) (by kernel_rfl) t1082 t1083
theorem t1085 : CodeR Cd.tab k501 s802 .normal s801 := .seq (a := k502) (b := k504) (st1 := s802) (by kernel_rfl) t804 t1084
theorem t1086 : CodeR Cd.tab k495 s497 .normal s801 := .seq (a := k498) (b := k501) (st1 := s802) (by kernel_rfl) t803 t1085
theorem t1088 : CodeR Cd.tab k494 s497 (.exit 0) s489 := .loop (body := k495) (tr := false) (live := [1, 2, 4, 5, 20, 21]) (st0 := s497) (st1 := s801) (st2 := s801) (by kernel_rfl) (by kernel_rfl) t1086 (by kernel_rfl) t1087
theorem t1089 : CodeR Cd.tab k494 s491 (.exit 0) s489 := .loop (body := k495) (tr := false) (live := [1, 2, 4, 5, 20, 21]) (st0 := s491) (st1 := s497) (st2 := s497) (by kernel_rfl) (by kernel_rfl) t800 (by kernel_rfl) t1088
theorem t1090 : CodeR Cd.tab k493 s491 .normal s489 := .blockExit (a := k494) (id := 0) (by kernel_rfl) t1089
theorem t1091 : CodeR Cd.tab k488 s485 .normal s489 := .seq (a := k490) (b := k493) (st1 := s491) (by kernel_rfl) t492 t1090
theorem t1094 : CodeR Cd.tab k487 s485 .ret s469 := .seq (a := k488) (b := k1092) (st1 := s489) (by kernel_rfl) t1091 t1093
theorem t1095 : CodeR Cd.tab k483 s481 .ret s469 := .seq (a := k484) (b := k487) (st1 := s485) (by kernel_rfl) t486 t1094
theorem t1096 : CodeR Cd.tab k479 s477 .ret s469 := .seq (a := k480) (b := k483) (st1 := s481) (by kernel_rfl) t482 t1095
theorem t1097 : CodeR Cd.tab k474 s472 .ret s469 := .seq (a := k475) (b := k479) (st1 := s477) (by kernel_rfl) t478 t1096
theorem t1098 : CodeR Cd.tab k467 s79 .ret s469 := .seq (a := k470) (b := k474) (st1 := s472) (by kernel_rfl) t473 t1097
theorem t1099 : CallR Cd.tab ⟨1, [0, 0]⟩ h39 (.fn (.func 33) [] []) [v74] [(.seq 1 []), (.lit (.int .i64 9))] h39 := .fn (i := 33) (fa := []) (fc := []) (as := [v74]) (rs0 := [(.nils 1), (.lit (.int .i64 9))]) (rs1 := [(.seq 1 []), (.lit (.int .i64 9))]) (H1 := h468) (af := Cd.a33) (bd := k467) (st := s79) (st' := s469) (e := .ret) (by kernel_rfl) (by kernel_rfl) (by kernel_rfl) (by kernel_rfl) (by kernel_rfl) (by kernel_rfl) t1098 (by kernel_rfl) (by kernel_rfl) (by kernel_rfl) (by kernel_rfl) (by kernel_rfl)
theorem t1101 : OpsR Cd.tab ⟨1, [0, 0]⟩ 2 [(opAt (opsOf k462) 1)] x465 x1100 := .call (o := (opAt (opsOf k462) 1)) (f := opF (opAt (opsOf k462) 1).op) (args := opArgs (opAt (opsOf k462) 1).op) (own := opOwn (opAt (opsOf k462) 1).op) (hs := []) (fv := (.fn (.func 33) [] [])) (as := [v74]) (as' := [v74]) (H1 := h39) (rs := [(.seq 1 []), (.lit (.int .i64 9))]) (H2 := h39) (by kernel_rfl) (by kernel_rfl) (by kernel_rfl) (by kernel_rfl) (by kernel_rfl) (by kernel_rfl) (by kernel_rfl) t1099 (by kernel_rfl) (by kernel_rfl)
theorem t1104 : OpsR Cd.tab ⟨1, [0, 0]⟩ 2 ((opsOf k462).drop 1) x465 x1102 := .app (l1 := [(opAt (opsOf k462) 1)]) (l2 := ((opsOf k462).drop 2)) (y := x1100) (by kernel_rfl) t1101 t1103
theorem t1105 : OpsR Cd.tab ⟨1, [0, 0]⟩ 2 (opsOf k462) x464 x1102 := .app (l1 := ((opsOf k462).take 1)) (l2 := ((opsOf k462).drop 1)) (y := x465) (by kernel_rfl) t466 t1104
theorem t1106 : CodeR Cd.tab k462 s459 .normal s463 := .region (d := false) (nres := 0) (pre := []) (live := [1, 2, 3, 4, 5, 6, 7, 8, 9, 10, 11, 12, 13, 14, 15, 16, 17, 18, 19, 21]) (ops := opsOf k462) (H := h39) (n0 := 2) (x := x464) (y := x1102) (by kernel_rfl) (by kernel_rfl) (by kernel_rfl) (by kernel_rfl) t1105 (by kernel_rfl)
theorem t1200 : CodeR Cd.tab k231 s1194 (.exit 0) s1193 := .iter (body := k232) (tr := true) (live := [0, 1, 3, 4, 25, 26]) (k := 2) (n := 120) (st1 := s1197) (by kernel_rfl) t1198 t1199
theorem t1201 : CodeR Cd.tab k230 s1194 .normal s1193 := .blockExit (a := k231) (id := 0) (by kernel_rfl) t1200
theorem t1202 : CodeR Cd.tab k225 s1191 .normal s1193 := .seq (a := k227) (b := k230) (st1 := s1194) (by kernel_rfl) t1195 t1201
theorem t1204 : CodeR Cd.tab k224 s1191 .ret s1189 := .seq (a := k225) (b := k276) (st1 := s1193) (by kernel_rfl) t1202 t1203
theorem t1205 : CodeR Cd.tab k220 s1188 .ret s1189 := .seq (a := k221) (b := k224) (st1 := s1191) (by kernel_rfl) t1192 t1204
theorem t1206 : CodeR Cd.tab k215 s1188 .ret s1189 := .seq (a := k218) (b := k220) (st1 := s1188) (by kernel_rfl) t1190 t1205
theorem t1207 : CallR Cd.tab ⟨13, [13, 10, 2, 1, 0, 0]⟩ h1182 v1147 [(.lit (.int .i64 1))] [(.lit (.bool true))] h1174 := .fn (i := 99) (fa := []) (fc := [(.ptr 8 0), (.ptr 10 0), (.ptr 11 0), (.ptr 12 0)]) (as := [(.lit (.int .i64 1)), (.ptr 8 0), (.ptr 10 0), (.ptr 11 0), (.ptr 12 0)]) (rs0 := [(.lit (.bool true))]) (rs1 := [(.lit (.bool true))]) (H1 := h1174) (af := Cd.a99) (bd := k215) (st := s1188) (st' := s1189) (e := .ret) (by kernel_rfl) (by kernel_rfl) (by kernel_rfl) (by kernel_rfl) (by kernel_rfl) (by kernel_rfl) t1206 (by kernel_rfl) (by kernel_rfl) (by kernel_rfl) (by kernel_rfl) (by kernel_rfl)
theorem t1209 : OpsR Cd.tab ⟨13, [13, 10, 2, 1, 0, 0]⟩ 13 [(opAt (opsOf k256) 8)] x1186 x1208 := .call (o := (opAt (opsOf k256) 8)) (f := opF (opAt (opsOf k256) 8).op) (args := opArgs (opAt (opsOf k256) 8).op) (own := opOwn (opAt (opsOf k256) 8).op) (hs := []) (fv := v1147) (as := [(.lit (.int .i64 1))]) (as' := [(.lit (.int .i64 1))]) (H1 := h1182) (rs := [(.lit (.bool true))]) (H2 := h1174) (by kernel_rfl) (by kernel_rfl) (by kernel_rfl) (by kernel_rfl) (by kernel_rfl) (by kernel_rfl) (by kernel_rfl) t1207 (by kernel_rfl) (by kernel_rfl)
theorem t1212 : OpsR Cd.tab ⟨13, [13, 10, 2, 1, 0, 0]⟩ 13 ((opsOf k256).drop 8) x1186 x1210 := .app (l1 := [(opAt (opsOf k256) 8)]) (l2 := ((opsOf k256).drop 9)) (y := x1208) (by kernel_rfl) t1209 t1211
theorem t1213 : OpsR Cd.tab ⟨13, [13, 10, 2, 1, 0, 0]⟩ 13 (opsOf k256) x1185 x1210 := .app (l1 := ((opsOf k256).take 8)) (l2 := ((opsOf k256).drop 8)) (y := x1186) (by kernel_rfl) t1187 t1212
theorem t1214 : CodeR Cd.tab k256 s1183 .normal s1179 := .region (d := false) (nres := 0) (pre := []) (live := [0, 1, 3, 4, 25, 26, 51]) (ops := opsOf k256) (H := h1182) (n0 := 13) (x := x1185) (y := x1210) (by kernel_rfl) (by kernel_rfl) (by kernel_rfl) (by kernel_rfl) t1213 (by kernel_rfl)
theorem t1216 : CodeR Cd.tab k255 s1183 .normal s1179 := .seq (a := k256) (b := k289) (st1 := s1179) (by kernel_rfl) t1214 t1215
theorem t1217 : CodeR Cd.tab k250 s1180 .normal s1179 := .seq (a := k251) (b := k255) (st1 := s1183) (by kernel_rfl) t1184 t1216
theorem t1218 : CodeR Cd.tab k246 s1176 .normal s1179 := .seq (a := k247) (b := k250) (st1 := s1180) (by kernel_rfl) t1181 t1217
theorem t1219 : CodeR Cd.tab k244 s1176 .normal s1179 := .block (a := k246) (id := 1) (by kernel_rfl) (by kernel_rfl) t1218
theorem t1221 : CodeR Cd.tab k243 s1176 .normal s1175 := .seq (a := k244) (b := k295) (st1 := s1179) (by kernel_rfl) t1219 t1220
theorem t1222 : CodeR Cd.tab k240 s1176 .normal s1175 := .seq (a := k241) (b := k243) (st1 := s1176) (by kernel_rfl) t1178 t1221
theorem t1223 : CodeR Cd.tab k232 s1173 .normal s1175 := .seq (a := k237) (b := k240) (st1 := s1176) (by kernel_rfl) t1177 t1222
theorem t1251 : CodeR Cd.tab k231 s1245 (.exit 0) s1244 := .iter (body := k232) (tr := true) (live := [0, 1, 3, 4, 25, 26]) (k := 2) (n := 120) (st1 := s1248) (by kernel_rfl) t1249 t1250
theorem t1252 : CodeR Cd.tab k230 s1245 .normal s1244 := .blockExit (a := k231) (id := 0) (by kernel_rfl) t1251
theorem t1253 : CodeR Cd.tab k225 s1242 .normal s1244 := .seq (a := k227) (b := k230) (st1 := s1245) (by kernel_rfl) t1246 t1252
theorem t1255 : CodeR Cd.tab k224 s1242 .ret s1240 := .seq (a := k225) (b := k276) (st1 := s1244) (by kernel_rfl) t1253 t1254
theorem t1256 : CodeR Cd.tab k220 s1239 .ret s1240 := .seq (a := k221) (b := k224) (st1 := s1242) (by kernel_rfl) t1243 t1255
theorem t1257 : CodeR Cd.tab k215 s1239 .ret s1240 := .seq (a := k218) (b := k220) (st1 := s1239) (by kernel_rfl) t1241 t1256
theorem t1258 : CallR Cd.tab ⟨13, [13, 10, 2, 1, 0, 0]⟩ h1233 v1147 [(.lit (.int .i64 1))] [(.lit (.bool true))] h1225 := .fn (i := 99) (fa := []) (fc := [(.ptr 8 0), (.ptr 10 0), (.ptr 11 0), (.ptr 12 0)]) (as := [(.lit (.int .i64 1)), (.ptr 8 0), (.ptr 10 0), (.ptr 11 0), (.ptr 12 0)]) (rs0 := [(.lit (.bool true))]) (rs1 := [(.lit (.bool true))]) (H1 := h1225) (af := Cd.a99) (bd := k215) (st := s1239) (st' := s1240) (e := .ret) (by kernel_rfl) (by kernel_rfl) (by kernel_rfl) (by kernel_rfl) (by kernel_rfl) (by kernel_rfl) t1257 (by kernel_rfl) (by kernel_rfl) (by kernel_rfl) (by kernel_rfl) (by kernel_rfl)
theorem t1260 : OpsR Cd.tab ⟨13, [13, 10, 2, 1, 0, 0]⟩ 13 [(opAt (opsOf k256) 8)] x1237 x1259 := .call (o := (opAt (opsOf k256) 8)) (f := opF (opAt (opsOf k256) 8).op) (args := opArgs (opAt (opsOf k256) 8).op) (own := opOwn (opAt (opsOf k256) 8).op) (hs := []) (fv := v1147) (as := [(.lit (.int .i64 1))]) (as' := [(.lit (.int .i64 1))]) (H1 := h1233) (rs := [(.lit (.bool true))]) (H2 := h1225) (by kernel_rfl) (by kernel_rfl) (by kernel_rfl) (by kernel_rfl) (by kernel_rfl) (by kernel_rfl) (by kernel_rfl) t1258 (by kernel_rfl) (by kernel_rfl)
theorem t1263 : OpsR Cd.tab ⟨13, [13, 10, 2, 1, 0, 0]⟩ 13 ((opsOf k256).drop 8) x1237 x1261 := .app (l1 := [(opAt (opsOf k256) 8)]) (l2 := ((opsOf k256).drop 9)) (y := x1259) (by kernel_rfl) t1260 t1262
theorem t1264 : OpsR Cd.tab ⟨13, [13, 10, 2, 1, 0, 0]⟩ 13 (opsOf k256) x1236 x1261 := .app (l1 := ((opsOf k256).take 8)) (l2 := ((opsOf k256).drop 8)) (y := x1237) (by kernel_rfl) t1238 t1263
theorem t1265 : CodeR Cd.tab k256 s1234 .normal s1230 := .region (d := false) (nres := 0) (pre := []) (live := [0, 1, 3, 4, 25, 26, 51]) (ops := opsOf k256) (H := h1233) (n0 := 13) (x := x1236) (y := x1261) (by kernel_rfl) (by kernel_rfl) (by kernel_rfl) (by kernel_rfl) t1264 (by kernel_rfl)
theorem t1267 : CodeR Cd.tab k255 s1234 .normal s1230 := .seq (a := k256) (b := k289) (st1 := s1230) (by kernel_rfl) t1265 t1266
theorem t1268 : CodeR Cd.tab k250 s1231 .normal s1230 := .seq (a := k251) (b := k255) (st1 := s1234) (by kernel_rfl) t1235 t1267
theorem t1269 : CodeR Cd.tab k246 s1227 .normal s1230 := .seq (a := k247) (b := k250) (st1 := s1231) (by kernel_rfl) t1232 t1268
theorem t1270 : CodeR Cd.tab k244 s1227 .normal s1230 := .block (a := k246) (id := 1) (by kernel_rfl) (by kernel_rfl) t1269
theorem t1272 : CodeR Cd.tab k243 s1227 .normal s1226 := .seq (a := k244) (b := k295) (st1 := s1230) (by kernel_rfl) t1270 t1271
theorem t1273 : CodeR Cd.tab k240 s1227 .normal s1226 := .seq (a := k241) (b := k243) (st1 := s1227) (by kernel_rfl) t1229 t1272
theorem t1274 : CodeR Cd.tab k232 s1175 .normal s1226 := .seq (a := k237) (b := k240) (st1 := s1227) (by kernel_rfl) t1228 t1273
theorem t1304 : CodeR Cd.tab k231 s1298 (.exit 0) s1294 := .iter (body := k232) (tr := true) (live := [0, 1, 3, 4, 25, 26]) (k := 1) (n := 120) (st1 := s1301) (by kernel_rfl) t1302 t1303
theorem t1305 : CodeR Cd.tab k231 s1295 (.exit 0) s1294 := .iter (body := k232) (tr := true) (live := [0, 1, 3, 4, 25, 26]) (k := 1) (n := 120) (st1 := s1298) (by kernel_rfl) t1299 t1304
theorem t1306 : CodeR Cd.tab k230 s1295 .normal s1294 := .blockExit (a := k231) (id := 0) (by kernel_rfl) t1305
theorem t1307 : CodeR Cd.tab k225 s1292 .normal s1294 := .seq (a := k227) (b := k230) (st1 := s1295) (by kernel_rfl) t1296 t1306
theorem t1309 : CodeR Cd.tab k224 s1292 .ret s1290 := .seq (a := k225) (b := k276) (st1 := s1294) (by kernel_rfl) t1307 t1308
theorem t1310 : CodeR Cd.tab k220 s1289 .ret s1290 := .seq (a := k221) (b := k224) (st1 := s1292) (by kernel_rfl) t1293 t1309
theorem t1311 : CodeR Cd.tab k215 s1289 .ret s1290 := .seq (a := k218) (b := k220) (st1 := s1289) (by kernel_rfl) t1291 t1310
theorem t1312 : CallR Cd.tab ⟨13, [13, 10, 2, 1, 0, 0]⟩ h1283 v1147 [(.lit (.int .i64 1))] [(.lit (.bool true))] h1148 := .fn (i := 99) (fa := []) (fc := [(.ptr 8 0), (.ptr 10 0), (.ptr 11 0), (.ptr 12 0)]) (as := [(.lit (.int .i64 1)), (.ptr 8 0), (.ptr 10 0), (.ptr 11 0), (.ptr 12 0)]) (rs0 := [(.lit (.bool true))]) (rs1 := [(.lit (.bool true))]) (H1 := h1148) (af := Cd.a99) (bd := k215) (st := s1289) (st' := s1290) (e := .ret) (by kernel_rfl) (by kernel_rfl) (by kernel_rfl) (by kernel_rfl) (by kernel_rfl) (by kernel_rfl) t1311 (by kernel_rfl) (by kernel_rfl) (by kernel_rfl) (by kernel_rfl) (by kernel_rfl)
theorem t1314 : OpsR Cd.tab ⟨13, [13, 10, 2, 1, 0, 0]⟩ 13 [(opAt (opsOf k256) 8)] x1287 x1313 := .call (o := (opAt (opsOf k256) 8)) (f := opF (opAt (opsOf k256) 8).op) (args := opArgs (opAt (opsOf k256) 8).op) (own := opOwn (opAt (opsOf k256) 8).op) (hs := []) (fv := v1147) (as := [(.lit (.int .i64 1))]) (as' := [(.lit (.int .i64 1))]) (H1 := h1283) (rs := [(.lit (.bool true))]) (H2 := h1148) (by kernel_rfl) (by kernel_rfl) (by kernel_rfl) (by kernel_rfl) (by kernel_rfl) (by kernel_rfl) (by kernel_rfl) t1312 (by kernel_rfl) (by kernel_rfl)
theorem t1317 : OpsR Cd.tab ⟨13, [13, 10, 2, 1, 0, 0]⟩ 13 ((opsOf k256).drop 8) x1287 x1315 := .app (l1 := [(opAt (opsOf k256) 8)]) (l2 := ((opsOf k256).drop 9)) (y := x1313) (by kernel_rfl) t1314 t1316
theorem t1318 : OpsR Cd.tab ⟨13, [13, 10, 2, 1, 0, 0]⟩ 13 (opsOf k256) x1286 x1315 := .app (l1 := ((opsOf k256).take 8)) (l2 := ((opsOf k256).drop 8)) (y := x1287) (by kernel_rfl) t1288 t1317
theorem t1319 : CodeR Cd.tab k256 s1284 .normal s1280 := .region (d := false) (nres := 0) (pre := []) (live := [0, 1, 3, 4, 25, 26, 51]) (ops := opsOf k256) (H := h1283) (n0 := 13) (x := x1286) (y := x1315) (by kernel_rfl) (by kernel_rfl) (by kernel_rfl) (by kernel_rfl) t1318 (by kernel_rfl)
theorem t1321 : CodeR Cd.tab k255 s1284 .normal s1280 := .seq (a := k256) (b := k289) (st1 := s1280) (by kernel_rfl) t1319 t1320
theorem t1322 : CodeR Cd.tab k250 s1281 .normal s1280 := .seq (a := k251) (b := k255) (st1 := s1284) (by kernel_rfl) t1285 t1321
theorem t1323 : CodeR Cd.tab k246 s1277 .normal s1280 := .seq (a := k247) (b := k250) (st1 := s1281) (by kernel_rfl) t1282 t1322
theorem t1324 : CodeR Cd.tab k244 s1277 .normal s1280 := .block (a := k246) (id := 1) (by kernel_rfl) (by kernel_rfl) t1323
theorem t1326 : CodeR Cd.tab k243 s1277 .normal s1276 := .seq (a := k244) (b := k295) (st1 := s1280) (by kernel_rfl) t1324 t1325
theorem t1327 : CodeR Cd.tab k240 s1277 .normal s1276 := .seq (a := k241) (b := k243) (st1 := s1277) (by kernel_rfl) t1279 t1326
theorem t1328 : CodeR Cd.tab k232 s1226 .normal s1276 := .seq (a := k237) (b := k240) (st1 := s1277) (by kernel_rfl) t1278 t1327
theorem t1331 : CodeR Cd.tab k231 s1275 (.exit 0) s1170 := .loop (body := k232) (tr := true) (live := [0, 1, 3, 4, 25, 26]) (st0 := s1226) (st1 := s1276) (st2 := s1329) (by kernel_rfl) (by kernel_rfl) t1328 (by kernel_rfl) t1330
theorem t1332 : CodeR Cd.tab k231 s1224 (.exit 0) s1170 := .loop (body := k232) (tr := true) (live := [0, 1, 3, 4, 25, 26]) (st0 := s1175) (st1 := s1226) (st2 := s1275) (by kernel_rfl) (by kernel_rfl) t1274 (by kernel_rfl) t1331
theorem t1333 : CodeR Cd.tab k231 s1171 (.exit 0) s1170 := .loop (body := k232) (tr := true) (live := [0, 1, 3, 4, 25, 26]) (st0 := s1173) (st1 := s1175) (st2 := s1224) (by kernel_rfl) (by kernel_rfl) t1223 (by kernel_rfl) t1332
theorem t1334 : CodeR Cd.tab k230 s1171 .normal s1170 := .blockExit (a := k231) (id := 0) (by kernel_rfl) t1333
theorem t1335 : CodeR Cd.tab k225 s1168 .normal s1170 := .seq (a := k227) (b := k230) (st1 := s1171) (by kernel_rfl) t1172 t1334
theorem t1337 : CodeR Cd.tab k224 s1168 .ret s1166 := .seq (a := k225) (b := k276) (st1 := s1170) (by kernel_rfl) t1335 t1336
theorem t1338 : CodeR Cd.tab k220 s1165 .ret s1166 := .seq (a := k221) (b := k224) (st1 := s1168) (by kernel_rfl) t1169 t1337
theorem t1339 : CodeR Cd.tab k215 s1165 .ret s1166 := .seq (a := k218) (b := k220) (st1 := s1165) (by kernel_rfl) t1167 t1338
theorem t1340 : CallR Cd.tab ⟨10, [2, 1, 0, 0]⟩ h1159 v1147 [(.lit (.int .i64 0))] [(.lit (.bool true))] h1148 := .fn (i := 99) (fa := []) (fc := [(.ptr 8 0), (.ptr 10 0), (.ptr 11 0), (.ptr 12 0)]) (as := [(.lit (.int .i64 0)), (.ptr 8 0), (.ptr 10 0), (.ptr 11 0), (.ptr 12 0)]) (rs0 := [(.lit (.bool true))]) (rs1 := [(.lit (.bool true))]) (H1 := h1148) (af := Cd.a99) (bd := k215) (st := s1165) (st' := s1166) (e := .ret) (by kernel_rfl) (by kernel_rfl) (by kernel_rfl) (by kernel_rfl) (by kernel_rfl) (by kernel_rfl) t1339 (by kernel_rfl) (by kernel_rfl) (by kernel_rfl) (by kernel_rfl) (by kernel_rfl)
theorem t1342 : OpsR Cd.tab ⟨10, [2, 1, 0, 0]⟩ 13 [(opAt (opsOf k211) 1)] x1163 x1341 := .call (o := (opAt (opsOf k211) 1)) (f := opF (opAt (opsOf k211) 1).op) (args := opArgs (opAt (opsOf k211) 1).op) (own := opOwn (opAt (opsOf k211) 1).op) (hs := []) (fv := v1147) (as := [(.lit (.int .i64 0))]) (as' := [(.lit (.int .i64 0))]) (H1 := h1159) (rs := [(.lit (.bool true))]) (H2 := h1148) (by kernel_rfl) (by kernel_rfl) (by kernel_rfl) (by kernel_rfl) (by kernel_rfl) (by kernel_rfl) (by kernel_rfl) t1340 (by kernel_rfl) (by kernel_rfl)
theorem t1343 : OpsR Cd.tab ⟨10, [2, 1, 0, 0]⟩ 13 ((opsOf k211).drop 2) x1341 x1341 := .nil (by kernel_rfl)
theorem t1344 : OpsR Cd.tab ⟨10, [2, 1, 0, 0]⟩ 13 ((opsOf k211).drop 1) x1163 x1341 := .app (l1 := [(opAt (opsOf k211) 1)]) (l2 := ((opsOf k211).drop 2)) (y := x1341) (by kernel_rfl) t1342 t1343
theorem t1345 : OpsR Cd.tab ⟨10, [2, 1, 0, 0]⟩ 13 (opsOf k211) x1162 x1341 := .app (l1 := ((opsOf k211).take 1)) (l2 := ((opsOf k211).drop 1)) (y := x1163) (by kernel_rfl) t1164 t1344
theorem t1346 : CodeR Cd.tab k211 s1160 .normal s1149 := .region (d := false) (nres := 0) (pre := []) (live := []) (ops := opsOf k211) (H := h1159) (n0 := 13) (x := x1162) (y := x1341) (by kernel_rfl) (by kernel_rfl) (by kernel_rfl) (by kernel_rfl) t1345 (by kernel_rfl)
theorem t1347 : CodeR Cd.tab k206 s1157 .normal s1149 := .seq (a := k207) (b := k211) (st1 := s1160) (by kernel_rfl) t1161 t1346
theorem t1348 : CodeR Cd.tab k201 s1154 .normal s1149 := .seq (a := k202) (b := k206) (st1 := s1157) (by kernel_rfl) t1158 t1347
theorem t1349 : CodeR Cd.tab k196 s1151 .normal s1149 := .seq (a := k197) (b := k201) (st1 := s1154) (by kernel_rfl) t1155 t1348
theorem t1350 : CodeR Cd.tab k187 s1146 .normal s1149 := .seq (a := k192) (b := k196) (st1 := s1151) (by kernel_rfl) t1152 t1349
theorem t1351 : CallR Cd.tab ⟨2, [1, 0, 0]⟩ h1144 (.fn (.func 98) [] [(.ptr 8 0)]) [(.fn (.yield 9) [] [])] [] h1145 := .fn (i := 98) (fa := []) (fc := [(.ptr 8 0)]) (as := [(.fn (.yield 9) [] []), (.ptr 8 0)]) (rs0 := []) (rs1 := []) (H1 := h1148) (af := Cd.a98) (bd := k187) (st := s1146) (st' := s1149) (e := .normal) (by kernel_rfl) (by kernel_rfl) (by kernel_rfl) (by kernel_rfl) (by kernel_rfl) (by kernel_rfl) t1350 (by kernel_rfl) (by kernel_rfl) (by kernel_rfl) (by kernel_rfl) (by kernel_rfl)
theorem t1352 : CodeR Cd.tab k1141 s1138 .normal s1135 := .rangeFunc (as := k1142) (bd := k1143) (f := (match k1141 with | .rangeFunc f _ _ _ => f | _ => .t 0)) (ps := [18]) (i := 98) (l := 9) (fa := []) (fc := [(.ptr 8 0)]) (rs := []) (H0 := h1144) (H' := h1145) (f1 := 0) (s1 := [(4, (.ptr 3 0)), (6, (.ptr 7 0)), (17, (.fn (.func 98) [] [(.ptr 8 0)]))]) (ps1 := [18]) (as1 := k1142) (bd1 := k1143) (pend := none) (by kernel_rfl) (by kernel_rfl) (by kernel_rfl) (by kernel_rfl) t1351 (by kernel_rfl) (by kernel_rfl) (by kernel_rfl)
theorem t1353 : CodeR Cd.tab k1140 s1138 .normal s1135 := .block (a := k1141) (id := 0) (by kernel_rfl) (by kernel_rfl) t1352
theorem t1354 : CodeR Cd.tab k1134 s1131 .normal s1135 := .seq (a := k1136) (b := k1140) (st1 := s1138) (by kernel_rfl) t1139 t1353
theorem t1357 : CodeR Cd.tab k1133 s1131 .ret s1115 := .seq (a := k1134) (b := k1355) (st1 := s1135) (by kernel_rfl) t1354 t1356
theorem t1358 : CodeR Cd.tab k1128 s1126 .ret s1115 := .seq (a := k1129) (b := k1133) (st1 := s1131) (by kernel_rfl) t1132 t1357
theorem t1359 : CodeR Cd.tab k1124 s1122 .ret s1115 := .seq (a := k1125) (b := k1128) (st1 := s1126) (by kernel_rfl) t1127 t1358
theorem t1360 : CodeR Cd.tab k1119 s1117 .ret s1115 := .seq (a := k1120) (b := k1124) (st1 := s1122) (by kernel_rfl) t1123 t1359
theorem t1361 : CodeR Cd.tab k1113 s79 .ret s1115 := .seq (a := k1116) (b := k1119) (st1 := s1117) (by kernel_rfl) t1118 t1360
theorem t1362 : CallR Cd.tab ⟨1, [0, 0]⟩ h39 (.fn (.func 35) [] []) [v74] [(.lit (.int .i64 10)), (.lit (.int .i64 0))] h39 := .fn (i := 35) (fa := []) (fc := []) (as := [v74]) (rs0 := [(.lit (.int .i64 10)), (.lit (.int .i64 0))]) (rs1 := [(.lit (.int .i64 10)), (.lit (.int .i64 0))]) (H1 := h1114) (af := Cd.a35) (bd := k1113) (st := s79) (st' := s1115) (e := .ret) (by kernel_rfl) (by kernel_rfl) (by kernel_rfl) (by kernel_rfl) (by kernel_rfl) (by kernel_rfl) t1361 (by kernel_rfl) (by kernel_rfl) (by kernel_rfl) (by kernel_rfl) (by kernel_rfl)
theorem t1364 : OpsR Cd.tab ⟨1, [0, 0]⟩ 2 [(opAt (opsOf k1108) 1)] x1111 x1363 := .call (o := (opAt (opsOf k1108) 1)) (f := opF (opAt (opsOf k1108) 1).op) (args := opArgs (opAt (opsOf k1108) 1).op) (own := opOwn (opAt (opsOf k1108) 1).op) (hs := []) (fv := (.fn (.func 35) [] [])) (as := [v74]) (as' := [v74]) (H1 := h39) (rs := [(.lit (.int .i64 10)), (.lit (.int .i64 0))]) (H2 := h39) (by kernel_rfl) (by kernel_rfl) (by kernel_rfl) (by kernel_rfl) (by kernel_rfl) (by kernel_rfl) (by kernel_rfl) t1362 (by kernel_rfl) (by kernel_rfl)
theorem t1367 : OpsR Cd.tab ⟨1, [0, 0]⟩ 2 ((opsOf k1108).drop 1) x1111 x1365 := .app (l1 := [(opAt (opsOf k1108) 1)]) (l2 := ((opsOf k1108).drop 2)) (y := x1363) (by kernel_rfl) t1364 t1366
theorem t1368 : OpsR Cd.tab ⟨1, [0, 0]⟩ 2 (opsOf k1108) x1110 x1365 := .app (l1 := ((opsOf k1108).take 1)) (l2 := ((opsOf k1108).drop 1)) (y := x1111) (by kernel_rfl) t1112 t1367
theorem t1369 : CodeR Cd.tab k1108 s463 .normal s1109 := .region (d := false) (nres := 0) (pre := []) (live := [1, 2, 3, 4, 5, 6, 7, 8, 9, 10, 11, 12, 13, 14, 15, 16, 17, 18, 19, 21, 22, 23]) (ops := opsOf k1108) (H := h39) (n0 := 2) (x := x1110) (y := x1365) (by kernel_rfl) (by kernel_rfl) (by kernel_rfl) (by kernel_rfl) t1368 (by kernel_rfl)
theorem t1372 : CodeR Cd.tab k1107 s463 .ret s40 := .seq (a := k1108) (b := k1370) (st1 := s1109) (by kernel_rfl) t1369 t1371
theorem t1373 : CodeR Cd.tab k461 s459 .ret s40 := .seq (a := k462) (b := k1107) (st1 := s463) (by kernel_rfl) t1106 t1372
theorem t1374 : CodeR Cd.tab k457 s455 .ret s40 := .seq (a := k458) (b := k461) (st1 := s459) (by kernel_rfl) t460 t1373
theorem t1375 : CodeR Cd.tab k453 s72 .ret s40 := .seq (a := k454) (b := k457) (st1 := s455) (by kernel_rfl) t456 t1374
theorem t1376 : CodeR Cd.tab k69 s67 .ret s40 := .seq (a := k70) (b := k453) (st1 := s72) (by kernel_rfl) t452 t1375
theorem t1377 : CodeR Cd.tab k64 s62 .ret s40 := .seq (a := k65) (b := k69) (st1 := s67) (by kernel_rfl) t68 t1376
theorem t1378 : CodeR Cd.tab k60 s58 .ret s40 := .seq (a := k61) (b := k64) (st1 := s62) (by kernel_rfl) t63 t1377
theorem t1379 : CodeR Cd.tab k56 s54 .ret s40 := .seq (a := k57) (b := k60) (st1 := s58) (by kernel_rfl) t59 t1378
theorem t1380 : CodeR Cd.tab k51 s49 .ret s40 := .seq (a := k52) (b := k56) (st1 := s54) (by kernel_rfl) t55 t1379
theorem t1381 : CodeR Cd.tab k47 s45 .ret s40 := .seq (a := k48) (b := k51) (st1 := s49) (by kernel_rfl) t50 t1380
theorem t1382 : CodeR Cd.tab k43 s38 .ret s40 := .seq (a := k44) (b := k47) (st1 := s45) (by kernel_rfl) t46 t1381
theorem t1383 : CodeR Cd.tab k37 s38 .ret s40 := .seq (a := k41) (b := k43) (st1 := s38) (by kernel_rfl) t42 t1382
theorem t1384 : CallR Cd.tab ⟨0, [0]⟩ h6 (.fn (.func 26) [] []) [] [(.lit (.bool true))] h6 := .fn (i := 26) (fa := []) (fc := []) (as := []) (rs0 := [(.lit (.bool true))]) (rs1 := [(.lit (.bool true))]) (H1 := h39) (af := Cd.a26) (bd := k37) (st := s38) (st' := s40) (e := .ret) (by kernel_rfl) (by kernel_rfl) (by kernel_rfl) (by kernel_rfl) (by kernel_rfl) (by kernel_rfl) t1383 (by kernel_rfl) (by kernel_rfl) (by kernel_rfl) (by kernel_rfl) (by kernel_rfl)
theorem t1386 : OpsR Cd.tab ⟨0, [0]⟩ 1 [(opAt (opsOf k33) 38)] x35 x1385 := .call (o := (opAt (opsOf k33) 38)) (f := opF (opAt (opsOf k33) 38).op) (args := opArgs (opAt (opsOf k33) 38).op) (own := opOwn (opAt (opsOf k33) 38).op) (hs := []) (fv := (.fn (.func 26) [] [])) (as := []) (as' := []) (H1 := h6) (rs := [(.lit (.bool true))]) (H2 := h6) (by kernel_rfl) (by kernel_rfl) (by kernel_rfl) (by kernel_rfl) (by kernel_rfl) (by kernel_rfl) (by kernel_rfl) t1384 (by kernel_rfl) (by kernel_rfl)
theorem t1389 : OpsR Cd.tab ⟨0, [0]⟩ 1 ((opsOf k33).drop 38) x35 x1387 := .app (l1 := [(opAt (opsOf k33) 38)]) (l2 := ((opsOf k33).drop 39)) (y := x1385) (by kernel_rfl) t1386 t1388
theorem t1390 : OpsR Cd.tab ⟨0, [0]⟩ 1 (opsOf k33) x34 x1387 := .app (l1 := ((opsOf k33).take 38)) (l2 := ((opsOf k33).drop 38)) (y := x35) (by kernel_rfl) t36 t1389
theorem t1391 : CodeR Cd.tab k33 s30 .normal s7 := .region (d := false) (nres := 0) (pre := []) (live := [0]) (ops := opsOf k33) (H := h6) (n0 := 1) (x := x34) (y := x1387) (by kernel_rfl) (by kernel_rfl) (by kernel_rfl) (by kernel_rfl) t1390 (by kernel_rfl)
theorem t1394 : CodeR Cd.tab k32 s30 .ret s7 := .seq (a := k33) (b := k1392) (st1 := s7) (by kernel_rfl) t1391 t1393
theorem t1395 : CodeR Cd.tab k27 s25 .ret s7 := .seq (a := k28) (b := k32) (st1 := s30) (by kernel_rfl) t31 t1394
theorem t1396 : CodeR Cd.tab k23 s21 .ret s7 := .seq (a := k24) (b := k27) (st1 := s25) (by kernel_rfl) t26 t1395
theorem t1397 : CodeR Cd.tab k18 s16 .ret s7 := .seq (a := k19) (b := k23) (st1 := s21) (by kernel_rfl) t22 t1396
theorem t1398 : CodeR Cd.tab k14 s12 .ret s7 := .seq (a := k15) (b := k18) (st1 := s16) (by kernel_rfl) t17 t1397
theorem t1399 : CodeR Cd.tab k10 s1 .ret s7 := .seq (a := k11) (b := k14) (st1 := s12) (by kernel_rfl) t13 t1398
theorem t1400 : CodeR Cd.tab k0 s1 .ret s7 := .seq (a := k8) (b := k10) (st1 := s1) (by kernel_rfl) t9 t1399
theorem t1401 : CallR Cd.tab ⟨0, []⟩ [] (.fn (.func 7) [] []) [] [(.lit (.bool true))] [] := .fn (i := 7) (fa := []) (fc := []) (as := []) (rs0 := [(.lit (.bool true))]) (rs1 := [(.lit (.bool true))]) (H1 := h6) (af := Cd.a7) (bd := k0) (st := s1) (st' := s7) (e := .ret) (by kernel_rfl) (by kernel_rfl) (by kernel_rfl) (by kernel_rfl) (by kernel_rfl) (by kernel_rfl) t1400 (by kernel_rfl) (by kernel_rfl) (by kernel_rfl) (by kernel_rfl) (by kernel_rfl)
end Go.Proofs.Ytjjmechghfjbmaa.Rn
