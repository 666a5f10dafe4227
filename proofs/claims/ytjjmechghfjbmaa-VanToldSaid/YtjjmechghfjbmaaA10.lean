/- Texts that the claim stands on, one behind another. -/
import Derived.Test.YtjjmechghfjbmaaA9
set_option linter.unusedVariables false
set_option linter.unusedSimpArgs false
set_option linter.unnecessarySimpa false
section
set_option maxRecDepth 100000
set_option maxHeartbeats 0
namespace Go.Proofs.Ytjjmechghfjbmaa.Rn
open Go Am
theorem t243:CodeR Cd.tab k198 s236 (.exit 0) s232:=.iter (body:=k199) (tr:=true) (live:=[0,1,3,4,25,26]) (k:=1) (n:=121) (st1:=s240) (by kernel_rfl) t241 t242
theorem t244:CodeR Cd.tab k198 s233 (.exit 0) s232:=.iter (body:=k199) (tr:=true) (live:=[0,1,3,4,25,26]) (k:=1) (n:=121) (st1:=s236) (by kernel_rfl) t237 t243
theorem t245:CodeR Cd.tab k197 s233 .normal s232:=.blockExit (a:=k198) (id:=0) (by kernel_rfl) t244
theorem t246:CodeR Cd.tab k192 s230 .normal s232:=.seq (by kernel_rfl) t234 t245
theorem t249:CodeR Cd.tab k191 s230 .ret s228:=.seq (by kernel_rfl) t246 t248
theorem t250:CodeR Cd.tab k187 s227 .ret s228:=.seq (by kernel_rfl) t231 t249
theorem t251:CodeR Cd.tab k182 s227 .ret s228:=.seq (by kernel_rfl) t229 t250
theorem t252:CallR Cd.tab ⟨14,[14,11,1,0,0]⟩ h219 v156 [.i 1] [.b true] h202:=.fn (i:=99) (fa:=[]) (fc:=[.ptr 9 0,.ptr 11 0,.ptr 12 0,.ptr 13 0]) (as:=[.i 1,.ptr 9 0,.ptr 11 0,.ptr 12 0,.ptr 13 0]) (rs0:=[.b true]) (rs1:=[.b true]) (H1:=h202) (af:=Cd.a99) (bd:=k182) (st:=s227) (st':=s228) (e:=.ret) (by kernel_rfl) (by kernel_rfl) (by kernel_rfl) (by kernel_rfl) (by kernel_rfl) (by kernel_rfl) t251 (by kernel_rfl) (by kernel_rfl) (by kernel_rfl) (by kernel_rfl) (by kernel_rfl)
theorem t254:OpsR Cd.tab ⟨14,[14,11,1,0,0]⟩ 14 [(opAt (opsOf k223) 8)] x225 x253:=.call (o:=(opAt (opsOf k223) 8)) (f:=opF (opAt (opsOf k223) 8).op) (args:=opArgs (opAt (opsOf k223) 8).op) (own:=opOwn (opAt (opsOf k223) 8).op) (hs:=[]) (fv:=v156) (as:=[.i 1]) (as':=[.i 1]) (H1:=h219) (rs:=[.b true]) (H2:=h202) (by kernel_rfl) (by kernel_rfl) (by kernel_rfl) (by kernel_rfl) (by kernel_rfl) (by kernel_rfl) (by kernel_rfl) t252 (by kernel_rfl) (by kernel_rfl)
theorem t257:OpsR Cd.tab ⟨14,[14,11,1,0,0]⟩ 14 ((opsOf k223).drop 8) x225 x255:=.app (l1:=[(opAt (opsOf k223) 8)]) (l2:=((opsOf k223).drop 9)) (y:=x253) (by kernel_rfl) t254 t256
theorem t258:OpsR Cd.tab ⟨14,[14,11,1,0,0]⟩ 14 (opsOf k223) x224 x255:=.app (l1:=((opsOf k223).take 8)) (l2:=((opsOf k223).drop 8)) (y:=x225) (by kernel_rfl) t226 t257
theorem t259:CodeR Cd.tab k223 s220 .normal s212:=.region (d:=false) (nres:=0) (pre:=[]) (live:=[0,1,3,4,25,26,51]) (ops:=opsOf k223) (H:=h219) (n0:=14) (x:=x224) (y:=x255) (by kernel_rfl) (by kernel_rfl) (by kernel_rfl) (by kernel_rfl) t258 (by kernel_rfl)
theorem t262:CodeR Cd.tab k222 s220 .normal s212:=.seq (by kernel_rfl) t259 t261
theorem t263:CodeR Cd.tab k217 s215 .normal s212:=.seq (by kernel_rfl) t221 t262
theorem t264:CodeR Cd.tab k213 s205 .normal s212:=.seq (by kernel_rfl) t216 t263
theorem t265:CodeR Cd.tab k211 s205 .normal s212:=.block (a:=k213) (id:=1) (by kernel_rfl) (by kernel_rfl) t264
theorem t268:CodeR Cd.tab k210 s205 .normal s203:=.seq (by kernel_rfl) t265 t267
theorem t269:CodeR Cd.tab k207 s205 .normal s203:=.seq (by kernel_rfl) t209 t268
theorem t270:CodeR Cd.tab k199 s200 .normal s203:=.seq (by kernel_rfl) t206 t269
theorem t304:CodeR Cd.tab k198 s297 (.exit 0) s292:=.iter (body:=k199) (tr:=true) (live:=[0,1,3,4,25,26]) (k:=1) (n:=120) (st1:=s301) (by kernel_rfl) t302 t303
theorem t305:CodeR Cd.tab k198 s293 (.exit 0) s292:=.iter (body:=k199) (tr:=true) (live:=[0,1,3,4,25,26]) (k:=1) (n:=121) (st1:=s297) (by kernel_rfl) t298 t304
theorem t306:CodeR Cd.tab k197 s293 .normal s292:=.blockExit (a:=k198) (id:=0) (by kernel_rfl) t305
theorem t307:CodeR Cd.tab k192 s290 .normal s292:=.seq (by kernel_rfl) t294 t306
theorem t309:CodeR Cd.tab k191 s290 .ret s288:=.seq (by kernel_rfl) t307 t308
theorem t310:CodeR Cd.tab k187 s287 .ret s288:=.seq (by kernel_rfl) t291 t309
theorem t311:CodeR Cd.tab k182 s287 .ret s288:=.seq (by kernel_rfl) t289 t310
theorem t312:CallR Cd.tab ⟨14,[14,11,1,0,0]⟩ h281 v156 [.i 1] [.b true] h273:=.fn (i:=99) (fa:=[]) (fc:=[.ptr 9 0,.ptr 11 0,.ptr 12 0,.ptr 13 0]) (as:=[.i 1,.ptr 9 0,.ptr 11 0,.ptr 12 0,.ptr 13 0]) (rs0:=[.b true]) (rs1:=[.b true]) (H1:=h273) (af:=Cd.a99) (bd:=k182) (st:=s287) (st':=s288) (e:=.ret) (by kernel_rfl) (by kernel_rfl) (by kernel_rfl) (by kernel_rfl) (by kernel_rfl) (by kernel_rfl) t311 (by kernel_rfl) (by kernel_rfl) (by kernel_rfl) (by kernel_rfl) (by kernel_rfl)
theorem t314:OpsR Cd.tab ⟨14,[14,11,1,0,0]⟩ 14 [(opAt (opsOf k223) 8)] x285 x313:=.call (o:=(opAt (opsOf k223) 8)) (f:=opF (opAt (opsOf k223) 8).op) (args:=opArgs (opAt (opsOf k223) 8).op) (own:=opOwn (opAt (opsOf k223) 8).op) (hs:=[]) (fv:=v156) (as:=[.i 1]) (as':=[.i 1]) (H1:=h281) (rs:=[.b true]) (H2:=h273) (by kernel_rfl) (by kernel_rfl) (by kernel_rfl) (by kernel_rfl) (by kernel_rfl) (by kernel_rfl) (by kernel_rfl) t312 (by kernel_rfl) (by kernel_rfl)
theorem t317:OpsR Cd.tab ⟨14,[14,11,1,0,0]⟩ 14 ((opsOf k223).drop 8) x285 x315:=.app (l1:=[(opAt (opsOf k223) 8)]) (l2:=((opsOf k223).drop 9)) (y:=x313) (by kernel_rfl) t314 t316
theorem t318:OpsR Cd.tab ⟨14,[14,11,1,0,0]⟩ 14 (opsOf k223) x284 x315:=.app (l1:=((opsOf k223).take 8)) (l2:=((opsOf k223).drop 8)) (y:=x285) (by kernel_rfl) t286 t317
theorem t319:CodeR Cd.tab k223 s282 .normal s278:=.region (d:=false) (nres:=0) (pre:=[]) (live:=[0,1,3,4,25,26,51]) (ops:=opsOf k223) (H:=h281) (n0:=14) (x:=x284) (y:=x315) (by kernel_rfl) (by kernel_rfl) (by kernel_rfl) (by kernel_rfl) t318 (by kernel_rfl)
theorem t321:CodeR Cd.tab k222 s282 .normal s278:=.seq (by kernel_rfl) t319 t320
theorem t322:CodeR Cd.tab k217 s279 .normal s278:=.seq (by kernel_rfl) t283 t321
theorem t323:CodeR Cd.tab k213 s275 .normal s278:=.seq (by kernel_rfl) t280 t322
theorem t324:CodeR Cd.tab k211 s275 .normal s278:=.block (a:=k213) (id:=1) (by kernel_rfl) (by kernel_rfl) t323
theorem t326:CodeR Cd.tab k210 s275 .normal s274:=.seq (by kernel_rfl) t324 t325
theorem t327:CodeR Cd.tab k207 s275 .normal s274:=.seq (by kernel_rfl) t277 t326
theorem t328:CodeR Cd.tab k199 s203 .normal s274:=.seq (by kernel_rfl) t276 t327
theorem t360:CodeR Cd.tab k198 s353 (.exit 0) s348:=.iter (body:=k199) (tr:=true) (live:=[0,1,3,4,25,26]) (k:=1) (n:=121) (st1:=s357) (by kernel_rfl) t358 t359
theorem t361:CodeR Cd.tab k198 s349 (.exit 0) s348:=.iter (body:=k199) (tr:=true) (live:=[0,1,3,4,25,26]) (k:=1) (n:=121) (st1:=s353) (by kernel_rfl) t354 t360
theorem t362:CodeR Cd.tab k197 s349 .normal s348:=.blockExit (a:=k198) (id:=0) (by kernel_rfl) t361
theorem t363:CodeR Cd.tab k192 s346 .normal s348:=.seq (by kernel_rfl) t350 t362
theorem t365:CodeR Cd.tab k191 s346 .ret s344:=.seq (by kernel_rfl) t363 t364
theorem t366:CodeR Cd.tab k187 s343 .ret s344:=.seq (by kernel_rfl) t347 t365
theorem t367:CodeR Cd.tab k182 s343 .ret s344:=.seq (by kernel_rfl) t345 t366
theorem t368:CallR Cd.tab ⟨14,[14,11,1,0,0]⟩ h337 v156 [.i 1] [.b true] h157:=.fn (i:=99) (fa:=[]) (fc:=[.ptr 9 0,.ptr 11 0,.ptr 12 0,.ptr 13 0]) (as:=[.i 1,.ptr 9 0,.ptr 11 0,.ptr 12 0,.ptr 13 0]) (rs0:=[.b true]) (rs1:=[.b true]) (H1:=h157) (af:=Cd.a99) (bd:=k182) (st:=s343) (st':=s344) (e:=.ret) (by kernel_rfl) (by kernel_rfl) (by kernel_rfl) (by kernel_rfl) (by kernel_rfl) (by kernel_rfl) t367 (by kernel_rfl) (by kernel_rfl) (by kernel_rfl) (by kernel_rfl) (by kernel_rfl)
theorem t370:OpsR Cd.tab ⟨14,[14,11,1,0,0]⟩ 14 [(opAt (opsOf k223) 8)] x341 x369:=.call (o:=(opAt (opsOf k223) 8)) (f:=opF (opAt (opsOf k223) 8).op) (args:=opArgs (opAt (opsOf k223) 8).op) (own:=opOwn (opAt (opsOf k223) 8).op) (hs:=[]) (fv:=v156) (as:=[.i 1]) (as':=[.i 1]) (H1:=h337) (rs:=[.b true]) (H2:=h157) (by kernel_rfl) (by kernel_rfl) (by kernel_rfl) (by kernel_rfl) (by kernel_rfl) (by kernel_rfl) (by kernel_rfl) t368 (by kernel_rfl) (by kernel_rfl)
theorem t373:OpsR Cd.tab ⟨14,[14,11,1,0,0]⟩ 14 ((opsOf k223).drop 8) x341 x371:=.app (l1:=[(opAt (opsOf k223) 8)]) (l2:=((opsOf k223).drop 9)) (y:=x369) (by kernel_rfl) t370 t372
theorem t374:OpsR Cd.tab ⟨14,[14,11,1,0,0]⟩ 14 (opsOf k223) x340 x371:=.app (l1:=((opsOf k223).take 8)) (l2:=((opsOf k223).drop 8)) (y:=x341) (by kernel_rfl) t342 t373
theorem t375:CodeR Cd.tab k223 s338 .normal s334:=.region (d:=false) (nres:=0) (pre:=[]) (live:=[0,1,3,4,25,26,51]) (ops:=opsOf k223) (H:=h337) (n0:=14) (x:=x340) (y:=x371) (by kernel_rfl) (by kernel_rfl) (by kernel_rfl) (by kernel_rfl) t374 (by kernel_rfl)
theorem t377:CodeR Cd.tab k222 s338 .normal s334:=.seq (by kernel_rfl) t375 t376
theorem t378:CodeR Cd.tab k217 s335 .normal s334:=.seq (by kernel_rfl) t339 t377
theorem t379:CodeR Cd.tab k213 s331 .normal s334:=.seq (by kernel_rfl) t336 t378
theorem t380:CodeR Cd.tab k211 s331 .normal s334:=.block (a:=k213) (id:=1) (by kernel_rfl) (by kernel_rfl) t379
theorem t382:CodeR Cd.tab k210 s331 .normal s330:=.seq (by kernel_rfl) t380 t381
theorem t383:CodeR Cd.tab k207 s331 .normal s330:=.seq (by kernel_rfl) t333 t382
theorem t384:CodeR Cd.tab k199 s274 .normal s330:=.seq (by kernel_rfl) t332 t383
theorem t387:CodeR Cd.tab k198 s329 (.exit 0) s193:=.loop (body:=k199) (tr:=true) (live:=[0,1,3,4,25,26]) (st0:=s274) (st1:=s330) (st2:=s385) (by kernel_rfl) (by kernel_rfl) t384 (by kernel_rfl) t386
theorem t388:CodeR Cd.tab k198 s271 (.exit 0) s193:=.loop (body:=k199) (tr:=true) (live:=[0,1,3,4,25,26]) (st0:=s203) (st1:=s274) (st2:=s329) (by kernel_rfl) (by kernel_rfl) t328 (by kernel_rfl) t387
theorem t389:CodeR Cd.tab k198 s195 (.exit 0) s193:=.loop (body:=k199) (tr:=true) (live:=[0,1,3,4,25,26]) (st0:=s200) (st1:=s203) (st2:=s271) (by kernel_rfl) (by kernel_rfl) t270 (by kernel_rfl) t388
theorem t390:CodeR Cd.tab k197 s195 .normal s193:=.blockExit (a:=k198) (id:=0) (by kernel_rfl) t389
theorem t391:CodeR Cd.tab k192 s189 .normal s193:=.seq (by kernel_rfl) t196 t390
theorem t393:CodeR Cd.tab k191 s189 .ret s184:=.seq (by kernel_rfl) t391 t392
theorem t394:CodeR Cd.tab k187 s183 .ret s184:=.seq (by kernel_rfl) t190 t393
theorem t395:CodeR Cd.tab k182 s183 .ret s184:=.seq (by kernel_rfl) t186 t394
theorem t396:CallR Cd.tab ⟨11,[1,0,0]⟩ h175 v156 [.i 0] [.b true] h157:=.fn (i:=99) (fa:=[]) (fc:=[.ptr 9 0,.ptr 11 0,.ptr 12 0,.ptr 13 0]) (as:=[.i 0,.ptr 9 0,.ptr 11 0,.ptr 12 0,.ptr 13 0]) (rs0:=[.b true]) (rs1:=[.b true]) (H1:=h157) (af:=Cd.a99) (bd:=k182) (st:=s183) (st':=s184) (e:=.ret) (by kernel_rfl) (by kernel_rfl) (by kernel_rfl) (by kernel_rfl) (by kernel_rfl) (by kernel_rfl) t395 (by kernel_rfl) (by kernel_rfl) (by kernel_rfl) (by kernel_rfl) (by kernel_rfl)
theorem t398:OpsR Cd.tab ⟨11,[1,0,0]⟩ 14 [(opAt (opsOf k178) 1)] x180 x397:=.call (o:=(opAt (opsOf k178) 1)) (f:=opF (opAt (opsOf k178) 1).op) (args:=opArgs (opAt (opsOf k178) 1).op) (own:=opOwn (opAt (opsOf k178) 1).op) (hs:=[]) (fv:=v156) (as:=[.i 0]) (as':=[.i 0]) (H1:=h175) (rs:=[.b true]) (H2:=h157) (by kernel_rfl) (by kernel_rfl) (by kernel_rfl) (by kernel_rfl) (by kernel_rfl) (by kernel_rfl) (by kernel_rfl) t396 (by kernel_rfl) (by kernel_rfl)
theorem t399:OpsR Cd.tab ⟨11,[1,0,0]⟩ 14 ((opsOf k178).drop 2) x397 x397:=.nil (by kernel_rfl)
theorem t400:OpsR Cd.tab ⟨11,[1,0,0]⟩ 14 ((opsOf k178).drop 1) x180 x397:=.app (l1:=[(opAt (opsOf k178) 1)]) (l2:=((opsOf k178).drop 2)) (y:=x397) (by kernel_rfl) t398 t399
theorem t401:OpsR Cd.tab ⟨11,[1,0,0]⟩ 14 (opsOf k178) x179 x397:=.app (l1:=((opsOf k178).take 1)) (l2:=((opsOf k178).drop 1)) (y:=x180) (by kernel_rfl) t181 t400
theorem t402:CodeR Cd.tab k178 s176 .normal s158:=.region (d:=false) (nres:=0) (pre:=[]) (live:=[]) (ops:=opsOf k178) (H:=h175) (n0:=14) (x:=x179) (y:=x397) (by kernel_rfl) (by kernel_rfl) (by kernel_rfl) (by kernel_rfl) t401 (by kernel_rfl)
theorem t403:CodeR Cd.tab k173 s171 .normal s158:=.seq (by kernel_rfl) t177 t402
theorem t404:CodeR Cd.tab k168 s166 .normal s158:=.seq (by kernel_rfl) t172 t403
theorem t405:CodeR Cd.tab k163 s161 .normal s158:=.seq (by kernel_rfl) t167 t404
theorem t406:CodeR Cd.tab k154 s155 .normal s158:=.seq (by kernel_rfl) t162 t405
theorem t407:CallR Cd.tab ⟨1,[0,0]⟩ h152 (.fn (.func 98) [] [.ptr 9 0]) [(.fn (.yield 10) [] [])] [] h153:=.fn (i:=98) (fa:=[]) (fc:=[.ptr 9 0]) (as:=[(.fn (.yield 10) [] []),.ptr 9 0]) (rs0:=[]) (rs1:=[]) (H1:=h157) (af:=Cd.a98) (bd:=k154) (st:=s155) (st':=s158) (e:=.normal) (by kernel_rfl) (by kernel_rfl) (by kernel_rfl) (by kernel_rfl) (by kernel_rfl) (by kernel_rfl) t406 (by kernel_rfl) (by kernel_rfl) (by kernel_rfl) (by kernel_rfl) (by kernel_rfl)
theorem t408:CodeR Cd.tab k149 s146 .normal s143:=.rangeFunc (as:=k150) (bd:=k151) (f:=(match k149 with | .rangeFunc f _ _ _=>f | _=>.t 0)) (ps:=[23]) (i:=98) (l:=10) (fa:=[]) (fc:=[.ptr 9 0]) (rs:=[]) (H0:=h152) (H':=h153) (f1:=0) (s1:=[(1,.ptr 1 0),(6,.ptr 3 0),(7,.ptr 7 0),(8,.ptr 8 0),(22,(.fn (.func 98) [] [.ptr 9 0]))]) (ps1:=[23]) (as1:=k150) (bd1:=k151) (pend:=none) (by kernel_rfl) (by kernel_rfl) (by kernel_rfl) (by kernel_rfl) t407 (by kernel_rfl) (by kernel_rfl) (by kernel_rfl)
theorem t409:CodeR Cd.tab k148 s146 .normal s143:=.block (a:=k149) (id:=0) (by kernel_rfl) (by kernel_rfl) t408
theorem t410:CodeR Cd.tab k141 s138 .normal s143:=.seq (by kernel_rfl) t147 t409
theorem t413:CodeR Cd.tab k140 s138 .ret s116:=.seq (by kernel_rfl) t410 t412
theorem t414:CodeR Cd.tab k135 s133 .ret s116:=.seq (by kernel_rfl) t139 t413
theorem t415:CodeR Cd.tab k130 s128 .ret s116:=.seq (by kernel_rfl) t134 t414
theorem t416:CodeR Cd.tab k126 s124 .ret s116:=.seq (by kernel_rfl) t129 t415
theorem t417:CodeR Cd.tab k121 s119 .ret s116:=.seq (by kernel_rfl) t125 t416
theorem t418:CodeR Cd.tab k45 s46 .ret s116:=.seq (by kernel_rfl) t120 t417
theorem t420:CallR Cd.tab ⟨0,[0]⟩ h6 (.fn (.func 29) [] []) [v41] [v44,.i 3,.i 0,.i 0] h6:=.fn (i:=29) (fa:=[]) (fc:=[]) (as:=[v41]) (rs0:=[.asl 11 4,.i 3,.i 0,.i 0]) (rs1:=[v44,.i 3,.i 0,.i 0]) (H1:=h419) (af:=Cd.a29) (bd:=k45) (st:=s46) (st':=s116) (e:=.ret) (by kernel_rfl) (by kernel_rfl) (by kernel_rfl) (by kernel_rfl) (by kernel_rfl) (by kernel_rfl) t418 (by kernel_rfl) (by kernel_rfl) (by kernel_rfl) (by kernel_rfl) (by kernel_rfl)
theorem t423:OpsR Cd.tab ⟨0,[0]⟩ 1 [(opAt (opsOf k37) 1)] x42 x422:=.call (o:=(opAt (opsOf k37) 1)) (f:=opF (opAt (opsOf k37) 1).op) (args:=opArgs (opAt (opsOf k37) 1).op) (own:=opOwn (opAt (opsOf k37) 1).op) (hs:=[]) (fv:=(.fn (.func 29) [] [])) (as:=[v41]) (as':=[v41]) (H1:=h6) (rs:=[v44,.i 3,.i 0,.i 0]) (H2:=h6) (by kernel_rfl) (by kernel_rfl) (by kernel_rfl) (by kernel_rfl) (by kernel_rfl) (by kernel_rfl) (by kernel_rfl) t420 (by kernel_rfl) (by kernel_rfl)
theorem t426:OpsR Cd.tab ⟨0,[0]⟩ 1 ((opsOf k37).drop 1) x42 x424:=.app (l1:=[(opAt (opsOf k37) 1)]) (l2:=((opsOf k37).drop 2)) (y:=x422) (by kernel_rfl) t423 t425
theorem t427:OpsR Cd.tab ⟨0,[0]⟩ 1 (opsOf k37) x40 x424:=.app (l1:=((opsOf k37).take 1)) (l2:=((opsOf k37).drop 1)) (y:=x42) (by kernel_rfl) t43 t426
theorem t428:CodeR Cd.tab k37 s34 .normal s39:=.region (d:=false) (nres:=0) (pre:=[]) (live:=[1,2,3,4,5,6,7,8,9,10,11,12,13,14,15]) (ops:=opsOf k37) (H:=h6) (n0:=1) (x:=x40) (y:=x424) (by kernel_rfl) (by kernel_rfl) (by kernel_rfl) (by kernel_rfl) t427 (by kernel_rfl)
theorem t574:CodeR Cd.tab k198 s568 (.exit 0) s567:=.iter (body:=k199) (tr:=true) (live:=[0,1,3,4,25,26]) (k:=1) (n:=135) (st1:=s571) (by kernel_rfl) t572 t573
theorem t575:CodeR Cd.tab k197 s568 .normal s567:=.blockExit (a:=k198) (id:=0) (by kernel_rfl) t574
theorem t576:CodeR Cd.tab k192 s565 .normal s567:=.seq (by kernel_rfl) t569 t575
theorem t578:CodeR Cd.tab k191 s565 .ret s563:=.seq (by kernel_rfl) t576 t577
theorem t579:CodeR Cd.tab k187 s562 .ret s563:=.seq (by kernel_rfl) t566 t578
theorem t580:CodeR Cd.tab k182 s562 .ret s563:=.seq (by kernel_rfl) t564 t579
theorem t581:CallR Cd.tab ⟨15,[6,1,0,0]⟩ h556 v544 [.i 0] [.b true] h545:=.fn (i:=99) (fa:=[]) (fc:=[.ptr 13 0,.ptr 15 0,.ptr 16 0,.ptr 17 0]) (as:=[.i 0,.ptr 13 0,.ptr 15 0,.ptr 16 0,.ptr 17 0]) (rs0:=[.b true]) (rs1:=[.b true]) (H1:=h545) (af:=Cd.a99) (bd:=k182) (st:=s562) (st':=s563) (e:=.ret) (by kernel_rfl) (by kernel_rfl) (by kernel_rfl) (by kernel_rfl) (by kernel_rfl) (by kernel_rfl) t580 (by kernel_rfl) (by kernel_rfl) (by kernel_rfl) (by kernel_rfl) (by kernel_rfl)
theorem t583:OpsR Cd.tab ⟨15,[6,1,0,0]⟩ 18 [(opAt (opsOf k178) 1)] x560 x582:=.call (o:=(opAt (opsOf k178) 1)) (f:=opF (opAt (opsOf k178) 1).op) (args:=opArgs (opAt (opsOf k178) 1).op) (own:=opOwn (opAt (opsOf k178) 1).op) (hs:=[]) (fv:=v544) (as:=[.i 0]) (as':=[.i 0]) (H1:=h556) (rs:=[.b true]) (H2:=h545) (by kernel_rfl) (by kernel_rfl) (by kernel_rfl) (by kernel_rfl) (by kernel_rfl) (by kernel_rfl) (by kernel_rfl) t581 (by kernel_rfl) (by kernel_rfl)
theorem t584:OpsR Cd.tab ⟨15,[6,1,0,0]⟩ 18 ((opsOf k178).drop 2) x582 x582:=.nil (by kernel_rfl)
theorem t585:OpsR Cd.tab ⟨15,[6,1,0,0]⟩ 18 ((opsOf k178).drop 1) x560 x582:=.app (l1:=[(opAt (opsOf k178) 1)]) (l2:=((opsOf k178).drop 2)) (y:=x582) (by kernel_rfl) t583 t584
theorem t586:OpsR Cd.tab ⟨15,[6,1,0,0]⟩ 18 (opsOf k178) x559 x582:=.app (l1:=((opsOf k178).take 1)) (l2:=((opsOf k178).drop 1)) (y:=x560) (by kernel_rfl) t561 t585
theorem t587:CodeR Cd.tab k178 s557 .normal s546:=.region (d:=false) (nres:=0) (pre:=[]) (live:=[]) (ops:=opsOf k178) (H:=h556) (n0:=18) (x:=x559) (y:=x582) (by kernel_rfl) (by kernel_rfl) (by kernel_rfl) (by kernel_rfl) t586 (by kernel_rfl)
theorem t588:CodeR Cd.tab k173 s554 .normal s546:=.seq (by kernel_rfl) t558 t587
theorem t589:CodeR Cd.tab k168 s551 .normal s546:=.seq (by kernel_rfl) t555 t588
theorem t590:CodeR Cd.tab k163 s548 .normal s546:=.seq (by kernel_rfl) t552 t589
theorem t591:CodeR Cd.tab k154 s543 .normal s546:=.seq (by kernel_rfl) t549 t590
theorem t592:CallR Cd.tab ⟨6,[1,0,0]⟩ h541 (.fn (.func 98) [] [.ptr 13 0]) [(.fn (.yield 14) [] [])] [] h542:=.fn (i:=98) (fa:=[]) (fc:=[.ptr 13 0]) (as:=[(.fn (.yield 14) [] []),.ptr 13 0]) (rs0:=[]) (rs1:=[]) (H1:=h545) (af:=Cd.a98) (bd:=k154) (st:=s543) (st':=s546) (e:=.normal) (by kernel_rfl) (by kernel_rfl) (by kernel_rfl) (by kernel_rfl) (by kernel_rfl) (by kernel_rfl) t591 (by kernel_rfl) (by kernel_rfl) (by kernel_rfl) (by kernel_rfl) (by kernel_rfl)
theorem t593:CodeR Cd.tab k538 s535 .normal s532:=.rangeFunc (as:=k539) (bd:=k540) (f:=(match k538 with | .rangeFunc f _ _ _=>f | _=>.t 0)) (ps:=[42]) (i:=98) (l:=14) (fa:=[]) (fc:=[.ptr 13 0]) (rs:=[]) (H0:=h541) (H':=h542) (f1:=0) (s1:=[(2,.ptr 6 0),(4,.ptr 7 0),(5,.ptr 9 0),(41,(.fn (.func 98) [] [.ptr 13 0]))]) (ps1:=[42]) (as1:=k539) (bd1:=k540) (pend:=none) (by kernel_rfl) (by kernel_rfl) (by kernel_rfl) (by kernel_rfl) t592 (by kernel_rfl) (by kernel_rfl) (by kernel_rfl)
theorem t594:CodeR Cd.tab k537 s535 .normal s532:=.block (a:=k538) (id:=2) (by kernel_rfl) (by kernel_rfl) t593
theorem t595:CodeR Cd.tab k531 s528 .normal s532:=.seq (by kernel_rfl) t536 t594
theorem t598:CodeR Cd.tab k530 s528 .ret s510:=.seq (by kernel_rfl) t595 t597
theorem t599:CodeR Cd.tab k525 s523 .ret s510:=.seq (by kernel_rfl) t529 t598
theorem t600:CodeR Cd.tab k520 s518 .ret s510:=.seq (by kernel_rfl) t524 t599
theorem t601:CodeR Cd.tab k515 s513 .ret s510:=.seq (by kernel_rfl) t519 t600
theorem t602:CodeR Cd.tab k504 s505 .ret s510:=.seq (by kernel_rfl) t514 t601
theorem t603:CallR Cd.tab ⟨1,[0,0]⟩ h472 (.fn (.func 84) [] []) [.ptr 4 0,.i 0] [.b false] h472:=.fn (i:=84) (fa:=[]) (fc:=[]) (as:=[.ptr 4 0,.i 0]) (rs0:=[.b false]) (rs1:=[.b false]) (H1:=h509) (af:=Cd.a84) (bd:=k504) (st:=s505) (st':=s510) (e:=.ret) (by kernel_rfl) (by kernel_rfl) (by kernel_rfl) (by kernel_rfl) (by kernel_rfl) (by kernel_rfl) t602 (by kernel_rfl) (by kernel_rfl) (by kernel_rfl) (by kernel_rfl) (by kernel_rfl)
theorem t605:OpsR Cd.tab ⟨1,[0,0]⟩ 6 [(opAt (opsOf k500) 2)] x502 x604:=.call (o:=(opAt (opsOf k500) 2)) (f:=opF (opAt (opsOf k500) 2).op) (args:=opArgs (opAt (opsOf k500) 2).op) (own:=opOwn (opAt (opsOf k500) 2).op) (hs:=[]) (fv:=(.fn (.func 84) [] [])) (as:=[.ptr 4 0,.i 0]) (as':=[.ptr 4 0,.i 0]) (H1:=h472) (rs:=[.b false]) (H2:=h472) (by kernel_rfl) (by kernel_rfl) (by kernel_rfl) (by kernel_rfl) (by kernel_rfl) (by kernel_rfl) (by kernel_rfl) t603 (by kernel_rfl) (by kernel_rfl)
theorem t606:OpsR Cd.tab ⟨1,[0,0]⟩ 6 ((opsOf k500).drop 3) x604 x604:=.nil (by kernel_rfl)
theorem t607:OpsR Cd.tab ⟨1,[0,0]⟩ 6 ((opsOf k500).drop 2) x502 x604:=.app (l1:=[(opAt (opsOf k500) 2)]) (l2:=((opsOf k500).drop 3)) (y:=x604) (by kernel_rfl) t605 t606
theorem t608:OpsR Cd.tab ⟨1,[0,0]⟩ 6 (opsOf k500) x501 x604:=.app (l1:=((opsOf k500).take 2)) (l2:=((opsOf k500).drop 2)) (y:=x502) (by kernel_rfl) t503 t607
theorem t609:CodeR Cd.tab k500 s497 .normal s482:=.region (d:=false) (nres:=0) (pre:=[]) (live:=[1,2,4,5,7,20,21,64]) (ops:=opsOf k500) (H:=h472) (n0:=6) (x:=x501) (y:=x604) (by kernel_rfl) (by kernel_rfl) (by kernel_rfl) (by kernel_rfl) t608 (by kernel_rfl)
theorem t612:CodeR Cd.tab k499 s497 .normal s482:=.seq (by kernel_rfl) t609 t611
theorem t613:CodeR Cd.tab k495 s493 .normal s482:=.seq (by kernel_rfl) t498 t612
theorem t614:CodeR Cd.tab k491 s489 .normal s482:=.seq (by kernel_rfl) t494 t613
theorem t615:CodeR Cd.tab k487 s485 .normal s482:=.seq (by kernel_rfl) t490 t614
theorem t616:CodeR Cd.tab k483 s475 .normal s482:=.seq (by kernel_rfl) t486 t615
theorem t617:CodeR Cd.tab k481 s475 .normal s482:=.block (a:=k483) (id:=1) (by kernel_rfl) (by kernel_rfl) t616
theorem t620:CodeR Cd.tab k480 s475 .normal s473:=.seq (by kernel_rfl) t617 t619
theorem t621:CodeR Cd.tab k477 s475 .normal s473:=.seq (by kernel_rfl) t479 t620
theorem t622:CodeR Cd.tab k471 s467 .normal s473:=.seq (by kernel_rfl) t476 t621
theorem t624:CodeR Cd.tab k470 s467 (.exit 0) s465:=.loop (body:=k471) (tr:=false) (live:=[1,2,4,5,20,21]) (st0:=s467) (st1:=s473) (st2:=s473) (by kernel_rfl) (by kernel_rfl) t622 (by kernel_rfl) t623
theorem t625:CodeR Cd.tab k469 s467 .normal s465:=.blockExit (a:=k470) (id:=0) (by kernel_rfl) t624
theorem t626:CodeR Cd.tab k464 s461 .normal s465:=.seq (by kernel_rfl) t468 t625
theorem t629:CodeR Cd.tab k463 s461 .ret s445:=.seq (by kernel_rfl) t626 t628
theorem t630:CodeR Cd.tab k459 s457 .ret s445:=.seq (by kernel_rfl) t462 t629
theorem t631:CodeR Cd.tab k455 s453 .ret s445:=.seq (by kernel_rfl) t458 t630
theorem t632:CodeR Cd.tab k450 s448 .ret s445:=.seq (by kernel_rfl) t454 t631
theorem t633:CodeR Cd.tab k442 s443 .ret s445:=.seq (by kernel_rfl) t449 t632
theorem t635:CallR Cd.tab ⟨0,[0]⟩ h6 (.fn (.func 33) [] []) [v439] [(.fresh 1 [[.i 0]]),.i 0] h6:=.fn (i:=33) (fa:=[]) (fc:=[]) (as:=[v439]) (rs0:=[.asl 6 1,.i 0]) (rs1:=[(.fresh 1 [[.i 0]]),.i 0]) (H1:=h634) (af:=Cd.a33) (bd:=k442) (st:=s443) (st':=s445) (e:=.ret) (by kernel_rfl) (by kernel_rfl) (by kernel_rfl) (by kernel_rfl) (by kernel_rfl) (by kernel_rfl) t633 (by kernel_rfl) (by kernel_rfl) (by kernel_rfl) (by kernel_rfl) (by kernel_rfl)
theorem t638:OpsR Cd.tab ⟨0,[0]⟩ 1 [(opAt (opsOf k434) 1)] x440 x637:=.call (o:=(opAt (opsOf k434) 1)) (f:=opF (opAt (opsOf k434) 1).op) (args:=opArgs (opAt (opsOf k434) 1).op) (own:=opOwn (opAt (opsOf k434) 1).op) (hs:=[]) (fv:=(.fn (.func 33) [] [])) (as:=[v439]) (as':=[v439]) (H1:=h6) (rs:=[(.fresh 1 [[.i 0]]),.i 0]) (H2:=h6) (by kernel_rfl) (by kernel_rfl) (by kernel_rfl) (by kernel_rfl) (by kernel_rfl) (by kernel_rfl) (by kernel_rfl) t635 (by kernel_rfl) (by kernel_rfl)
theorem t641:OpsR Cd.tab ⟨0,[0]⟩ 1 ((opsOf k434).drop 1) x440 x639:=.app (l1:=[(opAt (opsOf k434) 1)]) (l2:=((opsOf k434).drop 2)) (y:=x637) (by kernel_rfl) t638 t640
theorem t642:OpsR Cd.tab ⟨0,[0]⟩ 1 (opsOf k434) x436 x639:=.app (l1:=((opsOf k434).take 1)) (l2:=((opsOf k434).drop 1)) (y:=x440) (by kernel_rfl) t441 t641
theorem t643:CodeR Cd.tab k434 s431 .normal s435:=.region (d:=false) (nres:=0) (pre:=[]) (live:=[1,2,3,4,5,6,7,8,9,10,11,12,13,14,15,16,17,18,19]) (ops:=opsOf k434) (H:=h6) (n0:=1) (x:=x436) (y:=x639) (by kernel_rfl) (by kernel_rfl) (by kernel_rfl) (by kernel_rfl) t642 (by kernel_rfl)
theorem t760:CodeR Cd.tab k198 s754 (.exit 0) s750:=.iter (body:=k199) (tr:=true) (live:=[0,1,3,4,25,26]) (k:=1) (n:=121) (st1:=s757) (by kernel_rfl) t758 t759
theorem t761:CodeR Cd.tab k198 s751 (.exit 0) s750:=.iter (body:=k199) (tr:=true) (live:=[0,1,3,4,25,26]) (k:=1) (n:=121) (st1:=s754) (by kernel_rfl) t755 t760
theorem t762:CodeR Cd.tab k197 s751 .normal s750:=.blockExit (a:=k198) (id:=0) (by kernel_rfl) t761
theorem t763:CodeR Cd.tab k192 s748 .normal s750:=.seq (by kernel_rfl) t752 t762
theorem t765:CodeR Cd.tab k191 s748 .ret s746:=.seq (by kernel_rfl) t763 t764
theorem t766:CodeR Cd.tab k187 s745 .ret s746:=.seq (by kernel_rfl) t749 t765
theorem t767:CodeR Cd.tab k182 s745 .ret s746:=.seq (by kernel_rfl) t747 t766
theorem t768:CallR Cd.tab ⟨18,[18,15,6,1,0,0]⟩ h742 v544 [.i 1] [.b true] h730:=.fn (i:=99) (fa:=[]) (fc:=[.ptr 13 0,.ptr 15 0,.ptr 16 0,.ptr 17 0]) (as:=[.i 1,.ptr 13 0,.ptr 15 0,.ptr 16 0,.ptr 17 0]) (rs0:=[.b true]) (rs1:=[.b true]) (H1:=h730) (af:=Cd.a99) (bd:=k182) (st:=s745) (st':=s746) (e:=.ret) (by kernel_rfl) (by kernel_rfl) (by kernel_rfl) (by kernel_rfl) (by kernel_rfl) (by kernel_rfl) t767 (by kernel_rfl) (by kernel_rfl) (by kernel_rfl) (by kernel_rfl) (by kernel_rfl)
theorem t770:OpsR Cd.tab ⟨18,[18,15,6,1,0,0]⟩ 18 [(opAt (opsOf k223) 8)] x743 x769:=.call (o:=(opAt (opsOf k223) 8)) (f:=opF (opAt (opsOf k223) 8).op) (args:=opArgs (opAt (opsOf k223) 8).op) (own:=opOwn (opAt (opsOf k223) 8).op) (hs:=[]) (fv:=v544) (as:=[.i 1]) (as':=[.i 1]) (H1:=h742) (rs:=[.b true]) (H2:=h730) (by kernel_rfl) (by kernel_rfl) (by kernel_rfl) (by kernel_rfl) (by kernel_rfl) (by kernel_rfl) (by kernel_rfl) t768 (by kernel_rfl) (by kernel_rfl)
theorem t773:OpsR Cd.tab ⟨18,[18,15,6,1,0,0]⟩ 18 ((opsOf k223).drop 8) x743 x771:=.app (l1:=[(opAt (opsOf k223) 8)]) (l2:=((opsOf k223).drop 9)) (y:=x769) (by kernel_rfl) t770 t772
theorem t774:OpsR Cd.tab ⟨18,[18,15,6,1,0,0]⟩ 18 (opsOf k223) x741 x771:=.app (l1:=((opsOf k223).take 8)) (l2:=((opsOf k223).drop 8)) (y:=x743) (by kernel_rfl) t744 t773
theorem t775:CodeR Cd.tab k223 s739 .normal s735:=.region (d:=false) (nres:=0) (pre:=[]) (live:=[0,1,3,4,25,26,51]) (ops:=opsOf k223) (H:=h738) (n0:=18) (x:=x741) (y:=x771) (by kernel_rfl) (by kernel_rfl) (by kernel_rfl) (by kernel_rfl) t774 (by kernel_rfl)
theorem t777:CodeR Cd.tab k222 s739 .normal s735:=.seq (by kernel_rfl) t775 t776
theorem t778:CodeR Cd.tab k217 s736 .normal s735:=.seq (by kernel_rfl) t740 t777
theorem t779:CodeR Cd.tab k213 s732 .normal s735:=.seq (by kernel_rfl) t737 t778
theorem t780:CodeR Cd.tab k211 s732 .normal s735:=.block (a:=k213) (id:=1) (by kernel_rfl) (by kernel_rfl) t779
theorem t782:CodeR Cd.tab k210 s732 .normal s731:=.seq (by kernel_rfl) t780 t781
theorem t783:CodeR Cd.tab k207 s732 .normal s731:=.seq (by kernel_rfl) t734 t782
theorem t784:CodeR Cd.tab k199 s729 .normal s731:=.seq (by kernel_rfl) t733 t783
theorem t815:CodeR Cd.tab k198 s809 (.exit 0) s805:=.iter (body:=k199) (tr:=true) (live:=[0,1,3,4,25,26]) (k:=1) (n:=120) (st1:=s812) (by kernel_rfl) t813 t814
theorem t816:CodeR Cd.tab k198 s806 (.exit 0) s805:=.iter (body:=k199) (tr:=true) (live:=[0,1,3,4,25,26]) (k:=1) (n:=121) (st1:=s809) (by kernel_rfl) t810 t815
theorem t817:CodeR Cd.tab k197 s806 .normal s805:=.blockExit (a:=k198) (id:=0) (by kernel_rfl) t816
theorem t818:CodeR Cd.tab k192 s803 .normal s805:=.seq (by kernel_rfl) t807 t817
theorem t820:CodeR Cd.tab k191 s803 .ret s801:=.seq (by kernel_rfl) t818 t819
theorem t821:CodeR Cd.tab k187 s800 .ret s801:=.seq (by kernel_rfl) t804 t820
theorem t822:CodeR Cd.tab k182 s800 .ret s801:=.seq (by kernel_rfl) t802 t821
theorem t823:CallR Cd.tab ⟨18,[18,15,6,1,0,0]⟩ h794 v544 [.i 1] [.b true] h786:=.fn (i:=99) (fa:=[]) (fc:=[.ptr 13 0,.ptr 15 0,.ptr 16 0,.ptr 17 0]) (as:=[.i 1,.ptr 13 0,.ptr 15 0,.ptr 16 0,.ptr 17 0]) (rs0:=[.b true]) (rs1:=[.b true]) (H1:=h786) (af:=Cd.a99) (bd:=k182) (st:=s800) (st':=s801) (e:=.ret) (by kernel_rfl) (by kernel_rfl) (by kernel_rfl) (by kernel_rfl) (by kernel_rfl) (by kernel_rfl) t822 (by kernel_rfl) (by kernel_rfl) (by kernel_rfl) (by kernel_rfl) (by kernel_rfl)
theorem t825:OpsR Cd.tab ⟨18,[18,15,6,1,0,0]⟩ 18 [(opAt (opsOf k223) 8)] x798 x824:=.call (o:=(opAt (opsOf k223) 8)) (f:=opF (opAt (opsOf k223) 8).op) (args:=opArgs (opAt (opsOf k223) 8).op) (own:=opOwn (opAt (opsOf k223) 8).op) (hs:=[]) (fv:=v544) (as:=[.i 1]) (as':=[.i 1]) (H1:=h794) (rs:=[.b true]) (H2:=h786) (by kernel_rfl) (by kernel_rfl) (by kernel_rfl) (by kernel_rfl) (by kernel_rfl) (by kernel_rfl) (by kernel_rfl) t823 (by kernel_rfl) (by kernel_rfl)
theorem t828:OpsR Cd.tab ⟨18,[18,15,6,1,0,0]⟩ 18 ((opsOf k223).drop 8) x798 x826:=.app (l1:=[(opAt (opsOf k223) 8)]) (l2:=((opsOf k223).drop 9)) (y:=x824) (by kernel_rfl) t825 t827
theorem t829:OpsR Cd.tab ⟨18,[18,15,6,1,0,0]⟩ 18 (opsOf k223) x797 x826:=.app (l1:=((opsOf k223).take 8)) (l2:=((opsOf k223).drop 8)) (y:=x798) (by kernel_rfl) t799 t828
theorem t830:CodeR Cd.tab k223 s795 .normal s791:=.region (d:=false) (nres:=0) (pre:=[]) (live:=[0,1,3,4,25,26,51]) (ops:=opsOf k223) (H:=h794) (n0:=18) (x:=x797) (y:=x826) (by kernel_rfl) (by kernel_rfl) (by kernel_rfl) (by kernel_rfl) t829 (by kernel_rfl)
theorem t832:CodeR Cd.tab k222 s795 .normal s791:=.seq (by kernel_rfl) t830 t831
theorem t833:CodeR Cd.tab k217 s792 .normal s791:=.seq (by kernel_rfl) t796 t832
theorem t834:CodeR Cd.tab k213 s788 .normal s791:=.seq (by kernel_rfl) t793 t833
theorem t835:CodeR Cd.tab k211 s788 .normal s791:=.block (a:=k213) (id:=1) (by kernel_rfl) (by kernel_rfl) t834
theorem t837:CodeR Cd.tab k210 s788 .normal s787:=.seq (by kernel_rfl) t835 t836
theorem t838:CodeR Cd.tab k207 s788 .normal s787:=.seq (by kernel_rfl) t790 t837
theorem t839:CodeR Cd.tab k199 s731 .normal s787:=.seq (by kernel_rfl) t789 t838
theorem t869:CodeR Cd.tab k198 s863 (.exit 0) s859:=.iter (body:=k199) (tr:=true) (live:=[0,1,3,4,25,26]) (k:=1) (n:=121) (st1:=s866) (by kernel_rfl) t867 t868
theorem t870:CodeR Cd.tab k198 s860 (.exit 0) s859:=.iter (body:=k199) (tr:=true) (live:=[0,1,3,4,25,26]) (k:=1) (n:=121) (st1:=s863) (by kernel_rfl) t864 t869
theorem t871:CodeR Cd.tab k197 s860 .normal s859:=.blockExit (a:=k198) (id:=0) (by kernel_rfl) t870
theorem t872:CodeR Cd.tab k192 s857 .normal s859:=.seq (by kernel_rfl) t861 t871
theorem t874:CodeR Cd.tab k191 s857 .ret s855:=.seq (by kernel_rfl) t872 t873
theorem t875:CodeR Cd.tab k187 s854 .ret s855:=.seq (by kernel_rfl) t858 t874
theorem t876:CodeR Cd.tab k182 s854 .ret s855:=.seq (by kernel_rfl) t856 t875
theorem t877:CallR Cd.tab ⟨18,[18,15,6,1,0,0]⟩ h848 v544 [.i 1] [.b true] h704:=.fn (i:=99) (fa:=[]) (fc:=[.ptr 13 0,.ptr 15 0,.ptr 16 0,.ptr 17 0]) (as:=[.i 1,.ptr 13 0,.ptr 15 0,.ptr 16 0,.ptr 17 0]) (rs0:=[.b true]) (rs1:=[.b true]) (H1:=h704) (af:=Cd.a99) (bd:=k182) (st:=s854) (st':=s855) (e:=.ret) (by kernel_rfl) (by kernel_rfl) (by kernel_rfl) (by kernel_rfl) (by kernel_rfl) (by kernel_rfl) t876 (by kernel_rfl) (by kernel_rfl) (by kernel_rfl) (by kernel_rfl) (by kernel_rfl)
theorem t879:OpsR Cd.tab ⟨18,[18,15,6,1,0,0]⟩ 18 [(opAt (opsOf k223) 8)] x852 x878:=.call (o:=(opAt (opsOf k223) 8)) (f:=opF (opAt (opsOf k223) 8).op) (args:=opArgs (opAt (opsOf k223) 8).op) (own:=opOwn (opAt (opsOf k223) 8).op) (hs:=[]) (fv:=v544) (as:=[.i 1]) (as':=[.i 1]) (H1:=h848) (rs:=[.b true]) (H2:=h704) (by kernel_rfl) (by kernel_rfl) (by kernel_rfl) (by kernel_rfl) (by kernel_rfl) (by kernel_rfl) (by kernel_rfl) t877 (by kernel_rfl) (by kernel_rfl)
theorem t882:OpsR Cd.tab ⟨18,[18,15,6,1,0,0]⟩ 18 ((opsOf k223).drop 8) x852 x880:=.app (l1:=[(opAt (opsOf k223) 8)]) (l2:=((opsOf k223).drop 9)) (y:=x878) (by kernel_rfl) t879 t881
theorem t883:OpsR Cd.tab ⟨18,[18,15,6,1,0,0]⟩ 18 (opsOf k223) x851 x880:=.app (l1:=((opsOf k223).take 8)) (l2:=((opsOf k223).drop 8)) (y:=x852) (by kernel_rfl) t853 t882
theorem t884:CodeR Cd.tab k223 s849 .normal s845:=.region (d:=false) (nres:=0) (pre:=[]) (live:=[0,1,3,4,25,26,51]) (ops:=opsOf k223) (H:=h848) (n0:=18) (x:=x851) (y:=x880) (by kernel_rfl) (by kernel_rfl) (by kernel_rfl) (by kernel_rfl) t883 (by kernel_rfl)
theorem t886:CodeR Cd.tab k222 s849 .normal s845:=.seq (by kernel_rfl) t884 t885
theorem t887:CodeR Cd.tab k217 s846 .normal s845:=.seq (by kernel_rfl) t850 t886
theorem t888:CodeR Cd.tab k213 s842 .normal s845:=.seq (by kernel_rfl) t847 t887
theorem t889:CodeR Cd.tab k211 s842 .normal s845:=.block (a:=k213) (id:=1) (by kernel_rfl) (by kernel_rfl) t888
theorem t891:CodeR Cd.tab k210 s842 .normal s841:=.seq (by kernel_rfl) t889 t890
theorem t892:CodeR Cd.tab k207 s842 .normal s841:=.seq (by kernel_rfl) t844 t891
theorem t893:CodeR Cd.tab k199 s787 .normal s841:=.seq (by kernel_rfl) t843 t892
theorem t896:CodeR Cd.tab k198 s840 (.exit 0) s726:=.loop (body:=k199) (tr:=true) (live:=[0,1,3,4,25,26]) (st0:=s787) (st1:=s841) (st2:=s894) (by kernel_rfl) (by kernel_rfl) t893 (by kernel_rfl) t895
theorem t897:CodeR Cd.tab k198 s785 (.exit 0) s726:=.loop (body:=k199) (tr:=true) (live:=[0,1,3,4,25,26]) (st0:=s731) (st1:=s787) (st2:=s840) (by kernel_rfl) (by kernel_rfl) t839 (by kernel_rfl) t896
theorem t898:CodeR Cd.tab k198 s727 (.exit 0) s726:=.loop (body:=k199) (tr:=true) (live:=[0,1,3,4,25,26]) (st0:=s729) (st1:=s731) (st2:=s785) (by kernel_rfl) (by kernel_rfl) t784 (by kernel_rfl) t897
theorem t899:CodeR Cd.tab k197 s727 .normal s726:=.blockExit (a:=k198) (id:=0) (by kernel_rfl) t898
theorem t900:CodeR Cd.tab k192 s724 .normal s726:=.seq (by kernel_rfl) t728 t899
theorem t902:CodeR Cd.tab k191 s724 .ret s722:=.seq (by kernel_rfl) t900 t901
theorem t903:CodeR Cd.tab k187 s721 .ret s722:=.seq (by kernel_rfl) t725 t902
theorem t904:CodeR Cd.tab k182 s721 .ret s722:=.seq (by kernel_rfl) t723 t903
theorem t905:CallR Cd.tab ⟨15,[6,1,0,0]⟩ h715 v544 [.i 0] [.b true] h704:=.fn (i:=99) (fa:=[]) (fc:=[.ptr 13 0,.ptr 15 0,.ptr 16 0,.ptr 17 0]) (as:=[.i 0,.ptr 13 0,.ptr 15 0,.ptr 16 0,.ptr 17 0]) (rs0:=[.b true]) (rs1:=[.b true]) (H1:=h704) (af:=Cd.a99) (bd:=k182) (st:=s721) (st':=s722) (e:=.ret) (by kernel_rfl) (by kernel_rfl) (by kernel_rfl) (by kernel_rfl) (by kernel_rfl) (by kernel_rfl) t904 (by kernel_rfl) (by kernel_rfl) (by kernel_rfl) (by kernel_rfl) (by kernel_rfl)
theorem t907:OpsR Cd.tab ⟨15,[6,1,0,0]⟩ 18 [(opAt (opsOf k178) 1)] x719 x906:=.call (o:=(opAt (opsOf k178) 1)) (f:=opF (opAt (opsOf k178) 1).op) (args:=opArgs (opAt (opsOf k178) 1).op) (own:=opOwn (opAt (opsOf k178) 1).op) (hs:=[]) (fv:=v544) (as:=[.i 0]) (as':=[.i 0]) (H1:=h715) (rs:=[.b true]) (H2:=h704) (by kernel_rfl) (by kernel_rfl) (by kernel_rfl) (by kernel_rfl) (by kernel_rfl) (by kernel_rfl) (by kernel_rfl) t905 (by kernel_rfl) (by kernel_rfl)
theorem t908:OpsR Cd.tab ⟨15,[6,1,0,0]⟩ 18 ((opsOf k178).drop 2) x906 x906:=.nil (by kernel_rfl)
theorem t909:OpsR Cd.tab ⟨15,[6,1,0,0]⟩ 18 ((opsOf k178).drop 1) x719 x906:=.app (l1:=[(opAt (opsOf k178) 1)]) (l2:=((opsOf k178).drop 2)) (y:=x906) (by kernel_rfl) t907 t908
theorem t910:OpsR Cd.tab ⟨15,[6,1,0,0]⟩ 18 (opsOf k178) x718 x906:=.app (l1:=((opsOf k178).take 1)) (l2:=((opsOf k178).drop 1)) (y:=x719) (by kernel_rfl) t720 t909
theorem t911:CodeR Cd.tab k178 s716 .normal s705:=.region (d:=false) (nres:=0) (pre:=[]) (live:=[]) (ops:=opsOf k178) (H:=h715) (n0:=18) (x:=x718) (y:=x906) (by kernel_rfl) (by kernel_rfl) (by kernel_rfl) (by kernel_rfl) t910 (by kernel_rfl)
theorem t912:CodeR Cd.tab k173 s713 .normal s705:=.seq (by kernel_rfl) t717 t911
theorem t913:CodeR Cd.tab k168 s710 .normal s705:=.seq (by kernel_rfl) t714 t912
theorem t914:CodeR Cd.tab k163 s707 .normal s705:=.seq (by kernel_rfl) t711 t913
theorem t915:CodeR Cd.tab k154 s703 .normal s705:=.seq (by kernel_rfl) t708 t914
theorem t916:CallR Cd.tab ⟨6,[1,0,0]⟩ h701 (.fn (.func 98) [] [.ptr 13 0]) [(.fn (.yield 14) [] [])] [] h702:=.fn (i:=98) (fa:=[]) (fc:=[.ptr 13 0]) (as:=[(.fn (.yield 14) [] []),.ptr 13 0]) (rs0:=[]) (rs1:=[]) (H1:=h704) (af:=Cd.a98) (bd:=k154) (st:=s703) (st':=s705) (e:=.normal) (by kernel_rfl) (by kernel_rfl) (by kernel_rfl) (by kernel_rfl) (by kernel_rfl) (by kernel_rfl) t915 (by kernel_rfl) (by kernel_rfl) (by kernel_rfl) (by kernel_rfl) (by kernel_rfl)
theorem t917:CodeR Cd.tab k538 s699 .normal s697:=.rangeFunc (as:=k539) (bd:=k540) (f:=(match k538 with | .rangeFunc f _ _ _=>f | _=>.t 0)) (ps:=[42]) (i:=98) (l:=14) (fa:=[]) (fc:=[.ptr 13 0]) (rs:=[]) (H0:=h701) (H':=h702) (f1:=0) (s1:=[(2,.ptr 6 0),(4,.ptr 7 0),(5,.ptr 9 0),(41,(.fn (.func 98) [] [.ptr 13 0]))]) (ps1:=[42]) (as1:=k539) (bd1:=k540) (pend:=none) (by kernel_rfl) (by kernel_rfl) (by kernel_rfl) (by kernel_rfl) t916 (by kernel_rfl) (by kernel_rfl) (by kernel_rfl)
theorem t918:CodeR Cd.tab k537 s699 .normal s697:=.block (a:=k538) (id:=2) (by kernel_rfl) (by kernel_rfl) t917
theorem t919:CodeR Cd.tab k531 s695 .normal s697:=.seq (by kernel_rfl) t700 t918
theorem t921:CodeR Cd.tab k530 s695 .ret s684:=.seq (by kernel_rfl) t919 t920
theorem t922:CodeR Cd.tab k525 s692 .ret s684:=.seq (by kernel_rfl) t696 t921
theorem t923:CodeR Cd.tab k520 s689 .ret s684:=.seq (by kernel_rfl) t693 t922
theorem t924:CodeR Cd.tab k515 s686 .ret s684:=.seq (by kernel_rfl) t690 t923
theorem t925:CodeR Cd.tab k504 s682 .ret s684:=.seq (by kernel_rfl) t687 t924
theorem t926:CallR Cd.tab ⟨1,[0,0]⟩ h665 (.fn (.func 84) [] []) [.ptr 4 0,.i 0] [.b false] h665:=.fn (i:=84) (fa:=[]) (fc:=[]) (as:=[.ptr 4 0,.i 0]) (rs0:=[.b false]) (rs1:=[.b false]) (H1:=h683) (af:=Cd.a84) (bd:=k504) (st:=s682) (st':=s684) (e:=.ret) (by kernel_rfl) (by kernel_rfl) (by kernel_rfl) (by kernel_rfl) (by kernel_rfl) (by kernel_rfl) t925 (by kernel_rfl) (by kernel_rfl) (by kernel_rfl) (by kernel_rfl) (by kernel_rfl)
theorem t928:OpsR Cd.tab ⟨1,[0,0]⟩ 6 [(opAt (opsOf k500) 2)] x680 x927:=.call (o:=(opAt (opsOf k500) 2)) (f:=opF (opAt (opsOf k500) 2).op) (args:=opArgs (opAt (opsOf k500) 2).op) (own:=opOwn (opAt (opsOf k500) 2).op) (hs:=[]) (fv:=(.fn (.func 84) [] [])) (as:=[.ptr 4 0,.i 0]) (as':=[.ptr 4 0,.i 0]) (H1:=h665) (rs:=[.b false]) (H2:=h665) (by kernel_rfl) (by kernel_rfl) (by kernel_rfl) (by kernel_rfl) (by kernel_rfl) (by kernel_rfl) (by kernel_rfl) t926 (by kernel_rfl) (by kernel_rfl)
theorem t929:OpsR Cd.tab ⟨1,[0,0]⟩ 6 ((opsOf k500).drop 3) x927 x927:=.nil (by kernel_rfl)
theorem t930:OpsR Cd.tab ⟨1,[0,0]⟩ 6 ((opsOf k500).drop 2) x680 x927:=.app (l1:=[(opAt (opsOf k500) 2)]) (l2:=((opsOf k500).drop 3)) (y:=x927) (by kernel_rfl) t928 t929
theorem t931:OpsR Cd.tab ⟨1,[0,0]⟩ 6 (opsOf k500) x679 x927:=.app (l1:=((opsOf k500).take 2)) (l2:=((opsOf k500).drop 2)) (y:=x680) (by kernel_rfl) t681 t930
theorem t932:CodeR Cd.tab k500 s677 .normal s670:=.region (d:=false) (nres:=0) (pre:=[]) (live:=[1,2,4,5,7,20,21,64]) (ops:=opsOf k500) (H:=h665) (n0:=6) (x:=x679) (y:=x927) (by kernel_rfl) (by kernel_rfl) (by kernel_rfl) (by kernel_rfl) t931 (by kernel_rfl)
theorem t934:CodeR Cd.tab k499 s677 .normal s670:=.seq (by kernel_rfl) t932 t933
theorem t935:CodeR Cd.tab k495 s675 .normal s670:=.seq (by kernel_rfl) t678 t934
theorem t936:CodeR Cd.tab k491 s673 .normal s670:=.seq (by kernel_rfl) t676 t935
theorem t937:CodeR Cd.tab k487 s671 .normal s670:=.seq (by kernel_rfl) t674 t936
theorem t938:CodeR Cd.tab k483 s667 .normal s670:=.seq (by kernel_rfl) t672 t937
theorem t939:CodeR Cd.tab k481 s667 .normal s670:=.block (a:=k483) (id:=1) (by kernel_rfl) (by kernel_rfl) t938
theorem t941:CodeR Cd.tab k480 s667 .normal s666:=.seq (by kernel_rfl) t939 t940
theorem t942:CodeR Cd.tab k477 s667 .normal s666:=.seq (by kernel_rfl) t669 t941
theorem t943:CodeR Cd.tab k471 s663 .normal s666:=.seq (by kernel_rfl) t668 t942
theorem t1046:CodeR Cd.tab k198 s1039 (.exit 0) s1035:=.iter (body:=k199) (tr:=true) (live:=[0,1,3,4,25,26]) (k:=1) (n:=121) (st1:=s1043) (by kernel_rfl) t1044 t1045
theorem t1047:CodeR Cd.tab k198 s1036 (.exit 0) s1035:=.iter (body:=k199) (tr:=true) (live:=[0,1,3,4,25,26]) (k:=1) (n:=121) (st1:=s1039) (by kernel_rfl) t1040 t1046
theorem t1048:CodeR Cd.tab k197 s1036 .normal s1035:=.blockExit (a:=k198) (id:=0) (by kernel_rfl) t1047
theorem t1049:CodeR Cd.tab k192 s1033 .normal s1035:=.seq (by kernel_rfl) t1037 t1048
theorem t1051:CodeR Cd.tab k191 s1033 .ret s1031:=.seq (by kernel_rfl) t1049 t1050
theorem t1052:CodeR Cd.tab k187 s1030 .ret s1031:=.seq (by kernel_rfl) t1034 t1051
theorem t1053:CodeR Cd.tab k182 s1030 .ret s1031:=.seq (by kernel_rfl) t1032 t1052
theorem t1054:CallR Cd.tab ⟨18,[18,15,7,1,0,0]⟩ h1024 v544 [.i 1] [.b true] h1016:=.fn (i:=99) (fa:=[]) (fc:=[.ptr 13 0,.ptr 15 0,.ptr 16 0,.ptr 17 0]) (as:=[.i 1,.ptr 13 0,.ptr 15 0,.ptr 16 0,.ptr 17 0]) (rs0:=[.b true]) (rs1:=[.b true]) (H1:=h1016) (af:=Cd.a99) (bd:=k182) (st:=s1030) (st':=s1031) (e:=.ret) (by kernel_rfl) (by kernel_rfl) (by kernel_rfl) (by kernel_rfl) (by kernel_rfl) (by kernel_rfl) t1053 (by kernel_rfl) (by kernel_rfl) (by kernel_rfl) (by kernel_rfl) (by kernel_rfl)
theorem t1056:OpsR Cd.tab ⟨18,[18,15,7,1,0,0]⟩ 18 [(opAt (opsOf k223) 8)] x1028 x1055:=.call (o:=(opAt (opsOf k223) 8)) (f:=opF (opAt (opsOf k223) 8).op) (args:=opArgs (opAt (opsOf k223) 8).op) (own:=opOwn (opAt (opsOf k223) 8).op) (hs:=[]) (fv:=v544) (as:=[.i 1]) (as':=[.i 1]) (H1:=h1024) (rs:=[.b true]) (H2:=h1016) (by kernel_rfl) (by kernel_rfl) (by kernel_rfl) (by kernel_rfl) (by kernel_rfl) (by kernel_rfl) (by kernel_rfl) t1054 (by kernel_rfl) (by kernel_rfl)
theorem t1059:OpsR Cd.tab ⟨18,[18,15,7,1,0,0]⟩ 18 ((opsOf k223).drop 8) x1028 x1057:=.app (l1:=[(opAt (opsOf k223) 8)]) (l2:=((opsOf k223).drop 9)) (y:=x1055) (by kernel_rfl) t1056 t1058
theorem t1060:OpsR Cd.tab ⟨18,[18,15,7,1,0,0]⟩ 18 (opsOf k223) x1027 x1057:=.app (l1:=((opsOf k223).take 8)) (l2:=((opsOf k223).drop 8)) (y:=x1028) (by kernel_rfl) t1029 t1059
theorem t1061:CodeR Cd.tab k223 s1025 .normal s1021:=.region (d:=false) (nres:=0) (pre:=[]) (live:=[0,1,3,4,25,26,51]) (ops:=opsOf k223) (H:=h1024) (n0:=18) (x:=x1027) (y:=x1057) (by kernel_rfl) (by kernel_rfl) (by kernel_rfl) (by kernel_rfl) t1060 (by kernel_rfl)
theorem t1063:CodeR Cd.tab k222 s1025 .normal s1021:=.seq (by kernel_rfl) t1061 t1062
theorem t1064:CodeR Cd.tab k217 s1022 .normal s1021:=.seq (by kernel_rfl) t1026 t1063
theorem t1065:CodeR Cd.tab k213 s1018 .normal s1021:=.seq (by kernel_rfl) t1023 t1064
theorem t1066:CodeR Cd.tab k211 s1018 .normal s1021:=.block (a:=k213) (id:=1) (by kernel_rfl) (by kernel_rfl) t1065
theorem t1068:CodeR Cd.tab k210 s1018 .normal s1017:=.seq (by kernel_rfl) t1066 t1067
theorem t1069:CodeR Cd.tab k207 s1018 .normal s1017:=.seq (by kernel_rfl) t1020 t1068
theorem t1070:CodeR Cd.tab k199 s1014 .normal s1017:=.seq (by kernel_rfl) t1019 t1069
theorem t1104:CodeR Cd.tab k198 s1097 (.exit 0) s1092:=.iter (body:=k199) (tr:=true) (live:=[0,1,3,4,25,26]) (k:=1) (n:=120) (st1:=s1101) (by kernel_rfl) t1102 t1103
theorem t1105:CodeR Cd.tab k198 s1093 (.exit 0) s1092:=.iter (body:=k199) (tr:=true) (live:=[0,1,3,4,25,26]) (k:=1) (n:=121) (st1:=s1097) (by kernel_rfl) t1098 t1104
theorem t1106:CodeR Cd.tab k197 s1093 .normal s1092:=.blockExit (a:=k198) (id:=0) (by kernel_rfl) t1105
theorem t1107:CodeR Cd.tab k192 s1090 .normal s1092:=.seq (by kernel_rfl) t1094 t1106
theorem t1109:CodeR Cd.tab k191 s1090 .ret s1088:=.seq (by kernel_rfl) t1107 t1108
theorem t1110:CodeR Cd.tab k187 s1087 .ret s1088:=.seq (by kernel_rfl) t1091 t1109
theorem t1111:CodeR Cd.tab k182 s1087 .ret s1088:=.seq (by kernel_rfl) t1089 t1110
theorem t1112:CallR Cd.tab ⟨18,[18,15,7,1,0,0]⟩ h1081 v544 [.i 1] [.b true] h1073:=.fn (i:=99) (fa:=[]) (fc:=[.ptr 13 0,.ptr 15 0,.ptr 16 0,.ptr 17 0]) (as:=[.i 1,.ptr 13 0,.ptr 15 0,.ptr 16 0,.ptr 17 0]) (rs0:=[.b true]) (rs1:=[.b true]) (H1:=h1073) (af:=Cd.a99) (bd:=k182) (st:=s1087) (st':=s1088) (e:=.ret) (by kernel_rfl) (by kernel_rfl) (by kernel_rfl) (by kernel_rfl) (by kernel_rfl) (by kernel_rfl) t1111 (by kernel_rfl) (by kernel_rfl) (by kernel_rfl) (by kernel_rfl) (by kernel_rfl)
theorem t1114:OpsR Cd.tab ⟨18,[18,15,7,1,0,0]⟩ 18 [(opAt (opsOf k223) 8)] x1085 x1113:=.call (o:=(opAt (opsOf k223) 8)) (f:=opF (opAt (opsOf k223) 8).op) (args:=opArgs (opAt (opsOf k223) 8).op) (own:=opOwn (opAt (opsOf k223) 8).op) (hs:=[]) (fv:=v544) (as:=[.i 1]) (as':=[.i 1]) (H1:=h1081) (rs:=[.b true]) (H2:=h1073) (by kernel_rfl) (by kernel_rfl) (by kernel_rfl) (by kernel_rfl) (by kernel_rfl) (by kernel_rfl) (by kernel_rfl) t1112 (by kernel_rfl) (by kernel_rfl)
theorem t1117:OpsR Cd.tab ⟨18,[18,15,7,1,0,0]⟩ 18 ((opsOf k223).drop 8) x1085 x1115:=.app (l1:=[(opAt (opsOf k223) 8)]) (l2:=((opsOf k223).drop 9)) (y:=x1113) (by kernel_rfl) t1114 t1116
theorem t1118:OpsR Cd.tab ⟨18,[18,15,7,1,0,0]⟩ 18 (opsOf k223) x1084 x1115:=.app (l1:=((opsOf k223).take 8)) (l2:=((opsOf k223).drop 8)) (y:=x1085) (by kernel_rfl) t1086 t1117
theorem t1119:CodeR Cd.tab k223 s1082 .normal s1078:=.region (d:=false) (nres:=0) (pre:=[]) (live:=[0,1,3,4,25,26,51]) (ops:=opsOf k223) (H:=h1081) (n0:=18) (x:=x1084) (y:=x1115) (by kernel_rfl) (by kernel_rfl) (by kernel_rfl) (by kernel_rfl) t1118 (by kernel_rfl)
theorem t1121:CodeR Cd.tab k222 s1082 .normal s1078:=.seq (by kernel_rfl) t1119 t1120
theorem t1122:CodeR Cd.tab k217 s1079 .normal s1078:=.seq (by kernel_rfl) t1083 t1121
theorem t1123:CodeR Cd.tab k213 s1075 .normal s1078:=.seq (by kernel_rfl) t1080 t1122
theorem t1124:CodeR Cd.tab k211 s1075 .normal s1078:=.block (a:=k213) (id:=1) (by kernel_rfl) (by kernel_rfl) t1123
theorem t1126:CodeR Cd.tab k210 s1075 .normal s1074:=.seq (by kernel_rfl) t1124 t1125
theorem t1127:CodeR Cd.tab k207 s1075 .normal s1074:=.seq (by kernel_rfl) t1077 t1126
theorem t1128:CodeR Cd.tab k199 s1017 .normal s1074:=.seq (by kernel_rfl) t1076 t1127
theorem t1160:CodeR Cd.tab k198 s1153 (.exit 0) s1148:=.iter (body:=k199) (tr:=true) (live:=[0,1,3,4,25,26]) (k:=1) (n:=121) (st1:=s1157) (by kernel_rfl) t1158 t1159
theorem t1161:CodeR Cd.tab k198 s1149 (.exit 0) s1148:=.iter (body:=k199) (tr:=true) (live:=[0,1,3,4,25,26]) (k:=1) (n:=121) (st1:=s1153) (by kernel_rfl) t1154 t1160
theorem t1162:CodeR Cd.tab k197 s1149 .normal s1148:=.blockExit (a:=k198) (id:=0) (by kernel_rfl) t1161
theorem t1163:CodeR Cd.tab k192 s1146 .normal s1148:=.seq (by kernel_rfl) t1150 t1162
theorem t1165:CodeR Cd.tab k191 s1146 .ret s1144:=.seq (by kernel_rfl) t1163 t1164
theorem t1166:CodeR Cd.tab k187 s1143 .ret s1144:=.seq (by kernel_rfl) t1147 t1165
theorem t1167:CodeR Cd.tab k182 s1143 .ret s1144:=.seq (by kernel_rfl) t1145 t1166
theorem t1168:CallR Cd.tab ⟨18,[18,15,7,1,0,0]⟩ h1137 v544 [.i 1] [.b true] h989:=.fn (i:=99) (fa:=[]) (fc:=[.ptr 13 0,.ptr 15 0,.ptr 16 0,.ptr 17 0]) (as:=[.i 1,.ptr 13 0,.ptr 15 0,.ptr 16 0,.ptr 17 0]) (rs0:=[.b true]) (rs1:=[.b true]) (H1:=h989) (af:=Cd.a99) (bd:=k182) (st:=s1143) (st':=s1144) (e:=.ret) (by kernel_rfl) (by kernel_rfl) (by kernel_rfl) (by kernel_rfl) (by kernel_rfl) (by kernel_rfl) t1167 (by kernel_rfl) (by kernel_rfl) (by kernel_rfl) (by kernel_rfl) (by kernel_rfl)
theorem t1170:OpsR Cd.tab ⟨18,[18,15,7,1,0,0]⟩ 18 [(opAt (opsOf k223) 8)] x1141 x1169:=.call (o:=(opAt (opsOf k223) 8)) (f:=opF (opAt (opsOf k223) 8).op) (args:=opArgs (opAt (opsOf k223) 8).op) (own:=opOwn (opAt (opsOf k223) 8).op) (hs:=[]) (fv:=v544) (as:=[.i 1]) (as':=[.i 1]) (H1:=h1137) (rs:=[.b true]) (H2:=h989) (by kernel_rfl) (by kernel_rfl) (by kernel_rfl) (by kernel_rfl) (by kernel_rfl) (by kernel_rfl) (by kernel_rfl) t1168 (by kernel_rfl) (by kernel_rfl)
theorem t1173:OpsR Cd.tab ⟨18,[18,15,7,1,0,0]⟩ 18 ((opsOf k223).drop 8) x1141 x1171:=.app (l1:=[(opAt (opsOf k223) 8)]) (l2:=((opsOf k223).drop 9)) (y:=x1169) (by kernel_rfl) t1170 t1172
theorem t1174:OpsR Cd.tab ⟨18,[18,15,7,1,0,0]⟩ 18 (opsOf k223) x1140 x1171:=.app (l1:=((opsOf k223).take 8)) (l2:=((opsOf k223).drop 8)) (y:=x1141) (by kernel_rfl) t1142 t1173
theorem t1175:CodeR Cd.tab k223 s1138 .normal s1134:=.region (d:=false) (nres:=0) (pre:=[]) (live:=[0,1,3,4,25,26,51]) (ops:=opsOf k223) (H:=h1137) (n0:=18) (x:=x1140) (y:=x1171) (by kernel_rfl) (by kernel_rfl) (by kernel_rfl) (by kernel_rfl) t1174 (by kernel_rfl)
theorem t1177:CodeR Cd.tab k222 s1138 .normal s1134:=.seq (by kernel_rfl) t1175 t1176
theorem t1178:CodeR Cd.tab k217 s1135 .normal s1134:=.seq (by kernel_rfl) t1139 t1177
theorem t1179:CodeR Cd.tab k213 s1131 .normal s1134:=.seq (by kernel_rfl) t1136 t1178
theorem t1180:CodeR Cd.tab k211 s1131 .normal s1134:=.block (a:=k213) (id:=1) (by kernel_rfl) (by kernel_rfl) t1179
theorem t1182:CodeR Cd.tab k210 s1131 .normal s1130:=.seq (by kernel_rfl) t1180 t1181
theorem t1183:CodeR Cd.tab k207 s1131 .normal s1130:=.seq (by kernel_rfl) t1133 t1182
theorem t1184:CodeR Cd.tab k199 s1074 .normal s1130:=.seq (by kernel_rfl) t1132 t1183
theorem t1187:CodeR Cd.tab k198 s1129 (.exit 0) s1011:=.loop (body:=k199) (tr:=true) (live:=[0,1,3,4,25,26]) (st0:=s1074) (st1:=s1130) (st2:=s1185) (by kernel_rfl) (by kernel_rfl) t1184 (by kernel_rfl) t1186
theorem t1188:CodeR Cd.tab k198 s1071 (.exit 0) s1011:=.loop (body:=k199) (tr:=true) (live:=[0,1,3,4,25,26]) (st0:=s1017) (st1:=s1074) (st2:=s1129) (by kernel_rfl) (by kernel_rfl) t1128 (by kernel_rfl) t1187
theorem t1189:CodeR Cd.tab k198 s1012 (.exit 0) s1011:=.loop (body:=k199) (tr:=true) (live:=[0,1,3,4,25,26]) (st0:=s1014) (st1:=s1017) (st2:=s1071) (by kernel_rfl) (by kernel_rfl) t1070 (by kernel_rfl) t1188
theorem t1190:CodeR Cd.tab k197 s1012 .normal s1011:=.blockExit (a:=k198) (id:=0) (by kernel_rfl) t1189
theorem t1191:CodeR Cd.tab k192 s1009 .normal s1011:=.seq (by kernel_rfl) t1013 t1190
theorem t1193:CodeR Cd.tab k191 s1009 .ret s1007:=.seq (by kernel_rfl) t1191 t1192
theorem t1194:CodeR Cd.tab k187 s1006 .ret s1007:=.seq (by kernel_rfl) t1010 t1193
theorem t1195:CodeR Cd.tab k182 s1006 .ret s1007:=.seq (by kernel_rfl) t1008 t1194
theorem t1196:CallR Cd.tab ⟨15,[7,1,0,0]⟩ h1000 v544 [.i 0] [.b true] h989:=.fn (i:=99) (fa:=[]) (fc:=[.ptr 13 0,.ptr 15 0,.ptr 16 0,.ptr 17 0]) (as:=[.i 0,.ptr 13 0,.ptr 15 0,.ptr 16 0,.ptr 17 0]) (rs0:=[.b true]) (rs1:=[.b true]) (H1:=h989) (af:=Cd.a99) (bd:=k182) (st:=s1006) (st':=s1007) (e:=.ret) (by kernel_rfl) (by kernel_rfl) (by kernel_rfl) (by kernel_rfl) (by kernel_rfl) (by kernel_rfl) t1195 (by kernel_rfl) (by kernel_rfl) (by kernel_rfl) (by kernel_rfl) (by kernel_rfl)
theorem t1198:OpsR Cd.tab ⟨15,[7,1,0,0]⟩ 18 [(opAt (opsOf k178) 1)] x1004 x1197:=.call (o:=(opAt (opsOf k178) 1)) (f:=opF (opAt (opsOf k178) 1).op) (args:=opArgs (opAt (opsOf k178) 1).op) (own:=opOwn (opAt (opsOf k178) 1).op) (hs:=[]) (fv:=v544) (as:=[.i 0]) (as':=[.i 0]) (H1:=h1000) (rs:=[.b true]) (H2:=h989) (by kernel_rfl) (by kernel_rfl) (by kernel_rfl) (by kernel_rfl) (by kernel_rfl) (by kernel_rfl) (by kernel_rfl) t1196 (by kernel_rfl) (by kernel_rfl)
theorem t1199:OpsR Cd.tab ⟨15,[7,1,0,0]⟩ 18 ((opsOf k178).drop 2) x1197 x1197:=.nil (by kernel_rfl)
theorem t1200:OpsR Cd.tab ⟨15,[7,1,0,0]⟩ 18 ((opsOf k178).drop 1) x1004 x1197:=.app (l1:=[(opAt (opsOf k178) 1)]) (l2:=((opsOf k178).drop 2)) (y:=x1197) (by kernel_rfl) t1198 t1199
theorem t1201:OpsR Cd.tab ⟨15,[7,1,0,0]⟩ 18 (opsOf k178) x1003 x1197:=.app (l1:=((opsOf k178).take 1)) (l2:=((opsOf k178).drop 1)) (y:=x1004) (by kernel_rfl) t1005 t1200
theorem t1202:CodeR Cd.tab k178 s1001 .normal s990:=.region (d:=false) (nres:=0) (pre:=[]) (live:=[]) (ops:=opsOf k178) (H:=h1000) (n0:=18) (x:=x1003) (y:=x1197) (by kernel_rfl) (by kernel_rfl) (by kernel_rfl) (by kernel_rfl) t1201 (by kernel_rfl)
theorem t1203:CodeR Cd.tab k173 s998 .normal s990:=.seq (by kernel_rfl) t1002 t1202
theorem t1204:CodeR Cd.tab k168 s995 .normal s990:=.seq (by kernel_rfl) t999 t1203
theorem t1205:CodeR Cd.tab k163 s992 .normal s990:=.seq (by kernel_rfl) t996 t1204
theorem t1206:CodeR Cd.tab k154 s988 .normal s990:=.seq (by kernel_rfl) t993 t1205
theorem t1207:CallR Cd.tab ⟨7,[1,0,0]⟩ h986 (.fn (.func 98) [] [.ptr 13 0]) [(.fn (.yield 14) [] [])] [] h987:=.fn (i:=98) (fa:=[]) (fc:=[.ptr 13 0]) (as:=[(.fn (.yield 14) [] []),.ptr 13 0]) (rs0:=[]) (rs1:=[]) (H1:=h989) (af:=Cd.a98) (bd:=k154) (st:=s988) (st':=s990) (e:=.normal) (by kernel_rfl) (by kernel_rfl) (by kernel_rfl) (by kernel_rfl) (by kernel_rfl) (by kernel_rfl) t1206 (by kernel_rfl) (by kernel_rfl) (by kernel_rfl) (by kernel_rfl) (by kernel_rfl)
theorem t1208:CodeR Cd.tab k538 s984 .normal s982:=.rangeFunc (as:=k539) (bd:=k540) (f:=(match k538 with | .rangeFunc f _ _ _=>f | _=>.t 0)) (ps:=[42]) (i:=98) (l:=14) (fa:=[]) (fc:=[.ptr 13 0]) (rs:=[]) (H0:=h986) (H':=h987) (f1:=0) (s1:=[(2,.ptr 7 0),(4,.ptr 8 0),(5,.ptr 10 0),(41,(.fn (.func 98) [] [.ptr 13 0]))]) (ps1:=[42]) (as1:=k539) (bd1:=k540) (pend:=none) (by kernel_rfl) (by kernel_rfl) (by kernel_rfl) (by kernel_rfl) t1207 (by kernel_rfl) (by kernel_rfl) (by kernel_rfl)
theorem t1209:CodeR Cd.tab k537 s984 .normal s982:=.block (a:=k538) (id:=2) (by kernel_rfl) (by kernel_rfl) t1208
theorem t1210:CodeR Cd.tab k531 s980 .normal s982:=.seq (by kernel_rfl) t985 t1209
theorem t1212:CodeR Cd.tab k530 s980 .ret s969:=.seq (by kernel_rfl) t1210 t1211
theorem t1213:CodeR Cd.tab k525 s977 .ret s969:=.seq (by kernel_rfl) t981 t1212
theorem t1214:CodeR Cd.tab k520 s974 .ret s969:=.seq (by kernel_rfl) t978 t1213
theorem t1215:CodeR Cd.tab k515 s971 .ret s969:=.seq (by kernel_rfl) t975 t1214
theorem t1216:CodeR Cd.tab k504 s961 .ret s969:=.seq (by kernel_rfl) t972 t1215
theorem t1217:CallR Cd.tab ⟨1,[0,0]⟩ h650 (.fn (.func 84) [] []) [.ptr 4 0,.i 1] [.b false] h650:=.fn (i:=84) (fa:=[]) (fc:=[]) (as:=[.ptr 4 0,.i 1]) (rs0:=[.b false]) (rs1:=[.b false]) (H1:=h968) (af:=Cd.a84) (bd:=k504) (st:=s961) (st':=s969) (e:=.ret) (by kernel_rfl) (by kernel_rfl) (by kernel_rfl) (by kernel_rfl) (by kernel_rfl) (by kernel_rfl) t1216 (by kernel_rfl) (by kernel_rfl) (by kernel_rfl) (by kernel_rfl) (by kernel_rfl)
theorem t1219:OpsR Cd.tab ⟨1,[0,0]⟩ 7 [(opAt (opsOf k500) 2)] x959 x1218:=.call (o:=(opAt (opsOf k500) 2)) (f:=opF (opAt (opsOf k500) 2).op) (args:=opArgs (opAt (opsOf k500) 2).op) (own:=opOwn (opAt (opsOf k500) 2).op) (hs:=[]) (fv:=(.fn (.func 84) [] [])) (as:=[.ptr 4 0,.i 1]) (as':=[.ptr 4 0,.i 1]) (H1:=h650) (rs:=[.b false]) (H2:=h650) (by kernel_rfl) (by kernel_rfl) (by kernel_rfl) (by kernel_rfl) (by kernel_rfl) (by kernel_rfl) (by kernel_rfl) t1217 (by kernel_rfl) (by kernel_rfl)
theorem t1220:OpsR Cd.tab ⟨1,[0,0]⟩ 7 ((opsOf k500).drop 3) x1218 x1218:=.nil (by kernel_rfl)
theorem t1221:OpsR Cd.tab ⟨1,[0,0]⟩ 7 ((opsOf k500).drop 2) x959 x1218:=.app (l1:=[(opAt (opsOf k500) 2)]) (l2:=((opsOf k500).drop 3)) (y:=x1218) (by kernel_rfl) t1219 t1220
theorem t1222:OpsR Cd.tab ⟨1,[0,0]⟩ 7 (opsOf k500) x958 x1218:=.app (l1:=((opsOf k500).take 2)) (l2:=((opsOf k500).drop 2)) (y:=x959) (by kernel_rfl) t960 t1221
theorem t1223:CodeR Cd.tab k500 s956 .normal s948:=.region (d:=false) (nres:=0) (pre:=[]) (live:=[1,2,4,5,7,20,21,64]) (ops:=opsOf k500) (H:=h650) (n0:=7) (x:=x958) (y:=x1218) (by kernel_rfl) (by kernel_rfl) (by kernel_rfl) (by kernel_rfl) t1222 (by kernel_rfl)
theorem t1225:CodeR Cd.tab k499 s956 .normal s948:=.seq (by kernel_rfl) t1223 t1224
theorem t1226:CodeR Cd.tab k495 s954 .normal s948:=.seq (by kernel_rfl) t957 t1225
theorem t1227:CodeR Cd.tab k491 s952 .normal s948:=.seq (by kernel_rfl) t955 t1226
theorem t1228:CodeR Cd.tab k487 s949 .normal s948:=.seq (by kernel_rfl) t953 t1227
theorem t1229:CodeR Cd.tab k483 s945 .normal s948:=.seq (by kernel_rfl) t950 t1228
theorem t1230:CodeR Cd.tab k481 s945 .normal s948:=.block (a:=k483) (id:=1) (by kernel_rfl) (by kernel_rfl) t1229
theorem t1232:CodeR Cd.tab k480 s945 .normal s944:=.seq (by kernel_rfl) t1230 t1231
theorem t1233:CodeR Cd.tab k477 s945 .normal s944:=.seq (by kernel_rfl) t947 t1232
theorem t1234:CodeR Cd.tab k471 s666 .normal s944:=.seq (by kernel_rfl) t946 t1233
theorem t1236:CodeR Cd.tab k470 s666 (.exit 0) s662:=.loop (body:=k471) (tr:=false) (live:=[1,2,4,5,20,21]) (st0:=s666) (st1:=s944) (st2:=s944) (by kernel_rfl) (by kernel_rfl) t1234 (by kernel_rfl) t1235
theorem t1237:CodeR Cd.tab k470 s663 (.exit 0) s662:=.loop (body:=k471) (tr:=false) (live:=[1,2,4,5,20,21]) (st0:=s663) (st1:=s666) (st2:=s666) (by kernel_rfl) (by kernel_rfl) t943 (by kernel_rfl) t1236
theorem t1238:CodeR Cd.tab k469 s663 .normal s662:=.blockExit (a:=k470) (id:=0) (by kernel_rfl) t1237
theorem t1239:CodeR Cd.tab k464 s660 .normal s662:=.seq (by kernel_rfl) t664 t1238
theorem t1241:CodeR Cd.tab k463 s660 .ret s651:=.seq (by kernel_rfl) t1239 t1240
theorem t1242:CodeR Cd.tab k459 s658 .ret s651:=.seq (by kernel_rfl) t661 t1241
theorem t1243:CodeR Cd.tab k455 s656 .ret s651:=.seq (by kernel_rfl) t659 t1242
theorem t1244:CodeR Cd.tab k450 s653 .ret s651:=.seq (by kernel_rfl) t657 t1243
theorem t1245:CodeR Cd.tab k442 s46 .ret s651:=.seq (by kernel_rfl) t654 t1244
theorem t1246:CallR Cd.tab ⟨0,[0]⟩ h6 (.fn (.func 33) [] []) [v41] [(.seq 1 []),.i 9] h6:=.fn (i:=33) (fa:=[]) (fc:=[]) (as:=[v41]) (rs0:=[(.seq 1 []),.i 9]) (rs1:=[(.seq 1 []),.i 9]) (H1:=h650) (af:=Cd.a33) (bd:=k442) (st:=s46) (st':=s651) (e:=.ret) (by kernel_rfl) (by kernel_rfl) (by kernel_rfl) (by kernel_rfl) (by kernel_rfl) (by kernel_rfl) t1245 (by kernel_rfl) (by kernel_rfl) (by kernel_rfl) (by kernel_rfl) (by kernel_rfl)
theorem t1248:OpsR Cd.tab ⟨0,[0]⟩ 1 [(opAt (opsOf k645) 1)] x648 x1247:=.call (o:=(opAt (opsOf k645) 1)) (f:=opF (opAt (opsOf k645) 1).op) (args:=opArgs (opAt (opsOf k645) 1).op) (own:=opOwn (opAt (opsOf k645) 1).op) (hs:=[]) (fv:=(.fn (.func 33) [] [])) (as:=[v41]) (as':=[v41]) (H1:=h6) (rs:=[(.seq 1 []),.i 9]) (H2:=h6) (by kernel_rfl) (by kernel_rfl) (by kernel_rfl) (by kernel_rfl) (by kernel_rfl) (by kernel_rfl) (by kernel_rfl) t1246 (by kernel_rfl) (by kernel_rfl)
theorem t1251:OpsR Cd.tab ⟨0,[0]⟩ 1 ((opsOf k645).drop 1) x648 x1249:=.app (l1:=[(opAt (opsOf k645) 1)]) (l2:=((opsOf k645).drop 2)) (y:=x1247) (by kernel_rfl) t1248 t1250
theorem t1252:OpsR Cd.tab ⟨0,[0]⟩ 1 (opsOf k645) x647 x1249:=.app (l1:=((opsOf k645).take 1)) (l2:=((opsOf k645).drop 1)) (y:=x648) (by kernel_rfl) t649 t1251
theorem t1253:CodeR Cd.tab k645 s435 .normal s646:=.region (d:=false) (nres:=0) (pre:=[]) (live:=[1,2,3,4,5,6,7,8,9,10,11,12,13,14,15,16,17,18,19,21]) (ops:=opsOf k645) (H:=h6) (n0:=1) (x:=x647) (y:=x1249) (by kernel_rfl) (by kernel_rfl) (by kernel_rfl) (by kernel_rfl) t1252 (by kernel_rfl)
theorem t1350:CodeR Cd.tab k198 s1344 (.exit 0) s1340:=.iter (body:=k199) (tr:=true) (live:=[0,1,3,4,25,26]) (k:=1) (n:=120) (st1:=s1347) (by kernel_rfl) t1348 t1349
theorem t1351:CodeR Cd.tab k198 s1341 (.exit 0) s1340:=.iter (body:=k199) (tr:=true) (live:=[0,1,3,4,25,26]) (k:=1) (n:=120) (st1:=s1344) (by kernel_rfl) t1345 t1350
theorem t1352:CodeR Cd.tab k197 s1341 .normal s1340:=.blockExit (a:=k198) (id:=0) (by kernel_rfl) t1351
theorem t1353:CodeR Cd.tab k192 s1338 .normal s1340:=.seq (by kernel_rfl) t1342 t1352
theorem t1355:CodeR Cd.tab k191 s1338 .ret s1336:=.seq (by kernel_rfl) t1353 t1354
theorem t1356:CodeR Cd.tab k187 s1335 .ret s1336:=.seq (by kernel_rfl) t1339 t1355
theorem t1357:CodeR Cd.tab k182 s1335 .ret s1336:=.seq (by kernel_rfl) t1337 t1356
theorem t1358:CallR Cd.tab ⟨12,[12,9,1,0,0]⟩ h1329 v1294 [.i 1] [.b true] h1321:=.fn (i:=99) (fa:=[]) (fc:=[.ptr 7 0,.ptr 9 0,.ptr 10 0,.ptr 11 0]) (as:=[.i 1,.ptr 7 0,.ptr 9 0,.ptr 10 0,.ptr 11 0]) (rs0:=[.b true]) (rs1:=[.b true]) (H1:=h1321) (af:=Cd.a99) (bd:=k182) (st:=s1335) (st':=s1336) (e:=.ret) (by kernel_rfl) (by kernel_rfl) (by kernel_rfl) (by kernel_rfl) (by kernel_rfl) (by kernel_rfl) t1357 (by kernel_rfl) (by kernel_rfl) (by kernel_rfl) (by kernel_rfl) (by kernel_rfl)
theorem t1360:OpsR Cd.tab ⟨12,[12,9,1,0,0]⟩ 12 [(opAt (opsOf k223) 8)] x1333 x1359:=.call (o:=(opAt (opsOf k223) 8)) (f:=opF (opAt (opsOf k223) 8).op) (args:=opArgs (opAt (opsOf k223) 8).op) (own:=opOwn (opAt (opsOf k223) 8).op) (hs:=[]) (fv:=v1294) (as:=[.i 1]) (as':=[.i 1]) (H1:=h1329) (rs:=[.b true]) (H2:=h1321) (by kernel_rfl) (by kernel_rfl) (by kernel_rfl) (by kernel_rfl) (by kernel_rfl) (by kernel_rfl) (by kernel_rfl) t1358 (by kernel_rfl) (by kernel_rfl)
theorem t1363:OpsR Cd.tab ⟨12,[12,9,1,0,0]⟩ 12 ((opsOf k223).drop 8) x1333 x1361:=.app (l1:=[(opAt (opsOf k223) 8)]) (l2:=((opsOf k223).drop 9)) (y:=x1359) (by kernel_rfl) t1360 t1362
theorem t1364:OpsR Cd.tab ⟨12,[12,9,1,0,0]⟩ 12 (opsOf k223) x1332 x1361:=.app (l1:=((opsOf k223).take 8)) (l2:=((opsOf k223).drop 8)) (y:=x1333) (by kernel_rfl) t1334 t1363
theorem t1365:CodeR Cd.tab k223 s1330 .normal s1326:=.region (d:=false) (nres:=0) (pre:=[]) (live:=[0,1,3,4,25,26,51]) (ops:=opsOf k223) (H:=h1329) (n0:=12) (x:=x1332) (y:=x1361) (by kernel_rfl) (by kernel_rfl) (by kernel_rfl) (by kernel_rfl) t1364 (by kernel_rfl)
theorem t1367:CodeR Cd.tab k222 s1330 .normal s1326:=.seq (by kernel_rfl) t1365 t1366
theorem t1368:CodeR Cd.tab k217 s1327 .normal s1326:=.seq (by kernel_rfl) t1331 t1367
theorem t1369:CodeR Cd.tab k213 s1323 .normal s1326:=.seq (by kernel_rfl) t1328 t1368
theorem t1370:CodeR Cd.tab k211 s1323 .normal s1326:=.block (a:=k213) (id:=1) (by kernel_rfl) (by kernel_rfl) t1369
theorem t1372:CodeR Cd.tab k210 s1323 .normal s1322:=.seq (by kernel_rfl) t1370 t1371
theorem t1373:CodeR Cd.tab k207 s1323 .normal s1322:=.seq (by kernel_rfl) t1325 t1372
theorem t1374:CodeR Cd.tab k199 s1320 .normal s1322:=.seq (by kernel_rfl) t1324 t1373
theorem t1405:CodeR Cd.tab k198 s1399 (.exit 0) s1395:=.iter (body:=k199) (tr:=true) (live:=[0,1,3,4,25,26]) (k:=1) (n:=119) (st1:=s1402) (by kernel_rfl) t1403 t1404
theorem t1406:CodeR Cd.tab k198 s1396 (.exit 0) s1395:=.iter (body:=k199) (tr:=true) (live:=[0,1,3,4,25,26]) (k:=1) (n:=120) (st1:=s1399) (by kernel_rfl) t1400 t1405
theorem t1407:CodeR Cd.tab k197 s1396 .normal s1395:=.blockExit (a:=k198) (id:=0) (by kernel_rfl) t1406
theorem t1408:CodeR Cd.tab k192 s1393 .normal s1395:=.seq (by kernel_rfl) t1397 t1407
theorem t1410:CodeR Cd.tab k191 s1393 .ret s1391:=.seq (by kernel_rfl) t1408 t1409
theorem t1411:CodeR Cd.tab k187 s1390 .ret s1391:=.seq (by kernel_rfl) t1394 t1410
theorem t1412:CodeR Cd.tab k182 s1390 .ret s1391:=.seq (by kernel_rfl) t1392 t1411
theorem t1413:CallR Cd.tab ⟨12,[12,9,1,0,0]⟩ h1384 v1294 [.i 1] [.b true] h1376:=.fn (i:=99) (fa:=[]) (fc:=[.ptr 7 0,.ptr 9 0,.ptr 10 0,.ptr 11 0]) (as:=[.i 1,.ptr 7 0,.ptr 9 0,.ptr 10 0,.ptr 11 0]) (rs0:=[.b true]) (rs1:=[.b true]) (H1:=h1376) (af:=Cd.a99) (bd:=k182) (st:=s1390) (st':=s1391) (e:=.ret) (by kernel_rfl) (by kernel_rfl) (by kernel_rfl) (by kernel_rfl) (by kernel_rfl) (by kernel_rfl) t1412 (by kernel_rfl) (by kernel_rfl) (by kernel_rfl) (by kernel_rfl) (by kernel_rfl)
theorem t1415:OpsR Cd.tab ⟨12,[12,9,1,0,0]⟩ 12 [(opAt (opsOf k223) 8)] x1388 x1414:=.call (o:=(opAt (opsOf k223) 8)) (f:=opF (opAt (opsOf k223) 8).op) (args:=opArgs (opAt (opsOf k223) 8).op) (own:=opOwn (opAt (opsOf k223) 8).op) (hs:=[]) (fv:=v1294) (as:=[.i 1]) (as':=[.i 1]) (H1:=h1384) (rs:=[.b true]) (H2:=h1376) (by kernel_rfl) (by kernel_rfl) (by kernel_rfl) (by kernel_rfl) (by kernel_rfl) (by kernel_rfl) (by kernel_rfl) t1413 (by kernel_rfl) (by kernel_rfl)
theorem t1418:OpsR Cd.tab ⟨12,[12,9,1,0,0]⟩ 12 ((opsOf k223).drop 8) x1388 x1416:=.app (l1:=[(opAt (opsOf k223) 8)]) (l2:=((opsOf k223).drop 9)) (y:=x1414) (by kernel_rfl) t1415 t1417
theorem t1419:OpsR Cd.tab ⟨12,[12,9,1,0,0]⟩ 12 (opsOf k223) x1387 x1416:=.app (l1:=((opsOf k223).take 8)) (l2:=((opsOf k223).drop 8)) (y:=x1388) (by kernel_rfl) t1389 t1418
theorem t1420:CodeR Cd.tab k223 s1385 .normal s1381:=.region (d:=false) (nres:=0) (pre:=[]) (live:=[0,1,3,4,25,26,51]) (ops:=opsOf k223) (H:=h1384) (n0:=12) (x:=x1387) (y:=x1416) (by kernel_rfl) (by kernel_rfl) (by kernel_rfl) (by kernel_rfl) t1419 (by kernel_rfl)
theorem t1422:CodeR Cd.tab k222 s1385 .normal s1381:=.seq (by kernel_rfl) t1420 t1421
theorem t1423:CodeR Cd.tab k217 s1382 .normal s1381:=.seq (by kernel_rfl) t1386 t1422
theorem t1424:CodeR Cd.tab k213 s1378 .normal s1381:=.seq (by kernel_rfl) t1383 t1423
theorem t1425:CodeR Cd.tab k211 s1378 .normal s1381:=.block (a:=k213) (id:=1) (by kernel_rfl) (by kernel_rfl) t1424
theorem t1427:CodeR Cd.tab k210 s1378 .normal s1377:=.seq (by kernel_rfl) t1425 t1426
theorem t1428:CodeR Cd.tab k207 s1378 .normal s1377:=.seq (by kernel_rfl) t1380 t1427
theorem t1429:CodeR Cd.tab k199 s1322 .normal s1377:=.seq (by kernel_rfl) t1379 t1428
theorem t1459:CodeR Cd.tab k198 s1453 (.exit 0) s1449:=.iter (body:=k199) (tr:=true) (live:=[0,1,3,4,25,26]) (k:=1) (n:=120) (st1:=s1456) (by kernel_rfl) t1457 t1458
theorem t1460:CodeR Cd.tab k198 s1450 (.exit 0) s1449:=.iter (body:=k199) (tr:=true) (live:=[0,1,3,4,25,26]) (k:=1) (n:=120) (st1:=s1453) (by kernel_rfl) t1454 t1459
theorem t1461:CodeR Cd.tab k197 s1450 .normal s1449:=.blockExit (a:=k198) (id:=0) (by kernel_rfl) t1460
theorem t1462:CodeR Cd.tab k192 s1447 .normal s1449:=.seq (by kernel_rfl) t1451 t1461
theorem t1464:CodeR Cd.tab k191 s1447 .ret s1445:=.seq (by kernel_rfl) t1462 t1463
theorem t1465:CodeR Cd.tab k187 s1444 .ret s1445:=.seq (by kernel_rfl) t1448 t1464
theorem t1466:CodeR Cd.tab k182 s1444 .ret s1445:=.seq (by kernel_rfl) t1446 t1465
theorem t1467:CallR Cd.tab ⟨12,[12,9,1,0,0]⟩ h1438 v1294 [.i 1] [.b true] h1295:=.fn (i:=99) (fa:=[]) (fc:=[.ptr 7 0,.ptr 9 0,.ptr 10 0,.ptr 11 0]) (as:=[.i 1,.ptr 7 0,.ptr 9 0,.ptr 10 0,.ptr 11 0]) (rs0:=[.b true]) (rs1:=[.b true]) (H1:=h1295) (af:=Cd.a99) (bd:=k182) (st:=s1444) (st':=s1445) (e:=.ret) (by kernel_rfl) (by kernel_rfl) (by kernel_rfl) (by kernel_rfl) (by kernel_rfl) (by kernel_rfl) t1466 (by kernel_rfl) (by kernel_rfl) (by kernel_rfl) (by kernel_rfl) (by kernel_rfl)
theorem t1469:OpsR Cd.tab ⟨12,[12,9,1,0,0]⟩ 12 [(opAt (opsOf k223) 8)] x1442 x1468:=.call (o:=(opAt (opsOf k223) 8)) (f:=opF (opAt (opsOf k223) 8).op) (args:=opArgs (opAt (opsOf k223) 8).op) (own:=opOwn (opAt (opsOf k223) 8).op) (hs:=[]) (fv:=v1294) (as:=[.i 1]) (as':=[.i 1]) (H1:=h1438) (rs:=[.b true]) (H2:=h1295) (by kernel_rfl) (by kernel_rfl) (by kernel_rfl) (by kernel_rfl) (by kernel_rfl) (by kernel_rfl) (by kernel_rfl) t1467 (by kernel_rfl) (by kernel_rfl)
theorem t1472:OpsR Cd.tab ⟨12,[12,9,1,0,0]⟩ 12 ((opsOf k223).drop 8) x1442 x1470:=.app (l1:=[(opAt (opsOf k223) 8)]) (l2:=((opsOf k223).drop 9)) (y:=x1468) (by kernel_rfl) t1469 t1471
theorem t1473:OpsR Cd.tab ⟨12,[12,9,1,0,0]⟩ 12 (opsOf k223) x1441 x1470:=.app (l1:=((opsOf k223).take 8)) (l2:=((opsOf k223).drop 8)) (y:=x1442) (by kernel_rfl) t1443 t1472
theorem t1474:CodeR Cd.tab k223 s1439 .normal s1435:=.region (d:=false) (nres:=0) (pre:=[]) (live:=[0,1,3,4,25,26,51]) (ops:=opsOf k223) (H:=h1438) (n0:=12) (x:=x1441) (y:=x1470) (by kernel_rfl) (by kernel_rfl) (by kernel_rfl) (by kernel_rfl) t1473 (by kernel_rfl)
theorem t1476:CodeR Cd.tab k222 s1439 .normal s1435:=.seq (by kernel_rfl) t1474 t1475
theorem t1477:CodeR Cd.tab k217 s1436 .normal s1435:=.seq (by kernel_rfl) t1440 t1476
theorem t1478:CodeR Cd.tab k213 s1432 .normal s1435:=.seq (by kernel_rfl) t1437 t1477
theorem t1479:CodeR Cd.tab k211 s1432 .normal s1435:=.block (a:=k213) (id:=1) (by kernel_rfl) (by kernel_rfl) t1478
theorem t1481:CodeR Cd.tab k210 s1432 .normal s1431:=.seq (by kernel_rfl) t1479 t1480
theorem t1482:CodeR Cd.tab k207 s1432 .normal s1431:=.seq (by kernel_rfl) t1434 t1481
theorem t1483:CodeR Cd.tab k199 s1377 .normal s1431:=.seq (by kernel_rfl) t1433 t1482
theorem t1486:CodeR Cd.tab k198 s1430 (.exit 0) s1317:=.loop (body:=k199) (tr:=true) (live:=[0,1,3,4,25,26]) (st0:=s1377) (st1:=s1431) (st2:=s1484) (by kernel_rfl) (by kernel_rfl) t1483 (by kernel_rfl) t1485
theorem t1487:CodeR Cd.tab k198 s1375 (.exit 0) s1317:=.loop (body:=k199) (tr:=true) (live:=[0,1,3,4,25,26]) (st0:=s1322) (st1:=s1377) (st2:=s1430) (by kernel_rfl) (by kernel_rfl) t1429 (by kernel_rfl) t1486
theorem t1488:CodeR Cd.tab k198 s1318 (.exit 0) s1317:=.loop (body:=k199) (tr:=true) (live:=[0,1,3,4,25,26]) (st0:=s1320) (st1:=s1322) (st2:=s1375) (by kernel_rfl) (by kernel_rfl) t1374 (by kernel_rfl) t1487
theorem t1489:CodeR Cd.tab k197 s1318 .normal s1317:=.blockExit (a:=k198) (id:=0) (by kernel_rfl) t1488
theorem t1490:CodeR Cd.tab k192 s1315 .normal s1317:=.seq (by kernel_rfl) t1319 t1489
theorem t1492:CodeR Cd.tab k191 s1315 .ret s1313:=.seq (by kernel_rfl) t1490 t1491
theorem t1493:CodeR Cd.tab k187 s1312 .ret s1313:=.seq (by kernel_rfl) t1316 t1492
theorem t1494:CodeR Cd.tab k182 s1312 .ret s1313:=.seq (by kernel_rfl) t1314 t1493
theorem t1495:CallR Cd.tab ⟨9,[1,0,0]⟩ h1306 v1294 [.i 0] [.b true] h1295:=.fn (i:=99) (fa:=[]) (fc:=[.ptr 7 0,.ptr 9 0,.ptr 10 0,.ptr 11 0]) (as:=[.i 0,.ptr 7 0,.ptr 9 0,.ptr 10 0,.ptr 11 0]) (rs0:=[.b true]) (rs1:=[.b true]) (H1:=h1295) (af:=Cd.a99) (bd:=k182) (st:=s1312) (st':=s1313) (e:=.ret) (by kernel_rfl) (by kernel_rfl) (by kernel_rfl) (by kernel_rfl) (by kernel_rfl) (by kernel_rfl) t1494 (by kernel_rfl) (by kernel_rfl) (by kernel_rfl) (by kernel_rfl) (by kernel_rfl)
theorem t1497:OpsR Cd.tab ⟨9,[1,0,0]⟩ 12 [(opAt (opsOf k178) 1)] x1310 x1496:=.call (o:=(opAt (opsOf k178) 1)) (f:=opF (opAt (opsOf k178) 1).op) (args:=opArgs (opAt (opsOf k178) 1).op) (own:=opOwn (opAt (opsOf k178) 1).op) (hs:=[]) (fv:=v1294) (as:=[.i 0]) (as':=[.i 0]) (H1:=h1306) (rs:=[.b true]) (H2:=h1295) (by kernel_rfl) (by kernel_rfl) (by kernel_rfl) (by kernel_rfl) (by kernel_rfl) (by kernel_rfl) (by kernel_rfl) t1495 (by kernel_rfl) (by kernel_rfl)
theorem t1498:OpsR Cd.tab ⟨9,[1,0,0]⟩ 12 ((opsOf k178).drop 2) x1496 x1496:=.nil (by kernel_rfl)
theorem t1499:OpsR Cd.tab ⟨9,[1,0,0]⟩ 12 ((opsOf k178).drop 1) x1310 x1496:=.app (l1:=[(opAt (opsOf k178) 1)]) (l2:=((opsOf k178).drop 2)) (y:=x1496) (by kernel_rfl) t1497 t1498
theorem t1500:OpsR Cd.tab ⟨9,[1,0,0]⟩ 12 (opsOf k178) x1309 x1496:=.app (l1:=((opsOf k178).take 1)) (l2:=((opsOf k178).drop 1)) (y:=x1310) (by kernel_rfl) t1311 t1499
theorem t1501:CodeR Cd.tab k178 s1307 .normal s1296:=.region (d:=false) (nres:=0) (pre:=[]) (live:=[]) (ops:=opsOf k178) (H:=h1306) (n0:=12) (x:=x1309) (y:=x1496) (by kernel_rfl) (by kernel_rfl) (by kernel_rfl) (by kernel_rfl) t1500 (by kernel_rfl)
theorem t1502:CodeR Cd.tab k173 s1304 .normal s1296:=.seq (by kernel_rfl) t1308 t1501
theorem t1503:CodeR Cd.tab k168 s1301 .normal s1296:=.seq (by kernel_rfl) t1305 t1502
theorem t1504:CodeR Cd.tab k163 s1298 .normal s1296:=.seq (by kernel_rfl) t1302 t1503
theorem t1505:CodeR Cd.tab k154 s1293 .normal s1296:=.seq (by kernel_rfl) t1299 t1504
theorem t1506:CallR Cd.tab ⟨1,[0,0]⟩ h1291 (.fn (.func 98) [] [.ptr 7 0]) [(.fn (.yield 8) [] [])] [] h1292:=.fn (i:=98) (fa:=[]) (fc:=[.ptr 7 0]) (as:=[(.fn (.yield 8) [] []),.ptr 7 0]) (rs0:=[]) (rs1:=[]) (H1:=h1295) (af:=Cd.a98) (bd:=k154) (st:=s1293) (st':=s1296) (e:=.normal) (by kernel_rfl) (by kernel_rfl) (by kernel_rfl) (by kernel_rfl) (by kernel_rfl) (by kernel_rfl) t1505 (by kernel_rfl) (by kernel_rfl) (by kernel_rfl) (by kernel_rfl) (by kernel_rfl)
theorem t1507:CodeR Cd.tab k1288 s1285 .normal s1282:=.rangeFunc (as:=k1289) (bd:=k1290) (f:=(match k1288 with | .rangeFunc f _ _ _=>f | _=>.t 0)) (ps:=[18]) (i:=98) (l:=8) (fa:=[]) (fc:=[.ptr 7 0]) (rs:=[]) (H0:=h1291) (H':=h1292) (f1:=0) (s1:=[(4,.ptr 2 0),(6,.ptr 6 0),(17,(.fn (.func 98) [] [.ptr 7 0]))]) (ps1:=[18]) (as1:=k1289) (bd1:=k1290) (pend:=none) (by kernel_rfl) (by kernel_rfl) (by kernel_rfl) (by kernel_rfl) t1506 (by kernel_rfl) (by kernel_rfl) (by kernel_rfl)
theorem t1508:CodeR Cd.tab k1287 s1285 .normal s1282:=.block (a:=k1288) (id:=0) (by kernel_rfl) (by kernel_rfl) t1507
theorem t1509:CodeR Cd.tab k1281 s1278 .normal s1282:=.seq (by kernel_rfl) t1286 t1508
theorem t1512:CodeR Cd.tab k1280 s1278 .ret s1262:=.seq (by kernel_rfl) t1509 t1511
theorem t1513:CodeR Cd.tab k1275 s1273 .ret s1262:=.seq (by kernel_rfl) t1279 t1512
theorem t1514:CodeR Cd.tab k1271 s1269 .ret s1262:=.seq (by kernel_rfl) t1274 t1513
theorem t1515:CodeR Cd.tab k1266 s1264 .ret s1262:=.seq (by kernel_rfl) t1270 t1514
theorem t1516:CodeR Cd.tab k1260 s46 .ret s1262:=.seq (by kernel_rfl) t1265 t1515
theorem t1517:CallR Cd.tab ⟨0,[0]⟩ h6 (.fn (.func 35) [] []) [v41] [.i 10,.i 0] h6:=.fn (i:=35) (fa:=[]) (fc:=[]) (as:=[v41]) (rs0:=[.i 10,.i 0]) (rs1:=[.i 10,.i 0]) (H1:=h1261) (af:=Cd.a35) (bd:=k1260) (st:=s46) (st':=s1262) (e:=.ret) (by kernel_rfl) (by kernel_rfl) (by kernel_rfl) (by kernel_rfl) (by kernel_rfl) (by kernel_rfl) t1516 (by kernel_rfl) (by kernel_rfl) (by kernel_rfl) (by kernel_rfl) (by kernel_rfl)
theorem t1519:OpsR Cd.tab ⟨0,[0]⟩ 1 [(opAt (opsOf k1255) 1)] x1258 x1518:=.call (o:=(opAt (opsOf k1255) 1)) (f:=opF (opAt (opsOf k1255) 1).op) (args:=opArgs (opAt (opsOf k1255) 1).op) (own:=opOwn (opAt (opsOf k1255) 1).op) (hs:=[]) (fv:=(.fn (.func 35) [] [])) (as:=[v41]) (as':=[v41]) (H1:=h6) (rs:=[.i 10,.i 0]) (H2:=h6) (by kernel_rfl) (by kernel_rfl) (by kernel_rfl) (by kernel_rfl) (by kernel_rfl) (by kernel_rfl) (by kernel_rfl) t1517 (by kernel_rfl) (by kernel_rfl)
theorem t1522:OpsR Cd.tab ⟨0,[0]⟩ 1 ((opsOf k1255).drop 1) x1258 x1520:=.app (l1:=[(opAt (opsOf k1255) 1)]) (l2:=((opsOf k1255).drop 2)) (y:=x1518) (by kernel_rfl) t1519 t1521
theorem t1523:OpsR Cd.tab ⟨0,[0]⟩ 1 (opsOf k1255) x1257 x1520:=.app (l1:=((opsOf k1255).take 1)) (l2:=((opsOf k1255).drop 1)) (y:=x1258) (by kernel_rfl) t1259 t1522
theorem t1524:CodeR Cd.tab k1255 s646 .normal s1256:=.region (d:=false) (nres:=0) (pre:=[]) (live:=[1,2,3,4,5,6,7,8,9,10,11,12,13,14,15,16,17,18,19,21,22,23]) (ops:=opsOf k1255) (H:=h6) (n0:=1) (x:=x1257) (y:=x1520) (by kernel_rfl) (by kernel_rfl) (by kernel_rfl) (by kernel_rfl) t1523 (by kernel_rfl)
theorem t1527:CodeR Cd.tab k1254 s646 .ret s7:=.seq (by kernel_rfl) t1524 t1526
theorem t1528:CodeR Cd.tab k644 s435 .ret s7:=.seq (by kernel_rfl) t1253 t1527
theorem t1529:CodeR Cd.tab k433 s431 .ret s7:=.seq (by kernel_rfl) t643 t1528
theorem t1530:CodeR Cd.tab k429 s39 .ret s7:=.seq (by kernel_rfl) t432 t1529
theorem t1531:CodeR Cd.tab k36 s34 .ret s7:=.seq (by kernel_rfl) t428 t1530
theorem t1532:CodeR Cd.tab k31 s29 .ret s7:=.seq (by kernel_rfl) t35 t1531
theorem t1533:CodeR Cd.tab k27 s25 .ret s7:=.seq (by kernel_rfl) t30 t1532
theorem t1534:CodeR Cd.tab k23 s21 .ret s7:=.seq (by kernel_rfl) t26 t1533
theorem t1535:CodeR Cd.tab k18 s16 .ret s7:=.seq (by kernel_rfl) t22 t1534
theorem t1536:CodeR Cd.tab k14 s12 .ret s7:=.seq (by kernel_rfl) t17 t1535
theorem t1537:CodeR Cd.tab k10 s1 .ret s7:=.seq (by kernel_rfl) t13 t1536
theorem t1538:CodeR Cd.tab k0 s1 .ret s7:=.seq (by kernel_rfl) t9 t1537
theorem t1539:CallR Cd.tab ⟨0,[]⟩ [] (.fn (.func 26) [] []) [] [.b true] []:=.fn (i:=26) (fa:=[]) (fc:=[]) (as:=[]) (rs0:=[.b true]) (rs1:=[.b true]) (H1:=h6) (af:=Cd.a26) (bd:=k0) (st:=s1) (st':=s7) (e:=.ret) (by kernel_rfl) (by kernel_rfl) (by kernel_rfl) (by kernel_rfl) (by kernel_rfl) (by kernel_rfl) t1538 (by kernel_rfl) (by kernel_rfl) (by kernel_rfl) (by kernel_rfl) (by kernel_rfl)
end Go.Proofs.Ytjjmechghfjbmaa.Rn
end
