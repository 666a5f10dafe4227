/- Texts that the claim stands on, one behind another. -/
import Derived.Test.YtjpjdglddmhplaaGreatA6
set_option linter.unusedVariables false
set_option linter.unusedSimpArgs false
set_option linter.unnecessarySimpa false
open And renaming intro→ZF
open Bool renaming and_eq_true→Zc,false_eq_true→Zi
open Int renaming add_zero→Z3f,le_refl→Z00,le_trans→Z5n,natCast_nonneg→Z0r,tdiv_eq_ediv_of_nonneg→Z2m,tmod_eq_emod_of_nonneg→Z2n,tmod→Z3m,toNat_natCast→ZG,toNat_of_nonneg→Z4r,zero_add→Z4w
open List renaming append_assoc→ZB,drop_eq_getElem_cons→Z1c,drop_of_length_le→Z1l,drop→Z1v,filter_cons→Z20,foldl_cons→Z0a,getElem?_eq_some_iff→Ze,getElem_append_left→Z41,getElem_map→Z3z,getElem_mem→Z1y,getElem_set_self→Z4k,length_append→Zp,length_cons→ZX,length_filter_le→Z4j,length_map→Zj,length_replicate→Z1p,length_set→Z0p,length_take→ZE,length→Zh,map_append→Z05,map_congr_left→Z3h,map_cons→Zt,map_map→Z1e,map→Zg,mem_append→ZA,mem_cons_of_mem→Zx,mem_cons_self→Zz,mem_cons→Zu,mem_filter→Z0h,mem_flatMap→Z2i,mem_map→ZK,mem_of_mem_take→ZZ,nil_append→Z07,pairwise_append→Z0t,range→Z09,replicate→Zv,set_eq_of_length_le→Z1h,take_left→Z06,take_length→Z1a,take_of_length_le→ZP,take_set→Z2y,take_succ_cons→Z21,take_succ_eq_append_getElem→ZV,take_take→Z3k
open Nat renaming div_add_mod→Z45,div_le_self→Z5b,le_add_right→ZL,le_succ→Z5q,min_eq_left→Z1o,mod_lt→Z1s,mul_comm→Z1x,mul_le_mul→Z3l
open Option renaming bind_some→Zd
open Option.some renaming inj→Z01
open Prod renaming fst→Z32
open Sum renaming inl→Z36
section
set_option maxRecDepth 100000
set_option maxHeartbeats 0
namespace Pw
open Go Am Go.Proofs.YtjpjdglddmhplaaGreat.Cd
def A37 (a0:PaShow):Option ((List PaUse)×Int×Int×Int) :=
 (A2m a0).bind fun x1 =>
 if (x1.1==0)=true then
  (B8b (B6q a0 x1.2) A4t).bind fun x4 =>
  some (x4.1.plan_,x4.1.without_,x4.1.cost_,0)
 else
  some (([]:List PaUse),0,0,x1.1)
theorem A8v {c:Sc} {H:A1} (hscv:S7 c H=true) {a0:PaShow} {r:((List PaUse)×Int×Int×Int)} (h:A37 a0=some r) :
  F0 tab c H (.fn (.func 26) [] []) [(.agg (B1 a0))] [(.seq 3 (Zg A6 r.1)),.i r.2.1,.i r.2.2.1,.i r.2.2.2]:= by
 unfold A37 at h
 refine cE Z Z<|sg 0 Z<|A0 (F6 (cs:=B1 a0) Z Z Z) Z<|qm Z<|qm Z<|qm Z<|qm Z<|es (ra1 Z)<|s0<|oB h fun x1 hx1 h=>A0 (D1 Z Z Z) Z ?_
 by_cases hc2:(x1.1==0)=true
 ·rw[if_pos hc2]at h
  obtain⟨X3,hX3⟩:=A2y hx1 hc2
  refine P5 (A4m hX3 Z Z (A2 (D0 Z) B4) Z) Z<|qm Z<|A0 (A9 Z Z) Z<|A0 (A9 Z Z) Z<|qm Z<|qm Z<|es (ra2 Z Z)<|C1<|s0<|qm Z<|A0 (P9 (v:=(.b false)) Z Z Z) Z<|es (ra3 Z Z Z)<|R0 Z Z<|C3<|sg 4 Z<|qm Z<|A5q (as2:=[(.ptr (H.length+3) 0)]) (H1:=(H++[(.cells (B1 a0)),(.cells (B1 a0)),X3,(.cells [(.seq 8 (Zg C2 a0.Gowns)),(.seq 4 (Zg B3 a0.Figures)),.i a0.Purse,(.seq 2 (Zg D2 a0.Incomes)),(.fn (.func 90) [] []),(.fn (.func 91) [] []),(.fn (.func 92) [] []),(.fn (.func 52) [] []),(.fn (.func 93) [] []),(.fn (.func 94) [] []),(.fn (.func 55) [] []),(.fn (.func 95) [] []),(.fn (.func 96) [] []),(.seq 1 (Zg cI x1.2))]),.dead])) Z Z (A2 Z B4) Z Z Z (B08 Z)<|sg 5 Z<|A0 (F6 (cs:=[(.ptr (H.length+3) 0)]) Z Z Z) Z<|qm Z<|es (ra1 Z)<|s0<|A0 (A34 Z Z) Z<|qm Z<|es (ra1 Z)<|C7<|InlQ.mk trivial ⟨_,_,_,[(.fn (.func 106) [] [(.ptr (H.length+5) 0)])],_,(A7 Z B6),(A5 Z B5),(B06 (V6 (B4u (V6 (A6q Z)))) (B05 Z B43)),?_⟩
  refine oB h fun x4 hx4 h=>B7 (rs:=[(.agg (C4 x4.1)),.b x4.2]) Z Z (A2 Z (A2 Z B4)) (C3e (C8l (t:=a0) (days:=x1.2) (bS:=H.length+5) (b:=H.length+3)) (fun h=>(B9n h).frz) (ZF (D9 Z) (D9 Z)) (B0m hscv) hx4)<|qm Z<|A0 (A9 Z Z) Z<|A0 (A9 Z Z) Z<|A0 J6 Z<|P0 (G0 (ds:=(C4 x4.1)) Z Z Z Z (F2 Z) Z) Z<|qm Z<|es (ra1 Z)<|s0<|A0 (B9 Z) Z<|A0 (B2 Z Z Z) Z<|A0 (B9 Z) Z<|A0 (B2 Z Z Z) Z<|A0 (B9 Z) Z<|A0 (B2 Z Z Z) Z<|qm Z<|qm Z<|qm Z<|qm Z<|es (ra4 Z Z Z Z)<|C7 ?_
  obtain rfl:=os h
  exact retq trivial (A7 Z (A7 Z (A7 Z (A7 Z B6)))) (A5 Z (A5 Z (A5 Z (A5 Z B5)))) (A3 K2 (A3 A4 (A3 A4 (A3 A4 A8))))
 ·rw[if_neg hc2]at h
  refine P5 (R6 (rs:=[.lit (.pointer none),.i x1.1]) Z Z (A2 (D0 Z) B4) (A3w hx1 (by simpa using hc2)) Z) Z<|qm Z<|A0 (A9 Z Z) Z<|A0 (A9 Z Z) Z<|qm Z<|qm Z<|es (ra2 Z Z)<|C1<|s0<|qm Z<|A0 (I9 Z Z) Z<|es (ra3 Z Z Z)<|O9 Z (nef hc2)<|s0<|qm Z<|qm Z<|qm Z<|qm Z<|qm Z<|es (ra4 Z Z Z Z)<|C7 ?_
  obtain rfl:=os h
  exact retq trivial (A7 Z (A7 Z (A7 Z (A7 Z B6)))) (A5 Z (A5 Z (A5 Z (A5 Z B5)))) (A3 K2 (A3 A4 (A3 A4 (A3 A4 A8))))
def A0u (a0:PaUse) (a1:Int):Option Bool :=
 some ((a0.Gown==a1)&&(a0.How==1))
theorem A94 {c:Sc} {H:A1} {a0:PaUse} {a1:Int} {b1:Nat} (hb1:hcells H b1=some (cI a1)) {r:Bool} (h:A0u a0 a1=some r) :
  F0 tab c H (.fn (.func 105) [] []) [(.agg (A6 a0)),.ptr b1 0] [.b r]:= by
 unfold A0u at h
 refine cE Z Z<|sg 0 Z<|A0 (F6 (cs:=A6 a0) Z Z Z) Z<|qm Z<|es (ra2 Z Z)<|s0<|A0 (B9 Z) Z<|A0 (B2 Z Z Z) Z<|A0 (G8 Z hb1 Z) Z<|A0 (G5 Z Z) Z<|qm Z<|gp 4 12 (.b ((a0.Gown==a1)&&(a0.How==1))) 8 Z Z (fun hg1=>?_) (fun hg1=>?_) ?_
 ·exact gT Z hg1<|A0 (B9 Z) Z<|gT Z hg1<|A0 (B2 Z Z Z) Z<|gT Z hg1<|A0 (G5 Z Z) Z<|A0 (C6 Z hg1 Z) Z<|ge 4 (by rw[hg1];rfl) Z Z
 ·exact nT Z hg1 Z<|nT Z hg1 Z<|nT Z hg1 Z<|A0 (C5 Z hg1 Z) Z<|ge 4 (by rw[hg1];rfl) Z Z
 refine qm Z<|es (ra1 Z)<|C7 ?_
 obtain rfl:=os h
 exact retq trivial (A7 Z B6) (A5 Z B5) (A3 A4 A8)
def A45 (a0:pawn_show) (a1:(List PaUse)) (a2:Int):Option Bool :=
 (F9 a1 (fun (y:PaUse)=>A0u y a2)).bind fun x1 =>
 some x1
theorem B2m {c:Sc} {H:A1} {a0:pawn_show} {b0:Nat} (hb0:hcells H b0=some [(.seq 8 (Zg C2 a0.PaShow.Gowns)),(.seq 4 (Zg B3 a0.PaShow.Figures)),.i a0.PaShow.Purse,(.seq 2 (Zg D2 a0.PaShow.Incomes)),(.fn (.func 90) [] []),(.fn (.func 91) [] []),(.fn (.func 92) [] []),(.fn (.func 52) [] []),(.fn (.func 93) [] []),(.fn (.func 94) [] []),(.fn (.func 55) [] []),(.fn (.func 95) [] []),(.fn (.func 96) [] []),(.seq 1 (Zg cI a0.days_))]) {a1:(List PaUse)} {a2:Int} {r:Bool} (h:A45 a0 a1 a2=some r) :
  F0 tab c H (.fn (.func 68) [] []) [.ptr b0 0,(.seq 3 (Zg A6 a1)),.i a2] [.b r]:= by
 unfold A45 at h
 refine cE Z Z<|sg 0 Z<|A0 (F6 (cs:=cI a2) Z Z Z) Z<|qm Z<|es (ra2 Z Z)<|s0<|oB h fun x1 hx1 h=>qm Z<|A0 (A34 Z Z) Z<|B7 (rs:=[.b x1]) Z Z (A2 Z (A2 Z B4)) ((Z2 (show Impl _ _ 105 [] [(.ptr (H.length+0) 0)] (fun (y:PaUse)=>A0u y a2) (fun (y:PaUse)=>[(.agg (A6 y))]) (fun (y:Bool)=>[.b y]) from ⟨⟨A8,(by rw[Zp];exact(A3 (M3 Z) A8))⟩,fun H' hle hag c y r hr=>(A3u (A94 (hag _ _ (D9 Z)) hr)).frz⟩) hx1).frz)<|qm Z<|es (ra1 Z)<|C7 ?_
 obtain rfl:=os h
 exact retq trivial (A7 Z B6) (A5 Z B5) (A3 A4 A8)
def B34 (a0:PaShow) (a1:(List PaUse)) (x1:(Int×(List Int))) (s4:(Int×(List Int))):Option ((Int×(List Int))⊕(List Int)) :=
 if (decide (s4.1<(Zh a0.Gowns:Int)))=true then
  (idx a0.Gowns s4.1).bind fun x7 =>
  (if (x7.Pawn&&(decide (x7.Last<364)))=true then
  (A45 (pawn_show.mk a0 (Ar3.mk (pawn_way.mk ) (pawn_way.mk ) (pawn_way.mk )) x1.2) a1 s4.1).bind fun x10 =>
  some (!x10)
  else
  some false).bind fun x11 =>
  if x11=true then
  (app 8 s4.2 [s4.1]).bind fun x13 =>
  some (.inl ((w64 (s4.1+1)),x13))
  else
  some (.inl ((w64 (s4.1+1)),s4.2))
 else
  some (.inr s4.2)
def B5r (a0:PaShow) (a1:(List PaUse)):Option ((List Int)×Int) :=
 (A3j a0 a1).bind fun x1 =>
 if (x1.1==0)=true then
  (loop (B34 a0 a1 x1) (0,([]:List Int))).bind fun (o14:(List Int)) =>
  some (o14,0)
 else
  some (([]:List Int),x1.1)
theorem C39 {c:Sc} {H:A1} {a0:PaShow} {a1:(List PaUse)} {r:((List Int)×Int)} (h:B5r a0 a1=some r) :
  F0 tab c H (.fn (.func 24) [] []) [(.agg (B1 a0)),(.seq 3 (Zg A6 a1))] [(.fresh 1 (Zg cI r.1)),.i r.2]:= by
 unfold B5r at h
 refine cE Z Z<|sg 0 Z<|A0 (F6 (cs:=B1 a0) Z Z Z) Z<|A0 A6x Z<|qm Z<|es (ra3 Z Z Z)<|s0<|oB h fun x1 hx1 h=>A0 (D1 Z Z Z) Z<|qm Z ?_
 by_cases hc2:(x1.1==0)=true
 ·rw[if_pos hc2]at h
  obtain⟨X3,hX3⟩:=B0c hx1 hc2
  refine P5 (A4m hX3 Z Z (A2 (D0 Z) (A2 Z B4)) Z) Z<|qm Z<|A0 (A9 Z Z) Z<|A0 (A9 Z Z) Z<|qm Z<|qm Z<|es (ra5 Z Z Z Z Z)<|C1<|s0<|qm Z<|A0 (P9 (v:=(.b false)) Z Z Z) Z<|es (ra6 Z Z Z Z Z Z)<|R0 Z Z<|C3<|s0<|qm Z<|A0 (A34 Z Z) Z<|qm Z<|es (ra4 Z Z Z Z)<|C1<|s0<|A0 (B9 Z) Z<|A0 (B2 Z Z Z) Z<|A0 (G1 (f:=C2) Z) Z<|qm Z<|es (ra6 Z Z Z Z Z Z)<|C8<|oB h fun o14 ho14 h=>wl (fun s4=>[(1,(.seq 3 (Zg A6 a1))),(4,(.asl (H.length+1) (Zh s4.2))),(7,(.fn (.func 68) [(.ptr (H.length+5) 0)] [])),(22,(.seq 8 (Zg C2 a0.Gowns))),(23,(.i (Zh a0.Gowns:Int))),(24,.i s4.1)]) (fun (q5:Unit) s4=>[(.cells (B1 a0)),(.arr 1 false (Zg cI s4.2)),(.cells (B1 a0)),(.cells (B1 a0)),X3,(.cells [(.seq 8 (Zg C2 a0.Gowns)),(.seq 4 (Zg B3 a0.Figures)),.i a0.Purse,(.seq 2 (Zg D2 a0.Incomes)),(.fn (.func 90) [] []),(.fn (.func 91) [] []),(.fn (.func 92) [] []),(.fn (.func 52) [] []),(.fn (.func 93) [] []),(.fn (.func 94) [] []),(.fn (.func 55) [] []),(.fn (.func 95) [] []),(.fn (.func 96) [] []),(.seq 1 (Zg cI x1.2))])]) 6 (fun r e s' H'=>PX 0 [(4,(.asl (H.length+1) (Zh r)))] (H++[(.cells (B1 a0)),(.arr 1 false (Zg cI r)),(.cells (B1 a0)),(.cells (B1 a0)),X3,(.cells [(.seq 8 (Zg C2 a0.Gowns)),(.seq 4 (Zg B3 a0.Figures)),.i a0.Purse,(.seq 2 (Zg D2 a0.Incomes)),(.fn (.func 90) [] []),(.fn (.func 91) [] []),(.fn (.func 92) [] []),(.fn (.func 52) [] []),(.fn (.func 93) [] []),(.fn (.func 94) [] []),(.fn (.func 55) [] []),(.fn (.func 95) [] []),(.fn (.func 96) [] []),(.seq 1 (Zg cI x1.2))])]) e s' H') () ho14 Z Z (fun _ _=>rfl) (fun _=>rfl) Z (fun s4=>(bdc K2 (bdc (A1t Z) (bdc (D8b (A3 (M3 Z) A8) A8) (bdc K2 (bdc A4 (bdc A4 bdn))))))) (fun q5 s4 ys4 hs4=>?_) ?_
  ·unfold B34 at hs4
   refine s0<|A0 (I4 Z Z) Z<|es (ra7 Z Z Z Z Z Z Z)<|C1<|wi hs4 Z (fun hc6 hs4=>?_) fun hc6 hs4=>?_
   ·refine C3<|C1<|C8<|sg 6 Z<|oB hs4 fun x7 hx7 hs4=>qm Z<|A0 (E0 (f:=C2) Z Z hx7) Z<|A0 (G4 Z Z) Z<|A0 J6 Z<|qm Z<|P0 (G0 (ds:=(C2 x7)) Z Z Z Z (F2 Z) Z) Z<|es (ra8 Z Z Z Z Z Z Z Z)<|s0<|oB hs4 fun x11 hx11 hs4=>A0 (B9 Z) Z<|A0 (B2 Z Z Z) Z<|qm Z<|gp 4 35 (.b (x7.Pawn&&(decide (x7.Last<364)))) 31 Z Z (fun hg8=>?_) (fun hg8=>?_) ?_
    ·exact gT Z hg8<|A0 (B9 Z) Z<|gT Z hg8<|A0 (B2 Z Z Z) Z<|gT Z hg8<|A0 (I4 Z Z) Z<|A0 (C6 Z hg8 Z) Z<|ge 4 (by rw[hg8];rfl) Z Z
    ·exact nT Z hg8 Z<|nT Z hg8 Z<|nT Z hg8 Z<|A0 (C5 Z hg8 Z) Z<|ge 4 (by rw[hg8];rfl) Z Z
    refine qm Z<|gp 6 42 (.b x11) 36 Z Z (fun hg9=>?_) (fun hg9=>?_) ?_
    ·refine oB (bt hx11 hg9) fun x10 hx10 hx11=>?_
     obtain rfl:=os hx11
     exact gT Z hg9<|qm Z<|gT Z hg9<|qm Z<|gT Z hg9<|qm Z<|gT Z hg9<|B7 (rs:=[.b x10]) Z Z (A2 Z (A2 Z B4)) ((A3u (B2m (D9 Z) hx10)).frz)<|gT Z hg9<|A0 (Q2 Z) Z<|A0 (C6 Z hg9 Z) Z<|ge 6 Z Z Z
    ·obtain rfl:=os (bf hx11 hg9)
     exact nT Z hg9 Z<|nT Z hg9 Z<|nT Z hg9 Z<|H7 (D5 Z (by rw[hg9];rfl)) Z<|nT Z hg9 Z<|A0 (C5 Z hg9 Z) Z<|ge 6 Z Z Z
    refine es (ra8 Z Z Z Z Z Z Z Z)<|wi hs4 Z (fun hc12 hs4=>?_) fun hc12 hs4=>?_
    ·refine r0<|oB hs4 fun x13 hx13 hs4=>qm Z<|qm Z<|A0 (K0 (rows:=Zg cI [s4.1]) Z Z (F3 (fun _=>rfl) _)) Z<|P5 (A55 (f:=cI) Z Z Z Z A6c (fun _=>rfl) hx13) Z<|qm Z<|en (ra6 Z Z Z Z Z Z)<|r0<|A0 (F7 Z Z) Z<|qm Z<|en (ra6 Z Z Z Z Z Z) ?_
     cases hs4
     exact lnT () Z (su6 Z Z Z Z Z Z)
    ·refine C3<|r0<|A0 (F7 Z Z) Z<|qm Z<|en (ra6 Z Z Z Z Z Z) ?_
     cases hs4
     exact lnT () Z (su6 Z Z Z Z Z Z)
   ·refine I1 ?_
    obtain rfl:=os hs4
    exact lx Z px (su1 Z)
  ·rintro e s' H'-⟨rfl,rfl,rfl⟩
   refine s0<|qm Z<|qm Z<|qm Z<|es (ra2 Z Z)<|C7 ?_
   obtain rfl:=os h
   exact retq trivial (A7 Z (A7 Z B6)) (A5 (A6a Z (Zj _)) (A5 Z B5)) (A3 A0b (A3 A4 A8))
 ·rw[if_neg hc2]at h
  refine P5 (R6 (rs:=[.lit (.pointer none),.i x1.1]) Z Z (A2 (D0 Z) (A2 Z B4)) (B0b hx1 (by simpa using hc2)) Z) Z<|qm Z<|A0 (A9 Z Z) Z<|A0 (A9 Z Z) Z<|qm Z<|qm Z<|es (ra5 Z Z Z Z Z)<|C1<|s0<|qm Z<|A0 (I9 Z Z) Z<|es (ra6 Z Z Z Z Z Z)<|O9 Z (nef hc2)<|sg 2 Z<|qm Z<|A0 A6x Z<|qm Z<|es (ra2 Z Z)<|C7 ?_
  obtain rfl:=os h
  exact retq trivial (A7 Z (A7 Z B6)) (A5 (A6a Z (Zj _)) (A5 Z B5)) (A3 A0b (A3 A4 A8))
def B0a (a0:pawn_found) (a1:pawn_found):Option Int :=
 (A3v [(w64 (a0.without_-a1.without_)),(w64 (a0.short_-a1.short_))]).bind fun x1 =>
 some x1
theorem B9o {c:Sc} {H:A1} {a0:pawn_found} {a1:pawn_found} {r:Int} (h:B0a a0 a1=some r) :
  F0 tab c H (.fn (.func 76) [] []) [(.agg (C4 a0)),(.agg (C4 a1))] [.i r]:= by
 unfold B0a at h
 refine cE Z Z<|sg 0 Z<|A0 (F6 (cs:=C4 a0) Z Z Z) Z<|A0 (F6 (cs:=C4 a1) Z Z Z) Z<|qm Z<|es (ra2 Z Z)<|s0<|oB h fun x1 hx1 h=>A0 (B9 Z) Z<|A0 (B2 Z Z Z) Z<|A0 (B9 Z) Z<|A0 (B2 Z Z Z) Z<|A0 (V5 Z Z) Z<|A0 (B9 Z) Z<|A0 (B2 Z Z Z) Z<|A0 (B9 Z) Z<|A0 (B2 Z Z Z) Z<|A0 (V5 Z Z) Z<|A0 (K0 (rows:=Zg cI [(w64 (a0.without_-a1.without_)),(w64 (a0.short_-a1.short_))]) Z Z (F3 (fun _=>rfl) _)) Z<|B7 (rs:=[.i x1]) Z Z (A2 Z B4) ((B1w hx1).frz)<|qm Z<|es (ra1 Z)<|C7 ?_
 obtain rfl:=os h
 exact retq trivial (A7 Z B6) (A5 Z B5) (A3 A4 A8)
def B5s (a0:PaShow):Option (Int×Int) :=
 (A2m a0).bind fun x1 =>
 if (x1.1==0)=true then
  (B8b (B79 a0 x1.2) B0a).bind fun x4 =>
  if (((!x4.2)||(decide (x4.1.without_>0)))||(decide (x4.1.short_>10000)))=true then
  some (0,9)
  else
  if (x4.1.short_==0)=true then
   some (0,4)
  else
   some (x4.1.short_,0)
 else
  some (0,x1.1)
theorem C4a {c:Sc} {H:A1} (hscv:S7 c H=true) {a0:PaShow} {r:(Int×Int)} (h:B5s a0=some r) :
  F0 tab c H (.fn (.func 31) [] []) [(.agg (B1 a0))] [.i r.1,.i r.2]:= by
 unfold B5s at h
 refine cE Z Z<|sg 0 Z<|A0 (F6 (cs:=B1 a0) Z Z Z) Z<|qm Z<|qm Z<|es (ra1 Z)<|s0<|oB h fun x1 hx1 h=>A0 (D1 Z Z Z) Z ?_
 by_cases hc2:(x1.1==0)=true
 ·rw[if_pos hc2]at h
  obtain⟨X3,hX3⟩:=A2y hx1 hc2
  refine P5 (A4m hX3 Z Z (A2 (D0 Z) B4) Z) Z<|qm Z<|A0 (A9 Z Z) Z<|A0 (A9 Z Z) Z<|qm Z<|qm Z<|es (ra2 Z Z)<|C1<|s0<|qm Z<|A0 (P9 (v:=(.b false)) Z Z Z) Z<|es (ra3 Z Z Z)<|R0 Z Z<|C3<|sg 4 Z<|qm Z<|A5q (as2:=[(.ptr (H.length+3) 0)]) (H1:=(H++[(.cells (B1 a0)),(.cells (B1 a0)),X3,(.cells [(.seq 8 (Zg C2 a0.Gowns)),(.seq 4 (Zg B3 a0.Figures)),.i a0.Purse,(.seq 2 (Zg D2 a0.Incomes)),(.fn (.func 90) [] []),(.fn (.func 91) [] []),(.fn (.func 92) [] []),(.fn (.func 52) [] []),(.fn (.func 93) [] []),(.fn (.func 94) [] []),(.fn (.func 55) [] []),(.fn (.func 95) [] []),(.fn (.func 96) [] []),(.seq 1 (Zg cI x1.2))]),.dead])) Z Z (A2 Z B4) Z Z Z (B08 Z)<|sg 5 Z<|A0 (F6 (cs:=[(.ptr (H.length+3) 0)]) Z Z Z) Z<|qm Z<|es (ra1 Z)<|s0<|A0 (A34 Z Z) Z<|qm Z<|es (ra1 Z)<|C7<|InlQ.mk trivial ⟨_,_,_,[(.fn (.func 108) [] [(.ptr (H.length+5) 0)])],_,(A7 Z B6),(A5 Z B5),(B06 (V6 (B4u (V6 (A6q Z)))) (B05 Z B43)),?_⟩
  refine oB h fun x4 hx4 h=>B7 (rs:=[(.agg (C4 x4.1)),.b x4.2]) Z Z (A2 Z (A2 Z B4)) (C3e (D2p (t:=a0) (days:=x1.2) (bS:=H.length+5) (b:=H.length+3)) (fun h=>(B9o h).frz) (ZF (D9 Z) (D9 Z)) (B0m hscv) hx4)<|qm Z<|A0 (A9 Z Z) Z<|A0 (A9 Z Z) Z<|A0 J6 Z<|P0 (G0 (ds:=(C4 x4.1)) Z Z Z Z (F2 Z) Z) Z<|qm Z<|es (ra2 Z Z)<|C1<|C8<|s0<|qm Z<|A0 (Q2 Z) Z<|qm Z<|gp 4 29 (.b ((!x4.2)||(decide (x4.1.without_>0)))) 25 Z Z (fun hg5=>?_) (fun hg5=>?_) ?_
  ·exact nF Z hg5 Z<|nF Z hg5 Z<|nF Z hg5 Z<|A0 (C6 Z hg5 Z) Z<|ge 4 (by rw[hg5];rfl) Z Z
  ·exact gF Z hg5<|A0 (B9 Z) Z<|gF Z hg5<|A0 (B2 Z Z Z) Z<|gF Z hg5<|A0 (Y5 Z Z) Z<|A0 (C5 Z hg5 Z) Z<|ge 4 (by rw[hg5];rfl) Z Z
  refine qm Z<|gp 4 34 (.b (((!x4.2)||(decide (x4.1.without_>0)))||(decide (x4.1.short_>10000)))) 30 Z Z (fun hg6=>?_) (fun hg6=>?_) ?_
  ·exact nF Z hg6 Z<|nF Z hg6 Z<|nF Z hg6 Z<|A0 (C6 Z hg6 Z) Z<|ge 4 (by rw[hg6];rfl) Z Z
  ·exact gF Z hg6<|A0 (B9 Z) Z<|gF Z hg6<|A0 (B2 Z Z Z) Z<|gF Z hg6<|A0 (Y5 Z Z) Z<|A0 (C5 Z hg6 Z) Z<|ge 4 (by rw[hg6];rfl) Z Z
  refine qm Z<|es (ra2 Z Z)<|wi h Z (fun hc7 h=>?_) fun hc7 h=>?_
  ·refine s0<|qm Z<|qm Z<|es (ra2 Z Z)<|C7 ?_
   obtain rfl:=os h
   exact retq trivial (A7 Z (A7 Z B6)) (A5 Z (A5 Z B5)) (A3 A4 (A3 A4 A8))
  ·refine s0<|A0 (B9 Z) Z<|A0 (B2 Z Z Z) Z<|A0 (G5 Z Z) Z<|qm Z<|es (ra2 Z Z)<|wi h Z (fun hc8 h=>?_) fun hc8 h=>?_
   ·refine s0<|qm Z<|qm Z<|es (ra2 Z Z)<|C7 ?_
    obtain rfl:=os h
    exact retq trivial (A7 Z (A7 Z B6)) (A5 Z (A5 Z B5)) (A3 A4 (A3 A4 A8))
   ·refine C3<|s0<|A0 (B9 Z) Z<|A0 (B2 Z Z Z) Z<|qm Z<|qm Z<|es (ra2 Z Z)<|C7 ?_
    obtain rfl:=os h
    exact retq trivial (A7 Z (A7 Z B6)) (A5 Z (A5 Z B5)) (A3 A4 (A3 A4 A8))
 ·rw[if_neg hc2]at h
  refine P5 (R6 (rs:=[.lit (.pointer none),.i x1.1]) Z Z (A2 (D0 Z) B4) (A3w hx1 (by simpa using hc2)) Z) Z<|qm Z<|A0 (A9 Z Z) Z<|A0 (A9 Z Z) Z<|qm Z<|qm Z<|es (ra2 Z Z)<|C1<|s0<|qm Z<|A0 (I9 Z Z) Z<|es (ra3 Z Z Z)<|O9 Z (nef hc2)<|s0<|qm Z<|qm Z<|qm Z<|es (ra2 Z Z)<|C7 ?_
  obtain rfl:=os h
  exact retq trivial (A7 Z (A7 Z B6)) (A5 Z (A5 Z B5)) (A3 A4 (A3 A4 A8))
def Z4 (a0:PaShow) (a1:(List PaUse)) (a2:Int):Option (Int×Int) :=
 (A3j a0 a1).bind fun x1 =>
 if (x1.1==0)=true then
  (F4 0 364 [a2]).bind fun x4 =>
  if x4=true then
  some (0,7)
  else
  (R2 (pawn_show.mk a0 (Ar3.mk (pawn_way.mk ) (pawn_way.mk ) (pawn_way.mk )) x1.2) a1 a2).bind fun x6 =>
  some (x6,0)
 else
  some (0,x1.1)
theorem A11 {c:Sc} {H:A1} {a0:PaShow} {a1:(List PaUse)} {a2:Int} {r:(Int×Int)} (h:Z4 a0 a1 a2=some r) :
  F0 tab c H (.fn (.func 20) [] []) [(.agg (B1 a0)),(.seq 3 (Zg A6 a1)),.i a2] [.i r.1,.i r.2]:= by
 unfold Z4 at h
 refine cE Z Z<|sg 0 Z<|A0 (F6 (cs:=B1 a0) Z Z Z) Z<|qm Z<|qm Z<|es (ra3 Z Z Z)<|s0<|oB h fun x1 hx1 h=>A0 (D1 Z Z Z) Z<|qm Z ?_
 by_cases hc2:(x1.1==0)=true
 ·rw[if_pos hc2]at h
  obtain⟨X3,hX3⟩:=B0c hx1 hc2
  refine P5 (A4m hX3 Z Z (A2 (D0 Z) (A2 Z B4)) Z) Z<|qm Z<|A0 (A9 Z Z) Z<|A0 (A9 Z Z) Z<|qm Z<|qm Z<|es (ra4 Z Z Z Z)<|C1<|C8<|s0<|qm Z<|A0 (P9 (v:=(.b false)) Z Z Z) Z<|qm Z<|es (ra5 Z Z Z Z Z)<|R0 Z Z<|s0<|oB h fun x4 hx4 h=>qm Z<|A0 (K0 (rows:=Zg cI [a2]) Z Z (F3 (fun _=>rfl) _)) Z<|B7 (rs:=[.b x4]) Z Z (A2 Z (A2 Z (A2 Z B4))) ((G3 hx4).frz)<|qm Z<|es (ra4 Z Z Z Z)<|wi h Z (fun hc5 h=>?_) fun hc5 h=>?_
  ·refine s0<|qm Z<|qm Z<|es (ra2 Z Z)<|C7 ?_
   obtain rfl:=os h
   exact retq trivial (A7 Z (A7 Z B6)) (A5 Z (A5 Z B5)) (A3 A4 (A3 A4 A8))
  ·refine C3<|s0<|oB h fun x6 hx6 h=>qm Z<|qm Z<|qm Z<|P5 (W9 (rs:=[.i x6]) Z Z ((A6y (D9 Z) hx6).frz)) Z<|qm Z<|qm Z<|es (ra2 Z Z)<|C7 ?_
   obtain rfl:=os h
   exact retq trivial (A7 Z (A7 Z B6)) (A5 Z (A5 Z B5)) (A3 A4 (A3 A4 A8))
 ·rw[if_neg hc2]at h
  refine P5 (R6 (rs:=[.lit (.pointer none),.i x1.1]) Z Z (A2 (D0 Z) (A2 Z B4)) (B0b hx1 (by simpa using hc2)) Z) Z<|qm Z<|A0 (A9 Z Z) Z<|A0 (A9 Z Z) Z<|qm Z<|qm Z<|es (ra4 Z Z Z Z)<|C1<|C8<|s0<|qm Z<|A0 (I9 Z Z) Z<|qm Z<|es (ra5 Z Z Z Z Z)<|O9 Z (nef hc2)<|s0<|qm Z<|qm Z<|qm Z<|es (ra2 Z Z)<|C7 ?_
  obtain rfl:=os h
  exact retq trivial (A7 Z (A7 Z B6)) (A5 Z (A5 Z B5)) (A3 A4 (A3 A4 A8))
def X0 (a0:PaShow) (a1:(List PaUse)):Option (Int×Int) :=
 (A3j a0 a1).bind fun x1 =>
 if (x1.1==0)=true then
  (P4 (pawn_show.mk a0 (Ar3.mk (pawn_way.mk ) (pawn_way.mk ) (pawn_way.mk )) x1.2) a1).bind fun x4 =>
  if (x4.1==0)=true then
  some (0,4)
  else
  some (x4.2,0)
 else
  some (0,x1.1)
theorem A12 {c:Sc} {H:A1} {a0:PaShow} {a1:(List PaUse)} {r:(Int×Int)} (h:X0 a0 a1=some r) :
  F0 tab c H (.fn (.func 22) [] []) [(.agg (B1 a0)),(.seq 3 (Zg A6 a1))] [.i r.1,.i r.2]:= by
 unfold X0 at h
 refine cE Z Z<|sg 0 Z<|A0 (F6 (cs:=B1 a0) Z Z Z) Z<|qm Z<|qm Z<|es (ra2 Z Z)<|s0<|oB h fun x1 hx1 h=>A0 (D1 Z Z Z) Z<|qm Z ?_
 by_cases hc2:(x1.1==0)=true
 ·rw[if_pos hc2]at h
  obtain⟨X3,hX3⟩:=B0c hx1 hc2
  refine P5 (A4m hX3 Z Z (A2 (D0 Z) (A2 Z B4)) Z) Z<|qm Z<|A0 (A9 Z Z) Z<|A0 (A9 Z Z) Z<|qm Z<|qm Z<|es (ra3 Z Z Z)<|C1<|s0<|qm Z<|A0 (P9 (v:=(.b false)) Z Z Z) Z<|es (ra4 Z Z Z Z)<|R0 Z Z<|C3<|s0<|oB h fun x4 hx4 h=>qm Z<|qm Z<|P5 (W9 (rs:=[.i x4.1,.i x4.2]) Z Z ((B2n (D9 Z) hx4).frz)) Z<|qm Z<|A0 (A9 Z Z) Z<|A0 (A9 Z Z) Z<|qm Z<|qm Z<|es (ra2 Z Z)<|C1<|s0<|qm Z<|A0 (G5 Z Z) Z<|es (ra2 Z Z)<|wi h Z (fun hc5 h=>?_) fun hc5 h=>?_
  ·refine s0<|qm Z<|qm Z<|es (ra2 Z Z)<|C7 ?_
   obtain rfl:=os h
   exact retq trivial (A7 Z (A7 Z B6)) (A5 Z (A5 Z B5)) (A3 A4 (A3 A4 A8))
  ·refine C3<|s0<|qm Z<|qm Z<|qm Z<|es (ra2 Z Z)<|C7 ?_
   obtain rfl:=os h
   exact retq trivial (A7 Z (A7 Z B6)) (A5 Z (A5 Z B5)) (A3 A4 (A3 A4 A8))
 ·rw[if_neg hc2]at h
  refine P5 (R6 (rs:=[.lit (.pointer none),.i x1.1]) Z Z (A2 (D0 Z) (A2 Z B4)) (B0b hx1 (by simpa using hc2)) Z) Z<|qm Z<|A0 (A9 Z Z) Z<|A0 (A9 Z Z) Z<|qm Z<|qm Z<|es (ra3 Z Z Z)<|C1<|s0<|qm Z<|A0 (I9 Z Z) Z<|es (ra4 Z Z Z Z)<|O9 Z (nef hc2)<|s0<|qm Z<|qm Z<|qm Z<|es (ra2 Z Z)<|C7 ?_
  obtain rfl:=os h
  exact retq trivial (A7 Z (A7 Z B6)) (A5 Z (A5 Z B5)) (A3 A4 (A3 A4 A8))
def B13 (a0:(List PaUse)) (a1:(List PaUse)) (s2:Int):Option (Int⊕(Bool⊕Unit)) :=
 if (decide (s2<(Zh a0:Int)))=true then
  (idx a0 s2).bind fun x5 =>
  (idx a1 s2).bind fun x6 =>
  if (!((x5.Gown==x6.Gown)&&((x5.How==x6.How)&&((x5.Day==x6.Day)&&true))))=true then
  some (.inr (.inl false))
  else
  some (.inl (w64 (s2+1)))
 else
  some (.inr (.inr ()))
def B2u (a0:(List PaUse)) (a1:(List PaUse)):Option Bool :=
 if ((Zh a0:Int) != (Zh a1:Int))=true then
  some false
 else
  (loop (B13 a0 a1) 0).bind fun (o8:(Bool⊕Unit)) =>
  match o8 with
  | (.inl vo8_0) =>
  some vo8_0
  | (.inr vo8_1) =>
  some true
theorem C07 {c:Sc} {H:A1} {a0:(List PaUse)} {a1:(List PaUse)} {r:Bool} (h:B2u a0 a1=some r) :
  F0 tab c H (.fn (.func 28) [] []) [(.seq 3 (Zg A6 a0)),(.seq 3 (Zg A6 a1))] [.b r]:= by
 unfold B2u at h
 refine cE Z Z<|s0<|qm Z<|es (ra2 Z Z)<|C1<|s0<|qm Z<|A0 (G1 (f:=A6) Z) Z<|qm Z<|A0 (G1 (f:=A6) Z) Z<|A0 (I9 Z Z) Z<|es (ra3 Z Z Z)<|wi h Z (fun hc1 h=>?_) fun hc1 h=>?_
 ·refine s0<|qm Z<|es (ra1 Z)<|C7 ?_
  obtain rfl:=os h
  exact retq trivial (A7 Z B6) (A5 Z B5) (A3 A4 A8)
 ·refine C3<|C1<|s0<|qm Z<|es (ra3 Z Z Z)<|C8<|oB h fun o8 ho8 h=>wl (fun s2=>[(0,(.seq 3 (Zg A6 a0))),(1,(.seq 3 (Zg A6 a1))),(5,.i s2)]) (fun (q3:Unit) s2=>[]) 0 (fun r e s' H'=>(match r with|(.inl v)=>e=.ret∧RetQ H [.tmp 4] [.b v] e s' H' | (.inr v)=>PX 0 [] (H++[]) e s' H':Prop)) () ho8 Z Z (fun _ _=>rfl) (fun _=>rfl) Z (fun s2=>(bdc K2 (bdc K2 (bdc A4 bdn)))) (fun q3 s2 ys2 hs2=>?_) ?_
  ·unfold B13 at hs2
   refine C1<|s0<|qm Z<|qm Z<|A0 (G1 (f:=A6) Z) Z<|A0 (I4 Z Z) Z<|es (ra4 Z Z Z Z)<|wi hs2 Z (fun hc4 hs2=>?_) fun hc4 hs2=>?_
   ·refine C3<|C1<|C8<|s0<|oB hs2 fun x5 hx5 hs2=>oB hs2 fun x6 hx6 hs2=>qm Z<|qm Z<|A0 (E0 (f:=A6) Z Z hx5) Z<|A0 (G4 Z Z) Z<|qm Z<|qm Z<|A0 (E0 (f:=A6) Z Z hx6) Z<|A0 (G4 Z Z) Z<|A0 (D4g (a:=A6 x5) (b:=A6 x6) Z Z Z Z (S8 (S8 (S8 B0y)))) Z<|es (ra4 Z Z Z Z)<|wi hs2 Z (fun hc7 hs2=>?_) fun hc7 hs2=>?_
    ·refine s0<|qm Z<|es (ra1 Z)<|C7 ?_
     obtain rfl:=os hs2
     exact lx Z (ZF Z (retq trivial (A7 Z B6) (A5 Z B5) (A3 A4 A8))) (Sub.refl _)
    ·refine C3<|r0<|qm Z<|A0 (F7 Z Z) Z<|qm Z<|en (ra3 Z Z Z) ?_
     cases hs2
     exact lnT () Z (su3 Z Z Z)
   ·refine I1 ?_
    obtain rfl:=os hs2
    exact lx Z px (.nil _)
  ·rcases o8 with vo8_0|vo8_1
   ·rintro e s' H'-⟨rfl,hret⟩
    cases h
    exact hret
   ·rintro e s' H'-⟨rfl,rfl,rfl⟩
    refine s0<|qm Z<|es (ra1 Z)<|C7 ?_
    obtain rfl:=os h
    exact retq trivial (A7 Z B6) (A5 Z B5) (A3 A4 A8)
end Pw
end
section
set_option maxRecDepth 100000
set_option maxHeartbeats 0
namespace Am
open Go
section
variable {T:Tab} {s:B8} {H0 H:A1} {l:List AO} {c:Sc} {n0 k0:Nat}
theorem D4k {x:Opd} {b r:Nat} {es:List (AV×AV)} (hx:ev s x=some (.mp b)) (hm:hmap (H0++l) b=some es):One T c (H0.length+k0) s (H0++l) (.rangeM x r) (.itr (H0.length+(k0+r))) (H0++l.set (k0+r) (.mit b es.length [])) :=
 ⟨0,by simp only[core,prim,hx,hm,Nat.add_assoc,G9]⟩
theorem D1n {H L:A1} {b m n:Nat} {seen:List Nat} {e:AV×AV} {es:List (AV×AV)} (hg:hget H b=some (.mit m n seen)) (hm:hmap H m=some es) (h:A89 H b=some e):A89 (H++L) b=some e:= by
 have h1:hget (H++L) b=some (.mit m n seen):=D1e hg L
 have h2:hmap (H++L) m=some es:= by
  have:m<H.length:= by
   unfold hmap hget at hm
   cases e:H[m]? with
   | none=>rw[e]at hm;cases hm
   | some o=>exact(Ze.1 e).1
  unfold hmap hget at hm ⊢
  rw[List.getElem?_append_left this];exact hm
 unfold A89 at h ⊢
 rw[h1]
 rw[hg]at h
 simp only[h2,hm]at h ⊢
 exact h
theorem D6v {x:Opd} {b:Nat} {e:AV×AV} (hx:ev s x=some (.itr b)) (hm:A89 H b=some e):One T c n0 s H (.entry x) (.tup [e.1,e.2]) H:=⟨0,by simp only[core,prim,hx,hm]⟩
end
end Am
namespace Pw
open Go Am Go.Proofs.YtjpjdglddmhplaaGreat.Cd
abbrev Had:=Ar3 Int
theorem C94:KeyOk (κ:=Had) true [0,0,0] (fun x=>.agg (C48 cI x)) (fun x=>C48 cI x):=⟨fun _=>rfl,fun _=>rfl,fun a b=>by
 obtain⟨a1,a2,a3⟩:=a
 obtain⟨b1,b2,b3⟩:=b
 show G6 [.lit (.int .i64 a1),.lit (.int .i64 a2),.lit (.int .i64 a3)] [.lit (.int .i64 b1),.lit (.int .i64 b2),.lit (.int .i64 b3)]=_
 simp only[C7x,Ar3.mk.injEq]
 by_cases h1:a1=b1 <;> by_cases h2:a2=b2 <;> by_cases h3:a3=b3 <;> simp[h1,h2,h3,G6]⟩
abbrev Met:=List (Had×Int)
def C53 (m:Met):List (AV×AV):=m.map (kE (fun x=>.agg (C48 cI x)) (fun n=>.i n))
def D5a (h:Had) (f:Int):Option Bool :=
 if (!((h.x0==0)&&((h.x1==0)&&((h.x2==0)&&true))))=true then (idx h.l f).bind fun v=>some (decide (v>0)) else some false
def D0k (f:Int):Met→Option (List Bool)
 | []=>some []
 | e::l=>(D5a e.1 f).bind fun b=>(D0k f l).bind fun r=>some (b::r)
def cnt (bs:List Bool) (seen:List Nat):Int:=((seen.filter fun i=>bs.getD i false).length:Int)
def C7t (m:Met) (f:Int):Option Int :=
 if m.length<4611686018427387904 then (D0k f m).bind fun bs=>some ((bs.filter fun b=>b).length:Int) else none
theorem C2x {f:Int}:∀{m:Met} {bs:List Bool},D0k f m=some bs→bs.length=m.length∧∀ (i:Nat) (e:Had×Int),m[i]? = some e→D5a e.1 f=some (bs.getD i false)
 | [],bs,h=>by cases h;exact⟨Z,fun i e he=>by simp at he⟩
 | x::m,bs,h=>by
  unfold D0k at h
  refine oB h fun b hb h=>oB h fun r hr h=>?_
  obtain rfl:=os h
  obtain⟨h1,h2⟩:=C2x hr
  refine⟨by simp[h1],fun i e he=>?_⟩
  cases i with
  | zero=>simp at he;subst he;simpa using hb
  | succ i=>simp at he;simpa using h2 i e he
theorem B3e:∀(bs:List Bool),((Z09 bs.length).filter fun i=>bs.getD i false).length=(bs.filter fun b=>b).length
 | []=>rfl
 | b::bs=>by
  rw[ZX,List.range_succ_eq_map,Z20,List.filter_map,Z20]
  have ih:=B3e bs
  have e:(fun i=>(b::bs).getD i false)∘Nat.succ=fun i=>bs.getD i false:= by funext i;simp
  rw[e]
  cases b <;> simp at ih ⊢ <;> exact ih
theorem D5z {bs:List Bool} {seen:List Nat} (hn:seen.Nodup) (hm:∀j,j∈seen↔j<bs.length):cnt bs seen=((bs.filter fun b=>b).length:Int):= by
 have hp:seen.Perm (Z09 bs.length):=(List.perm_ext_iff_of_nodup hn List.nodup_range).mpr fun j=>by rw[hm,List.mem_range]
 unfold cnt
 rw[(hp.filter _).length_eq,B3e]
theorem D8f (bs:List Bool) (seen:List Nat):cnt bs seen≤seen.length:= by
 unfold cnt
 have:=Z4j (fun i=>bs.getD i false) seen
 omega
theorem D26 (bs:List Bool) (seen:List Nat) (i:Nat):cnt bs (seen++[i])=cnt bs seen+(if bs.getD i false=true then 1 else 0):= by
 unfold cnt
 rw[List.filter_append,Zp,Z20]
 by_cases h:bs.getD i false=true
 ·rw[if_pos h,if_pos h];rfl
 ·rw[if_neg h,if_neg h];simp
theorem C2m:∀(n:Nat) (l:List Nat),l.Nodup→(∀ x∈l,x<n)→l.length≤n
 | 0,l,_,h=>by
  cases l with
  | nil=>simp
  | cons x l=>exact absurd (h x (Zz ..)) (Nat.not_lt_zero x)
 | n+1,l,hd,h=>by
  have h1:=C2m n (l.filter fun x=>x != n) (hd.filter _) fun x hx=>by
   have:=Z0h.mp hx
   have h2:=h x this.1
   have h3:x≠n:= by simpa using this.2
   omega
  have h2:(l.filter fun x=>!(x != n)).length≤1:= by
   have hn:(l.filter fun x=>!(x != n)).Nodup:=hd.filter _
   cases hl:l.filter fun x=>!(x != n) with
   | nil=>simp
   | cons a t =>
    cases t with
    | nil=>simp
    | cons b t =>
     rw[hl]at hn
     have ha:a∈l.filter fun x=>!(x != n):= by rw[hl];simp
     have hb:b∈l.filter fun x=>!(x != n):= by rw[hl];simp
     have ea:a=n:= by simpa using (Z0h.mp ha).2
     have eb:b=n:= by simpa using (Z0h.mp hb).2
     subst ea;subst eb
     simp at hn
  have h3:l.length=(l.filter fun x=>x != n).length+(l.filter fun x=>!(x != n)).length:= by
   clear h1 h2 hd h
   induction l with
   | nil=>rfl
   | cons x l ih =>
    rw[Z20,Z20]
    cases x != n <;> simp[ih] <;> omega
  omega
theorem D5e {n:Nat} {seen:List Nat} (hn:seen.Nodup) (hm:∀j∈seen,j<n):seen.length≤n:=C2m n seen hn hm
def C9f:ACode:=(.seq (.cond 69 .skip (.exit 4)) (.block 5 (.s 1 [q 0 70 (.entry 67),EX 1 71 70 0,q 2 14 (.alloc [.lit (.int .i64 0),.lit (.int .i64 0),.lit (.int .i64 0)] [] 0),ST 3 3 14 71] [2,3,8,12,13,14,62,63,67] (.s 0 [LK 0 72 3 14,q 1 73 (.build [.lit (.int .i64 0),.lit (.int .i64 0),.lit (.int .i64 0)] []),q 2 74 (.cmp true [0,0,0] 72 73),M 3 75 74,G 4 76 75 true (.mv 12),G 5 77 75 true (.idxA 1 3 14 76),G 6 78 75 true (.load none 77),G 7 79 75 true (.bin .gtr 78 (.i 0)),q 8 80 (.pick 75 79 (.b false))] [2,3,8,12,13,62,63,67,80] (.cond 80 (.g 0 [M 0 81 13,B 1 82 .add 81 (.i 1),M 2 13 82] [2,3,8,12,13,62,63,67]) .skip)))))
theorem C7u {c:Sc} {Hh:A1} {l m:Nat} {met:Met} {f r:Int} {a2 a3 a8 a62 a63:AV} (hl:hget Hh l=some (.mit m met.length [])) (hm:hmap Hh m=some (C53 met)) (hlm:l≠m) (h:C7t met f=some r)
  (hb2:a2.bd Hh.length=true) (hb3:a3.bd Hh.length=true) (hb8:a8.bd Hh.length=true) (hb62:a62.bd Hh.length=true) (hb63:a63.bd Hh.length=true) :
  WP tab (.loopM 67 68 69 [2,3,8,12,13,62,63,67] [2,3,8,12,13,62,63,67] [2,3,8,12,13,62,63] C9f) [(2,a2),(3,a3),(8,a8),(12,.i f),(13,.i 0),(62,a62),(63,a63),(67,.itr l)] Hh c
   (fun e s' H'=>e=.exit 4∧s'=[(2,a2),(3,a3),(8,a8),(12,.i f),(13,.i r),(62,a62),(63,a63)]∧H'=hset Hh l .dead):= by
 unfold C7t at h
 split at h
 ·next hlen =>
  refine oB h fun bs hbs h=>?_
  obtain rfl:=os h
  obtain⟨hbl,hbg⟩:=C2x hbs
  have hlt:l<Hh.length:= by unfold hget at hl;exact(Ze.1 hl).1
  have hset0:hset Hh l (.mit m met.length [])=Hh:= by
   unfold hset
   unfold hget at hl
   obtain⟨h1,h2⟩:=Ze.1 hl
   rw[← h2];exact List.set_getElem_self h1
  have hmm:∀o,hmap (hset Hh l o) m=some (C53 met):=fun o=>by
   rw[← hm];unfold hmap hget hset;rw[List.getElem?_set_ne hlm]
  have hss:∀o o',hset (hset Hh l o) l o'=hset Hh l o':=fun o o'=>by unfold hset;rw[List.set_set]
  have hgl:∀o,hget (hset Hh l o) l=some o:=fun o=>by unfold hget hset;rw[List.getElem?_set_self hlt]
  have hle:∀o,(hset Hh l o).length=Hh.length:=fun o=>G7 _ _ _
  have key:=D2f (T:=tab) (c:=c) (x:=67) (nx:=68) (ok:=69) (l:=l) (m:=m) (n:=met.length) (live0:=[2,3,8,12,13,62,63,67]) (live:=[2,3,8,12,13,62,63,67]) (liveX:=[2,3,8,12,13,62,63]) (rest:=C9f) (es:=C53 met) (e0:=.exit 4)
   (fun seen=>[(2,a2),(3,a3),(8,a8),(12,.i f),(13,.i (cnt bs seen)),(62,a62),(63,a63),(67,.itr l)]) (fun seen=>hset Hh l (.mit m met.length seen)) [(2,a2),(3,a3),(8,a8),(12,.i f),(13,.i ((bs.filter fun b=>b).length:Int)),(62,a62),(63,a63)] (hset Hh l .dead)
   (fun _=>rfl) (by decide) Z (by decide) (fun _=>rfl) (fun _=>hgl _) (fun _=>hmm _) (by rw[C53,Zj,decide_eq_true Z];rfl) ?_ ?_ ?_
  ·refine A1s (B65 hset0.symm key) ?_
   rintro e s' H' ⟨h1,h2,h3⟩
   exact⟨h1,h2,h3⟩
  ·intro seen i hnd hsl hi hni
   rw[hss,hle]
   obtain⟨e,he⟩:∃e,met[i]? = some e:=⟨_,List.getElem?_eq_getElem hi⟩
   have hpo:=hbg i e he
   have hent:A89 (hset Hh l (.mit m met.length (seen++[i]))) l=some (.agg (C48 cI e.1),.i e.2):= by
    unfold A89
    simp only[hgl,hmm,C53,Zj,if_true,List.getLast?_append,List.getLast?_singleton,Option.some_or,Zd,List.getElem?_map,he,Option.map_some,kE]
   have hw:w64 (cnt bs seen+1)=cnt bs seen+1:= by
    have h1:=D8f bs seen
    have h2:=D5e hnd hsl
    have h3:0≤cnt bs seen:=Z0r _
    unfold w64 IntKind.wrap
    simp[IntKind.bits,IntKind.signed]
    omega
   have hsn:=D26 bs seen i
   have htk:∀Y:List AO,(hset Hh l (.mit m met.length (seen++[i]))++Y).take Hh.length=hset Hh l (.mit m met.length (seen++[i])):=fun Y=>by
    rw[← hle (.mit m met.length (seen++[i]))];exact Z06
   unfold D5a at hpo
   refine W6<|C1<|O9 Z Z<|C3<|C8<|sg 0 Z<|P5 (D6v Z (D1n (hgl _) (hmm _) hent)) Z<|A0 (A9 Z Z) Z<|A0 J6 Z<|P0 (G0 (ds:=C48 cI e.1) Z Z Z Z (F2 Z) Z) Z<|es (ra9 Z Z Z Z Z Z Z Z Z)<|s0<|A0 (D1 Z Z Z) Z<|A0 (R5 (cs:=[.i 0,.i 0,.i 0]) Z Z) Z<|A0 (D4g (a:=C48 cI e.1) (b:=[.i 0,.i 0,.i 0]) Z Z Z Z (S8 (S8 (S8 B0y)))) Z<|qm Z<|gp 5 80 (.b (bs.getD i false)) 75 Z Z (fun hc1=>?_) (fun hc1=>?_) ?_
   ·refine oB (bt hpo hc1) fun v hv hpo=>?_
    have hz:=os hpo
    rw[← hz]
    exact gT Z hc1<|qm Z<|gT Z hc1<|A0 (D4h (e:=Ar3.l e.1) Z Z Z hv) Z<|gT Z hc1<|A0 (D4j (f:=cI) (g:=fun n=>.i n) (e:=Ar3.l e.1) (fun _=>rfl) Z (D9 Z) Z hv) Z<|gT Z hc1<|A0 (Y5 Z Z) Z<|A0 (C6 Z hc1 Z) Z<|ge 5 Z Z Z
   ·have hz:=os (bf hpo hc1)
    rw[← hz]
    exact nT Z hc1 Z<|nT Z hc1 Z<|nT Z hc1 Z<|nT Z hc1 Z<|A0 (C5 Z hc1 Z) Z<|ge 5 Z Z Z
   ·refine es (ra9 Z Z Z Z Z Z Z Z Z) ?_
    rw[hsn]
    by_cases hbi:bs.getD i false=true
    ·rw[if_pos hbi,← hw]
     refine O9 Z hbi<|r0<|qm Z<|A0 (F7 Z Z) Z<|qm Z<|en (ra8 Z Z Z Z Z Z Z Z) ?_
     exact⟨Z,su8 Z Z Z Z Z Z Z Z,htk _⟩
    ·rw[if_neg hbi,Z3f]
     refine R0 Z (by simpa using hbi)<|C3 ?_
     exact⟨Z,su8 Z Z Z Z Z Z Z Z,htk _⟩
  ·intro seen i
   simp only[hle]
   have hbl':(AV.itr l).bd Hh.length=true:= by simp only[AV.bd];exact Nat.ble_eq_true_of_le hlt
   exact bdc hb2 (bdc hb3 (bdc hb8 (bdc A4 (bdc A4 (bdc hb62 (bdc hb63 (bdc hbl' bdn)))))))
  ·intro seen hnd hall
   refine C1<|R0 Z Z<|I1 ?_
   refine⟨Z,Z,?_,⟨_,_,_,hgl _⟩,hss _ _⟩
   rw[← D5z hnd (by rw[hbl];exact hall)]
   exact su7 Z Z Z Z Z Z Z
 ·cases h
end Pw
end
section
set_option maxRecDepth 100000
set_option maxHeartbeats 0
namespace Pw
open Go Am Go.Proofs.YtjpjdglddmhplaaGreat.Cd
def A99 (a0:pawn_found) (a1:pawn_found):Option Int :=
 some (w64 (a0.without_-a1.without_))
theorem B9m {c:Sc} {H:A1} {a0:pawn_found} {a1:pawn_found} {r:Int} (h:A99 a0 a1=some r) :
  F0 tab c H (.fn (.func 74) [] []) [(.agg (C4 a0)),(.agg (C4 a1))] [.i r]:= by
 unfold A99 at h
 refine cE Z Z<|sg 0 Z<|A0 (F6 (cs:=C4 a0) Z Z Z) Z<|A0 (F6 (cs:=C4 a1) Z Z Z) Z<|qm Z<|es (ra2 Z Z)<|s0<|A0 (B9 Z) Z<|A0 (B2 Z Z Z) Z<|A0 (B9 Z) Z<|A0 (B2 Z Z Z) Z<|A0 (V5 Z Z) Z<|qm Z<|es (ra1 Z)<|C7 ?_
 obtain rfl:=os h
 exact retq trivial (A7 Z B6) (A5 Z B5) (A3 A4 A8)
def E04 (few:pawn_found) (x:pawn_found) (m:Met):Option (Met⊕Unit) :=
 (if (x.without_==few.without_)=true then
  (if (!(kget m x.had_).isSome)=true then some true else some (decide (x.cost_<(kget m x.had_).getD 0))).bind fun w=>some w
 else some false).bind fun g =>
 if g=true then some (.inl (kset m x.had_ x.cost_)) else some (.inl m)
def D2w (figs:List PaFigure) (m:Met) (s:List Int×List Int×Int):Option ((List Int×List Int×Int)⊕(List Int×List Int)) :=
 if (decide (s.2.2<(Zh figs:Int)))=true then
  (C7t m s.2.2).bind fun n =>
  (if (n==0)=true then (app 8 s.1 [s.2.2]).bind fun l=>some l else some s.1).bind fun l1 =>
  (if (decide (n<(Zh m:Int)))=true then (app 8 s.2.1 [s.2.2]).bind fun l=>some l else some s.2.1).bind fun l2 =>
  some (.inl (l1,l2,w64 (s.2.2+1)))
 else some (.inr (s.1,s.2.1))
def B5q (a0:PaShow):Option (List Int×List Int×Int) :=
 (A2m a0).bind fun x1 =>
 if (x1.1==0)=true then
  (B8b (B6q a0 x1.2) A99).bind fun few =>
  (B6q a0 x1.2 Met Unit (E04 few.1) []).bind fun o =>
  match o with
  | .inl m=>(loop (D2w a0.Figures m) ([],[],0)).bind fun y=>some (y.1,y.2,0)
  | .inr _=>none
 else some ([],[],x1.1)
theorem E0l {H:A1} {l:List AO} {j n:Nat} (h:Nat.ble (j+1) l.length=true):(AV.asl (H.length+j) n).bd (H++l).length=true:= by rw[Zp];exact A1t h
def A48 (H:A1) (t:PaShow) (X:AO) (days:List Int) (few:pawn_found) (l1 l2:List Int) (m:Met):List AO :=
 [.cells (B1 t),.arr 1 false (l1.map cI),.arr 1 false (l2.map cI),.cells (B1 t),X,.cells (A3t t days),.cells (C4 few),.cells [.ptr (H.length+5) 0],.map (C53 m),.cells [.mp (H.length+8)],.cells [.ptr (H.length+5) 0]]
theorem C38 {c:Sc} {H:A1} (hscv:S7 c H=true) {a0:PaShow} {r:List Int×List Int×Int} (h:B5q a0=some r) :
  F0 tab c H (.fn (.func 29) [] []) [.agg (B1 a0)] [.fresh 1 (r.1.map cI),.fresh 1 (r.2.1.map cI),.i r.2.2]:= by
 unfold B5q at h
 refine oB h fun x1 hx1 h=>?_
 refine cE Z Z<|sg 0 Z<|A0 (F6 (cs:=B1 a0) Z Z Z) Z<|A0 A6x Z<|A0 A6x Z<|qm Z<|es (ra3 Z Z Z)<|s0<|A0 (D1 Z Z Z) Z ?_
 by_cases hc2:(x1.1==0)=true
 ·rw[if_pos hc2]at h
  refine oB h fun few hfew h=>oB h fun o ho h=>?_
  obtain⟨X,hX⟩:=A2y hx1 hc2
  refine P5 (A4m hX Z Z (A2 (D0 Z) B4) Z) Z<|qm Z<|A0 (A9 Z Z) Z<|A0 (A9 Z Z) Z<|qm Z<|qm Z<|es (ra5 Z Z Z Z Z)<|C1<|s0<|qm Z<|A0 (I9 Z Z) Z<|es (ra6 Z Z Z Z Z Z)<|R0 Z Z<|C3<|sg 6 Z<|qm Z<|A5q (as2:=[(.ptr (H.length+5) 0)]) (H1:=H++[.cells (B1 a0),.arr 1 false [],.arr 1 false [],.cells (B1 a0),X,.cells (A3t a0 x1.2),.dead]) Z Z (A2 Z B4) Z Z Z (B08 Z)<|sg 7 Z<|A0 (F6 (cs:=[.ptr (H.length+5) 0]) Z Z Z) Z<|qm Z<|es (ra1 Z)<|s0<|A0 (A34 Z Z) Z<|qm Z<|es (ra1 Z)<|C7<|InlQ.mk trivial ⟨_,_,_,[(.fn (.func 106) [] [(.ptr (H.length+7) 0)])],_,(A7 Z B6),(A5 Z B5),(B06 (V6 (B4u (V6 (A6q Z)))) (B05 Z B43)),?_⟩
  refine B7 (rs:=[(.agg (C4 few.1)),.b few.2]) Z Z (A2 Z (A2 Z B4)) (C3e (C8l (t:=a0) (days:=x1.2) (bS:=H.length+7) (b:=H.length+5)) (fun h=>(B9m h).frz) (ZF (D9 Z) (D9 Z)) (B0m hscv) hfew)<|qm Z<|A0 (A9 Z Z) Z<|A0 (A9 Z Z) Z<|A0 J6 Z<|P0 (G0 (ds:=(C4 few.1)) Z Z Z Z (F2 Z) Z) Z<|qm Z<|es (ra5 Z Z Z Z Z) ?_
  refine sg 8 Z<|A0 D61 Z<|A0 J6 Z<|P0 (G0 (ds:=[.mp (H.length+8)]) Z Z Z Z (A1j (ZL _ _)) Z) Z<|es (ra6 Z Z Z Z Z Z)<|C1<|s0<|qm Z<|A5q (as2:=[(.ptr (H.length+5) 0)]) (H1:=H++[.cells (B1 a0),.arr 1 false [],.arr 1 false [],.cells (B1 a0),X,.cells (A3t a0 x1.2),.cells (C4 few.1),.cells [.ptr (H.length+5) 0],.map [],.cells [.mp (H.length+8)]]) Z Z (A2 Z B4) Z Z Z (B08 Z)<|sg 10 Z<|A0 (F6 (cs:=[.ptr (H.length+5) 0]) Z Z Z) Z<|qm Z<|es (ra1 Z)<|s0<|A0 (A34 Z Z) Z<|qm Z<|es (ra1 Z)<|C7<|InlQ.mk trivial ⟨_,_,_,[(.fn (.func 106) [] [(.ptr (H.length+10) 0)])],_,(A7 Z B6),(A5 Z B5),(B06 (V6 (B4u (V6 (A6q Z)))) (B05 Z B43)),?_⟩
  refine es (ra6 Z Z Z Z Z Z)<|C8 ?_
  have hl11:∀m,(H++A48 H a0 X x1.2 few.1 [] [] m).length=H.length+11:=fun m=>by rw[Zp];rfl
  refine B4n (it:=B6q a0 x1.2) (sh:=shF) (pre:=B5u a0 x1.2 (H.length+10) (H.length+5)) C8l (K:=H.length+11) [(6,.ptr (H.length+6) 0),(8,.ptr (H.length+9) 0)] (fun m=>H++A48 H a0 X x1.2 few.1 [] [] m) (fun (_:Unit)=>H++A48 H a0 X x1.2 few.1 [] [] []) (fun _=>.ret) ho (fun _=>rfl) Z (fun S hS=>P2 (live:=[6,8]) Z (by decide) (Sub.trans (su2 Z Z) hS)) Z (fun _=>hl11 _) (fun _=>hl11 _) ⟨fun _ _=>B5u.app ⟨D9 Z,D9 Z⟩,fun _ _=>B5u.app ⟨D9 Z,D9 Z⟩⟩ (B0m hscv) (fun c' x m o' L v hsc hgr hv hbo y0 y1 hy0 hy1=>?_) ?_
  ·obtain rfl:v=.agg (C4 x):=hv
   have hGl:∀m z,(H++A48 H a0 X x1.2 few.1 [] [] m++z::L).length=H.length+11+1+L.length:=fun m z=>by rw[Zp,hl11];simp;omega
   refine W6<|rg 0 Z<|A0 J6 Z<|P0 (G0 (ds:=C4 x) Z Z Z Z (A1j (by rw[hGl];exact ZL _ _)) Z) Z<|en (ra3 Z Z Z) ⟨Z,L++[.cells (C4 x)],by simp,?_⟩
   refine B65 (show _=H++(A48 H a0 X x1.2 few.1 [] [] m++(y1::(L++[AO.cells (C4 x)]))) by simp) ?_
   rw[show (AV.ptr ((H++A48 H a0 X x1.2 few.1 [] [] m++y0::L).length+(0+0)) 0)=.ptr (H.length+11+1+L.length) 0 by rw[hGl];rfl]
   have q9:∀m,hcells (H++(A48 H a0 X x1.2 few.1 [] [] m++(y1::(L++[AO.cells (C4 x)])))) (H.length+11+1+L.length)=some (C4 x):=fun m=>by
    rw[show H++(A48 H a0 X x1.2 few.1 [] [] m++(y1::(L++[AO.cells (C4 x)])))=(H++A48 H a0 X x1.2 few.1 [] [] m++y1::L)++[AO.cells (C4 x)] by simp,← hGl m y1]
    exact D9 (j:=0) Z
   have htk:∀m,(H++(A48 H a0 X x1.2 few.1 [] [] m++(y1::(L++[AO.cells (C4 x)])))).take (H.length+11+1+L.length)=H++A48 H a0 X x1.2 few.1 [] [] m++y1::L:=fun m=>by
    rw[show H++(A48 H a0 X x1.2 few.1 [] [] m++(y1::(L++[AO.cells (C4 x)])))=(H++A48 H a0 X x1.2 few.1 [] [] m++y1::L)++[AO.cells (C4 x)] by simp,← hGl m y1]
    exact Z06
   unfold E04 at hbo
   refine oB hbo fun g hg hbo=>?_
   refine C8<|s0<|A0 (B2 (x:=.mp (H.length+8)) Z Z Z) Z<|A0 (B9 Z) Z<|A0 (A7z (ds:=C48 cI x.had_) Z (q9 m) Z Z) Z<|A0 (D6w (k:=x.had_) (es:=m) (gv:=fun n=>.i n) (z:=0) C94 Z (A9u Z) Z Z) Z<|qm Z<|A0 (A9 Z Z) Z<|A0 (A9 Z Z) Z<|qm Z<|qm Z<|es (ra5 Z Z Z Z Z)<|s0<|A0 (B9 Z) Z<|A0 (A5e (x:=.i x.without_) Z (q9 m) Z) Z<|A0 (B9 Z) Z<|A0 (B2 (x:=.i few.1.without_) Z Z Z) Z<|A0 (G5 Z Z) Z<|qm Z<|gp 9 54 (.b g) 45 Z Z (fun hc1=>?_) (fun hc1=>?_) ?_
   ·refine oB (bt hg hc1) fun w hw hg=>?_
    obtain rfl:=os hg
    refine gT Z hc1<|qm Z<|gT Z hc1<|A0 (C6a Z Z) Z<|gT Z hc1<|qm Z<|gq 5 53 (.b w) 48 Z Z (fun hc3=>?_) (fun hc3=>?_) ?_
    ·obtain rfl:=os (bt hw hc3)
     exact nF Z hc3 Z<|nF Z hc3 Z<|nF Z hc3 Z<|nF Z hc3 Z<|gT Z hc1<|A0 (C6 Z hc3 Z) Z<|ge 5 Z Z Z
    ·obtain rfl:=os (bf hw hc3)
     exact gF Z hc3<|A0 (B9 Z) Z<|gF Z hc3<|A0 (A5e (x:=.i x.cost_) Z (q9 m) Z) Z<|gF Z hc3<|qm Z<|gF Z hc3<|A0 (I4 Z Z) Z<|gT Z hc1<|A0 (C5 Z hc3 Z) Z<|ge 5 Z Z Z
    ·exact A0 (C6 Z hc1 Z) Z<|ge 5 Z Z Z
   ·obtain rfl:=os (bf hg hc1)
    exact nT Z hc1 Z<|nT Z hc1 Z<|nT Z hc1 Z<|nX Z Z<|nX Z Z<|nX Z Z<|nX Z Z<|nT Z hc1 Z<|A0 (C5 Z hc1 Z) Z<|ge 9 Z Z Z
   ·refine es (ra3 Z Z Z)<|wi hbo Z (fun hc4 hbo=>?_) fun hc4 hbo=>?_
    ·cases hbo
     refine r0<|A0 (B2 (x:=.mp (H.length+8)) Z Z Z) Z<|A0 (B9 Z) Z<|A0 (A7z (ds:=C48 cI x.had_) Z (q9 m) Z Z) Z<|A0 (B9 Z) Z<|A0 (A5e (x:=.i x.cost_) Z (q9 m) Z) Z<|P0 (D6x (k:=x.had_) (v:=x.cost_) (es:=m) (gv:=fun n=>.i n) C94 Z Z Z Z Z) Z<|en .n ⟨Z,htk _⟩
    ·cases hbo
     exact C3 ⟨Z,htk _⟩
  ·rcases o with m|m
   ·refine oB h fun y hy h=>?_
    obtain rfl:=os h
    refine B65 (show _=H++(A48 H a0 X x1.2 few.1 [] [] m++[.dead]) by simp) ?_
    refine C1<|s0<|A0 (B9 Z) Z<|A0 (B2 Z Z Z) Z<|A0 (G1 (f:=B3) Z) Z<|qm Z<|es (ra5 Z Z Z Z Z)<|C8<|wl (fun s=>[(2,.asl (H.length+1) s.1.length),(3,.asl (H.length+2) s.2.1.length),(8,.ptr (H.length+9) 0),(62,.i a0.Figures.length),(63,.i s.2.2)]) (fun (_:Unit) s=>A48 H a0 X x1.2 few.1 s.1 s.2.1 m++[.dead]) 12 (fun r e s' H'=>PX 2 [(2,.asl (H.length+1) r.1.length),(3,.asl (H.length+2) r.2.length)] (H++(A48 H a0 X x1.2 few.1 r.1 r.2 m++[.dead])) e s' H') () hy Z Z (fun _ _=>rfl) (fun _=>rfl) Z (fun _=>bdc (A1t Z) (bdc (A1t Z) (bdc (M3 Z) (bdc A4 (bdc A4 bdn))))) (fun _ s o hs=>?_) ?_
    ·obtain⟨l1,l2,i⟩:=s
     unfold D2w at hs
     refine s0<|A0 (I4 Z Z) Z<|es (ra6 Z Z Z Z Z Z)<|C1<|wi hs Z (fun hc hs=>?_) fun hc hs=>?_
     ·refine oB hs fun n hn hs=>oB hs fun k1 hl1 hs=>oB hs fun k2 hl2 hs=>?_
      simp only at hn hl1 hl2 hs
      refine C3<|C1<|C8<|s0<|qm Z<|qm Z<|es (ra6 Z Z Z Z Z Z)<|s0<|qm Z<|es (ra7 Z Z Z Z Z Z Z)<|C1<|sg 12 Z<|A0 (B2 (x:=.mp (H.length+8)) Z Z Z) Z<|P5 (D4k Z (A9u Z)) Z<|es (ra8 Z Z Z Z Z Z Z Z)<|C8<|A1s (C7u (l:=H.length+12) (m:=H.length+8) (met:=m) (f:=i) (r:=n) (by rw[U2];show some (AO.mit _ (C53 m).length [])=_;rw[C53,Zj]) (A9u Z) (by omega) hn (E0l Z) (E0l Z) (by rw[Zp];exact M3 Z) A4 A4) ?_
      rintro e s' H' ⟨rfl,rfl,rfl⟩
      rw[G9]
      refine C1<|s0<|qm Z<|A0 (G5 Z Z) Z<|es (ra8 Z Z Z Z Z Z Z Z)<|wi hl1 Z (fun hc5 hl1=>?_) fun hc5 hl1=>?_
      ·refine oB hl1 fun l1' hl1' hl1=>?_
       obtain rfl:=os hl1
       refine r0<|qm Z<|qm Z<|A0 (K0 (rows:=Zg cI [i]) Z Z (F3 (fun _=>rfl) _)) Z<|P5 (A55 (f:=cI) (j:=1) Z Z Z Z A6c (fun _=>rfl) hl1') Z<|qm Z<|en (ra7 Z Z Z Z Z Z Z) ?_
       refine s0<|qm Z<|A0 (B2 (x:=.mp (H.length+8)) Z Z Z) Z<|A0 (D4i (es:=m) Z (A9u Z)) Z<|A0 (I4 Z Z) Z<|es (ra7 Z Z Z Z Z Z Z)<|wi hl2 Z (fun hc6 hl2=>?_) fun hc6 hl2=>?_
       ·refine oB hl2 fun l2' hl2' hl2=>?_
        obtain rfl:=os hl2
        refine r0<|qm Z<|qm Z<|A0 (K0 (rows:=Zg cI [i]) Z Z (F3 (fun _=>rfl) _)) Z<|P5 (A55 (f:=cI) (j:=2) Z Z Z Z A6c (fun _=>rfl) hl2') Z<|qm Z<|en (ra5 Z Z Z Z Z) ?_
        obtain rfl:=os hs
        refine r0<|A0 (F7 Z Z) Z<|qm Z<|en (ra5 Z Z Z Z Z) ?_
        exact lnT () Z (su5 Z Z Z Z Z)
       ·obtain rfl:=os hl2
        obtain rfl:=os hs
        refine C3<|r0<|A0 (F7 Z Z) Z<|qm Z<|en (ra5 Z Z Z Z Z) ?_
        exact lnT () Z (su5 Z Z Z Z Z)
      ·obtain rfl:=os hl1
       refine C3 ?_
       refine s0<|qm Z<|A0 (B2 (x:=.mp (H.length+8)) Z Z Z) Z<|A0 (D4i (es:=m) Z (A9u Z)) Z<|A0 (I4 Z Z) Z<|es (ra7 Z Z Z Z Z Z Z)<|wi hl2 Z (fun hc6 hl2=>?_) fun hc6 hl2=>?_
       ·refine oB hl2 fun l2' hl2' hl2=>?_
        obtain rfl:=os hl2
        refine r0<|qm Z<|qm Z<|A0 (K0 (rows:=Zg cI [i]) Z Z (F3 (fun _=>rfl) _)) Z<|P5 (A55 (f:=cI) (j:=2) Z Z Z Z A6c (fun _=>rfl) hl2') Z<|qm Z<|en (ra5 Z Z Z Z Z) ?_
        obtain rfl:=os hs
        refine r0<|A0 (F7 Z Z) Z<|qm Z<|en (ra5 Z Z Z Z Z) ?_
        exact lnT () Z (su5 Z Z Z Z Z)
       ·obtain rfl:=os hl2
        obtain rfl:=os hs
        refine C3<|r0<|A0 (F7 Z Z) Z<|qm Z<|en (ra5 Z Z Z Z Z) ?_
        exact lnT () Z (su5 Z Z Z Z Z)
     ·refine I1 ?_
      obtain rfl:=os hs
      exact lx Z px (su2 Z Z)
    ·rintro e s' H'-⟨rfl,rfl,rfl⟩
     refine s0<|qm Z<|qm Z<|qm Z<|qm Z<|qm Z<|es (ra3 Z Z Z)<|C7 ?_
     exact retq trivial (A7 Z (A7 Z (A7 Z B6))) (A5 (A6a Z (Zj _)) (A5 (A6a Z (Zj _)) (A5 Z B5))) (A3 A0b (A3 A0b (A3 A4 A8)))
   ·cases h
 ·rw[if_neg hc2]at h
  obtain rfl:=os h
  refine P5 (R6 (rs:=[.lit (.pointer none),.i x1.1]) Z Z (A2 (D0 Z) B4) (A3w hx1 (by simpa using hc2)) Z) Z<|qm Z<|A0 (A9 Z Z) Z<|A0 (A9 Z Z) Z<|qm Z<|qm Z<|es (ra5 Z Z Z Z Z)<|C1<|s0<|qm Z<|A0 (I9 Z Z) Z<|es (ra6 Z Z Z Z Z Z)<|O9 Z (nef hc2)<|sg 3 Z<|qm Z<|A0 A6x Z<|A0 A6x Z<|qm Z<|es (ra3 Z Z Z)<|C7 ?_
  exact retq trivial (A7 Z (A7 Z (A7 Z B6))) (A5 (A6a Z Z) (A5 (A6a Z Z) (A5 Z B5))) (A3 A0b (A3 A0b (A3 A4 A8)))
def T6 :Option Bool :=
 (A8s false).bind fun x1 =>
 (A8s true).bind fun x2 =>
 (A23 x1 0 10).bind fun x3 =>
 (A05 x1 2 2).bind fun x4 =>
 (A05 x1 2 1).bind fun x5 =>
 (A38 x1 1).bind fun x6 =>
 (A30).bind fun x7 =>
 (Z4 x1 x7 45).bind fun x8 =>
 (A30).bind fun x9 =>
 (X0 x1 x9).bind fun x10 =>
 (A30).bind fun x11 =>
 (X0 x2 x11).bind fun x12 =>
 (A37 x1).bind fun x13 =>
 (A37 x2).bind fun x14 =>
 (B5q x2).bind fun x15 =>
 (B5s x2).bind fun x16 =>
 (A30).bind fun x17 =>
 (B5r x1 x17).bind fun x18 =>
 (if ((((((((((((((x3.2==0)&&(x4.2==0))&&(x6.2==0))&&(x8.2==0))&&(x12.2==0))&&(x13.2.2.2==0))&&(x14.2.2.2==0))&&(x15.2.2==0))&&(x16.2==0))&&(x18.2==0))&&(x5.2==9))&&(x10.2==4))&&(x3.1==110))&&(x4.1==48))=true then
  (Z8 x6.1 [0,1,2]).bind fun x33 =>
  some x33
 else
  some false).bind fun x34 =>
 (if ((x34&&(x8.1==102))&&(x12.1==0))=true then
  (R3 0 2 0).bind fun x38 =>
  (R3 1 0 0).bind fun x39 =>
  (R3 2 2 0).bind fun x40 =>
  (B2u x13.1 [x38,x39,x40]).bind fun x41 =>
  some x41
 else
  some false).bind fun x42 =>
 (if (((x42&&(x13.2.1==0))&&(x13.2.2.1==78))&&(x14.2.1==2))=true then
  (Z8 x15.1 [0,2]).bind fun x47 =>
  some x47
 else
  some false).bind fun x48 =>
 (if x48=true then
  (Z8 x15.2.1 [0,2]).bind fun x50 =>
  some x50
 else
  some false).bind fun x51 =>
 (if (x51&&(x16.1==58))=true then
  (Z8 x18.1 [2]).bind fun x54 =>
  some x54
 else
  some false).bind fun x55 =>
 some x55
theorem U5 {c:Sc} {H:A1} (hscv:S7 c H=true)  {r:Bool} (h:T6  = some r) :
  F0 tab c H (.fn (.func 19) [] []) [] [.b r]:= by
 unfold T6 at h
 refine cE Z Z<|s0<|qm Z<|es .n<|sg 0 Z<|oB h fun x1 hx1 h=>oB h fun x2 hx2 h=>B7 (rs:=[(.agg (B1 x1))]) Z Z (A2 Z B4) ((B1x hx1).frz)<|B7 (rs:=[(.agg (B1 x2))]) Z Z (A2 Z B4) ((B1x hx2).frz)<|A0 J6 Z<|A0 J6 Z<|P0 (G0 (ds:=(B1 x1)) Z Z Z Z (F2 Z) Z) Z<|P0 (G0 (ds:=(B1 x2)) Z Z Z Z (F2 Z) Z) Z<|es (ra2 Z Z)<|s0<|oB h fun x3 hx3 h=>A0 (D1 Z Z Z) Z<|B7 (rs:=[.i x3.1,.i x3.2]) Z Z (A2 (D0 Z) (A2 Z (A2 Z B4))) ((A93 hx3).frz)<|qm Z<|A0 (A9 Z Z) Z<|A0 (A9 Z Z) Z<|qm Z<|qm Z<|es (ra4 Z Z Z Z)<|s0<|oB h fun x4 hx4 h=>A0 (D1 Z Z Z) Z<|B7 (rs:=[.i x4.1,.i x4.2]) Z Z (A2 (D0 Z) (A2 Z (A2 Z B4))) ((A57 hx4).frz)<|qm Z<|A0 (A9 Z Z) Z<|A0 (A9 Z Z) Z<|qm Z<|qm Z<|es (ra6 Z Z Z Z Z Z)<|s0<|oB h fun x5 hx5 h=>A0 (D1 Z Z Z) Z<|B7 (rs:=[.i x5.1,.i x5.2]) Z Z (A2 (D0 Z) (A2 Z (A2 Z B4))) ((A57 hx5).frz)<|qm Z<|A0 (A9 Z Z) Z<|A0 (A9 Z Z) Z<|qm Z<|qm Z<|es (ra7 Z Z Z Z Z Z Z)<|s0<|oB h fun x6 hx6 h=>A0 (D1 Z Z Z) Z<|B7 (rs:=[(.seq 1 (Zg cI x6.1)),.i x6.2]) Z Z (A2 (D0 Z) (A2 Z B4)) ((B1z hx6).frz)<|qm Z<|A0 (A9 Z Z) Z<|A0 (A9 Z Z) Z<|qm Z<|qm Z<|es (ra9 Z Z Z Z Z Z Z Z Z)<|s0<|oB h fun x7 hx7 h=>oB h fun x8 hx8 h=>A0 (D1 Z Z Z) Z<|U7 (rs:=[(.seq 3 (Zg A6 x7))]) Z Z A0p B4 ((A4l hx7).frz)<|B7 (rs:=[.i x8.1,.i x8.2]) Z Z (A2 (D0 Z) (A2 Z (A2 Z B4))) ((A11 hx8).frz)<|qm Z ?_
 refine A0 (A9 Z Z) Z<|A0 (A9 Z Z) Z<|qm Z<|qm Z<|es (ra11 Z Z Z Z Z Z Z Z Z Z Z)<|s0<|oB h fun x9 hx9 h=>oB h fun x10 hx10 h=>A0 (D1 Z Z Z) Z<|U7 (rs:=[(.seq 3 (Zg A6 x9))]) Z Z A0p B4 ((A4l hx9).frz)<|B7 (rs:=[.i x10.1,.i x10.2]) Z Z (A2 (D0 Z) (A2 Z B4)) ((A12 hx10).frz)<|qm Z<|A0 (A9 Z Z) Z<|A0 (A9 Z Z) Z<|qm Z<|qm Z<|es (ra12 Z Z Z Z Z Z Z Z Z Z Z Z)<|s0<|oB h fun x11 hx11 h=>oB h fun x12 hx12 h=>A0 (D1 Z Z Z) Z<|U7 (rs:=[(.seq 3 (Zg A6 x11))]) Z Z A0p B4 ((A4l hx11).frz)<|B7 (rs:=[.i x12.1,.i x12.2]) Z Z (A2 (D0 Z) (A2 Z B4)) ((A12 hx12).frz)<|qm Z<|A0 (A9 Z Z) Z<|A0 (A9 Z Z) Z<|qm Z<|qm Z<|es (ra14 Z Z Z Z Z Z Z Z Z Z Z Z Z Z)<|s0<|oB h fun x13 hx13 h=>A0 (D1 Z Z Z) Z<|B7 (rs:=[(.seq 3 (Zg A6 x13.1)),.i x13.2.1,.i x13.2.2.1,.i x13.2.2.2]) Z Z (A2 (D0 Z) B4) ((A8v (B0m hscv) hx13).frz)<|qm Z<|A0 (A9 Z Z) Z<|A0 (A9 Z Z) Z<|A0 (A9 Z Z) Z<|A0 (A9 Z Z) Z<|qm Z<|qm Z<|qm Z<|qm Z<|es (.k Z (.k Z (.k Z (.k Z (.k Z (.k Z (.k Z (.k Z (.k Z (.k Z (.k Z (.k Z (.k Z (.k Z (.k Z (.k Z (.k Z (.k Z .n))))))))))))))))))<|s0<|oB h fun x14 hx14 h=>A0 (D1 Z Z Z) Z<|B7 (rs:=[(.seq 3 (Zg A6 x14.1)),.i x14.2.1,.i x14.2.2.1,.i x14.2.2.2]) Z Z (A2 (D0 Z) B4) ((A8v (B0m hscv) hx14).frz)<|qm Z<|A0 (A9 Z Z) Z<|A0 (A9 Z Z) Z<|A0 (A9 Z Z) Z<|A0 (A9 Z Z) Z<|qm Z<|qm Z<|qm Z<|qm Z<|es (.k Z (.k Z (.k Z (.k Z (.k Z (.k Z (.k Z (.k Z (.k Z (.k Z (.k Z (.k Z (.k Z (.k Z (.k Z (.k Z (.k Z (.k Z (.k Z (.k Z .n))))))))))))))))))))<|s0<|oB h fun x15 hx15 h=>A0 (D1 Z Z Z) Z<|B7 (rs:=[(.seq 1 (Zg cI x15.1)),(.seq 1 (Zg cI x15.2.1)),.i x15.2.2]) Z Z (A2 (D0 Z) B4) ((C38 (B0m hscv) hx15).frz) ?_
 refine qm Z<|A0 (A9 Z Z) Z<|A0 (A9 Z Z) Z<|A0 (A9 Z Z) Z<|qm Z<|qm Z<|qm Z<|es (.k Z (.k Z (.k Z (.k Z (.k Z (.k Z (.k Z (.k Z (.k Z (.k Z (.k Z (.k Z (.k Z (.k Z (.k Z (.k Z (.k Z (.k Z (.k Z (.k Z (.k Z (.k Z (.k Z .n)))))))))))))))))))))))<|s0<|oB h fun x16 hx16 h=>A0 (D1 Z Z Z) Z<|B7 (rs:=[.i x16.1,.i x16.2]) Z Z (A2 (D0 Z) B4) ((C4a (B0m hscv) hx16).frz)<|qm Z<|A0 (A9 Z Z) Z<|A0 (A9 Z Z) Z<|qm Z<|qm Z<|es (.k Z (.k Z (.k Z (.k Z (.k Z (.k Z (.k Z (.k Z (.k Z (.k Z (.k Z (.k Z (.k Z (.k Z (.k Z (.k Z (.k Z (.k Z (.k Z (.k Z (.k Z (.k Z (.k Z (.k Z .n))))))))))))))))))))))))<|s0<|oB h fun x17 hx17 h=>oB h fun x18 hx18 h=>A0 (D1 Z Z Z) Z<|U7 (rs:=[(.seq 3 (Zg A6 x17))]) Z Z A0p B4 ((A4l hx17).frz)<|B7 (rs:=[(.seq 1 (Zg cI x18.1)),.i x18.2]) Z Z (A2 (D0 Z) (A2 Z B4)) ((C39 hx18).frz)<|qm Z<|A0 (A9 Z Z) Z<|A0 (A9 Z Z) Z<|qm Z<|qm Z<|es (.k Z (.k Z (.k Z (.k Z (.k Z (.k Z (.k Z (.k Z (.k Z (.k Z (.k Z (.k Z (.k Z (.k Z (.k Z (.k Z (.k Z (.k Z (.k Z (.k Z (.k Z (.k Z (.k Z (.k Z (.k Z .n)))))))))))))))))))))))))<|s0<|oB h fun x34 hx34 h=>oB h fun x42 hx42 h=>oB h fun x48 hx48 h=>oB h fun x51 hx51 h=>oB h fun x55 hx55 h=>qm Z<|A0 (G5 Z Z) Z<|qm Z<|gp 3 108 (.b ((x3.2==0)&&(x4.2==0))) 105 Z Z (fun hg19=>?_) (fun hg19=>?_) ?_
 ·exact gT Z hg19<|qm Z<|gT Z hg19<|A0 (G5 Z Z) Z<|A0 (C6 Z hg19 Z) Z<|ge 3 (by rw[hg19];rfl) Z Z
 ·exact nT Z hg19 Z<|nT Z hg19 Z<|A0 (C5 Z hg19 Z) Z<|ge 3 (by rw[hg19];rfl) Z Z
 refine qm Z<|gp 3 112 (.b (((x3.2==0)&&(x4.2==0))&&(x6.2==0))) 109 Z Z (fun hg20=>?_) (fun hg20=>?_) ?_
 ·exact gT Z hg20<|qm Z<|gT Z hg20<|A0 (G5 Z Z) Z<|A0 (C6 Z hg20 Z) Z<|ge 3 (by rw[hg20];rfl) Z Z
 ·exact nT Z hg20 Z<|nT Z hg20 Z<|A0 (C5 Z hg20 Z) Z<|ge 3 (by rw[hg20];rfl) Z Z
 refine qm Z<|gp 3 116 (.b ((((x3.2==0)&&(x4.2==0))&&(x6.2==0))&&(x8.2==0))) 113 Z Z (fun hg21=>?_) (fun hg21=>?_) ?_
 ·exact gT Z hg21<|qm Z<|gT Z hg21<|A0 (G5 Z Z) Z<|A0 (C6 Z hg21 Z) Z<|ge 3 (by rw[hg21];rfl) Z Z
 ·exact nT Z hg21 Z<|nT Z hg21 Z<|A0 (C5 Z hg21 Z) Z<|ge 3 (by rw[hg21];rfl) Z Z
 refine qm Z<|gp 3 120 (.b (((((x3.2==0)&&(x4.2==0))&&(x6.2==0))&&(x8.2==0))&&(x12.2==0))) 117 Z Z (fun hg22=>?_) (fun hg22=>?_) ?_
 ·exact gT Z hg22<|qm Z<|gT Z hg22<|A0 (G5 Z Z) Z<|A0 (C6 Z hg22 Z) Z<|ge 3 (by rw[hg22];rfl) Z Z
 ·exact nT Z hg22 Z<|nT Z hg22 Z<|A0 (C5 Z hg22 Z) Z<|ge 3 (by rw[hg22];rfl) Z Z
 refine qm Z<|gp 3 124 (.b ((((((x3.2==0)&&(x4.2==0))&&(x6.2==0))&&(x8.2==0))&&(x12.2==0))&&(x13.2.2.2==0))) 121 Z Z (fun hg23=>?_) (fun hg23=>?_) ?_
 ·exact gT Z hg23<|qm Z<|gT Z hg23<|A0 (G5 Z Z) Z<|A0 (C6 Z hg23 Z) Z<|ge 3 (by rw[hg23];rfl) Z Z
 ·exact nT Z hg23 Z<|nT Z hg23 Z<|A0 (C5 Z hg23 Z) Z<|ge 3 (by rw[hg23];rfl) Z Z
 refine qm Z<|gp 3 128 (.b (((((((x3.2==0)&&(x4.2==0))&&(x6.2==0))&&(x8.2==0))&&(x12.2==0))&&(x13.2.2.2==0))&&(x14.2.2.2==0))) 125 Z Z (fun hg24=>?_) (fun hg24=>?_) ?_
 ·exact gT Z hg24<|qm Z<|gT Z hg24<|A0 (G5 Z Z) Z<|A0 (C6 Z hg24 Z) Z<|ge 3 (by rw[hg24];rfl) Z Z
 ·exact nT Z hg24 Z<|nT Z hg24 Z<|A0 (C5 Z hg24 Z) Z<|ge 3 (by rw[hg24];rfl) Z Z
 refine qm Z<|gp 3 132 (.b ((((((((x3.2==0)&&(x4.2==0))&&(x6.2==0))&&(x8.2==0))&&(x12.2==0))&&(x13.2.2.2==0))&&(x14.2.2.2==0))&&(x15.2.2==0))) 129 Z Z (fun hg25=>?_) (fun hg25=>?_) ?_
 ·exact gT Z hg25<|qm Z<|gT Z hg25<|A0 (G5 Z Z) Z<|A0 (C6 Z hg25 Z) Z<|ge 3 (by rw[hg25];rfl) Z Z
 ·exact nT Z hg25 Z<|nT Z hg25 Z<|A0 (C5 Z hg25 Z) Z<|ge 3 (by rw[hg25];rfl) Z Z
 refine qm Z<|gp 3 136 (.b (((((((((x3.2==0)&&(x4.2==0))&&(x6.2==0))&&(x8.2==0))&&(x12.2==0))&&(x13.2.2.2==0))&&(x14.2.2.2==0))&&(x15.2.2==0))&&(x16.2==0))) 133 Z Z (fun hg26=>?_) (fun hg26=>?_) ?_
 ·exact gT Z hg26<|qm Z<|gT Z hg26<|A0 (G5 Z Z) Z<|A0 (C6 Z hg26 Z) Z<|ge 3 (by rw[hg26];rfl) Z Z
 ·exact nT Z hg26 Z<|nT Z hg26 Z<|A0 (C5 Z hg26 Z) Z<|ge 3 (by rw[hg26];rfl) Z Z
 refine qm Z<|gp 3 140 (.b ((((((((((x3.2==0)&&(x4.2==0))&&(x6.2==0))&&(x8.2==0))&&(x12.2==0))&&(x13.2.2.2==0))&&(x14.2.2.2==0))&&(x15.2.2==0))&&(x16.2==0))&&(x18.2==0))) 137 Z Z (fun hg27=>?_) (fun hg27=>?_) ?_
 ·exact gT Z hg27<|qm Z<|gT Z hg27<|A0 (G5 Z Z) Z<|A0 (C6 Z hg27 Z) Z<|ge 3 (by rw[hg27];rfl) Z Z
 ·exact nT Z hg27 Z<|nT Z hg27 Z<|A0 (C5 Z hg27 Z) Z<|ge 3 (by rw[hg27];rfl) Z Z
 refine qm Z<|gp 3 144 (.b (((((((((((x3.2==0)&&(x4.2==0))&&(x6.2==0))&&(x8.2==0))&&(x12.2==0))&&(x13.2.2.2==0))&&(x14.2.2.2==0))&&(x15.2.2==0))&&(x16.2==0))&&(x18.2==0))&&(x5.2==9))) 141 Z Z (fun hg28=>?_) (fun hg28=>?_) ?_
 ·exact gT Z hg28<|qm Z<|gT Z hg28<|A0 (G5 Z Z) Z<|A0 (C6 Z hg28 Z) Z<|ge 3 (by rw[hg28];rfl) Z Z
 ·exact nT Z hg28 Z<|nT Z hg28 Z<|A0 (C5 Z hg28 Z) Z<|ge 3 (by rw[hg28];rfl) Z Z
 refine qm Z<|gp 3 148 (.b ((((((((((((x3.2==0)&&(x4.2==0))&&(x6.2==0))&&(x8.2==0))&&(x12.2==0))&&(x13.2.2.2==0))&&(x14.2.2.2==0))&&(x15.2.2==0))&&(x16.2==0))&&(x18.2==0))&&(x5.2==9))&&(x10.2==4))) 145 Z Z (fun hg29=>?_) (fun hg29=>?_) ?_
 ·exact gT Z hg29<|qm Z<|gT Z hg29<|A0 (G5 Z Z) Z<|A0 (C6 Z hg29 Z) Z<|ge 3 (by rw[hg29];rfl) Z Z
 ·exact nT Z hg29 Z<|nT Z hg29 Z<|A0 (C5 Z hg29 Z) Z<|ge 3 (by rw[hg29];rfl) Z Z
 refine qm Z<|gp 3 152 (.b (((((((((((((x3.2==0)&&(x4.2==0))&&(x6.2==0))&&(x8.2==0))&&(x12.2==0))&&(x13.2.2.2==0))&&(x14.2.2.2==0))&&(x15.2.2==0))&&(x16.2==0))&&(x18.2==0))&&(x5.2==9))&&(x10.2==4))&&(x3.1==110))) 149 Z Z (fun hg30=>?_) (fun hg30=>?_) ?_
 ·exact gT Z hg30<|qm Z<|gT Z hg30<|A0 (G5 Z Z) Z<|A0 (C6 Z hg30 Z) Z<|ge 3 (by rw[hg30];rfl) Z Z
 ·exact nT Z hg30 Z<|nT Z hg30 Z<|A0 (C5 Z hg30 Z) Z<|ge 3 (by rw[hg30];rfl) Z Z
 refine qm Z<|gp 3 156 (.b ((((((((((((((x3.2==0)&&(x4.2==0))&&(x6.2==0))&&(x8.2==0))&&(x12.2==0))&&(x13.2.2.2==0))&&(x14.2.2.2==0))&&(x15.2.2==0))&&(x16.2==0))&&(x18.2==0))&&(x5.2==9))&&(x10.2==4))&&(x3.1==110))&&(x4.1==48))) 153 Z Z (fun hg31=>?_) (fun hg31=>?_) ?_
 ·exact gT Z hg31<|qm Z<|gT Z hg31<|A0 (G5 Z Z) Z<|A0 (C6 Z hg31 Z) Z<|ge 3 (by rw[hg31];rfl) Z Z
 ·exact nT Z hg31 Z<|nT Z hg31 Z<|A0 (C5 Z hg31 Z) Z<|ge 3 (by rw[hg31];rfl) Z Z
 refine qm Z<|gp 4 161 (.b x34) 157 Z Z (fun hg32=>?_) (fun hg32=>?_) ?_
 ·refine oB (bt hx34 hg32) fun x33 hx33 hx34=>?_
  obtain rfl:=os hx34
  exact gT Z hg32<|qm Z<|gT Z hg32<|A0 (K0 (rows:=Zg cI [0,1,2]) Z Z (F3 (fun _=>rfl) _)) Z<|gT Z hg32<|B7 (rs:=[.b x33]) Z Z (A2 Z (A2 Z B4)) ((A13 hx33).frz)<|A0 (C6 Z hg32 Z) Z<|ge 4 Z Z Z
 ·obtain rfl:=os (bf hx34 hg32)
  exact nT Z hg32 Z<|nT Z hg32 Z<|H7 (D5 Z (by rw[hg32];rfl)) Z<|A0 (C5 Z hg32 Z) Z<|ge 4 Z Z Z
 refine qm Z<|gp 3 165 (.b (x34&&(x8.1==102))) 162 Z Z (fun hg35=>?_) (fun hg35=>?_) ?_
 ·exact gT Z hg35<|qm Z<|gT Z hg35<|A0 (G5 Z Z) Z<|A0 (C6 Z hg35 Z) Z<|ge 3 (by rw[hg35];rfl) Z Z
 ·exact nT Z hg35 Z<|nT Z hg35 Z<|A0 (C5 Z hg35 Z) Z<|ge 3 (by rw[hg35];rfl) Z Z
 refine qm Z<|gp 3 169 (.b ((x34&&(x8.1==102))&&(x12.1==0))) 166 Z Z (fun hg36=>?_) (fun hg36=>?_) ?_
 ·exact gT Z hg36<|qm Z<|gT Z hg36<|A0 (G5 Z Z) Z<|A0 (C6 Z hg36 Z) Z<|ge 3 (by rw[hg36];rfl) Z Z
 ·exact nT Z hg36 Z<|nT Z hg36 Z<|A0 (C5 Z hg36 Z) Z<|ge 3 (by rw[hg36];rfl) Z Z
 refine qm Z<|gp 7 177 (.b x42) 170 Z Z (fun hg37=>?_) (fun hg37=>?_) ?_
 ·refine oB (bt hx42 hg37) fun x38 hx38 hx42=>oB hx42 fun x39 hx39 hx42=>oB hx42 fun x40 hx40 hx42=>oB hx42 fun x41 hx41 hx42=>?_
  obtain rfl:=os hx42
  exact gT Z hg37<|qm Z<|gT Z hg37<|B7 (rs:=[(.agg (A6 x38))]) Z Z (A2 Z (A2 Z (A2 Z B4))) ((W0 hx38).frz)<|gT Z hg37<|B7 (rs:=[(.agg (A6 x39))]) Z Z (A2 Z (A2 Z (A2 Z B4))) ((W0 hx39).frz)<|gT Z hg37<|B7 (rs:=[(.agg (A6 x40))]) Z Z (A2 Z (A2 Z (A2 Z B4))) ((W0 hx40).frz)<|gT Z hg37<|A0 (K0 (rows:=Zg A6 [x38,x39,x40]) Z Z (F3 (fun _=>rfl) _)) Z<|gT Z hg37<|B7 (rs:=[.b x41]) Z Z (A2 Z (A2 Z B4)) ((C07 hx41).frz)<|A0 (C6 Z hg37 Z) Z<|ge 7 Z Z Z
 ·obtain rfl:=os (bf hx42 hg37)
  exact nT Z hg37 Z<|H7 (D5 Z (by rw[hg37];rfl)) Z<|H7 (D5 Z (by rw[hg37];rfl)) Z<|H7 (D5 Z (by rw[hg37];rfl)) Z<|nT Z hg37 Z<|H7 (D5 Z (by rw[hg37];rfl)) Z<|A0 (C5 Z hg37 Z) Z<|ge 7 Z Z Z
 refine qm Z<|gp 3 181 (.b (x42&&(x13.2.1==0))) 178 Z Z (fun hg43=>?_) (fun hg43=>?_) ?_
 ·exact gT Z hg43<|qm Z<|gT Z hg43<|A0 (G5 Z Z) Z<|A0 (C6 Z hg43 Z) Z<|ge 3 (by rw[hg43];rfl) Z Z
 ·exact nT Z hg43 Z<|nT Z hg43 Z<|A0 (C5 Z hg43 Z) Z<|ge 3 (by rw[hg43];rfl) Z Z
 refine qm Z<|gp 3 185 (.b ((x42&&(x13.2.1==0))&&(x13.2.2.1==78))) 182 Z Z (fun hg44=>?_) (fun hg44=>?_) ?_
 ·exact gT Z hg44<|qm Z<|gT Z hg44<|A0 (G5 Z Z) Z<|A0 (C6 Z hg44 Z) Z<|ge 3 (by rw[hg44];rfl) Z Z
 ·exact nT Z hg44 Z<|nT Z hg44 Z<|A0 (C5 Z hg44 Z) Z<|ge 3 (by rw[hg44];rfl) Z Z
 refine qm Z<|gp 3 189 (.b (((x42&&(x13.2.1==0))&&(x13.2.2.1==78))&&(x14.2.1==2))) 186 Z Z (fun hg45=>?_) (fun hg45=>?_) ?_
 ·exact gT Z hg45<|qm Z<|gT Z hg45<|A0 (G5 Z Z) Z<|A0 (C6 Z hg45 Z) Z<|ge 3 (by rw[hg45];rfl) Z Z
 ·exact nT Z hg45 Z<|nT Z hg45 Z<|A0 (C5 Z hg45 Z) Z<|ge 3 (by rw[hg45];rfl) Z Z
 refine qm Z<|gp 4 194 (.b x48) 190 Z Z (fun hg46=>?_) (fun hg46=>?_) ?_
 ·refine oB (bt hx48 hg46) fun x47 hx47 hx48=>?_
  obtain rfl:=os hx48
  exact gT Z hg46<|qm Z<|gT Z hg46<|A0 (K0 (rows:=Zg cI [0,2]) Z Z (F3 (fun _=>rfl) _)) Z<|gT Z hg46<|B7 (rs:=[.b x47]) Z Z (A2 Z (A2 Z B4)) ((A13 hx47).frz)<|A0 (C6 Z hg46 Z) Z<|ge 4 Z Z Z
 ·obtain rfl:=os (bf hx48 hg46)
  exact nT Z hg46 Z<|nT Z hg46 Z<|H7 (D5 Z (by rw[hg46];rfl)) Z<|A0 (C5 Z hg46 Z) Z<|ge 4 Z Z Z
 refine qm Z<|gp 4 199 (.b x51) 195 Z Z (fun hg49=>?_) (fun hg49=>?_) ?_
 ·refine oB (bt hx51 hg49) fun x50 hx50 hx51=>?_
  obtain rfl:=os hx51
  exact gT Z hg49<|qm Z<|gT Z hg49<|A0 (K0 (rows:=Zg cI [0,2]) Z Z (F3 (fun _=>rfl) _)) Z<|gT Z hg49<|B7 (rs:=[.b x50]) Z Z (A2 Z (A2 Z B4)) ((A13 hx50).frz)<|A0 (C6 Z hg49 Z) Z<|ge 4 Z Z Z
 ·obtain rfl:=os (bf hx51 hg49)
  exact nT Z hg49 Z<|nT Z hg49 Z<|H7 (D5 Z (by rw[hg49];rfl)) Z<|A0 (C5 Z hg49 Z) Z<|ge 4 Z Z Z
 refine qm Z<|gp 3 203 (.b (x51&&(x16.1==58))) 200 Z Z (fun hg52=>?_) (fun hg52=>?_) ?_
 ·exact gT Z hg52<|qm Z<|gT Z hg52<|A0 (G5 Z Z) Z<|A0 (C6 Z hg52 Z) Z<|ge 3 (by rw[hg52];rfl) Z Z
 ·exact nT Z hg52 Z<|nT Z hg52 Z<|A0 (C5 Z hg52 Z) Z<|ge 3 (by rw[hg52];rfl) Z Z
 refine qm Z<|gp 4 208 (.b x55) 204 Z Z (fun hg53=>?_) (fun hg53=>?_) ?_
 ·refine oB (bt hx55 hg53) fun x54 hx54 hx55=>?_
  obtain rfl:=os hx55
  exact gT Z hg53<|qm Z<|gT Z hg53<|A0 (K0 (rows:=Zg cI [2]) Z Z (F3 (fun _=>rfl) _)) Z<|gT Z hg53<|B7 (rs:=[.b x54]) Z Z (A2 Z (A2 Z B4)) ((A13 hx54).frz)<|A0 (C6 Z hg53 Z) Z<|ge 4 Z Z Z
 ·obtain rfl:=os (bf hx55 hg53)
  exact nT Z hg53 Z<|nT Z hg53 Z<|H7 (D5 Z (by rw[hg53];rfl)) Z<|A0 (C5 Z hg53 Z) Z<|ge 4 Z Z Z
 refine qm Z<|es (ra1 Z)<|C7 ?_
 obtain rfl:=os h
 exact retq trivial (A7 Z B6) (A5 Z B5) (A3 A4 A8)
end Pw
end
section
set_option maxRecDepth 100000
namespace Pw
theorem awake:T6=some true:= by decide +kernel
end Pw
end
section
set_option maxRecDepth 10000
namespace Pw
open Go Am
theorem D1l:∀l n:Fin 16,A4v ⟨ByteArray.empty,(l.val:Int),false,0,0,0,0,0⟩ ⟨ByteArray.empty,0,0,(n.val:Int)⟩=some (A1e (n.val:Int) (l.val:Int)==0):= by decide +kernel
theorem C4h {g:PaGown} (hg:GwOk g) {y:PaFigure} (hy:FgOk y):A4v g y=some (B3t g y):= by
 have h1:=hg.looks
 have h2:=hy.needs
 have:=D1l ⟨g.Looks.toNat,by omega⟩ ⟨y.Needs.toNat,by omega⟩
 simp only at this
 rw[Z4r h1.1,Z4r h2.1]at this
 exact this
theorem C6q (g:PaGown) (x:PaUse):A6f g x=some (A7t g x):= by
 unfold A6f A7t
 cases g.Pawn
 ·simp
 ·simp only[A3z,Zd]
  generalize out 0 364 x.Day=b
  cases b <;> cases x.How==2&&x.Day==0 <;> cases x.How==1 <;> rfl
theorem B2v {s:PaShow} (hs:ShOk s) {f:Int} (hf:0≤f∧f<s.Figures.length) (x:PaUse):A26 s f x=some (X4 s.Gowns s.Figures[f.toNat]! x):= by
 have hG:=hs.gowns
 unfold A26 X4
 by_cases hx:x.Gown = -1
 ·rw[if_pos (by simp[hx]),if_pos hx]
  by_cases hb:x.How=0∧x.Day=0
  ·rw[if_pos hb,if_neg (by simp[hb.1,hb.2])]
  ·rw[if_neg hb,if_pos (by simp;omega)]
 ·rw[if_neg (by simp[hx]),if_neg hx,F5 (by omega),A3z]
  simp only[Zd,Bool.not_not]
  cases ho:out 0 ((s.Gowns.length:Int)-1) x.Gown with
  | true=>rfl
  | false =>
   have hg:=O2.mp ho
   simp only[Zi,if_false]
   rw[Y8 (l:=s.Gowns) hg.1 (by omega),Y8 (l:=s.Figures) hf.1 hf.2]
   have hok:=hs.gown _ (J3 (l:=s.Gowns) (i:=x.Gown.toNat) (by omega))
   have hok2:=hs.figure _ (J3 (l:=s.Figures) (i:=f.toNat) (by omega))
   generalize s.Gowns[x.Gown.toNat]! = g at hok
   generalize s.Figures[f.toNat]! = y at hok2
   simp only[Zd]
   rw[C6q,C4h hok hok2]
   simp only[Zd]
   unfold B1s
   cases A7t g x
   ·rfl
   ·cases ((x.How==1&&(decide (x.Day>g.Last)||decide (x.Day>y.Day)))||(x.How==2&&decide (y.Until>g.Last)))
    ·cases B3t g y <;> rfl
    ·rfl
theorem B4e {g:PaGown} (h:GwOk g) {day:Int} (hd:0≤day∧day≤364):A25 g day=some (price g day):= by
 have:=B2j h ⟨ByteArray.empty,0,0,0⟩ hd
 rw[← this]
 unfold A25 Z5
 rw[Int.add_comm (w64 (Int.tdiv (w64 (g.Ago+day)) 30)) 1]
theorem B96 {g:PaGown} (h:GwOk g) {f:PaFigure} (hf:FgOk f):A75 g f=some (B8m g f):=B8f h hf 0
end Pw
end
section
set_option maxRecDepth 100000
set_option maxHeartbeats 0
namespace Pw
open Go Am Go.Proofs.YtjpjdglddmhplaaGreat.Cd
def A1d (a0:(List PaUse)) (a1:Int) (s1:Int):Option (Int⊕(Bool⊕Unit)) :=
 if (decide (s1<a1))=true then
  (idx a0 a1).bind fun x4 =>
  (if (x4.Gown != (-1))=true then
  (idx a0 s1).bind fun x6 =>
  (idx a0 a1).bind fun x7 =>
  some (x6.Gown==x7.Gown)
  else
  some false).bind fun x8 =>
  if x8=true then
  some (.inr (.inl true))
  else
  some (.inl (w64 (s1+1)))
 else
  some (.inr (.inr ()))
def A4x (a0:(List PaUse)) (a1:Int):Option Bool :=
 (loop (A1d a0 a1) 0).bind fun (o10:(Bool⊕Unit)) =>
 match o10 with
 | (.inl vo10_0) =>
  some vo10_0
 | (.inr vo10_1) =>
  some false
theorem B9s {c:Sc} {H:A1} {a0:(List PaUse)} {a1:Int} {r:Bool} (h:A4x a0 a1=some r) :
  F0 tab c H (.fn (.func 77) [] []) [(.seq 3 (Zg A6 a0)),.i a1] [.b r]:= by
 unfold A4x at h
 refine cE Z Z<|s0<|qm Z<|es (ra2 Z Z)<|C1<|s0<|qm Z<|es (ra3 Z Z Z)<|C8<|oB h fun o10 ho10 h=>wl (fun s1=>[(0,(.seq 3 (Zg A6 a0))),(1,.i a1),(5,.i s1)]) (fun (q2:Unit) s1=>[]) 0 (fun r e s' H'=>(match r with|(.inl v)=>e=.ret∧RetQ H [.tmp 4] [.b v] e s' H' | (.inr v)=>PX 0 [] (H++[]) e s' H':Prop)) () ho10 Z Z (fun _ _=>rfl) (fun _=>rfl) Z (fun s1=>(bdc K2 (bdc A4 (bdc A4 bdn)))) (fun q2 s1 ys1 hs1=>?_) ?_
 ·unfold A1d at hs1
  refine C1<|s0<|qm Z<|qm Z<|A0 (I4 Z Z) Z<|es (ra4 Z Z Z Z)<|wi hs1 Z (fun hc3 hs1=>?_) fun hc3 hs1=>?_
  ·refine C3<|C1<|C8<|s0<|oB hs1 fun x4 hx4 hs1=>oB hs1 fun x8 hx8 hs1=>qm Z<|qm Z<|A0 (E0 (f:=A6) Z Z hx4) Z<|A0 (S5 (ds:=(A6 x4)) Z Z) Z<|A0 (I2 Z Z) Z<|A0 (I9 Z Z) Z<|qm Z<|gp 12 29 (.b x8) 17 Z Z (fun hg5=>?_) (fun hg5=>?_) ?_
   ·refine oB (bt hx8 hg5) fun x6 hx6 hx8=>oB hx8 fun x7 hx7 hx8=>?_
    obtain rfl:=os hx8
    exact gT Z hg5<|qm Z<|gT Z hg5<|qm Z<|gT Z hg5<|A0 (E0 (f:=A6) Z Z hx6) Z<|gT Z hg5<|A0 (S5 (ds:=(A6 x6)) Z Z) Z<|gT Z hg5<|A0 (I2 Z Z) Z<|gT Z hg5<|qm Z<|gT Z hg5<|qm Z<|gT Z hg5<|A0 (E0 (f:=A6) Z Z hx7) Z<|gT Z hg5<|A0 (S5 (ds:=(A6 x7)) Z Z) Z<|gT Z hg5<|A0 (I2 Z Z) Z<|gT Z hg5<|A0 (G5 Z Z) Z<|A0 (C6 Z hg5 Z) Z<|ge 12 Z Z Z
   ·obtain rfl:=os (bf hx8 hg5)
    exact nT Z hg5 Z<|nT Z hg5 Z<|nT Z hg5 Z<|nT Z hg5 Z<|nT Z hg5 Z<|nT Z hg5 Z<|nT Z hg5 Z<|nT Z hg5 Z<|nT Z hg5 Z<|nT Z hg5 Z<|nT Z hg5 Z<|A0 (C5 Z hg5 Z) Z<|ge 12 Z Z Z
   refine es (ra4 Z Z Z Z)<|wi hs1 Z (fun hc9 hs1=>?_) fun hc9 hs1=>?_
   ·refine s0<|qm Z<|es (ra1 Z)<|C7 ?_
    obtain rfl:=os hs1
    exact lx Z (ZF Z (retq trivial (A7 Z B6) (A5 Z B5) (A3 A4 A8))) (Sub.refl _)
   ·refine C3<|r0<|qm Z<|A0 (F7 Z Z) Z<|qm Z<|en (ra3 Z Z Z) ?_
    cases hs1
    exact lnT () Z (su3 Z Z Z)
  ·refine I1 ?_
   obtain rfl:=os hs1
   exact lx Z px (.nil _)
 ·rcases o10 with vo10_0|vo10_1
  ·rintro e s' H'-⟨rfl,hret⟩
   cases h
   exact hret
  ·rintro e s' H'-⟨rfl,rfl,rfl⟩
   refine s0<|qm Z<|es (ra1 Z)<|C7 ?_
   obtain rfl:=os h
   exact retq trivial (A7 Z B6) (A5 Z B5) (A3 A4 A8)
def A2e (a0:PaShow) (a1:(List PaUse)) (s2:Int):Option (Int⊕(Int⊕Unit)) :=
 if (decide (s2<(Zh a1:Int)))=true then
  (idx a1 s2).bind fun x5 =>
  (A26 a0 s2 x5).bind fun x6 =>
  (if (x6 != 4)=true then
  (A4x a1 s2).bind fun x8 =>
  some x8
  else
  some false).bind fun x9 =>
  if x9=true then
  some (.inr (.inl 5))
  else
  if (x6 != 0)=true then
   some (.inr (.inl x6))
  else
   some (.inl (w64 (s2+1)))
 else
  some (.inr (.inr ()))
def A2u (a0:PaShow) (a1:(List PaUse)):Option Int :=
 if ((Zh a1:Int) != (Zh a0.Figures:Int))=true then
  some 3
 else
  (loop (A2e a0 a1) 0).bind fun (o12:(Int⊕Unit)) =>
  match o12 with
  | (.inl vo12_0) =>
  some vo12_0
  | (.inr vo12_1) =>
  some 0
theorem B11 {c:Sc} {H:A1} {a0:PaShow} {a1:(List PaUse)} {r:Int} (h:A2u a0 a1=some r) :
  F0 tab c H (.fn (.func 34) [] []) [(.agg (B1 a0)),(.seq 3 (Zg A6 a1))] [.i r]:= by
 unfold A2u at h
 refine cE Z Z<|sg 0 Z<|A0 (F6 (cs:=B1 a0) Z Z Z) Z<|qm Z<|es (ra2 Z Z)<|C1<|s0<|qm Z<|A0 (G1 (f:=A6) Z) Z<|A0 (B9 Z) Z<|A0 (B2 Z Z Z) Z<|A0 (G1 (f:=B3) Z) Z<|A0 (I9 Z Z) Z<|es (ra3 Z Z Z)<|wi h Z (fun hc1 h=>?_) fun hc1 h=>?_
 ·refine s0<|qm Z<|es (ra1 Z)<|C7 ?_
  obtain rfl:=os h
  exact retq trivial (A7 Z B6) (A5 Z B5) (A3 A4 A8)
 ·refine C3<|C1<|s0<|qm Z<|es (ra3 Z Z Z)<|C8<|oB h fun o12 ho12 h=>wl (fun s2=>[(1,(.seq 3 (Zg A6 a1))),(2,(.ptr (H.length+0) 0)),(5,.i s2)]) (fun (q3:Unit) s2=>[(.cells (B1 a0))]) 1 (fun r e s' H'=>(match r with|(.inl v)=>e=.ret∧RetQ H [.tmp 4] [.i v] e s' H' | (.inr v)=>PX 0 [] (H++[(.cells (B1 a0))]) e s' H':Prop)) () ho12 Z Z (fun _ _=>rfl) (fun _=>rfl) Z (fun s2=>(bdc K2 (bdc (M3 Z) (bdc A4 bdn)))) (fun q3 s2 ys2 hs2=>?_) ?_
  ·unfold A2e at hs2
   refine C1<|s0<|qm Z<|qm Z<|A0 (G1 (f:=A6) Z) Z<|A0 (I4 Z Z) Z<|es (ra4 Z Z Z Z)<|wi hs2 Z (fun hc4 hs2=>?_) fun hc4 hs2=>?_
   ·refine C3<|C1<|C8<|s0<|oB hs2 fun x5 hx5 hs2=>oB hs2 fun x6 hx6 hs2=>A0 (D1 Z Z Z) Z<|qm Z<|qm Z<|qm Z<|A0 (E0 (f:=A6) Z Z hx5) Z<|A0 (G4 Z Z) Z<|B7 (rs:=[.i x6]) Z Z (A2 (D0 Z) (A2 Z (A2 (D0 Z) B4))) ((A8w hx6).frz)<|qm Z<|es (ra4 Z Z Z Z)<|C1<|s0<|oB hs2 fun x9 hx9 hs2=>qm Z<|A0 (I9 Z Z) Z<|qm Z<|gp 4 32 (.b x9) 28 Z Z (fun hg7=>?_) (fun hg7=>?_) ?_
    ·refine oB (bt hx9 hg7) fun x8 hx8 hx9=>?_
     obtain rfl:=os hx9
     exact gT Z hg7<|qm Z<|gT Z hg7<|qm Z<|gT Z hg7<|B7 (rs:=[.b x8]) Z Z (A2 Z (A2 Z B4)) ((B9s hx8).frz)<|A0 (C6 Z hg7 Z) Z<|ge 4 Z Z Z
    ·obtain rfl:=os (bf hx9 hg7)
     exact nT Z hg7 Z<|nT Z hg7 Z<|H7 (D5 Z (by rw[hg7];rfl)) Z<|A0 (C5 Z hg7 Z) Z<|ge 4 Z Z Z
    refine es (ra5 Z Z Z Z Z)<|wi hs2 Z (fun hc10 hs2=>?_) fun hc10 hs2=>?_
    ·refine r0<|qm Z<|en (ra4 Z Z Z Z)<|s0<|qm Z<|A0 (P9 (v:=(.b true)) Z Z Z) Z<|es (ra5 Z Z Z Z Z)<|O9 Z Z<|s0<|qm Z<|qm Z<|es (ra1 Z)<|C7 ?_
     obtain rfl:=os hs2
     exact lx Z (ZF Z (retq trivial (A7 Z B6) (A5 Z B5) (A3 A4 A8))) (Sub.refl _)
    ·refine C3<|s0<|qm Z<|A0 (I9 Z Z) Z<|es (ra5 Z Z Z Z Z)<|wi hs2 Z (fun hc11 hs2=>?_) fun hc11 hs2=>?_
     ·refine s0<|qm Z<|qm Z<|es (ra1 Z)<|C7 ?_
      obtain rfl:=os hs2
      exact lx Z (ZF Z (retq trivial (A7 Z B6) (A5 Z B5) (A3 A4 A8))) (Sub.refl _)
     ·refine C3<|r0<|qm Z<|A0 (F7 Z Z) Z<|qm Z<|en (ra3 Z Z Z) ?_
      cases hs2
      exact lnT () Z (su3 Z Z Z)
   ·refine I1 ?_
    obtain rfl:=os hs2
    exact lx Z px (.nil _)
  ·rcases o12 with vo12_0|vo12_1
   ·rintro e s' H'-⟨rfl,hret⟩
    cases h
    exact hret
   ·rintro e s' H'-⟨rfl,rfl,rfl⟩
    refine s0<|qm Z<|es (ra1 Z)<|C7 ?_
    obtain rfl:=os h
    exact retq trivial (A7 Z B6) (A5 Z B5) (A3 A4 A8)
def A2t (a0:PaShow) (a1:Int) (a2:PaUse):Option (Int×Int) :=
 if (a2.Gown==(-1))=true then
  some (0,0)
 else
  if (a2.How==1)=true then
  (idx a0.Gowns a2.Gown).bind fun x3 =>
  (A25 x3 a2.Day).bind fun x4 =>
  some (x4,a2.Day)
  else
  if (a2.How==2)=true then
   (idx a0.Gowns a2.Gown).bind fun x6 =>
   (idx a0.Figures a1).bind fun x7 =>
   (A75 x6 x7).bind fun x8 =>
   (idx a0.Figures a1).bind fun x9 =>
   some (x8,x9.Day)
  else
   some (0,0)
theorem A7f {c:Sc} {H:A1} {a0:PaShow} {a1:Int} {a2:PaUse} {r:(Int×Int)} (h:A2t a0 a1 a2=some r) :
  F0 tab c H (.fn (.func 78) [] []) [(.agg (B1 a0)),.i a1,(.agg (A6 a2))] [.i r.1,.i r.2]:= by
 unfold A2t at h
 refine cE Z Z<|sg 0 Z<|A0 (F6 (cs:=B1 a0) Z Z Z) Z<|A0 (F6 (cs:=A6 a2) Z Z Z) Z<|qm Z<|qm Z<|es (ra3 Z Z Z)<|C1<|C8<|s0<|A0 (B9 Z) Z<|A0 (B2 Z Z Z) Z<|A0 (G5 Z Z) Z<|qm Z<|es (ra4 Z Z Z Z)<|wi h Z (fun hc1 h=>?_) fun hc1 h=>?_
 ·refine s0<|qm Z<|qm Z<|es (ra2 Z Z)<|C7 ?_
  obtain rfl:=os h
  exact retq trivial (A7 Z (A7 Z B6)) (A5 Z (A5 Z B5)) (A3 A4 (A3 A4 A8))
 ·refine s0<|A0 (B9 Z) Z<|A0 (B2 Z Z Z) Z<|A0 (G5 Z Z) Z<|qm Z<|es (ra4 Z Z Z Z)<|wi h Z (fun hc2 h=>?_) fun hc2 h=>?_
  ·refine s0<|oB h fun x3 hx3 h=>oB h fun x4 hx4 h=>A0 (B9 Z) Z<|A0 (B2 Z Z Z) Z<|A0 (B9 Z) Z<|A0 (B2 Z Z Z) Z<|A0 (E0 (f:=C2) Z Z hx3) Z<|A0 (G4 Z Z) Z<|A0 (B9 Z) Z<|A0 (B2 Z Z Z) Z<|U7 (rs:=[.i x4]) Z Z (T0 Z (T0 Z A0p)) (A2 (D0 Z) (A2 Z B4)) ((A96 hx4).frz)<|A0 (B9 Z) Z<|A0 (B2 Z Z Z) Z<|qm Z<|qm Z<|es (ra2 Z Z)<|C7 ?_
   obtain rfl:=os h
   exact retq trivial (A7 Z (A7 Z B6)) (A5 Z (A5 Z B5)) (A3 A4 (A3 A4 A8))
  ·refine s0<|A0 (B9 Z) Z<|A0 (B2 Z Z Z) Z<|A0 (G5 Z Z) Z<|qm Z<|es (ra4 Z Z Z Z)<|wi h Z (fun hc5 h=>?_) fun hc5 h=>?_
   ·refine s0<|oB h fun x6 hx6 h=>oB h fun x7 hx7 h=>oB h fun x8 hx8 h=>oB h fun x9 hx9 h=>A0 (B9 Z) Z<|A0 (B2 Z Z Z) Z<|A0 (B9 Z) Z<|A0 (B2 Z Z Z) Z<|A0 (E0 (f:=C2) Z Z hx6) Z<|A0 (G4 Z Z) Z<|A0 (B9 Z) Z<|A0 (B2 Z Z Z) Z<|qm Z<|A0 (E0 (f:=B3) Z Z hx7) Z<|A0 (G4 Z Z) Z<|U7 (rs:=[.i x8]) Z Z (T0 Z (T0 Z A0p)) (A2 (D0 Z) (A2 (D0 Z) B4)) ((B32 hx8).frz)<|A0 (B9 Z) Z<|A0 (B2 Z Z Z) Z<|qm Z<|A0 (E0 (f:=B3) Z Z hx9) Z<|A0 (S5 (ds:=(Z1v 1 (B3 x9))) Z Z) Z<|A0 (I2 Z Z) Z<|qm Z<|qm Z<|es (ra2 Z Z)<|C7 ?_
    obtain rfl:=os h
    exact retq trivial (A7 Z (A7 Z B6)) (A5 Z (A5 Z B5)) (A3 A4 (A3 A4 A8))
   ·refine C3<|s0<|qm Z<|qm Z<|es (ra2 Z Z)<|C7 ?_
    obtain rfl:=os h
    exact retq trivial (A7 Z (A7 Z B6)) (A5 Z (A5 Z B5)) (A3 A4 (A3 A4 A8))
def A2c (a0:PaShow) (a2:Int) (s1:(Int×Int)):Option ((Int×Int)⊕Int) :=
 if (decide (s1.2<(Zh a0.Incomes:Int)))=true then
  (idx a0.Incomes s1.2).bind fun x4 =>
  if (decide (x4.Day≤a2))=true then
  (idx a0.Incomes s1.2).bind fun x6 =>
  some (.inl ((w64 (s1.1+x6.Pence)),(w64 (s1.2+1))))
  else
  some (.inl (s1.1,(w64 (s1.2+1))))
 else
  some (.inr s1.1)
def A2d (a0:PaShow) (a1:(List PaUse)) (a2:Int) (s8:(Int×Int)):Option ((Int×Int)⊕Int) :=
 if (decide (s8.2<(Zh a1:Int)))=true then
  (idx a1 s8.2).bind fun x11 =>
  (A2t a0 s8.2 x11).bind fun x12 =>
  if (decide (x12.2≤a2))=true then
  some (.inl ((w64 (s8.1-x12.1)),(w64 (s8.2+1))))
  else
  some (.inl (s8.1,(w64 (s8.2+1))))
 else
  some (.inr s8.1)
def A2s (a0:PaShow) (a1:(List PaUse)) (a2:Int):Option Int :=
 (loop (A2c a0 a2) (a0.Purse,0)).bind fun (o7:Int) =>
 (loop (A2d a0 a1 a2) (o7,0)).bind fun (o14:Int) =>
 some o14
theorem A7e {c:Sc} {H:A1} {a0:PaShow} {a1:(List PaUse)} {a2:Int} {r:Int} (h:A2s a0 a1 a2=some r) :
  F0 tab c H (.fn (.func 65) [] []) [(.agg (B1 a0)),(.seq 3 (Zg A6 a1)),.i a2] [.i r]:= by
 unfold A2s at h
 refine cE Z Z<|sg 0 Z<|A0 (F6 (cs:=B1 a0) Z Z Z) Z<|qm Z<|es (ra3 Z Z Z)<|s0<|A0 (B9 Z) Z<|A0 (B2 Z Z Z) Z<|qm Z<|es (ra4 Z Z Z Z)<|C1<|s0<|qm Z<|es (ra5 Z Z Z Z Z)<|C8<|oB h fun o7 ho7 h=>wl (fun s1=>[(1,(.seq 3 (Zg A6 a1))),(2,.i a2),(3,(.ptr (H.length+0) 0)),(7,.i s1.1),(8,.i s1.2)]) (fun (q2:Unit) s1=>[(.cells (B1 a0))]) 1 (fun r e s' H'=>PX 0 [(1,(.seq 3 (Zg A6 a1))),(2,.i a2),(3,(.ptr (H.length+0) 0)),(7,.i r)] (H++[(.cells (B1 a0))]) e s' H') () ho7 Z Z (fun _ _=>rfl) (fun _=>rfl) Z (fun s1=>(bdc K2 (bdc A4 (bdc (M3 Z) (bdc A4 (bdc A4 bdn)))))) (fun q2 s1 ys1 hs1=>?_) ?_
 ·unfold A2c at hs1
  refine C1<|s0<|qm Z<|A0 (B9 Z) Z<|A0 (B2 Z Z Z) Z<|A0 (G1 (f:=D2) Z) Z<|A0 (I4 Z Z) Z<|es (ra6 Z Z Z Z Z Z)<|wi hs1 Z (fun hc3 hs1=>?_) fun hc3 hs1=>?_
  ·refine C3<|C1<|C8<|s0<|oB hs1 fun x4 hx4 hs1=>A0 (B9 Z) Z<|A0 (B2 Z Z Z) Z<|qm Z<|A0 (E0 (f:=D2) Z Z hx4) Z<|A0 (S5 (ds:=(D2 x4)) Z Z) Z<|A0 (I2 Z Z) Z<|qm Z<|A0 (A47 Z Z) Z<|es (ra6 Z Z Z Z Z Z)<|wi hs1 Z (fun hc5 hs1=>?_) fun hc5 hs1=>?_
   ·refine r0<|oB hs1 fun x6 hx6 hs1=>qm Z<|A0 (B9 Z) Z<|A0 (B2 Z Z Z) Z<|qm Z<|A0 (E0 (f:=D2) Z Z hx6) Z<|A0 (S5 (ds:=(Z1v 1 (D2 x6))) Z Z) Z<|A0 (I2 Z Z) Z<|A0 (F7 Z Z) Z<|qm Z<|en (ra5 Z Z Z Z Z)<|r0<|qm Z<|A0 (F7 Z Z) Z<|qm Z<|en (ra5 Z Z Z Z Z) ?_
    cases hs1
    exact lnT () Z (su5 Z Z Z Z Z)
   ·refine C3<|r0<|qm Z<|A0 (F7 Z Z) Z<|qm Z<|en (ra5 Z Z Z Z Z) ?_
    cases hs1
    exact lnT () Z (su5 Z Z Z Z Z)
  ·refine I1 ?_
   obtain rfl:=os hs1
   exact lx Z px (su4 Z Z Z Z)
 ·rintro e s' H'-⟨rfl,rfl,rfl⟩
  refine C1<|s0<|qm Z<|es (ra5 Z Z Z Z Z)<|C8<|oB h fun o14 ho14 h=>wl (fun s8=>[(1,(.seq 3 (Zg A6 a1))),(2,.i a2),(3,(.ptr (H.length+0) 0)),(7,.i s8.1),(9,.i s8.2)]) (fun (q9:Unit) s8=>[(.cells (B1 a0))]) 1 (fun r e s' H'=>PX 2 [(7,.i r)] (H++[(.cells (B1 a0))]) e s' H') () ho14 Z Z (fun _ _=>rfl) (fun _=>rfl) Z (fun s8=>(bdc K2 (bdc A4 (bdc (M3 Z) (bdc A4 (bdc A4 bdn)))))) (fun q9 s8 ys8 hs8=>?_) ?_
  ·unfold A2d at hs8
   refine C1<|s0<|qm Z<|qm Z<|A0 (G1 (f:=A6) Z) Z<|A0 (I4 Z Z) Z<|es (ra6 Z Z Z Z Z Z)<|wi hs8 Z (fun hc10 hs8=>?_) fun hc10 hs8=>?_
   ·refine C3<|C1<|C8<|s0<|oB hs8 fun x11 hx11 hs8=>oB hs8 fun x12 hx12 hs8=>A0 (D1 Z Z Z) Z<|qm Z<|qm Z<|qm Z<|A0 (E0 (f:=A6) Z Z hx11) Z<|A0 (G4 Z Z) Z<|B7 (rs:=[.i x12.1,.i x12.2]) Z Z (A2 (D0 Z) (A2 Z (A2 (D0 Z) B4))) ((A7f hx12).frz)<|qm Z<|A0 (A9 Z Z) Z<|A0 (A9 Z Z) Z<|qm Z<|qm Z<|es (ra7 Z Z Z Z Z Z Z)<|s0<|qm Z<|qm Z<|A0 (A47 Z Z) Z<|es (ra7 Z Z Z Z Z Z Z)<|wi hs8 Z (fun hc13 hs8=>?_) fun hc13 hs8=>?_
    ·refine r0<|qm Z<|qm Z<|A0 (V5 Z Z) Z<|qm Z<|en (ra5 Z Z Z Z Z)<|r0<|qm Z<|A0 (F7 Z Z) Z<|qm Z<|en (ra5 Z Z Z Z Z) ?_
     cases hs8
     exact lnT () Z (su5 Z Z Z Z Z)
    ·refine C3<|r0<|qm Z<|A0 (F7 Z Z) Z<|qm Z<|en (ra5 Z Z Z Z Z) ?_
     cases hs8
     exact lnT () Z (su5 Z Z Z Z Z)
   ·refine I1 ?_
    obtain rfl:=os hs8
    exact lx Z px (su1 Z)
  ·rintro e s' H'-⟨rfl,rfl,rfl⟩
   refine s0<|qm Z<|qm Z<|es (ra1 Z)<|C7 ?_
   obtain rfl:=os h
   exact retq trivial (A7 Z B6) (A5 Z B5) (A3 A4 A8)
def A1b (a0:PaShow) (a1:(List PaUse)) (s4:(Int×Int×Int)):Option ((Int×Int×Int)⊕(Int×Int)) :=
 if (decide (s4.2.2<(Zh a1:Int)))=true then
  (idx a1 s4.2.2).bind fun x7 =>
  (A2t a0 s4.2.2 x7).bind fun x8 =>
  (A2s a0 a1 x8.2).bind fun x9 =>
  if ((decide (x9<0))&&((decide (s4.2.1<0))||(decide (x8.2<s4.2.1))))=true then
  some (.inl ((A5d s4.1 x9),x8.2,(w64 (s4.2.2+1))))
  else
  some (.inl ((A5d s4.1 x9),s4.2.1,(w64 (s4.2.2+1))))
 else
  some (.inr (s4.1,s4.2.1))
def A24 (a0:PaShow) (a1:(List PaUse)):Option (Int×Int) :=
 (A2s a0 a1 0).bind fun x1 =>
 (if (decide (x1<0))=true then
  some 0
  else
  some (-1)).bind fun (p2:Int) =>
 (loop (A1b a0 a1) (x1,p2,0)).bind fun (o13:(Int×Int)) =>
 some (o13.1,o13.2)
theorem A95 {c:Sc} {H:A1} {a0:PaShow} {a1:(List PaUse)} {r:(Int×Int)} (h:A24 a0 a1=some r) :
  F0 tab c H (.fn (.func 67) [] []) [(.agg (B1 a0)),(.seq 3 (Zg A6 a1))] [.i r.1,.i r.2]:= by
 unfold A24 at h
 refine cE Z Z<|sg 0 Z<|A0 (F6 (cs:=B1 a0) Z Z Z) Z<|qm Z<|qm Z<|es (ra2 Z Z)<|s0<|oB h fun x1 hx1 h=>A0 (D1 Z Z Z) Z<|qm Z<|B7 (rs:=[.i x1]) Z Z (A2 (D0 Z) (A2 Z (A2 Z B4))) ((A7e hx1).frz)<|qm Z<|qm Z<|es (ra4 Z Z Z Z)<|C1<|s0<|qm Z<|A0 (I4 Z Z) Z<|es (ra5 Z Z Z Z Z)<|oB h fun p2 hp2 h=>A7k (Q1:=fun e s' H'=>e=.normal∧s'=[(1,(.seq 3 (Zg A6 a1))),(2,(.ptr (H.length+0) 0)),(6,.i x1),(7,.i p2)]∧H'=(H++[(.cells (B1 a0))])) ?_ ?_
 ·refine wi hp2 Z (fun hc3 hp2=>?_) fun hc3 hp2=>?_
  ·refine r0<|qm Z<|en (ra4 Z Z Z Z) ?_
   obtain rfl:=os hp2
   exact me (ZF Z (ZF Z Z)) (su4 Z Z Z Z)
  ·refine C3 ?_
   obtain rfl:=os hp2
   exact me (ZF Z (ZF Z Z)) (su4 Z Z Z Z)
 ·rintro e s' H' ⟨rfl,rfl,rfl⟩
  refine C1<|s0<|qm Z<|es (ra5 Z Z Z Z Z)<|C8<|oB h fun o13 ho13 h=>wl (fun s4=>[(1,(.seq 3 (Zg A6 a1))),(2,(.ptr (H.length+0) 0)),(6,.i s4.1),(7,.i s4.2.1),(8,.i s4.2.2)]) (fun (q5:Unit) s4=>[(.cells (B1 a0))]) 1 (fun r e s' H'=>PX 0 [(6,.i r.1),(7,.i r.2)] (H++[(.cells (B1 a0))]) e s' H') () ho13 Z Z (fun _ _=>rfl) (fun _=>rfl) Z (fun s4=>(bdc K2 (bdc (M3 Z) (bdc A4 (bdc A4 (bdc A4 bdn)))))) (fun q5 s4 ys4 hs4=>?_) ?_
  ·unfold A1b at hs4
   refine C1<|s0<|qm Z<|qm Z<|A0 (G1 (f:=A6) Z) Z<|A0 (I4 Z Z) Z<|es (ra6 Z Z Z Z Z Z)<|wi hs4 Z (fun hc6 hs4=>?_) fun hc6 hs4=>?_
   ·refine C3<|C1<|C8<|s0<|oB hs4 fun x7 hx7 hs4=>oB hs4 fun x8 hx8 hs4=>A0 (D1 Z Z Z) Z<|qm Z<|qm Z<|qm Z<|A0 (E0 (f:=A6) Z Z hx7) Z<|A0 (G4 Z Z) Z<|B7 (rs:=[.i x8.1,.i x8.2]) Z Z (A2 (D0 Z) (A2 Z (A2 (D0 Z) B4))) ((A7f hx8).frz)<|qm Z<|A0 (A9 Z Z) Z<|A0 (A9 Z Z) Z<|qm Z<|qm Z<|es (ra6 Z Z Z Z Z Z)<|s0<|oB hs4 fun x9 hx9 hs4=>A0 (D1 Z Z Z) Z<|qm Z<|qm Z<|B7 (rs:=[.i x9]) Z Z (A2 (D0 Z) (A2 Z (A2 Z B4))) ((A7e hx9).frz)<|qm Z<|es (ra7 Z Z Z Z Z Z Z)<|s0<|qm Z<|qm Z<|A0 (C8g Z Z) Z<|qm Z<|es (ra7 Z Z Z Z Z Z Z)<|s0<|qm Z<|A0 (I4 Z Z) Z<|qm Z<|gp 8 50 (.b ((decide (x9<0))&&((decide (s4.2.1<0))||(decide (x8.2<s4.2.1))))) 42 Z Z (fun hg10=>?_) (fun hg10=>?_) ?_
    ·refine gT Z hg10<|qm Z<|gT Z hg10<|A0 (I4 Z Z) Z<|gT Z hg10<|qm Z<|gq 4 49 (.b ((decide (s4.2.1<0))||(decide (x8.2<s4.2.1)))) 45 Z Z (fun hg11=>?_) (fun hg11=>?_) ?_
     ·exact nF Z hg11 Z<|nF Z hg11 Z<|nF Z hg11 Z<|gT Z hg10<|A0 (C6 Z hg11 Z) Z<|ge 4 (by rw[hg11];rfl) Z Z
     ·exact gF Z hg11<|qm Z<|gF Z hg11<|qm Z<|gF Z hg11<|A0 (I4 Z Z) Z<|gT Z hg10<|A0 (C5 Z hg11 Z) Z<|ge 4 (by rw[hg11];rfl) Z Z
     exact A0 (C6 Z hg10 Z) Z<|ge 5 (by rw[hg10];rfl) Z Z
    ·exact nT Z hg10 Z<|nT Z hg10 Z<|nT Z hg10 Z<|nX Z Z<|nX Z Z<|nX Z Z<|nT Z hg10 Z<|A0 (C5 Z hg10 Z) Z<|ge 8 (by rw[hg10];rfl) Z Z
    refine es (ra7 Z Z Z Z Z Z Z)<|wi hs4 Z (fun hc12 hs4=>?_) fun hc12 hs4=>?_
    ·refine r0<|qm Z<|qm Z<|en (ra5 Z Z Z Z Z)<|r0<|qm Z<|A0 (F7 Z Z) Z<|qm Z<|en (ra5 Z Z Z Z Z) ?_
     cases hs4
     exact lnT () Z (su5 Z Z Z Z Z)
    ·refine C3<|r0<|qm Z<|A0 (F7 Z Z) Z<|qm Z<|en (ra5 Z Z Z Z Z) ?_
     cases hs4
     exact lnT () Z (su5 Z Z Z Z Z)
   ·refine I1 ?_
    obtain rfl:=os hs4
    exact lx Z px (su2 Z Z)
  ·rintro e s' H'-⟨rfl,rfl,rfl⟩
   refine s0<|qm Z<|qm Z<|qm Z<|qm Z<|es (ra2 Z Z)<|C7 ?_
   obtain rfl:=os h
   exact retq trivial (A7 Z (A7 Z B6)) (A5 Z (A5 Z B5)) (A3 A4 (A3 A4 A8))
end Pw
end
section
namespace Pw
open Go Am
theorem D2q {α:Type} [Inhabited α] (l:List α) (p:α→Bool) {b:Int→Option (Int⊕(Bool⊕Unit))} (hl:l.length<9223372036854775808)
  (hb:∀i:Nat,i<l.length→b i=some (if p l[i]! then .inr (.inl true) else .inl (w64 ((i:Int)+1)))) (he:b l.length=some (.inr (.inr ()))) :
  ∃ o,loop b 0=some o∧(match o with|.inl v=>v=true∧l.any p=true|.inr _=>l.any p=false):= by
 have h:=A6w (b:=b) l.length (fun i=>if p l[i]! then some (.inl true) else none) (.inr ()) hl (fun i hi _=>by
  rw[hb i hi];cases p l[i]! <;> rfl) he
 refine⟨_,h,?_⟩
 have ha:=C1n l p
 cases hf:first (fun i=>if p l[i]! then some (Z36 true:Bool⊕Unit) else none) l.length with
 | none =>
  have h0:=K9.mp hf
  rw[K9.mpr fun i hi=>by
   have:=h0 i hi
   cases hp:p l[i]! with
   | false=>rfl
   | true=>rw[hp]at this;exact absurd this (by simp)]at ha
  simpa using ha.symm
 | some r =>
  obtain⟨i,hi,h1,h2⟩:=U1 hf
  cases hp:p l[i]! with
  | false=>rw[hp]at h1;exact absurd h1 (by simp)
  | true =>
   rw[hp]at h1
   have h1:some (Z36 true)=some r:=h1
   obtain rfl:=Z01 h1
   refine⟨Z,?_⟩
   rw[A7s (r:=(i:Int)) hi (by rw[hp];rfl) fun j hj=>by
    have:=h2 j hj
    cases hq:p l[j]! with
    | false=>rfl
    | true=>rw[hq]at this;exact absurd this (by simp)]at ha
   exact ha.symm
theorem C4k {p:List PaUse} {i:Nat} (hi:i<p.length) (hl:p.length≤100):A4x p (i:Int)=some (twP p i):= by
 unfold A4x twP
 have hlen:(p.take i).length=i:= by rw[ZE];omega
 obtain⟨o,ho,hc⟩:=D2q (p.take i) (fun x=>(p[i]!.Gown != -1)&&(x.Gown==p[i]!.Gown)) (b:=A1d p (i:Int)) (by omega) (fun k hk=>by
  rw[hlen]at hk
  have hkp:k<p.length:= by omega
  have e:(p.take i)[k]! = p[k]!:= by
   rw[getElem!_pos (p.take i) k (by rw[hlen];exact hk),getElem!_pos p k hkp,List.getElem_take]
  unfold A1d
  rw[if_pos (by simpa using hk),I5 hi,I5 hkp,e]
  simp only[Zd]
  cases p[i]!.Gown != -1
  ·rfl
  ·cases p[k]!.Gown==p[i]!.Gown <;> rfl) (by
  rw[hlen]
  unfold A1d
  rw[if_neg (by simp)])
 rw[ho]
 have hany:(p.take i).any (fun x=>(p[i]!.Gown != -1)&&(x.Gown==p[i]!.Gown))=((p[i]!.Gown != -1)&&(p.take i).any fun x=>x.Gown==p[i]!.Gown):= by
  cases p[i]!.Gown != -1
  ·simp
  ·simp
 rw[hany]at hc
 rcases o with v|u
 ·rw[hc.2,hc.1];rfl
 ·rw[hc];rfl
theorem B6t {s:PaShow} (hs:ShOk s) (p:List PaUse):A2u s p=some (C2w s p):= by
 have hle2:=hs.figures
 unfold A2u C2w
 by_cases hl:p.length=s.Figures.length
 ·rw[if_neg (by simp[hl]),if_neg (by simp[hl])]
  rw[A31 (b:=A2e s p) p.length (ucode s p) (fun x=>.inl x.2) (.inr ()) (by omega) (fun i hi=>by
   unfold A2e
   rw[if_pos (by simpa using hi),I5 hi]
   simp only[Zd]
   rw[B2v hs (f:=(i:Int)) (by omega),ZG]
   simp only[Zd]
   rw[C4k hi (by omega)]
   unfold ucode
   generalize X4 s.Gowns s.Figures[i]! p[i]! = e
   by_cases h4:e=4
   ·subst h4;rfl
   ·have e1:(e != 4)=true:= by simpa using h4
    rw[e1]
    cases twP p i
    ·simp only[if_true,Zd,Zi,if_false,and_false]
     by_cases h0:e=0
     ·subst h0;rfl
     ·have e2:(e != 0)=true:= by simpa using h0
      have e3:(e==0)=false:= by simpa using h0
      simp[e2,e3]
    ·simp[h4]) (by
   unfold A2e
   rw[if_neg (by simp)])]
  cases hw:wrong (ucode s p) p.length with
  | some x=>rfl
  | none=>rfl
 ·rw[if_pos (by simp;omega),if_pos hl]
theorem B0h {s:PaShow} (hs:ShOk s) {f:Int} (hf:0≤f∧f<s.Figures.length) {x:PaUse} (h:X4 s.Gowns s.Figures[f.toNat]! x=0):A2t s f x=some (A3q s.Gowns s.Figures[f.toNat]! x):= by
 have hy:=hs.figure _ (J3 (l:=s.Figures) (i:=f.toNat) (by omega))
 unfold A2t
 rcases Y2.mp h with rfl|h
 ·rfl
 ·have h1:=h.lo
  have h2:=h.hi
  have hg:=hs.gown _ (J3 (l:=s.Gowns) (i:=x.Gown.toNat) (by omega))
  have hfm:=h.form
  rw[if_neg (by simp;omega),Y8 (l:=s.Gowns) h1 h2,Y8 (l:=s.Figures) hf.1 hf.2]
  unfold A3q
  have hne:¬ x.Gown = -1:= by omega
  simp only[hne,if_false]
  generalize s.Figures[f.toNat]! = y at hy
  generalize s.Gowns[x.Gown.toNat]! = g at hg hfm
  rcases form1 hfm with⟨_,hh,hd⟩|⟨_,⟨hh,hd⟩|⟨hh,hd⟩⟩
  ·rw[hh];rfl
  ·rw[hh]
   simp only[Zd]
   rw[B96 hg hy]
   rfl
  ·rw[hh]
   simp only[Zd]
   rw[B4e hg hd]
   rfl
theorem B8r:∀(l:List (Int×Int)) (d t:Int),l.foldl (fun a (x:Int×Int)=>a-if x.2≤d then x.1 else 0) t=t-S3 l d
 | [],d,t=>by simp[S3,sm]
 | x::l,d,t=>by rw[Z0a,B8r l];simp only[S3,Zt,sm];omega
theorem D0s {s:PaShow} (hs:ShOk s) (d:Int) (i:Nat):0≤S3 ((incs s).take i) d∧S3 ((incs s).take i) d≤300000:= by
 have:=A2l (l:=(incs s).take i) (fun x hx=>(Y9 hs x (ZZ hx)).1) d
 rw[ZE,P8]at this
 have:=hs.incomes
 omega
theorem D7p {s:PaShow} (hs:ShOk s) {p:List PaUse} (h:PlU s p) (d:Int) (i:Nat):0≤S3 ((pays s p).take i) d∧S3 ((pays s p).take i) d≤300000:= by
 have:=A2l (l:=(pays s p).take i) (fun x hx=>(W2 hs h x (ZZ hx)).1) d
 rw[ZE,K5 h]at this
 have:=hs.figures
 have:=h.len
 omega
theorem B0g {s:PaShow} (hs:ShOk s) {p:List PaUse} (h:PlU s p) (d:Int):A2s s p d=some (I3 s p d):= by
 have hin:=hs.incomes
 have hfl:=hs.figures
 have hlen:=h.len
 have hpu:=hs.purse
 unfold A2s
 have e1:loop (A2c s d) (s.Purse,0)=some (s.Purse+S3 (incs s) d):= by
  refine A0k (incs s) (fun a (x:Int×Int)=>a+if x.2≤d then x.1 else 0) s.Purse (fun i t=>(t,(i:Int))) (by rw[P8];omega) (fun i hi=>?_) ?_
  ·rw[P8]at hi
   have hx:=(Y9 hs _ (J3 (l:=incs s) (i:=i) (by rw[P8];exact hi))).1
   rw[B82 hi]at hx ⊢
   rw[C23]
   have:=D0s hs d i
   unfold A2c
   rw[if_pos (by simpa using hi),I5 hi]
   simp only[Zd]
   rw[F5 (n:=(i:Int)+1) (by omega)]
   by_cases hd:s.Incomes[i]!.Day≤d
   ·rw[if_pos (decide_eq_true hd),if_pos hd,F5 (by omega)];rfl
   ·rw[if_neg (by simpa using hd),if_neg hd,Z3f];rfl
  ·rw[A1w,P8]
   unfold A2c
   rw[if_neg (by simp)]
   rfl
 rw[e1]
 simp only[Zd]
 have hI:=D0s hs d (incs s).length
 rw[Z1a]at hI
 have e2:loop (A2d s p d) (s.Purse+S3 (incs s) d,0)=some (I3 s p d):= by
  refine A0k (pays s p) (fun a (x:Int×Int)=>a-if x.2≤d then x.1 else 0) (s.Purse+S3 (incs s) d) (fun i t=>(t,(i:Int))) (by rw[K5 h];omega) (fun i hi=>?_) ?_
  ·rw[K5 h]at hi
   have hx:=(W2 hs h _ (J3 (l:=pays s p) (i:=i) (by rw[K5 h];exact hi))).1
   rw[B8r,A3i h hi]at *
   have:=D7p hs h d i
   unfold A2d
   simp only[]
   rw[if_pos (by simpa using hi),I5 hi]
   simp only[Zd]
   rw[B0h hs (f:=(i:Int)) (by omega) (by rw[ZG];exact h.use i hi),ZG]
   simp only[Zd]
   rw[F5 (n:=(i:Int)+1) (by omega)]
   generalize A3q s.Gowns s.Figures[i]! p[i]! = z at hx
   by_cases hd:z.2≤d
   ·rw[if_pos (decide_eq_true hd),if_pos hd,F5 (by omega)];rfl
   ·rw[if_neg (by simpa using hd),if_neg hd,Int.sub_zero];rfl
  ·unfold A2d
   simp only[]
   rw[K5 h,if_neg (by simp),B8r];rfl
 rw[e2];rfl
abbrev lsF (F:Int→Int) (a:Int×Int) (x:Int×Int):Int×Int:=(A5d a.1 (F x.2),if F x.2<0∧(a.2<0∨x.2<a.2) then x.2 else a.2)
theorem C98 (F:Int→Int):∀(l:List (Int×Int)) (t:Int×Int),(∀ x∈l,0≤x.2)→∀ r,r=l.foldl (lsF F) t →
  r.1≤t.1∧(∀ x∈l,r.1≤F x.2)∧(r.1=t.1∨∃ x∈l,F x.2=r.1) ∧
  ((r.2<0∧t.2<0∧∀ x∈l,0≤F x.2)∨(0≤r.2∧(r.2=t.2∨∃ x∈l,F x.2<0∧x.2=r.2)∧(∀ x∈l,F x.2<0→r.2≤x.2)∧(t.2<0∨r.2≤t.2)))
 | [],t,_,r,h=>by
  rw[List.foldl_nil]at h
  rw[h]
  refine⟨Z00 _,by simp,.inl Z,?_⟩
  by_cases ht:t.2<0
  ·exact .inl ⟨ht,ht,by simp⟩
  ·exact .inr ⟨by omega,.inl Z,by simp,.inr (Z00 _)⟩
 | x::l,t,hd,r,h=>by
  rw[Z0a]at h
  obtain⟨h1,h2,h3,h4⟩:=C98 F l _ (fun y hy=>hd y (Zx _ hy)) r h
  have hx0:=hd x (Zz ..)
  simp only[lsF]at h1 h3 h4
  have m1:A5d t.1 (F x.2)≤t.1∧A5d t.1 (F x.2)≤F x.2∧(A5d t.1 (F x.2)=t.1∨A5d t.1 (F x.2)=F x.2):= by unfold A5d;split <;> omega
  refine⟨by omega,?_,?_,?_⟩
  ·intro y hy
   rcases Zu.mp hy with rfl|hy
   ·omega
   ·exact h2 y hy
  ·rcases h3 with h3|⟨y,hy,e⟩
   ·rcases m1.2.2 with e|e
    ·left;omega
    ·exact .inr ⟨x,Zz ..,by omega⟩
   ·exact .inr ⟨y,Zx _ hy,e⟩
  ·by_cases hc:F x.2<0∧(t.2<0∨x.2<t.2)
   ·rw[if_pos hc]at h4
    rcases h4 with⟨_,h5,_⟩|⟨h5,h6,h7,h8⟩
    ·omega
    ·refine .inr ⟨h5,?_,?_,by omega⟩
     ·rcases h6 with e|⟨y,hy,hf,e⟩
      ·exact .inr ⟨x,Zz ..,hc.1,e.symm⟩
      ·exact .inr ⟨y,Zx _ hy,hf,e⟩
     ·intro y hy hf
      rcases Zu.mp hy with rfl|hy
      ·omega
      ·exact h7 y hy hf
   ·rw[if_neg hc]at h4
    rcases h4 with⟨h5,h6,h7⟩|⟨h5,h6,h7,h8⟩
    ·refine .inl ⟨h5,h6,fun y hy=>?_⟩
     rcases Zu.mp hy with rfl|hy
     ·omega
     ·exact h7 y hy
    ·refine .inr ⟨h5,?_,?_,h8⟩
     ·rcases h6 with e|⟨y,hy,hf,e⟩
      ·exact .inl e
      ·exact .inr ⟨y,Zx _ hy,hf,e⟩
     ·intro y hy hf
      rcases Zu.mp hy with rfl|hy
      ·by_cases ht:t.2<0
       ·exact absurd ⟨hf,.inl ht⟩ hc
       ·have:t.2≤y.2:= by
         by_cases hlt:y.2<t.2
         ·exact absurd ⟨hf,.inr hlt⟩ hc
         ·omega
        exact Z5n (h8.resolve_left ht) this
      ·exact h7 y hy hf
def A3h (s:PaShow) (p:List PaUse):Int×Int:=(pays s p).foldl (lsF (I3 s p)) (I3 s p 0,if I3 s p 0<0 then 0 else -1)
theorem B4d {s:PaShow} (hs:ShOk s) {p:List PaUse} (h:PlU s p):A24 s p=some (A3h s p):= by
 have hfl:=hs.figures
 have hlen:=h.len
 unfold A24
 rw[B0g hs h]
 simp only[Zd]
 have e0:(if decide (I3 s p 0<0)=true then some 0 else some (-1):Option Int)=some (if I3 s p 0<0 then 0 else -1):= by
  by_cases hc:I3 s p 0<0
  ·rw[if_pos (decide_eq_true hc),if_pos hc]
  ·rw[if_neg (by simpa using hc),if_neg hc]
 rw[e0]
 simp only[Zd]
 have e1:loop (A1b s p) (I3 s p 0,(if I3 s p 0<0 then 0 else -1),0)=some (A3h s p):= by
  refine A0k (pays s p) (lsF (I3 s p)) (I3 s p 0,if I3 s p 0<0 then 0 else -1) (fun i t=>(t.1,t.2,(i:Int))) (by rw[K5 h];omega) (fun i hi=>?_) ?_
  ·rw[K5 h]at hi
   rw[A3i h hi]
   generalize ((pays s p).take i).foldl (lsF (I3 s p)) (I3 s p 0,if I3 s p 0<0 then 0 else -1)=t
   unfold A1b
   simp only[]
   rw[if_pos (by simpa using hi),I5 hi]
   simp only[Zd]
   rw[B0h hs (f:=(i:Int)) (by omega) (by rw[ZG];exact h.use i hi),ZG]
   simp only[Zd]
   rw[B0g hs h]
   simp only[Zd]
   rw[F5 (n:=(i:Int)+1) (by omega)]
   generalize A3q s.Gowns s.Figures[i]! p[i]! = z
   by_cases hd:I3 s p z.2<0∧(t.2<0∨z.2<t.2)
   ·rw[if_pos (by simpa using hd),if_pos hd];rfl
   ·rw[if_neg (by simpa using hd),if_neg hd];rfl
  ·rw[K5 h]
   unfold A1b
   simp only[]
   rw[if_neg (by simp)]
   rfl
 rw[e1];rfl
theorem left0 {s:PaShow} (hs:ShOk s) {p:List PaUse} (h:PlU s p) (hl:I3 s p 0<0):∃x∈pays s p,x.2=0:= by
 refine Classical.byContradiction fun hn=>?_
 have h0:S3 (pays s p) 0=0:= by
  unfold S3
  refine C4o fun x hx=>?_
  have h1:=(W2 hs h x hx).2
  have h2:¬ x.2≤0:=fun hc=>hn ⟨x,hx,by omega⟩
  rw[if_neg h2]
 have h1:=A2l (fun x hx=>(Y9 hs x hx).1) 0
 have h2:=hs.purse
 unfold I3 at hl
 omega
theorem B6x {s:PaShow} (hs:ShOk s) {p:List PaUse} (h:PlU s p):((M6 s p).1=0↔(A3h s p).2<0)∧((A3h s p).2<0∨(M6 s p).2=(A3h s p).2)∧((M6 s p).1=0↔0≤(A3h s p).1)∧((A3h s p).1<0→(M6 s p).1 = -(A3h s p).1):= by
 obtain⟨a1,a2,a3,a4,a5,a6⟩:=A87 s p
 obtain⟨b1,b2,b3,b4⟩:=C98 (I3 s p) (pays s p) _ (fun x hx=>(W2 hs h x hx).2.1) _ Z
 rw[show (pays s p).foldl (lsF (I3 s p)) (I3 s p 0,if I3 s p 0<0 then 0 else -1)=A3h s p from Z]at b1 b2 b3 b4
 simp only at b1 b3 b4
 rcases b4 with⟨c1,c2,c3⟩|⟨c1,c2,c3,c4⟩
 ·have hz:(M6 s p).1=0:= by
   rcases a3 with e|⟨x,hx,hf,_⟩
   ·exact e
   ·have:=c3 x hx;omega
  have hl0:0≤I3 s p 0:= by
   by_cases hc:I3 s p 0<0
   ·rw[if_pos hc]at c2;omega
   ·omega
  have hm:0≤(A3h s p).1:= by
   rcases b3 with e|⟨x,hx,e⟩
   ·omega
   ·have:=c3 x hx;omega
  exact⟨⟨fun _=>c1,fun _=>hz⟩,.inl c1,⟨fun _=>hm,fun _=>hz⟩,fun hc=>by omega⟩
 ·have hx:∃x∈pays s p,I3 s p x.2<0∧x.2=(A3h s p).2:= by
   rcases c2 with e|hx
   ·by_cases hc:I3 s p 0<0
    ·rw[if_pos hc]at e
     obtain⟨x,hx,hx0⟩:=left0 hs h hc
     exact⟨x,hx,by rw[hx0];exact hc,by omega⟩
    ·rw[if_neg hc]at e;omega
   ·exact hx
  obtain⟨x,hx,hf,e⟩:=hx
  have g1:=a2 x hx hf
  have g2:=a5 x hx hf
  have g3:=(W2 hs h x hx).2
  have hm:=b2 x hx
  have hday:(M6 s p).2=(A3h s p).2:= by
   rcases a6 with e6|⟨y,hy,hfy,ey⟩
   ·omega
   ·have:=c3 y hy hfy;omega
  refine⟨⟨fun _=>by omega,fun _=>by omega⟩,.inr hday,⟨fun _=>by omega,fun _=>by omega⟩,fun hneg=>?_⟩
  have hle:-(A3h s p).1≤(M6 s p).1:= by
   rcases b3 with eb|⟨y,hy,eb⟩
   ·have hc:I3 s p 0<0:= by omega
    obtain⟨z,hz,hz0⟩:=left0 hs h hc
    have:=a2 z hz (by rw[hz0];exact hc)
    rw[hz0]at this;omega
   ·have:=a2 y hy (by omega);omega
  rcases a3 with e3|⟨y,hy,hfy,ey⟩
  ·omega
  ·have:=b2 y hy;omega
theorem A80 {s:PaShow} {p:List PaUse} (h:P1 s p=0):ShOk s∧PlOk s p:= by
 unfold P1 at h
 split at h
 ·next h2=>exact absurd h h2
 ·next h2=>exact⟨(A0r s).mp (by simpa using h2),B2s.mp h⟩
def A7j (s:PaShow) (p:List PaUse):Int:=if P1 s p≠0 then P1 s p else if (M6 s p).1=0 then 4 else 0
theorem B76 (s:PaShow) (hb:NB s) (p:List PaUse):X0 s p=some (if A7j s p=0 then (M6 s p).2 else 0,A7j s p):= by
 unfold X0
 rw[B90 s hb]
 simp only[Zd]
 unfold A7j
 by_cases h:P1 s p=0
 ·obtain⟨hs,hp⟩:=A80 h
  simp only[h,if_true,ne_eq,not_true,if_false,BEq.rfl]
  rw[show (pawn_show.mk s (Ar3.mk (pawn_way.mk ) (pawn_way.mk ) (pawn_way.mk )) (O1 s))=shw s (O1 s) from Z,C62 hs _ hp.u]
  simp only[Zd]
  by_cases hz:(M6 s p).1=0
  ·rw[if_pos (by simpa using hz),if_pos hz];rfl
  ·rw[if_neg (by simpa using hz),if_neg hz];rfl
 ·rw[if_neg (by simpa using h),if_pos h,if_neg h]
section
variable {α β σ ρ:Type}
def V7 (f:α→σ→Option (σ⊕ρ)):List α→σ→Option (σ⊕ρ)
 | [],s=>some (.inl s)
 | a::l,s=>(f a s).bind fun x=>match x with
  | .inl s'=>V7 f l s'
  | .inr r=>some (.inr r)
theorem A8n (f:α→σ→Option (σ⊕ρ)) (m:List α):∀(l:List α) (s:σ),V7 f (l++m) s=(V7 f l s).bind fun x=>match x with
  | .inl s'=>V7 f m s'
  | .inr r=>some (.inr r)
 | [],s=>rfl
 | a::l,s=>by
  show (f a s).bind _=((f a s).bind _).bind _
  cases f a s with
  | none=>rfl
  | some x=>cases x with
   | inl s'=>exact A8n f m l s'
   | inr r=>rfl
theorem B8q (f:α→σ→Option (σ⊕ρ)) (h:β→List α):∀(l:List β) (s:σ),V7 f (l.flatMap h) s=V7 (fun b s=>V7 f (h b) s) l s
 | [],s=>rfl
 | b::l,s=>by
  rw[List.flatMap_cons,A8n]
  show _=(V7 f (h b) s).bind _
  cases V7 f (h b) s with
  | none=>rfl
  | some x=>cases x with
   | inl s'=>exact B8q f h l s'
   | inr r=>rfl
theorem A5b (f:α→σ→Option (σ⊕ρ)) (p:α→Bool):∀(l:List α) (s:σ),V7 f (l.filter p) s=V7 (fun a s=>if p a then f a s else some (.inl s)) l s
 | [],s=>rfl
 | a::l,s=>by
  rw[Z20]
  cases h:p a with
  | false =>
   rw[if_neg (by decide),A5b f p l s]
   show _=(if p a then f a s else some (.inl s)).bind _
   rw[h];rfl
  | true =>
   rw[if_pos Z]
   show (f a s).bind _=(if p a then f a s else some (.inl s)).bind _
   rw[h,if_pos Z]
   cases f a s with
   | none=>rfl
   | some x=>cases x with
    | inl s'=>exact A5b f p l s'
    | inr r=>rfl
theorem A9o {f g:α→σ→Option (σ⊕ρ)}:∀{l:List α} {s:σ},(∀ a∈l,∀ s,f a s=g a s)→V7 f l s=V7 g l s
 | [],s,_=>rfl
 | a::l,s,h=>by
  show (f a s).bind _=(g a s).bind _
  rw[h a (Zz ..) s]
  cases g a s with
  | none=>rfl
  | some x=>cases x with
   | inl s'=>exact A9o fun b hb s=>h b (Zx _ hb) s
   | inr r=>rfl
end
theorem C10 {α β σ ρ:Type} (f:α→σ→Option (σ⊕ρ)) (g:β→α):∀(l:List β) (s:σ),V7 f (l.map g) s=V7 (fun b s=>f (g b) s) l s
 | [],s=>rfl
 | b::l,s=>by
  show (f (g b) s).bind _=(f (g b) s).bind _
  cases f (g b) s with
  | none=>rfl
  | some x=>cases x with
   | inl s'=>exact C10 f g l s'
   | inr r=>rfl
def T7 (D:List Int) (n:Nat):PaUse:=⟨((n / D.length / 3:Nat):Int),((n / D.length % 3:Nat):Int),D[n % D.length]!⟩
def D36 (q:List PaUse) (u:PaUse):Bool:=(u.Gown != -1)&&q.any fun x=>x.Gown==u.Gown
def okU (s:PaShow) (q:List PaUse) (u:PaUse):Bool:=X4 s.Gowns s.Figures[q.length]! u==0&&!D36 q u
def nU (s:PaShow) (D:List Int):Nat:=s.Gowns.length*3*D.length
def cand (s:PaShow) (D:List Int) (q:List PaUse):List PaUse:=((Z09 (nU s D)).map (T7 D)).filter (okU s q)
def PL (s:PaShow) (D:List Int):Nat→List PaUse→List (List PaUse)
 | 0,q=>[q]
 | d+1,q=>(cand s D q).flatMap (fun u=>PL s D d (q++[u]))++PL s D d (q++[bare0])
theorem D9n (s:PaShow) {D:List Int} (h0:0<D.length) (hD:D.length≤365) {n:Nat} (hn:n<100000):plx s D (n:Int)=some (T7 D n):= by
 have hD0:(0:Int)≤n:=Z0r n
 have e1:C1c (n:Int) (D.length:Int)=some ((n / D.length:Nat):Int):= by
  unfold C1c
  rw[if_neg (by omega),Z2m hD0,← Int.natCast_ediv]
  have:n / D.length≤n:=Z5b _ _
  generalize n / D.length=k at this
  rw[F5 (by omega)]
 have e2:C1c ((n / D.length:Nat):Int) 3=some ((n / D.length / 3:Nat):Int):= by
  have:n / D.length≤n:=Z5b _ _
  generalize n / D.length=k at this
  unfold C1c
  rw[if_neg (by omega),Z2m (Z0r _),F5 (by omega)]
  rfl
 have e3:B2w ((n / D.length:Nat):Int) 3=some ((n / D.length % 3:Nat):Int):= by
  unfold B2w
  rw[if_neg (by omega),Z2n (Z0r _)]
  rfl
 have e4:B2w (n:Int) (D.length:Int)=some ((n % D.length:Nat):Int):= by
  unfold B2w
  rw[if_neg (by omega),Z2n hD0,← Int.natCast_emod]
 unfold plx
 rw[e1]
 simp only[Zd]
 rw[e2,e3,e4]
 simp only[Zd]
 rw[I5 (Z1s _ h0)]
 rfl
theorem C0g {p:List PaUse} {k:Nat} (hk:k<p.length) (u:PaUse):(T2 p (k:Int) u).take (k+1)=p.take k++[u]∧(T2 p (k:Int) u).length=p.length∧(T2 p (k:Int) u)[k]! = u∧(T2 p (k:Int) u).take k=p.take k:= by
 unfold T2
 rw[ZG]
 refine⟨?_,Z0p,?_,?_⟩
 ·rw[ZV (by rw[Z0p];exact hk),Z4k]
  congr 1
  rw[Z2y]
  exact Z1h (by rw[ZE];omega)
 ·rw[getElem!_pos _ k (by rw[Z0p];exact hk),Z4k]
 ·rw[Z2y]
  exact Z1h (by rw[ZE];omega)
section
variable {σ ρ:Type}
theorem D5l {s:PaShow} (hs:ShOk s) {D:List Int} (h0:0<D.length) (hD:D.length≤365) {q p:List PaUse} (hp:p.length=s.Figures.length) (hq:p.take q.length=q) (hk:q.length<p.length) (rec:Int→List PaUse→σ→Option (List PaUse×(σ⊕ρ))) {n:Nat} (hn:n<nU s D) (st:σ) :
  B22 s D (q.length:Int) rec ((n:Int),p,st)=if okU s q (T7 D n) then (rec ((q.length+1:Nat):Int) (T2 p (q.length:Int) (T7 D n)) st).bind fun y=>match y with
    | (p,.inl s')=>some (.inl (((n+1:Nat):Int),p,s'))
    | (p,.inr r)=>some (.inr (.inl (p,r)))
   else some (.inl (((n+1:Nat):Int),T2 p (q.length:Int) (T7 D n),st)):= by
 have hG:=hs.gowns
 have hF:=hs.figures
 have hN:nU s D≤6000:= by
  unfold nU
  have:s.Gowns.length*3*D.length≤15*365:=Z3l (by omega) hD
  omega
 have hw:w64 (w64 ((s.Gowns.length:Int)*3)*(D.length:Int))=(nU s D:Int):= by
  rw[F5 (n:=(s.Gowns.length:Int)*3) (by omega)]
  have e:(s.Gowns.length:Int)*3*(D.length:Int)=(nU s D:Int):= by unfold nU;simp
  rw[e,F5 (by omega)]
 obtain⟨g1,g2,g3,g4⟩:=C0g hk (T7 D n)
 unfold B22
 simp only[]
 rw[hw,if_pos (by simpa using hn),D9n s h0 hD (by omega)]
 simp only[Zd]
 rw[I5 hk,C84 hs D (f:=(q.length:Int)) (by omega),C83,ZG]
 simp only[Zd]
 rw[C69 (by rw[g2];exact hk) (by rw[g2];omega),F5 (n:=(n:Int)+1) (by omega),F5 (n:=(q.length:Int)+1) (by omega)]
 have ht:twP (T2 p (q.length:Int) (T7 D n)) q.length=D36 q (T7 D n):= by
  unfold twP D36
  rw[g3,g4,hq]
 rw[ht]
 unfold okU
 by_cases hu:X4 s.Gowns s.Figures[q.length]! (T7 D n)=0
 ·have e1:(X4 s.Gowns s.Figures[q.length]! (T7 D n) != 0)=false:= by rw[hu];rfl
  have e2:(X4 s.Gowns s.Figures[q.length]! (T7 D n)==0)=true:= by rw[hu];rfl
  rw[e1,e2]
  cases D36 q (T7 D n) <;> rfl
 ·have e1:(X4 s.Gowns s.Figures[q.length]! (T7 D n) != 0)=true:=bne_iff_ne.mpr hu
  have e2:(X4 s.Gowns s.Figures[q.length]! (T7 D n)==0)=false:=beq_eq_false_iff_ne.mpr hu
  rw[e1,e2];rfl
def E0r (p:List PaUse):σ⊕ρ→(List PaUse×ρ)⊕(List PaUse×σ)
 | .inl s=>.inr (p,s)
 | .inr r=>.inl (p,r)
theorem D37 {s:PaShow} (hs:ShOk s) {D:List Int} (h0:0<D.length) (hD:D.length≤365) (body:List PaUse→σ→Option (σ⊕ρ)) :
  ∀ (d:Nat) (q p:List PaUse) (st:σ) (X:σ⊕ρ) (m:Nat),p.length=s.Figures.length→p.take q.length=q→q.length+d=p.length→d<m →
   V7 body (PL s D d q) st=some X→∃ p',B1v s D body m (q.length:Int) p st=some (p',X)∧p'.length=p.length∧p'.take q.length=q:= by
 have hG:=hs.gowns
 have hF:=hs.figures
 have hN:nU s D≤6000:= by
  unfold nU
  have:s.Gowns.length*3*D.length≤15*365:=Z3l (by omega) hD
  omega
 intro d
 induction d with
 | zero =>
  intro q p st X m hp hq hd hm hf
  obtain⟨m',rfl⟩:∃m',m=m'+1:=⟨m-1,by omega⟩
  have hpq:p=q:= by rw[← hq,ZP (by omega)]
  subst hpq
  refine⟨p,?_,Z,hq⟩
  unfold B1v
  rw[if_pos (by simp)]
  unfold PL V7 at hf
  cases hb:body p st with
  | none=>rw[hb]at hf;cases hf
  | some x=>rw[hb]at hf;cases x <;> cases hf <;> rfl
 | succ d ih =>
  intro q p st X m hp hq hd hm hf
  obtain⟨m',rfl⟩:∃m',m=m'+1:=⟨m-1,by omega⟩
  unfold PL cand at hf
  rw[A8n,B8q,A5b,C10]at hf
  have key:∀(j i m2:Nat) (p:List PaUse) (st:σ) (Y:σ⊕ρ),p.length=s.Figures.length→p.take q.length=q→q.length+(d+1)=p.length→i+j=nU s D→j<m2 →
    V7 (fun n st=>if okU s q (T7 D n) then V7 body (PL s D d (q++[T7 D n])) st else some (.inl st)) ((Z09 (nU s D)).drop i) st=some Y →
    ∃ p',A52 (B22 s D (q.length:Int) (B1v s D body m')) m2 ((i:Int),p,st)=some (E0r p' Y)∧p'.length=p.length∧p'.take q.length=q:= by
   intro j
   induction j with
   | zero =>
    intro i m2 p st Y hp hq hd hi hm2 h
    obtain⟨m3,rfl⟩:∃m3,m2=m3+1:=⟨m2-1,by omega⟩
    rw[Z1l (by simp;omega)]at h
    cases h
    refine⟨p,?_,Z,hq⟩
    rw[L2]
    unfold B22
    simp only[]
    have hw:w64 (w64 ((s.Gowns.length:Int)*3)*(D.length:Int))=(nU s D:Int):= by
     rw[F5 (n:=(s.Gowns.length:Int)*3) (by omega)]
     have e:(s.Gowns.length:Int)*3*(D.length:Int)=(nU s D:Int):= by unfold nU;simp
     rw[e,F5 (by omega)]
    rw[hw,if_neg (by simp;omega)];rfl
   | succ j ihj =>
    intro i m2 p st Y hp hq hd hi hm2 h
    obtain⟨m3,rfl⟩:∃m3,m2=m3+1:=⟨m2-1,by omega⟩
    have hi2:i<(Z09 (nU s D)).length:= by simp;omega
    rw[Z1c hi2,List.getElem_range]at h
    unfold V7 at h
    obtain⟨g1,g2,g3,g4⟩:=C0g (p:=p) (k:=q.length) (by omega) (T7 D i)
    rw[L2,D5l hs h0 hD hp hq (by omega) _ (by omega) st]
    cases hc:okU s q (T7 D i) with
    | false =>
     rw[hc]at h
     obtain⟨p',e1,e2,e3⟩:=ihj (i+1) m3 (T2 p (q.length:Int) (T7 D i)) st Y (by rw[g2];exact hp) (by rw[g4];exact hq) (by rw[g2];exact hd) (by omega) (by omega) h
     exact⟨p',e1,by rw[e2,g2],e3⟩
    | true =>
     rw[hc]at h
     simp only[if_true]at h
     cases hX:V7 body (PL s D d (q++[T7 D i])) st with
     | none=>rw[hX]at h;cases h
     | some Zr =>
      rw[hX]at h
      have hql:(q++[T7 D i]).length=q.length+1:= by simp
      obtain⟨p1,r1,r2,r3⟩:=ih (q++[T7 D i]) (T2 p (q.length:Int) (T7 D i)) st Zr m' (by rw[g2];exact hp) (by rw[hql,g1,hq]) (by rw[hql,g2];omega) (by omega) hX
      rw[hql]at r1 r3
      have r4:p1.take q.length=q:= by
       have:=congrArg (List.take q.length) r3
       rwa [Z3k,Z1o (Z5q _),Z06]at this
      rw[if_pos Z,r1]
      cases Zr with
      | inl s' =>
       obtain⟨p',e1,e2,e3⟩:=ihj (i+1) m3 p1 s' Y (by rw[r2,g2];exact hp) r4 (by rw[r2,g2];exact hd) (by omega) (by omega) h
       exact⟨p',e1,by rw[e2,r2,g2],e3⟩
      | inr x =>
       cases h
       exact⟨p1,Z,by rw[r2,g2],r4⟩
  cases hY:V7 (fun n st=>if okU s q (T7 D n) then V7 body (PL s D d (q++[T7 D n])) st else some (.inl st)) (Z09 (nU s D)) st with
  | none=>rw[hY]at hf;cases hf
  | some Y =>
   rw[hY]at hf
   obtain⟨p',e1,e2,e3⟩:=key (nU s D) 0 9223372036854775808 p st Y hp hq hd (by omega) (by omega) hY
   unfold B1v
   rw[if_neg (by simp;omega)]
   unfold loop
   rw[show ((0:Int),p,st)=(((0:Nat):Int),p,st) from Z,e1]
   cases Y with
   | inr r=>cases hf;exact⟨p',Z,e2,e3⟩
   | inl s' =>
    simp only[Zd]at hf
    obtain⟨g1,g2,g3,g4⟩:=C0g (p:=p') (k:=q.length) (by omega) bare0
    have hql:(q++[bare0]).length=q.length+1:= by simp
    obtain⟨p1,r1,r2,r3⟩:=ih (q++[bare0]) (T2 p' (q.length:Int) bare0) s' X m' (by rw[g2,e2];exact hp) (by rw[hql,g1,e3]) (by rw[hql,g2,e2];omega) (by omega) hf
    rw[hql]at r1 r3
    refine⟨p1,?_,by rw[r2,g2,e2],?_⟩
    ·unfold E0r A0l
     simp only[Zd]
     rw[I5 (by omega),F5 (n:=(q.length:Int)+1) (by omega)]
     exact r1
    ·have:=congrArg (List.take q.length) r3
     rwa [Z3k,Z1o (Z5q _),Z06]at this
theorem C8n {s:PaShow} (hs:ShOk s) {D:List Int} (h0:0<D.length) (hD:D.length≤365) (body:List PaUse→σ→Option (σ⊕ρ)) {st:σ} {X:σ⊕ρ} (h:V7 body (PL s D s.Figures.length []) st=some X):B1d s D σ ρ body st=some X:= by
 have hF:=hs.figures
 unfold B1d B9f
 rw[if_pos ⟨by omega,by omega,by omega⟩]
 simp only[Zd,ZG]
 obtain⟨p',e1,_,_⟩:=D37 hs h0 hD body s.Figures.length [] (Zv s.Figures.length (PaUse.mk 0 0 0)) st X 64 (by simp) Z (by simp) (by omega) h
 rw[show ((([]:List PaUse).length:Nat):Int)=0 from Z]at e1
 rw[e1];rfl
end
theorem B3b {s:PaShow}:0<(O1 s).length∧(O1 s).length≤365:= by
 unfold O1
 have:=Z4j (fun d=>s.Incomes.any fun x=>x.Day==d) ((Z09 364).map fun (i:Nat)=>(i:Int)+1)
 rw[Zj,List.length_range]at this
 rw[ZX]
 omega
def A0d (s:PaShow) (p:List PaUse):Int:=sm ((pays s p).map Z32)
theorem B7n {s:PaShow} (hs:ShOk s) {p:List PaUse} (h:PlU s p) (i:Nat):0≤sm (((pays s p).take i).map Z32)∧sm (((pays s p).take i).map Z32)≤300000:= by
 have:=C63 (a:=0) (b:=100000) (l:=((pays s p).take i).map Z32) (fun z hz=>by
  obtain⟨x,hx,rfl⟩:=ZK.mp hz
  exact(W2 hs h x (ZZ hx)).1)
 rw[Zj,ZE,K5 h]at this
 have:=hs.figures
 have:=h.len
 omega
theorem D7o {l:List (Int×Int)} (h:∀x∈l,0≤x.1) {d e:Int} (hde:d≤e):S3 l d≤S3 l e:= by
 unfold S3
 refine C64 fun x hx=>?_
 have:=h x hx
 split <;> split <;> omega
theorem D3w {l:List (Int×Int)} {d:Int}:(∃ x∈l,x.2≤d)→∃ x∈l,x.2≤d∧∀ y∈l,y.2≤d→y.2≤x.2:= by
 induction l with
 | nil=>rintro⟨x,hx,_⟩;cases hx
 | cons a l ih =>
  intro hx
  by_cases hl:∃x∈l,x.2≤d
  ·obtain⟨x,hx,hd,hm⟩:=ih hl
   by_cases ha:a.2≤d∧x.2<a.2
   ·refine⟨a,Zz ..,ha.1,fun y hy hyd=>?_⟩
    rcases Zu.mp hy with rfl|hy
    ·exact Z00 _
    ·have:=hm y hy hyd;omega
   ·refine⟨x,Zx _ hx,hd,fun y hy hyd=>?_⟩
    rcases Zu.mp hy with rfl|hy
    ·omega
    ·exact hm y hy hyd
  ·obtain⟨x,hx,hd⟩:=hx
   rcases Zu.mp hx with rfl|hx
   ·refine⟨x,Zz ..,hd,fun y hy hyd=>?_⟩
    rcases Zu.mp hy with rfl|hy
    ·exact Z00 _
    ·exact absurd ⟨y,hy,hyd⟩ hl
   ·exact absurd ⟨x,hx,hd⟩ hl
theorem C32 {s:PaShow} (hs:ShOk s) {p:List PaUse} (h:PlU s p) {d:Int} (hn:I3 s p d<0):∃x∈pays s p,x.2≤d∧I3 s p x.2<0:= by
 have hi0:∀x∈incs s,0≤x.1:=fun x hx=>(Y9 hs x hx).1.1
 have hpu:=hs.purse
 by_cases he:∃x∈pays s p,x.2≤d
 ·obtain⟨x,hx,hd,hm⟩:=D3w he
  refine⟨x,hx,hd,?_⟩
  have e:S3 (pays s p) d=S3 (pays s p) x.2:= by
   unfold S3
   refine congrArg sm (Z3h fun y hy=>?_)
   by_cases hy2:y.2≤d
   ·rw[if_pos hy2,if_pos (hm y hy hy2)]
   ·rw[if_neg hy2,if_neg (by omega)]
  have:=D7o hi0 hd
  unfold I3 at hn ⊢
  omega
 ·have e:S3 (pays s p) d=0:= by
   unfold S3
   exact C4o fun x hx=>if_neg fun hc=>he ⟨x,hx,hc⟩
  have:=(A2l (fun x hx=>(Y9 hs x hx).1) d).1
  unfold I3 at hn
  omega
def fm {α:Type} (k:α→Int):List α→Option α
 | []=>none
 | x::l=>match fm k l with
  | none=>some x
  | some y=>if k y<k x then some y else some x
section
variable {α:Type} {k:α→Int}
theorem C9l:∀{l:List α},fm k l=none↔l=[]
 | []=>⟨fun _=>rfl,fun _=>rfl⟩
 | x::l=>by
  refine⟨fun h=>?_,fun h=>by cases h⟩
  unfold fm at h
  split at h
  ·cases h
  ·split at h <;> cases h
theorem B7q:∀{l:List α} {b:α},fm k l=some b→(∀ y∈l,k b≤k y)∧∃ A B,l=A++b::B∧∀ a∈A,k b<k a
 | [],b,h=>by cases h
 | x::l,b,h=>by
  unfold fm at h
  cases hf:fm k l with
  | none =>
   rw[hf]at h;cases h
   rw[C9l.mp hf]
   exact⟨by simp,[],[],Z,by simp⟩
  | some y =>
   rw[hf]at h
   obtain⟨h1,A,B,rfl,h3⟩:=B7q hf
   simp only at h
   split at h
   ·next c =>
    cases h
    refine⟨fun z hz=>?_,x::A,B,Z,fun a ha=>?_⟩
    ·rcases Zu.mp hz with rfl|hz
     ·omega
     ·exact h1 z hz
    ·rcases Zu.mp ha with rfl|ha
     ·exact c
     ·exact h3 a ha
   ·next c =>
    cases h
    refine⟨fun z hz=>?_,[],A++y::B,Z,by simp⟩
    rcases Zu.mp hz with rfl|hz
    ·exact Z00 _
    ·have:=h1 z hz;omega
theorem D8j {l:List α} {b:α} (h:fm k l=some b):b∈l:= by
 obtain⟨_,A,B,rfl,_⟩:=B7q h
 simp
theorem D7y {l:List α} {b:α} (h:fm k l=some b) {y:α} (hy:y∈l):k b≤k y:=(B7q h).1 y hy
theorem D56 {l:List α} {x:α} (h:x∈l):∃b,fm k l=some b:= by
 cases hf:fm k l with
 | none=>rw[C9l.mp hf]at h;cases h
 | some b=>exact⟨b,Z⟩
theorem C9m (y:α):∀(l:List α),fm k (l++[y])=match fm k l with
  | none=>some y
  | some b=>if k y<k b then some y else some b
 | []=>rfl
 | x::l=>by
  show (match fm k (l++[y]) with|none=>some x|some z=>if k z<k x then some z else some x)=match (match fm k l with|none=>some x|some z=>if k z<k x then some z else some x) with|none=>some y|some b=>if k y<k b then some y else some b
  rw[C9m y l]
  cases fm k l with
  | none=>rfl
  | some b =>
   simp only
   by_cases c1:k b<k x <;> by_cases c2:k y<k b <;> by_cases c3:k y<k x <;> simp only[c1,c2,c3,if_true,if_false] <;> omega
end
def R9 (p:List PaUse):Int:=sm (p.map fun x=>if x.Gown = -1 then 1 else 0)
theorem B73 (p:List PaUse):0≤R9 p∧R9 p≤p.length:= by
 have:=C63 (a:=0) (b:=1) (l:=p.map fun x=>if x.Gown = -1 then 1 else 0) (fun z hz=>by
  obtain⟨x,_,rfl⟩:=ZK.mp hz
  split <;> omega)
 rw[Zj]at this
 unfold R9
 omega
def gv (p:List PaUse) (k:Nat):Int:=if k<p.length then p[k]!.Gown+1 else 0
def C01 (p:List PaUse):Ar3 Int:=⟨gv p 0,gv p 1,gv p 2⟩
def fdP (s:PaShow) (p:List PaUse):pawn_found:=⟨p,R9 p,A0d s p,(M6 s p).1,C01 p⟩
theorem C3q {p:List PaUse} {u:PaUse} (k:Nat):gv (p++[u]) k=if k=p.length then u.Gown+1 else gv p k:= by
 unfold gv
 rw[Zp,List.length_singleton]
 by_cases h:k=p.length
 ·subst h
  rw[if_pos (by omega),if_pos Z,getElem!_pos _ _ (by simp)];simp
 ·rw[if_neg h]
  by_cases h2:k<p.length
  ·rw[if_pos (by omega),if_pos h2,getElem!_pos _ k (by simp;omega),getElem!_pos p k h2,Z41 h2]
  ·rw[if_neg (by omega),if_neg h2]
theorem D3m {p:List PaUse} {u:PaUse}:(C01 p).set (p.length:Int) (u.Gown+1)=C01 (p++[u]):= by
 unfold C01 Ar3.set
 rw[C3q,C3q,C3q]
 have e0:((p.length:Int)=0)=(0=p.length):= by rw[eq_iff_iff];omega
 have e1:((p.length:Int)=1)=(1=p.length):= by rw[eq_iff_iff];omega
 have e2:((p.length:Int)=2)=(2=p.length):= by rw[eq_iff_iff];omega
 simp only[e0,e1,e2]
theorem D3d {s:PaShow} (hs:ShOk s) (D:List Int) {p:List PaUse} (h:PlU s p):B3g s D p=some (fdP s p):= by
 have hF:=hs.figures
 have hG:=hs.gowns
 have hlen:=h.len
 unfold B3g B9f
 rw[if_pos ⟨by omega,by omega,by omega⟩]
 simp only[Zd]
 have e1:loop (B02 s D p) (⟨0,0,⟨0,0,0⟩⟩,0)=some ⟨R9 p,A0d s p,C01 p⟩:= by
  have hc:∀i,i≤p.length→(pays s p).take i=(pays s p).take i:=fun _ _=>rfl
  have:=A4r (b:=B02 s D p) (fun i=>((⟨R9 (p.take i),sm (((pays s p).take i).map Z32),C01 (p.take i)⟩:Fd),(i:Int))) p.length (r:=⟨R9 p,A0d s p,C01 p⟩) (by omega) (fun i hi=>by
   have hx:=(W2 hs h _ (J3 (l:=pays s p) (i:=i) (by rw[K5 h];exact hi))).1
   have hcb:=B7n hs h i
   have hwb:=B73 (p.take i)
   have htl:(p.take i).length=i:= by rw[ZE];omega
   rw[A3i h hi]at hx
   have hu:=h.use i hi
   have hgb:-1≤p[i]!.Gown∧p[i]!.Gown≤5:= by
    rcases Y2.mp hu with e|e
    ·rw[e];exact⟨by decide,by decide⟩
    ·have:=e.lo;have:=e.hi;omega
   have ec:sm (((pays s p).take (i+1)).map Z32)=sm (((pays s p).take i).map Z32)+(A3q s.Gowns s.Figures[i]! p[i]!).1:= by
    rw[ZV (by rw[K5 h];exact hi),Z05,B1k,← A3i h hi,getElem!_pos _ i (by rw[K5 h];exact hi)]
    simp[sm]
   have et:p.take (i+1)=p.take i++[p[i]!]:= by
    rw[ZV hi,getElem!_pos p i hi]
   have ew:R9 (p.take (i+1))=R9 (p.take i)+if p[i]!.Gown = -1 then 1 else 0:= by
    rw[et];unfold R9;rw[Z05,B1k];simp[sm]
   have eh:(C01 (p.take i)).set (i:Int) (p[i]!.Gown+1)=C01 (p.take (i+1)):= by
    rw[et,← D3m,htl]
   have hi3:∃v,idx (C01 (p.take i)).l (i:Int)=some v:= by
    unfold Ar3.l
    exact⟨_,I5 (by simp;omega)⟩
   obtain⟨v,hv⟩:=hi3
   unfold B02 A0l
   simp only[]
   rw[if_pos (by simpa using hi),I5 hi]
   simp only[Zd]
   rw[C4e hs D (f:=(i:Int)) (by omega) (by rw[ZG];exact hu),ZG,hv]
   simp only[Zd]
   rw[F5 (n:=p[i]!.Gown+1) (by omega),F5 (n:=(i:Int)+1) (by omega),F5 (n:=R9 (p.take i)+1) (by omega),F5 (n:=sm (((pays s p).take i).map Z32)+_) (by omega),eh,ew,ec]
   by_cases hb:p[i]!.Gown = -1
   ·have:p[i]! = bare0:= by
     rcases Y2.mp hu with e|e
     ·exact e
     ·have:=e.lo;omega
    rw[if_pos (by rw[this];rfl),if_pos hb];rfl
   ·rw[if_neg (by simp only[Zc,beq_iff_eq];exact fun q=>hb q.1),if_neg hb,Z3f];rfl) (by
   rw[ZP (Nat.le_refl _),ZP (by rw[K5 h];omega)]
   unfold B02
   simp only[]
   rw[if_neg (by simp)];rfl)
  exact this
 rw[e1]
 simp only[Zd]
 rw[C62 hs D h]
 rfl
section
variable {σ ρ:Type}
theorem D2n {s:PaShow} (hs:ShOk s) (hP:∀p∈PL s (O1 s) s.Figures.length [],PlU s p) (body:pawn_found→σ→Option (σ⊕ρ)) {st:σ} {X:σ⊕ρ} (h:V7 (fun p st=>body (fdP s p) st) (PL s (O1 s) s.Figures.length []) st=some X):B79 s (O1 s) σ ρ body st=some X:= by
 unfold B79
 refine C8n hs B3b.1 B3b.2 _ ?_
 rw[← h]
 exact A9o fun p hp st=>by rw[D3d hs _ (hP p hp)];rfl
def D9m (s:PaShow) (p:List PaUse):Bool:=!decide ((M6 s p).1>0)
def PA (s:PaShow):List (List PaUse):=(PL s (O1 s) s.Figures.length []).filter (D9m s)
theorem D45 {s:PaShow} (hs:ShOk s) (hP:∀p∈PL s (O1 s) s.Figures.length [],PlU s p) (body:pawn_found→σ→Option (σ⊕ρ)) {st:σ} {X:σ⊕ρ} (h:V7 (fun p st=>body (fdP s p) st) (PA s) st=some X):B6q s (O1 s) σ ρ body st=some X:= by
 unfold B6q
 refine D2n hs hP _ ?_
 rw[← h]
 unfold PA
 rw[A5b]
 refine A9o fun p hp st=>?_
 show (if decide ((M6 s p).1>0)=true then some (.inl st) else body (fdP s p) st)=_
 unfold D9m
 cases decide ((M6 s p).1>0) <;> rfl
end
section
variable {α:Type} {k:α→Int}
def upd (k:α→Int) (o:Option α) (a:α):Option α:=match o with|none=>some a|some b=>if k a<k b then some a else some b
theorem C9k:∀(m l:List α),m.foldl (upd k) (fm k l)=fm k (l++m)
 | [],l=>by simp
 | a::m,l=>by
  rw[Z0a]
  have:upd k (fm k l) a=fm k (l++[a]):= by rw[C9m];rfl
  rw[this,C9k m,ZB];rfl
def stO (F:α→pawn_found):Option α→pawn_found×Bool
 | none=>(fnd0,false)
 | some b=>(F b,true)
theorem D5x {it:It} {L:List α} {F:α→pawn_found} {g:pawn_found→pawn_found→Option Int} (hit:∀(σ ρ:Type) (body:pawn_found→σ→Option (σ⊕ρ)) (st:σ) (X:σ⊕ρ),V7 (fun a st=>body (F a) st) L st=some X→it σ ρ body st=some X)
  (hg:∀a∈L,∀ b∈L,∃ r,g (F a) (F b)=some r∧(r<0↔k a<k b)):B8b it g=some (stO F (fm k L)):= by
 have key:∀(m:List α) (o:Option α),(∀ a∈m,a∈L)→(∀ b,o=some b→b∈L)→V7 (fun a st=>C1o g (F a) st) m (stO F o)=(some (.inl (stO F (m.foldl (upd k) o))):Option ((pawn_found×Bool)⊕Unit)):= by
  intro m
  induction m with
  | nil=>intro o _ _;rfl
  | cons a m ih =>
   intro o hm ho
   have hb:C1o g (F a) (stO F o)=some (.inl (stO F (upd k o a))):= by
    unfold C1o
    cases o with
    | none=>rfl
    | some b =>
     obtain⟨r,h1,h2⟩:=hg a (hm a (Zz ..)) b (ho b Z)
     show (if (!true)=true then _ else (g (F a) (F b)).bind _:Option Bool).bind _=_
     rw[h1]
     unfold upd
     by_cases c:k a<k b
     ·simp only[if_pos c]
      have:decide (r<0)=true:=decide_eq_true (h2.mpr c)
      simp[this,stO]
     ·simp only[if_neg c]
      have:decide (r<0)=false:=decide_eq_false fun q=>c (h2.mp q)
      simp only[Bool.not_true,Zi,if_false,Zd,this,stO]
   show (C1o g (F a) (stO F o)).bind _=_
   rw[hb]
   refine ih (upd k o a) (fun b hb=>hm b (Zx _ hb)) fun b hb=>?_
   unfold upd at hb
   cases o with
   | none=>cases hb;exact hm a (Zz ..)
   | some c =>
    simp only at hb
    split at hb
    ·cases hb;exact hm a (Zz ..)
    ·cases hb;exact ho _ Z
 unfold B8b
 rw[hit _ _ _ (fnd0,false) (.inl (stO F (fm k L))) (by
  have:=key L none (fun _ h=>h) (fun b h=>by cases h)
  rw[show (none:Option α)=fm k ([]:List α) from Z,C9k,Z07]at this
  exact this)]
 rfl
end
def A7w (s:PaShow) (p:List PaUse):Int:=R9 p*1000000+A0d s p
theorem or2 (a b:Int):A3v [a,b]=some (if a=0 then b else a):= by
 unfold A3v
 rw[A6w (b:=A1u [a,b]) 2 (fun i=>if ([a,b][i]!:Int)=0 then none else some (.inl [a,b][i]!)) (.inr ()) (by omega) (fun i hi _=>by
  unfold A1u
  rw[if_pos (by simp;omega),I5 (by simp;omega)]
  simp only[Zd]
  by_cases h:([a,b][i]!:Int)=0
  ·rw[if_neg (by rw[h];decide),if_pos h]
  ·rw[if_pos (bne_iff_ne.mpr h),if_neg h]) (by
  unfold A1u
  rw[if_neg (by simp)])]
 simp only[first]
 rw[show ([a,b][0]!:Int)=a from Z,show ([a,b][1]!:Int)=b from Z]
 by_cases ha:a=0
 ·by_cases hb:b=0
  ·simp[ha,hb]
  ·simp[ha,hb]
 ·simp[ha]
end Pw
end
section
set_option maxRecDepth 100000
set_option maxHeartbeats 0
namespace Pw
open Go Am Go.Proofs.YtjpjdglddmhplaaGreat.Cd
def A2o (a0:(List Int)) (a1:Int):Option Int :=
 if ((Zh a0:Int)==0)=true then
  some 0
 else
  (B2w a1 (Zh a0:Int)).bind fun x2 =>
  (idx a0 x2).bind fun x3 =>
  some (w64 x3)
theorem A7a {c:Sc} {H:A1} {a0:(List Int)} {a1:Int} {r:Int} (h:A2o a0 a1=some r) :
  F0 tab c H (.fn (.func 79) [] []) [(.seq 1 (Zg A5u a0)),.i a1] [.i r]:= by
 unfold A2o at h
 refine cE Z Z<|s0<|qm Z<|es (ra2 Z Z)<|C1<|s0<|qm Z<|A0 (G1 (f:=A5u) Z) Z<|A0 (G5 Z Z) Z<|es (ra3 Z Z Z)<|wi h Z (fun hc1 h=>?_) fun hc1 h=>?_
 ·refine s0<|qm Z<|es (ra1 Z)<|C7 ?_
  obtain rfl:=os h
  exact retq trivial (A7 Z B6) (A5 Z B5) (A3 A4 A8)
 ·refine C3<|s0<|oB h fun x2 hx2 h=>oB h fun x3 hx3 h=>qm Z<|qm Z<|qm Z<|A0 (G1 (f:=A5u) Z) Z<|A0 (C58 Z Z hx2) Z<|A0 (E0 (f:=A5u) Z Z hx3) Z<|A0 (I2 Z Z) Z<|A0 (A8u Z) Z<|qm Z<|es (ra1 Z)<|C7 ?_
  obtain rfl:=os h
  exact retq trivial (A7 Z B6) (A5 Z B5) (A3 A4 A8)
def A1h (s1:(Int×(List PaUse))) (p8:PaUse) (s13:(Bool×Int)):Option ((Bool×Int)⊕Bool) :=
 if (decide (s13.2<s1.1))=true then
  (if s13.1=true then
  some true
  else
  (idx s1.2 s13.2).bind fun x17 =>
  some (x17.Gown==p8.Gown)).bind fun x18 =>
  some (.inl (x18,(w64 (s13.2+1))))
 else
  some (.inr s13.1)
def A3e (a0:PaShow) (a1:(List Int)) (s1:(Int×(List PaUse))):Option ((Int×(List PaUse))⊕(List PaUse)) :=
 if (decide (s1.1<(Zh a0.Figures:Int)))=true then
  (A2o a1 (w64 (3*s1.1))).bind fun x4 =>
  (B2w x4 (w64 ((Zh a0.Gowns:Int)+1))).bind fun x5 =>
  (A2o a1 (w64 ((w64 (3*s1.1))+1))).bind fun x6 =>
  (R3 (w64 (x5-1)) (Z3m x6 3) 0).bind fun x7 =>
  (if (x7.How==1)=true then
   (A2o a1 (w64 ((w64 (3*s1.1))+2))).bind fun x10 =>
   (idx a0.Figures s1.1).bind fun x11 =>
   (B2w x10 (w64 (x11.Day+1))).bind fun x12 =>
   some (PaUse.mk x7.Gown x7.How x12)
  else
   some x7).bind fun (p8:PaUse) =>
  (loop (A1h s1 p8) (false,0)).bind fun (o19:Bool) =>
  (if ((p8.Gown==(-1))||o19)=true then
  some true
  else
  (A26 a0 s1.1 p8).bind fun x22 =>
  some (x22 != 0)).bind fun x23 =>
  if x23=true then
  (R3 (-1) 0 0).bind fun x25 =>
  (app 24 s1.2 [x25]).bind fun x26 =>
  some (.inl ((w64 (s1.1+1)),x26))
  else
  (app 24 s1.2 [p8]).bind fun x27 =>
  some (.inl ((w64 (s1.1+1)),x27))
 else
  some (.inr s1.2)
def A5o (a0:PaShow) (a1:(List Int)):Option (List PaUse) :=
 (loop (A3e a0 a1) (0,([]:List PaUse))).bind fun (o28:(List PaUse)) =>
 some o28
theorem B3y {c:Sc} {H:A1} {a0:PaShow} {a1:(List Int)} {r:(List PaUse)} (h:A5o a0 a1=some r) :
  F0 tab c H (.fn (.func 38) [] []) [(.agg (B1 a0)),(.seq 1 (Zg A5u a1))] [(.fresh 3 (Zg A6 r))]:= by
 unfold A5o at h
 refine cE Z Z<|sg 0 Z<|A0 (F6 (cs:=B1 a0) Z Z Z) Z<|qm Z<|es (ra2 Z Z)<|sg 1 Z<|A0 A6x Z<|es (ra3 Z Z Z)<|C1<|s0<|qm Z<|es (ra4 Z Z Z Z)<|C8<|oB h fun o28 ho28 h=>wl (fun s1=>[(1,(.seq 1 (Zg A5u a1))),(2,(.ptr (H.length+0) 0)),(5,(.asl (H.length+1) (Zh s1.2))),(6,.i s1.1)]) (fun (q2:Unit) s1=>[(.cells (B1 a0)),(.arr 3 false (Zg A6 s1.2))]) 2 (fun r e s' H'=>PX 0 [(5,(.asl (H.length+1) (Zh r)))] (H++[(.cells (B1 a0)),(.arr 3 false (Zg A6 r))]) e s' H') () ho28 Z Z (fun _ _=>rfl) (fun _=>rfl) Z (fun s1=>(bdc K2 (bdc (M3 Z) (bdc (A1t Z) (bdc A4 bdn))))) (fun q2 s1 ys1 hs1=>?_) ?_
 ·unfold A3e at hs1
  refine C1<|s0<|qm Z<|A0 (B9 Z) Z<|A0 (B2 Z Z Z) Z<|A0 (G1 (f:=B3) Z) Z<|A0 (I4 Z Z) Z<|es (ra5 Z Z Z Z Z)<|wi hs1 Z (fun hc3 hs1=>?_) fun hc3 hs1=>?_
  ·refine C3<|C1<|C8<|sg 2 Z<|oB hs1 fun x4 hx4 hs1=>oB hs1 fun x5 hx5 hs1=>oB hs1 fun x6 hx6 hs1=>oB hs1 fun x7 hx7 hs1=>qm Z<|qm Z<|A0 (B1p Z Z) Z<|K4 [2] (P7 [2] rfl I0 Z Z) (seen0 Z) (B5j (rs:=[.i x4]) Z Z (T0 Z (T0 Z A0p)) (A2 Z (A2 Z B4)) ((A7a hx4).frz)) Z<|A0 (B9 Z) Z<|K4 [2] (P7 [2] rfl I0 Z Z) (seen0 Z) (B2 Z Z Z) Z<|K4 [2] (P7 [2] rfl I0 Z Z) (seen0 Z) (G1 (f:=C2) Z) Z<|A0 (F7 Z Z) Z<|A0 (C58 Z Z hx5) Z<|A0 (V5 Z Z) Z<|qm Z<|qm Z<|A0 (B1p Z Z) Z<|A0 (F7 Z Z) Z<|K4 [2] (P7 [2] rfl I0 Z Z) (seen0 Z) (B5j (rs:=[.i x6]) Z Z (T0 Z (T0 Z A0p)) (A2 Z (A2 Z B4)) ((A7a hx6).frz)) Z<|A0 (P9 (v:=(.i (Z3m x6 3))) Z Z Z) Z<|K4 [2] (P7 [2] rfl I0 Z Z) (seen0 Z) (B5j (rs:=[(.agg (A6 x7))]) Z Z (T0 Z (T0 Z (T0 Z A0p))) (A2 Z (A2 Z (A2 Z B4))) ((W0 hx7).frz)) Z<|A0 J6 Z<|P0 (G0 (ds:=(A6 x7)) Z Z Z Z (F2 Z) Z) Z<|es (ra5 Z Z Z Z Z)<|C1<|s0<|A0 (B9 Z) Z<|A0 (B2 Z Z Z) Z<|A0 (G5 Z Z) Z<|es (ra6 Z Z Z Z Z Z)<|oB hs1 fun p8 hp8 hs1=>A7k (Q1:=fun e s' H'=>e=.normal∧s'=[(1,(.seq 1 (Zg A5u a1))),(2,(.ptr (H.length+0) 0)),(5,(.asl (H.length+1) (Zh s1.2))),(6,.i s1.1),(7,(.ptr (H.length+2) 0))]∧H'=(H++[(.cells (B1 a0)),(.arr 3 false (Zg A6 s1.2)),(.cells (A6 p8))])) ?_ ?_
   ·refine wi hp8 Z (fun hc9 hp8=>?_) fun hc9 hp8=>?_
    ·refine r0<|oB hp8 fun x10 hx10 hp8=>oB hp8 fun x11 hx11 hp8=>oB hp8 fun x12 hx12 hp8=>qm Z<|qm Z<|A0 (B1p Z Z) Z<|A0 (F7 Z Z) Z<|U7 (rs:=[.i x10]) Z Z (T0 Z (T0 Z A0p)) (A2 Z (A2 Z B4)) ((A7a hx10).frz)<|A0 (B9 Z) Z<|A0 (B2 Z Z Z) Z<|qm Z<|A0 (E0 (f:=B3) Z Z hx11) Z<|A0 (S5 (ds:=(Z1v 1 (B3 x11))) Z Z) Z<|A0 (I2 Z Z) Z<|A0 (F7 Z Z) Z<|A0 (C58 Z Z hx12) Z<|A0 (B9 Z) Z<|P0 (G0 (ds:=(A6 (PaUse.mk x7.Gown x7.How x12))) Z Z Z Z (F2 Z) Z) Z<|en (ra5 Z Z Z Z Z) ?_
     obtain rfl:=os hp8
     exact me (ZF Z (ZF Z Z)) (su5 Z Z Z Z Z)
    ·refine C3 ?_
     obtain rfl:=os hp8
     exact me (ZF Z (ZF Z Z)) (su5 Z Z Z Z Z)
   ·rintro e s' H' ⟨rfl,rfl,rfl⟩
    refine s0<|qm Z<|es (ra6 Z Z Z Z Z Z)<|C1<|s0<|qm Z<|es (ra7 Z Z Z Z Z Z Z)<|C8<|oB hs1 fun o19 ho19 hs1=>wl (fun s13=>[(1,(.seq 1 (Zg A5u a1))),(2,(.ptr (H.length+0) 0)),(5,(.asl (H.length+1) (Zh s1.2))),(6,.i s1.1),(7,(.ptr (H.length+2) 0)),(8,.b s13.1),(9,.i s13.2)]) (fun (q14:Unit) s13=>[(.cells (B1 a0)),(.arr 3 false (Zg A6 s1.2)),(.cells (A6 p8))]) 3 (fun r e s' H'=>PX 2 [(1,(.seq 1 (Zg A5u a1))),(2,(.ptr (H.length+0) 0)),(5,(.asl (H.length+1) (Zh s1.2))),(6,.i s1.1),(7,(.ptr (H.length+2) 0)),(8,.b r)] (H++[(.cells (B1 a0)),(.arr 3 false (Zg A6 s1.2)),(.cells (A6 p8))]) e s' H') () ho19 Z Z (fun _ _=>rfl) (fun _=>rfl) Z (fun s13=>(bdc K2 (bdc (M3 Z) (bdc (A1t Z) (bdc A4 (bdc (M3 Z) (bdc A4 (bdc A4 bdn)))))))) (fun q14 s13 ys13 hs13=>?_) ?_
    ·unfold A1h at hs13
     refine C1<|s0<|qm Z<|qm Z<|A0 (I4 Z Z) Z<|es (ra8 Z Z Z Z Z Z Z Z)<|wi hs13 Z (fun hc15 hs13=>?_) fun hc15 hs13=>?_
     ·refine C3<|C1<|C8<|r0<|oB hs13 fun x18 hx18 hs13=>qm Z<|qm Z<|gp 9 66 (.b x18) 57 Z Z (fun hg16=>?_) (fun hg16=>?_) ?_
      ·obtain rfl:=os (bt hx18 hg16)
       exact nF Z hg16 Z<|nF Z hg16 Z<|nF Z hg16 Z<|nF Z hg16 Z<|nF Z hg16 Z<|nF Z hg16 Z<|nF Z hg16 Z<|nF Z hg16 Z<|A0 (C6 Z hg16 Z) Z<|ge 9 Z Z Z
      ·refine oB (bf hx18 hg16) fun x17 hx17 hx18=>?_
       obtain rfl:=os hx18
       exact gF Z hg16<|qm Z<|gF Z hg16<|qm Z<|gF Z hg16<|A0 (A56 (f:=A6) Z Z Z Z hx17) Z<|gF Z hg16<|A0 (E1a Z) Z<|gF Z hg16<|A0 (A4j (x:=(.i x17.Gown)) Z Z (Zj _) (A46 hx17) Z) Z<|gF Z hg16<|A0 (B9 Z) Z<|gF Z hg16<|A0 (B2 Z Z Z) Z<|gF Z hg16<|A0 (G5 Z Z) Z<|A0 (C5 Z hg16 Z) Z<|ge 9 Z Z Z
      refine qm Z<|en (ra7 Z Z Z Z Z Z Z)<|r0<|qm Z<|A0 (F7 Z Z) Z<|qm Z<|en (ra7 Z Z Z Z Z Z Z) ?_
      cases hs13
      exact lnT () Z (su7 Z Z Z Z Z Z Z)
     ·refine I1 ?_
      obtain rfl:=os hs13
      exact lx Z px (su6 Z Z Z Z Z Z)
    ·rintro e s' H'-⟨rfl,rfl,rfl⟩
     refine C1<|s0<|oB hs1 fun x23 hx23 hs1=>A0 (B9 Z) Z<|A0 (B2 Z Z Z) Z<|A0 (G5 Z Z) Z<|qm Z<|gp 2 72 (.b ((p8.Gown==(-1))||o19)) 70 Z Z (fun hg20=>?_) (fun hg20=>?_) ?_
     ·exact nF Z hg20 Z<|A0 (C6 Z hg20 Z) Z<|ge 2 (by rw[hg20];rfl) Z Z
     ·exact gF Z hg20<|qm Z<|A0 (C5 Z hg20 Z) Z<|ge 2 (by rw[hg20];rfl) Z Z
     refine qm Z<|gp 6 79 (.b x23) 73 Z Z (fun hg21=>?_) (fun hg21=>?_) ?_
     ·obtain rfl:=os (bt hx23 hg21)
      exact nF Z hg21 Z<|nF Z hg21 Z<|nF Z hg21 Z<|H7 (D5 Z (by rw[hg21];rfl)) Z<|nF Z hg21 Z<|A0 (C6 Z hg21 Z) Z<|ge 6 Z Z Z
     ·refine oB (bf hx23 hg21) fun x22 hx22 hx23=>?_
      obtain rfl:=os hx23
      exact gF Z hg21<|A0 (D1 Z Z Z) Z<|gF Z hg21<|qm Z<|gF Z hg21<|A0 (D1 Z Z Z) Z<|gF Z hg21<|B7 (rs:=[.i x22]) Z Z (A2 (D0 Z) (A2 Z (A2 (D0 Z) B4))) ((A8w hx22).frz)<|gF Z hg21<|A0 (I9 Z Z) Z<|A0 (C5 Z hg21 Z) Z<|ge 6 Z Z Z
     refine es (ra6 Z Z Z Z Z Z)<|wi hs1 Z (fun hc24 hs1=>?_) fun hc24 hs1=>?_
     ·refine r0<|oB hs1 fun x25 hx25 hs1=>B7 (rs:=[(.agg (A6 x25))]) Z Z (A2 Z (A2 Z (A2 Z B4))) ((W0 hx25).frz)<|P0 (G0 (ds:=(A6 x25)) Z Z Z Z (F2 Z) Z) Z<|en (ra5 Z Z Z Z Z)<|r0<|oB hs1 fun x26 hx26 hs1=>qm Z<|A0 (D1 Z Z Z) Z<|A0 (K0 (rows:=Zg A6 [x25]) Z Z (F3 (fun _=>rfl) _)) Z<|P5 (A55 (f:=A6) Z Z Z Z A6c (fun _=>rfl) hx26) Z<|qm Z<|en (ra4 Z Z Z Z)<|r0<|qm Z<|A0 (F7 Z Z) Z<|qm Z<|en (ra4 Z Z Z Z) ?_
      cases hs1
      exact lnT () Z (su4 Z Z Z Z)
     ·refine C3<|r0<|oB hs1 fun x27 hx27 hs1=>qm Z<|A0 (D1 Z Z Z) Z<|A0 (K0 (rows:=Zg A6 [p8]) Z Z (F3 (fun _=>rfl) _)) Z<|P5 (A55 (f:=A6) Z Z Z Z A6c (fun _=>rfl) hx27) Z<|qm Z<|en (ra4 Z Z Z Z)<|r0<|qm Z<|A0 (F7 Z Z) Z<|qm Z<|en (ra4 Z Z Z Z) ?_
      cases hs1
      exact lnT () Z (su4 Z Z Z Z)
  ·refine I1 ?_
   obtain rfl:=os hs1
   exact lx Z px (su1 Z)
 ·rintro e s' H'-⟨rfl,rfl,rfl⟩
  refine s0<|qm Z<|qm Z<|es (ra1 Z)<|C7 ?_
  obtain rfl:=os h
  exact retq trivial (A7 Z B6) (A5 (A6a Z (Zj _)) B5) (A3 A0b A8)
def A2b (a0:PaShow) (a1:(List PaUse)) (s1:(Int×Int)):Option ((Int×Int)⊕Int) :=
 if (decide (s1.2<(Zh a1:Int)))=true then
  (idx a1 s1.2).bind fun x4 =>
  (A2t a0 s1.2 x4).bind fun x5 =>
  some (.inl ((w64 (s1.1+x5.1)),(w64 (s1.2+1))))
 else
  some (.inr s1.1)
def A2r (a0:PaShow) (a1:(List PaUse)):Option Int :=
 (loop (A2b a0 a1) (0,0)).bind fun (o6:Int) =>
 some o6
theorem A7d {c:Sc} {H:A1} {a0:PaShow} {a1:(List PaUse)} {r:Int} (h:A2r a0 a1=some r) :
  F0 tab c H (.fn (.func 37) [] []) [(.agg (B1 a0)),(.seq 3 (Zg A6 a1))] [.i r]:= by
 unfold A2r at h
 refine cE Z Z<|sg 0 Z<|A0 (F6 (cs:=B1 a0) Z Z Z) Z<|qm Z<|es (ra2 Z Z)<|s0<|qm Z<|es (ra3 Z Z Z)<|C1<|s0<|qm Z<|es (ra4 Z Z Z Z)<|C8<|oB h fun o6 ho6 h=>wl (fun s1=>[(1,(.seq 3 (Zg A6 a1))),(2,(.ptr (H.length+0) 0)),(5,.i s1.1),(6,.i s1.2)]) (fun (q2:Unit) s1=>[(.cells (B1 a0))]) 1 (fun r e s' H'=>PX 0 [(5,.i r)] (H++[(.cells (B1 a0))]) e s' H') () ho6 Z Z (fun _ _=>rfl) (fun _=>rfl) Z (fun s1=>(bdc K2 (bdc (M3 Z) (bdc A4 (bdc A4 bdn))))) (fun q2 s1 ys1 hs1=>?_) ?_
 ·unfold A2b at hs1
  refine C1<|s0<|qm Z<|qm Z<|A0 (G1 (f:=A6) Z) Z<|A0 (I4 Z Z) Z<|es (ra5 Z Z Z Z Z)<|wi hs1 Z (fun hc3 hs1=>?_) fun hc3 hs1=>?_
  ·refine C3<|C1<|C8<|s0<|oB hs1 fun x4 hx4 hs1=>oB hs1 fun x5 hx5 hs1=>A0 (D1 Z Z Z) Z<|qm Z<|qm Z<|qm Z<|A0 (E0 (f:=A6) Z Z hx4) Z<|A0 (G4 Z Z) Z<|B7 (rs:=[.i x5.1,.i x5.2]) Z Z (A2 (D0 Z) (A2 Z (A2 (D0 Z) B4))) ((A7f hx5).frz)<|qm Z<|A0 (A9 Z Z) Z<|A0 (A9 Z Z) Z<|qm Z<|qm Z<|es (ra5 Z Z Z Z Z)<|r0<|qm Z<|qm Z<|A0 (F7 Z Z) Z<|qm Z<|en (ra4 Z Z Z Z)<|r0<|qm Z<|A0 (F7 Z Z) Z<|qm Z<|en (ra4 Z Z Z Z) ?_
   cases hs1
   exact lnT () Z (su4 Z Z Z Z)
  ·refine I1 ?_
   obtain rfl:=os hs1
   exact lx Z px (su1 Z)
 ·rintro e s' H'-⟨rfl,rfl,rfl⟩
  refine s0<|qm Z<|qm Z<|es (ra1 Z)<|C7 ?_
  obtain rfl:=os h
  exact retq trivial (A7 Z B6) (A5 Z B5) (A3 A4 A8)
end Pw
end
section
namespace Pw
open Go Am
theorem B52 {x:List Int} (hx:x.length<9223372036854775808) {n:Int} (hn:0≤n):∃t,A2o x n=some t:= by
 unfold A2o
 by_cases h:x.length=0
 ·exact⟨0,by rw[if_pos (by simp[h])]⟩
 ·rw[if_neg (by simpa using h)]
  have hr:B2w n (x.length:Int)=some (n % (x.length:Int)):= by
   unfold B2w
   rw[if_neg (by omega),Z2n hn]
  have h1:=Int.emod_nonneg n (b:=(x.length:Int)) (by omega)
  have h2:=Int.emod_lt_of_pos n (b:=(x.length:Int)) (by omega)
  rw[hr]
  simp only[Zd]
  rw[Y8 h1 h2]
  exact⟨_,Z⟩
theorem C6s {a b:Int} (h:b≠0):∃t,B2w a b=some t:=⟨_,by unfold B2w;rw[if_neg h]⟩
theorem C5l (q:PaUse→Bool):∀(l:List PaUse) (t:Bool),l.foldl (fun a x=>a||q x) t=(t||l.any q)
 | [],t=>by simp
 | x::l,t=>by rw[Z0a,C5l q l,List.any_cons,Bool.or_assoc]
theorem D5w {out:List PaUse} (hl:out.length≤100) (y:PaUse):loop (A1h ((out.length:Int),out) y) (false,0)=some (out.any fun x=>x.Gown==y.Gown):= by
 refine A0k out (fun a x=>a||x.Gown==y.Gown) false (fun i t=>(t,(i:Int))) (by omega) (fun i hi=>?_) ?_
 ·generalize (out.take i).foldl (fun a x=>a||x.Gown==y.Gown) false=t
  unfold A1h
  simp only[]
  rw[if_pos (by simpa using hi),I5 hi,F5 (n:=(i:Int)+1) (by omega)]
  cases t <;> rfl
 ·unfold A1h
  simp only[]
  rw[if_neg (by simp),C5l];rfl
theorem C9r {l:List PaUse} {y:PaUse} {k:Nat} (h:k<l.length):(l++[y])[k]! = l[k]!:= by
 rw[getElem!_pos _ k (by simp;omega),getElem!_pos l k h,Z41 h]
theorem C5q (l:List PaUse) (y:PaUse):(l++[y])[l.length]! = y:= by
 rw[getElem!_pos _ _ (by simp)];simp
theorem D9t {l:List PaUse} {y:PaUse} {k:Nat} (h:k<l.length):twP (l++[y]) k=twP l k:= by
 unfold twP
 rw[C9r h,List.take_append_of_le_length (by omega)]
def C7j (s:PaShow) (i:Nat) (l:List PaUse):Prop:=l.length=i∧∀ k,k<i→X4 s.Gowns s.Figures[k]! l[k]! = 0∧twP l k=false
theorem C7j.snoc {s:PaShow} {i:Nat} {l:List PaUse} (h:C7j s i l) {y:PaUse} (hu:X4 s.Gowns s.Figures[i]! y=0) (ht:(y.Gown != -1&&l.any fun x=>x.Gown==y.Gown)=false):C7j s (i+1) (l++[y]):= by
 obtain⟨rfl,h2⟩:=h
 refine⟨by simp,fun k hk=>?_⟩
 by_cases e:k=l.length
 ·subst e
  rw[C5q]
  refine⟨hu,?_⟩
  unfold twP
  rw[C5q,Z06];exact ht
 ·have hk':k<l.length:= by omega
  rw[C9r hk',D9t hk']
  exact h2 k hk'
theorem D2r {s:PaShow} (hs:ShOk s) {x:List Int} (hx:x.length<9223372036854775808):∃p,A5o s x=some p∧PlOk s p:= by
 have hle:=hs.gowns
 have hle2:=hs.figures
 unfold A5o
 obtain⟨p,h1,h2⟩:=D31 (b:=A3e s x) (fun i t=>t.1=(i:Int)∧C7j s i t.2) s.Figures.length (fun p=>C7j s s.Figures.length p) (by omega) (fun i t hi hI=>by
  obtain⟨j,out⟩:=t
  obtain⟨rfl,hp⟩:=hI
  have hlen:out.length=i:=hp.1
  have hy:=hs.figure _ (J3 hi)
  obtain⟨t0,e0⟩:=B52 hx (n:=3*(i:Int)) (by omega)
  obtain⟨t1,e1⟩:=B52 hx (n:=3*(i:Int)+1) (by omega)
  obtain⟨t2,e2⟩:=B52 hx (n:=3*(i:Int)+2) (by omega)
  have hdp:=hy.day
  have hdu:=hy.til
  obtain⟨r0,f0⟩:=C6s (a:=t0) (b:=(s.Gowns.length:Int)+1) (by omega)
  obtain⟨r2,f2⟩:=C6s (a:=t2) (b:=s.Figures[i]!.Day+1) (by omega)
  have key:∀y:PaUse,∃ s',((loop (A1h ((i:Int),out) y) (false,0)).bind fun (o19:Bool) =>
    (if ((y.Gown==(-1))||o19)=true then some true else (A26 s (i:Int) y).bind fun x22=>some (x22 != 0)).bind fun x23 =>
    if x23=true then
     (R3 (-1) 0 0).bind fun x25=>(app 24 out [x25]).bind fun x26=>some (Z36 (w64 ((i:Int)+1),x26):(Int×List PaUse)⊕List PaUse)
    else (app 24 out [y]).bind fun x27=>some (.inl (w64 ((i:Int)+1),x27)))=some (.inl s')∧s'.1=((i+1:Nat):Int)∧C7j s (i+1) s'.2:=fun y=>by
   have hm:=D5w (out:=out) (by omega) y
   rw[hlen]at hm
   have hw:w64 ((i:Int)+1)=((i+1:Nat):Int):= by rw[F5 (by omega)];omega
   rw[hm,B19 (by omega) (by simp;omega),hw]
   simp only[Zd]
   rw[B2v hs (f:=(i:Int)) (by omega),ZG]
   have hbare:∃s':Int×List PaUse,(some (Z36 (((i+1:Nat):Int),out++[bare0])):Option ((Int×List PaUse)⊕List PaUse))=some (.inl s')∧s'.1=((i+1:Nat):Int)∧C7j s (i+1) s'.2 :=
    ⟨_,Z,Z,hp.snoc (Y2.mpr (.inl Z)) Z⟩
   have hbe:((R3 (-1) 0 0).bind fun x25=>(app 24 out [x25]).bind fun x26=>some (Z36 (((i+1:Nat):Int),x26):(Int×List PaUse)⊕List PaUse))=some (.inl (((i+1:Nat):Int),out++[bare0])):= by
    unfold R3
    simp only[Zd]
    rw[B19 (by omega) (by simp;omega)];rfl
   rw[hbe]
   cases hc:((y.Gown==(-1))||out.any fun x=>x.Gown==y.Gown)
   ·simp only[Zi,if_false,Zd]
    by_cases hu:X4 s.Gowns s.Figures[i]! y=0
    ·rw[if_neg (by rw[hu];decide)]
     rw[Bool.or_eq_false_iff]at hc
     exact⟨_,Z,Z,hp.snoc hu (by rw[hc.2,Bool.and_false])⟩
    ·rw[if_pos (bne_iff_ne.mpr hu)]
     exact hbare
   ·simp only[if_true,Zd]
    exact hbare
  unfold A3e
  simp only[]
  rw[if_pos (by simpa using hi),F5 (n:=3*(i:Int)) (by omega),F5 (n:=3*(i:Int)+1) (by omega),F5 (n:=3*(i:Int)+2) (by omega),e0,e1,e2,F5 (n:=(s.Gowns.length:Int)+1) (by omega),I5 hi]
  simp only[Zd]
  rw[f0,F5 (n:=s.Figures[i]!.Day+1) (by omega),f2]
  simp only[Zd,R3]
  by_cases hh:Z3m t1 3=1
  ·rw[if_pos (by simpa using hh)]
   exact key _
  ·rw[if_neg (by simpa using hh)]
   exact key _) (fun t hI=>by
  obtain⟨j,out⟩:=t
  obtain⟨rfl,hp⟩:=hI
  refine⟨out,?_,hp⟩
  unfold A3e
  rw[if_neg (by simp)]) (0,[]) ⟨Z,Z,fun k hk=>by omega⟩
 rw[h1]
 exact⟨p,Z,⟨⟨h2.1,fun i hi=>(h2.2 i (by rw[← h2.1];exact hi)).1⟩,fun i hi=>(h2.2 i (by rw[← h2.1];exact hi)).2⟩⟩
theorem B0f {s:PaShow} (hs:ShOk s) {p:List PaUse} (h:PlU s p):A2r s p=some (A0d s p):= by
 have hfl:=hs.figures
 have hlen:=h.len
 unfold A2r
 have e1:loop (A2b s p) (0,0)=some (A0d s p):= by
  refine A0k (pays s p) (fun a (x:Int×Int)=>a+x.1) 0 (fun i t=>(t,(i:Int))) (by rw[K5 h];omega) (fun i hi=>?_) ?_
  ·rw[K5 h]at hi
   have hx:=(W2 hs h _ (J3 (l:=pays s p) (i:=i) (by rw[K5 h];exact hi))).1
   rw[A1w,A3i h hi]at *
   have:=B7n hs h i
   unfold A2b
   simp only[]
   rw[if_pos (by simpa using hi),I5 hi]
   simp only[Zd]
   rw[B0h hs (f:=(i:Int)) (by omega) (by rw[ZG];exact h.use i hi),ZG]
   simp only[Zd]
   rw[F5 (n:=(i:Int)+1) (by omega),F5 (by omega)];rfl
  ·unfold A2b
   simp only[]
   rw[K5 h,if_neg (by simp),A1w,Z4w];rfl
 rw[e1];rfl
theorem A81 {s:PaShow} (hv:(chk s).2.2=0) {p:List PaUse} (h:PlOk s p):P1 s p=0:= by
 unfold P1
 rw[if_neg (by simpa using hv),B2s.mpr h]
def ku (u:PaUse):Int:=(if u.Gown = -1 then 100 else u.Gown)*10000+u.How*1000+u.Day
def A0t:List PaUse→List PaUse→Bool
 | [],[]=>false
 | [],_::_=>true
 | _::_,[]=>false
 | a::l,b::m=>if ku a=ku b then A0t l m else decide (ku a<ku b)
theorem B87:∀l:List PaUse,A0t l l=false
 | []=>rfl
 | a::l=>by unfold A0t;rw[if_pos Z];exact B87 l
theorem B5c:∀q a b:List PaUse,A0t (q++a) (q++b)=A0t a b
 | [],a,b=>rfl
 | x::q,a,b=>by
  show (if ku x=ku x then A0t (q++a) (q++b) else decide (ku x<ku x))=_
  rw[if_pos Z];exact B5c q a b
theorem B6f:∀a b c:List PaUse,a.length=b.length→b.length=c.length→A0t a b=false→A0t b c=false→A0t a c=false
 | [],[],[],_,_,_,_=>rfl
 | x::a,y::b,z::c,h1,h2,h3,h4=>by
  unfold A0t at h3 h4 ⊢
  by_cases e1:ku x=ku y
  ·rw[if_pos e1]at h3
   by_cases e2:ku y=ku z
   ·rw[if_pos e2]at h4
    rw[if_pos (by omega)]
    exact B6f a b c (by simpa using h1) (by simpa using h2) h3 h4
   ·rw[if_neg e2]at h4
    rw[if_neg (by omega)]
    simp at h4 ⊢; omega
  ·rw[if_neg e1]at h3
   simp at h3
   by_cases e2:ku y=ku z
   ·rw[if_neg (by omega)];simp;omega
   ·rw[if_neg e2]at h4
    simp at h4
    rw[if_neg (by omega)];simp;omega
theorem C2i (f:PaUse→PaUse):∀l:List PaUse,(∀ x∈l,ku (f x)≤ku x)→A0t l (l.map f)=false
 | [],_=>rfl
 | x::l,h=>by
  rw[Zt]
  unfold A0t
  have:=h x (Zz ..)
  split
  ·exact C2i f l fun y hy=>h y (Zx _ hy)
  ·simp;omega
structure DyOk (D:List Int):Prop where
 pos:0<D.length
 len:D.length≤365
 str:Str D
 bd:∀x∈D,0≤x∧x≤364
 zero:(0:Int)∈D
theorem B0x {s:PaShow} (hs:ShOk s):DyOk (O1 s):=⟨B3b.1,B3b.2,C1t s,fun x hx=>by
  rcases (B0w hs x).mp hx with rfl|⟨y,hy,rfl⟩
  ·exact⟨by decide,by decide⟩
  ·exact(hs.income y hy).day,(B0w hs 0).mpr (.inl Z)⟩
theorem E05 {s:PaShow} (hs:ShOk s) {D:List Int} (hD:DyOk D) {n:Nat} (h:n<nU s D):n / D.length / 3<s.Gowns.length∧n<6000:= by
 have hG:=hs.gowns
 constructor
 ·rw[Nat.div_div_eq_div_mul]
  refine Nat.div_lt_of_lt_mul ?_
  unfold nU at h
  have:s.Gowns.length*3*D.length=D.length*3*s.Gowns.length:= by
   rw[Nat.mul_assoc,Z1x s.Gowns.length,Z1x 3]
  omega
 ·have:s.Gowns.length*3*D.length≤15*365:=Z3l (by omega) hD.len
  unfold nU at h
  omega
theorem D6i {D:List Int} (hD:DyOk D) {n m:Nat} (h:n<m):ku (T7 D n)<ku (T7 D m):= by
 have hp:=hD.pos
 have b1:=hD.bd _ (J3 (l:=D) (Z1s n hp))
 have b2:=hD.bd _ (J3 (l:=D) (Z1s m hp))
 have hn:=Z45 n D.length
 have hm:=Z45 m D.length
 have r1:=Z1s n hp
 have r2:=Z1s m hp
 have hle:n / D.length≤m / D.length:=Nat.div_le_div_right (Nat.le_of_lt h)
 have hc:n / D.length=m / D.length→D[n % D.length]! < D[m % D.length]!:=fun e=>by
  rw[e]at hn
  have hr:n % D.length<m % D.length:= by omega
  have:=List.pairwise_iff_getElem.mp hD.str _ _ r1 r2 hr
  rwa [getElem!_pos D _ r1,getElem!_pos D _ r2]
 unfold ku T7
 simp only
 clear hn hm
 generalize D[n % D.length]! = x at *
 generalize D[m % D.length]! = y at *
 generalize n / D.length=a at *
 generalize m / D.length=c at *
 rw[if_neg (by omega),if_neg (by omega)]
 by_cases e:a=c
 ·have:=hc e
  subst e
  omega
 ·omega
theorem B9e {s:PaShow} {D:List Int} {q:List PaUse} {u:PaUse}:u∈cand s D q↔(∃ n,n<nU s D∧T7 D n=u)∧okU s q u=true:= by
 unfold cand
 rw[Z0h,ZK]
 constructor
 ·rintro⟨⟨n,hn,e⟩,h⟩;exact⟨⟨n,by simpa using hn,e⟩,h⟩
 ·rintro⟨⟨n,hn,e⟩,h⟩;exact⟨⟨n,by simpa using hn,e⟩,h⟩
def Ext (s:PaShow) (D:List Int):List PaUse→List PaUse→Prop
 | _,[]=>True
 | q,u::r=>(u=bare0∨u∈cand s D q)∧Ext s D (q++[u]) r
theorem A90 {s:PaShow} {D:List Int}:∀{d:Nat} {q p:List PaUse},p∈PL s D d q↔∃ r,p=q++r∧r.length=d∧Ext s D q r
 | 0,q,p=>by
  unfold PL
  rw[List.mem_singleton]
  constructor
  ·intro h;exact⟨[],by simp[h],Z,trivial⟩
  ·rintro⟨r,rfl,hr,_⟩
   rw[List.length_eq_zero_iff.mp hr,List.append_nil]
 | d+1,q,p=>by
  unfold PL
  rw[ZA,Z2i]
  constructor
  ·rintro (⟨u,hu,hp⟩|hp)
   ·obtain⟨r,rfl,hr,he⟩:=A90.mp hp
    exact⟨u::r,by simp,by simp[hr],.inr hu,he⟩
   ·obtain⟨r,rfl,hr,he⟩:=A90.mp hp
    exact⟨bare0::r,by simp,by simp[hr],.inl Z,he⟩
  ·rintro⟨r,rfl,hr,he⟩
   cases r with
   | nil=>cases hr
   | cons u r =>
    obtain⟨hu,he⟩:=he
    have hmem:q++u::r∈PL s D d (q++[u]):=A90.mpr ⟨r,by simp,by simpa using hr,he⟩
    rcases hu with rfl|hu
    ·exact .inr hmem
    ·exact .inl ⟨u,hu,hmem⟩
theorem C29 {s:PaShow} (hs:ShOk s) {D:List Int} (hD:DyOk D):∀(d:Nat) (q:List PaUse),(PL s D d q).Pairwise fun a b=>A0t b a=false
 | 0,q=>by unfold PL;simp
 | d+1,q=>by
  have hG:=hs.gowns
  unfold PL
  rw[Z0t]
  refine⟨?_,C29 hs hD d _,?_⟩
  ·rw[List.pairwise_flatMap]
   refine⟨fun u _=>C29 hs hD d _,?_⟩
   have hp:(cand s D q).Pairwise fun a b=>ku a<ku b:= by
    unfold cand
    refine List.Pairwise.filter _ ?_
    rw[List.pairwise_map]
    exact List.pairwise_lt_range.imp fun h=>D6i hD h
   refine hp.imp fun {f g} hfg x hx y hy=>?_
   obtain⟨s',rfl,-⟩:=A90.mp hx
   obtain⟨t,rfl,-⟩:=A90.mp hy
   rw[ZB,ZB,B5c]
   show A0t (g::t) (f::s')=false
   unfold A0t
   rw[if_neg (by omega),decide_eq_false (by omega)]
  ·intro a ha b hb
   obtain⟨u,hu,hx⟩:=Z2i.mp ha
   obtain⟨s',rfl,-⟩:=A90.mp hx
   obtain⟨t,rfl,-⟩:=A90.mp hb
   rw[ZB,ZB,B5c]
   show A0t (bare0::t) (u::s')=false
   obtain⟨⟨n,hn,rfl⟩,_⟩:=B9e.mp hu
   have h1:=E05 hs hD hn
   have b1:=hD.bd _ (J3 (l:=D) (Z1s n hD.pos))
   have hk:ku (T7 D n)<ku bare0:= by
    have e:ku bare0=1000000:=rfl
    rw[e]
    unfold ku T7
    simp only
    generalize D[n % D.length]! = x at *
    generalize n / D.length=a at *
    rw[if_neg (by omega)]
    omega
   unfold A0t
   rw[if_neg (by omega),decide_eq_false (by omega)]
def C4u (s:PaShow) (D:List Int) (q:List PaUse) (u:PaUse):Prop:=X4 s.Gowns s.Figures[q.length]! u=0∧D36 q u=false∧(u.Gown = -1∨u.Day∈D)
theorem D3j {s:PaShow} (hs:ShOk s) {D:List Int} (hD:DyOk D) {q:List PaUse} {u:PaUse}:(u=bare0∨u∈cand s D q)↔C4u s D q u:= by
 unfold C4u
 constructor
 ·rintro (rfl|h)
  ·exact⟨Y2.mpr (.inl Z),Z,.inl Z⟩
  ·obtain⟨⟨n,hn,rfl⟩,h2⟩:=B9e.mp h
   unfold okU at h2
   rw[Zc,beq_iff_eq,Bool.not_eq_true']at h2
   exact⟨h2.1,h2.2,.inr (J3 (Z1s n hD.pos))⟩
 ·rintro⟨h1,h2,h3⟩
  rcases Y2.mp h1 with e|e
  ·exact .inl e
  ·right
   have hlo:=e.lo
   have hhi:=e.hi
   obtain⟨k,hk,hkd⟩:=A4i (h3.resolve_left (by omega))
   have hh:0≤u.How∧u.How≤2:= by
    rcases form1 e.form with h|⟨_,h|h⟩ <;> omega
   refine B9e.mpr ⟨⟨(u.Gown.toNat*3+u.How.toNat)*D.length+k,?_,?_⟩,?_⟩
   ·unfold nU
    have:(u.Gown.toNat*3+u.How.toNat)*D.length+D.length≤s.Gowns.length*3*D.length:= by
     rw[← Nat.succ_mul]
     exact Nat.mul_le_mul_right _ (by omega)
    omega
   ·have d1:((u.Gown.toNat*3+u.How.toNat)*D.length+k) / D.length=u.Gown.toNat*3+u.How.toNat:= by
     rw[Z1x,Nat.mul_add_div hD.pos,Nat.div_eq_of_lt hk,Nat.add_zero]
    have d2:((u.Gown.toNat*3+u.How.toNat)*D.length+k) % D.length=k:= by
     rw[Z1x,Nat.mul_add_mod,Nat.mod_eq_of_lt hk]
    unfold T7
    rw[d1,d2,hkd]
    obtain⟨g,h,d⟩:=u
    simp only at hlo hhi hh ⊢
    congr 1
    ·omega
    ·omega
   ·unfold okU
    rw[h1,h2];rfl
theorem C3l {s:PaShow} (hs:ShOk s) {D:List Int} (hD:DyOk D):∀(r q:List PaUse),Ext s D q r↔∀ i,i<r.length→C4u s D (q++r.take i) r[i]!
 | [],q=>by unfold Ext;simp
 | u::r,q=>by
  unfold Ext
  rw[C3l hs hD r (q++[u]),D3j hs hD]
  constructor
  ·rintro⟨h1,h2⟩ i hi
   cases i with
   | zero=>simpa using h1
   | succ i =>
    have:=h2 i (by simpa using hi)
    rw[Z21,show q++u::r.take i=q++[u]++r.take i by simp]
    exact this
  ·intro h
   refine⟨by simpa using h 0 (by simp),fun i hi=>?_⟩
   have:=h (i+1) (by simpa using hi)
   rw[Z21,show q++u::r.take i=q++[u]++r.take i by simp]at this
   exact this
theorem D0a {s:PaShow} (hs:ShOk s) {D:List Int} (hD:DyOk D) {p:List PaUse}:p∈PL s D s.Figures.length []↔PlOk s p∧∀ x∈p,x.Gown = -1∨x.Day∈D:= by
 rw[A90]
 constructor
 ·rintro⟨r,e,hr,he⟩
  rw[Z07]at e
  rw[e]
  have h:=(C3l hs hD r []).mp he
  have h':∀i,i<r.length→X4 s.Gowns s.Figures[i]! r[i]! = 0∧twP r i=false∧(r[i]!.Gown = -1∨r[i]!.Day∈D):=fun i hi=>by
   have:=h i hi
   unfold C4u at this
   rw[Z07,ZE,Z1o (by omega)]at this
   exact this
  refine⟨⟨⟨hr,fun i hi=>(h' i hi).1⟩,fun i hi=>(h' i hi).2.1⟩,fun x hx=>?_⟩
  obtain⟨i,hi,rfl⟩:=A4i hx
  exact(h' i hi).2.2
 ·rintro⟨h1,h2⟩
  refine⟨p,Z,h1.u.len,(C3l hs hD p []).mpr fun i hi=>?_⟩
  unfold C4u
  rw[Z07,ZE,Z1o (by omega)]
  exact⟨h1.u.use i hi,h1.tw i hi,h2 _ (J3 hi)⟩
theorem E3f {s:PaShow} (hs:ShOk s):∀p∈PL s (O1 s) s.Figures.length [],PlU s p:=fun _ hp=>((D0a hs (B0x hs)).mp hp).1.u
structure Pay (s:PaShow) (p:List PaUse):Prop where
 ok:PlOk s p
 left:∀d,0≤d→0≤I3 s p d
theorem B1j {s:PaShow} (hs:ShOk s) {p:List PaUse} (h:PlU s p):(M6 s p).1=0↔∀ d,0≤d→0≤I3 s p d:= by
 obtain⟨a1,a2,a3,_⟩:=A87 s p
 constructor
 ·intro hz d hd
  refine Int.not_lt.mp fun hc=>?_
  obtain⟨y,hy,hyd,hyn⟩:=C32 hs h hc
  have:=a2 y hy hyn
  omega
 ·intro hp
  rcases a3 with e|⟨y,hy,hyn,_⟩
  ·exact e
  ·have:=hp y.2 (W2 hs h y hy).2.1
   omega
theorem B9d {s:PaShow} (hs:ShOk s) {p:List PaUse}:p∈PA s↔Pay s p∧∀ x∈p,x.Gown = -1∨x.Day∈O1 s:= by
 unfold PA D9m
 rw[Z0h,D0a hs (B0x hs)]
 have key:PlOk s p→((!decide ((M6 s p).1>0))=true↔∀ d,0≤d→0≤I3 s p d):=fun h=>by
  rw[← B1j hs h.u]
  have:=(A87 s p).1
  simp;omega
 constructor
 ·rintro⟨⟨h1,h2⟩,h3⟩;exact⟨⟨h1,(key h1).mp h3⟩,h2⟩
 ·rintro⟨⟨h1,h3⟩,h2⟩;exact⟨⟨h1,h2⟩,(key h1).mpr h3⟩
def B85 (d:Int) (a z:Int):Int:=if z≤d∧a<z then z else a
def A7y (D:List Int) (d:Int):Int:=D.foldl (B85 d) 0
theorem C3x (d:Int):∀(D:List Int) (a:Int),a≤d→a≤D.foldl (B85 d) a∧D.foldl (B85 d) a≤d∧(D.foldl (B85 d) a=a∨D.foldl (B85 d) a∈D)∧∀ z∈D,z≤d→z≤D.foldl (B85 d) a
 | [],a,h=>⟨Z00 _,h,.inl Z,by simp⟩
 | x::D,a,h=>by
  rw[Z0a]
  have hs:B85 d a x=if x≤d∧a<x then x else a:=rfl
  by_cases c:x≤d∧a<x
  ·rw[hs,if_pos c]
   obtain⟨h1,h2,h3,h4⟩:=C3x d D x c.1
   refine⟨by omega,h2,?_,fun z hz hzd=>?_⟩
   ·rcases h3 with e|e
    ·rw[e];exact .inr (Zz ..)
    ·exact .inr (Zx _ e)
   ·rcases Zu.mp hz with rfl|hz
    ·exact h1
    ·exact h4 z hz hzd
  ·rw[hs,if_neg c]
   obtain⟨h1,h2,h3,h4⟩:=C3x d D a h
   refine⟨h1,h2,?_,fun z hz hzd=>?_⟩
   ·rcases h3 with e|e
    ·exact .inl e
    ·exact .inr (Zx _ e)
   ·rcases Zu.mp hz with rfl|hz
    ·have:z≤a:= by
      by_cases hc:a<z
      ·exact absurd ⟨hzd,hc⟩ c
      ·omega
     omega
    ·exact h4 z hz hzd
theorem B5b {D:List Int} (h0:(0:Int)∈D) {d:Int} (hd:0≤d):0≤A7y D d∧A7y D d≤d∧A7y D d∈D∧∀ z∈D,z≤d→z≤A7y D d:= by
 obtain⟨h1,h2,h3,h4⟩:=C3x d D 0 hd
 refine⟨h1,h2,?_,h4⟩
 rcases h3 with e|e
 ·unfold A7y;rw[e];exact h0
 ·exact e
def nuU (D:List Int) (x:PaUse):PaUse:=if x.Gown ≠ -1∧x.How=1 then ⟨x.Gown,x.How,A7y D x.Day⟩ else x
theorem D0d (D:List Int) (x:PaUse):(nuU D x).Gown=x.Gown:= by unfold nuU;split <;> rfl
theorem C8o {g:PaGown} (h:GwOk g) {a b:Int} (ha:a≤b):price g a≤price g b:= by
 unfold price
 have:=Int.mul_le_mul_of_nonneg_left (show 1+(g.Ago+a) / 30≤1+(g.Ago+b) / 30 by omega) h.rate.1
 omega
theorem B9i {G:List PaGown} (hG:∀g∈G,GwOk g) {y:PaFigure} (hy:FgOk y) {D:List Int} (hD:(0:Int)∈D) {x:PaUse} (h:X4 G y x=0) :
  X4 G y (nuU D x)=0∧((nuU D x).Gown = -1∨(nuU D x).Day∈D)∧ku (nuU D x)≤ku x∧(A3q G y (nuU D x)).1≤(A3q G y x).1 ∧
   ∀ e E,(x.How=1→A7y D x.Day≤e→x.Day≤E)→e≤E→(A3q G y (nuU D x)).2≤e→(A3q G y x).2≤E:= by
 by_cases c:x.Gown ≠ -1∧x.How=1
 ·have e:nuU D x=⟨x.Gown,x.How,A7y D x.Day⟩:=if_pos c
  rcases Y2.mp h with h' | h'
  ·rw[h']at c;exact absurd Z c.1
  ·have hd:0≤x.Day∧x.Day≤364:= by
    rcases form1 h'.form with q|⟨_,q|q⟩ <;> omega
   obtain⟨l1,l2,l3,l4⟩:=B5b hD hd.1
   have hpw:G[x.Gown.toNat]!.Pawn=true:= by
    rcases form1 h'.form with q|q
    ·omega
    ·exact q.1
   have hlate:=h'.late
   unfold B1s at hlate
   rw[c.2]at hlate
   simp at hlate
   have hlo:=h'.lo
   have hhi:=h'.hi
   have hgw:=hG _ (J3 (l:=G) (i:=x.Gown.toNat) (by omega))
   have hpay:A3q G y x=(price G[x.Gown.toNat]! x.Day,x.Day):= by
    unfold A3q;rw[if_neg c.1,if_pos c.2]
   have hpay2:A3q G y (nuU D x)=(price G[x.Gown.toNat]! (A7y D x.Day),A7y D x.Day):= by
    rw[e];unfold A3q;simp only;rw[if_neg c.1,if_pos c.2]
   refine⟨Y2.mpr (.inr ?_),.inr (by rw[e];exact l3),?_,?_,?_⟩
   ·rw[e]
    refine⟨hlo,hhi,?_,?_,h'.look⟩
    ·unfold A7t
     simp only
     rw[hpw,c.2,O2.mpr ⟨l1,by omega⟩];rfl
    ·unfold B1s
     simp only
     rw[c.2]
     simp
     omega
   ·rw[e];unfold ku;simp only;split <;> omega
   ·rw[hpay,hpay2];exact C8o hgw l2
   ·intro e' E h1 h2 h3
    rw[hpay2]at h3
    rw[hpay]
    exact h1 c.2 h3
 ·have e:nuU D x=x:=if_neg c
  rw[e]
  refine⟨h,?_,Z00 _,Z00 _,?_⟩
  ·rcases Y2.mp h with h' | h'
   ·left;rw[h'];rfl
   ·right
    have hlo:=h'.lo
    have:x.Day=0:= by
     rcases form1 h'.form with q|⟨_,q|q⟩
     ·exact q.2.2
     ·exact q.2
     ·exact absurd ⟨by omega,q.1⟩ c
    rw[this];exact hD
  ·intro e' E _ h2 h3;omega
theorem D0v {s:PaShow} (hs:ShOk s) {p:List PaUse} (h:PlU s p):∀z∈s.Figures.zip p,FgOk z.1∧X4 s.Gowns z.1 z.2=0∧z.2∈p:= by
 intro z hz
 obtain⟨i,hi,e⟩:=List.mem_iff_getElem.mp hz
 rw[List.getElem_zip]at e
 rw[List.length_zip]at hi
 subst e
 have hip:i<p.length:= by omega
 have hif:i<s.Figures.length:= by omega
 refine⟨hs.figure _ (Z1y hif),?_,Z1y hip⟩
 have:=h.use i hip
 rwa [getElem!_pos s.Figures i hif,getElem!_pos p i hip]at this
theorem B66 {α β γ:Type} (f:α→β→γ):∀(l:List α) (m:List β),List.zipWith f l m=(l.zip m).map fun z=>f z.1 z.2
 | [],_=>by simp
 | _::_,[]=>by simp
 | a::l,b::m=>by simp[B66 f l m]
theorem D0u {α β:Type} (g:β→β):∀(l:List α) (m:List β),l.zip (m.map g)=(l.zip m).map fun z=>(z.1,g z.2)
 | [],_=>by simp
 | _::_,[]=>by simp
 | a::l,b::m=>by simp[D0u g l m]
theorem B9z (s:PaShow) (p:List PaUse):pays s p=(s.Figures.zip p).map fun z=>A3q s.Gowns z.1 z.2:=B66 _ _ _
theorem D0j (s:PaShow) (D:List Int) (p:List PaUse):pays s (p.map (nuU D))=(s.Figures.zip p).map fun z=>A3q s.Gowns z.1 (nuU D z.2):= by
 rw[B9z,D0u,Z1e];rfl
theorem B86 (D:List Int) (e:Int) (he:0≤e) (h0:(0:Int)∈D):∀q:List PaUse,∃ E,e≤E∧A7y D E≤e∧∀ x∈q,A7y D x.Day≤e→x.Day≤E
 | []=>⟨e,Z00 _,(B5b h0 he).2.1,by simp⟩
 | x::q=>by
  obtain⟨E,h1,h2,h3⟩:=B86 D e he h0 q
  by_cases c:A7y D x.Day≤e∧E<x.Day
  ·refine⟨x.Day,by omega,c.1,fun z hz hzd=>?_⟩
   rcases Zu.mp hz with rfl|hz
   ·exact Z00 _
   ·have:=h3 z hz hzd;omega
  ·refine⟨E,h1,h2,fun z hz hzd=>?_⟩
   rcases Zu.mp hz with rfl|hz
   ·by_cases hc:E<z.Day
    ·exact absurd ⟨hzd,hc⟩ c
    ·omega
   ·exact h3 z hz hzd
theorem D9u {f:PaUse→PaUse} (hf:∀x,(f x).Gown=x.Gown) {p:List PaUse} {i:Nat} (hi:i<p.length):twP (p.map f) i=twP p i:= by
 unfold twP
 rw[getElem!_pos (p.map f) i (by simpa using hi),Z3z,hf,← List.map_take,List.any_map,getElem!_pos p i hi]
 congr 2
 funext x
 show ((f x).Gown==_)=_
 rw[hf]
theorem E3v {s:PaShow} (hs:ShOk s) {q:List PaUse} (h:PlU s q):PlU s (q.map (nuU (O1 s))):= by
 refine⟨by rw[Zj];exact h.len,fun i hi=>?_⟩
 rw[Zj]at hi
 have:=h.len
 rw[getElem!_pos (q.map _) i (by simpa using hi),Z3z,← getElem!_pos q i hi]
 exact(B9i hs.gown (hs.figure _ (J3 (by omega))) (B0x hs).zero (h.use i hi)).1
theorem D6s {s:PaShow} (hs:ShOk s) {q:List PaUse} (h:PlU s q) {e:Int} (he:0≤e):∃E,e≤E∧I3 s q E≤I3 s (q.map (nuU (O1 s))) e:= by
 have h0:=(B0x hs).zero
 obtain⟨E,h1,h2,h3⟩:=B86 (O1 s) e he h0 q
 refine⟨E,h1,?_⟩
 have hinc:S3 (incs s) E=S3 (incs s) e:= by
  unfold S3
  refine congrArg sm (Z3h fun z hz=>?_)
  have hzD:z.2∈O1 s:= by
   obtain⟨x,hx,rfl⟩:=ZK.mp hz
   exact(B0w hs _).mpr (.inr ⟨x,hx,Z⟩)
  by_cases c:z.2≤E
  ·have:=(B5b h0 (by omega:0≤E)).2.2.2 z.2 hzD c
   rw[if_pos c,if_pos (by omega)]
  ·rw[if_neg c,if_neg (by omega)]
 have hpay:S3 (pays s (q.map (nuU (O1 s)))) e≤S3 (pays s q) E:= by
  rw[D0j,B9z]
  unfold S3
  rw[Z1e,Z1e]
  refine C64 fun z hz=>?_
  obtain⟨hy,hu,hm⟩:=D0v hs h z hz
  obtain⟨_,_,_,n4,n5⟩:=B9i hs.gown hy h0 hu
  have hb:=(D46 hs.gown hy hu).1.1
  simp only[Function.comp]
  by_cases c:(A3q s.Gowns z.1 (nuU (O1 s) z.2)).2≤e
  ·rw[if_pos c,if_pos (n5 e E (fun _=>h3 z.2 hm) h1 c)]
   exact n4
  ·rw[if_neg c];split <;> omega
 unfold I3
 omega
theorem C8e {s:PaShow} (hs:ShOk s) {q:List PaUse} (h:Pay s q):q.map (nuU (O1 s))∈PA s∧R9 (q.map (nuU (O1 s)))=R9 q∧A0d s (q.map (nuU (O1 s)))≤A0d s q∧A0t q (q.map (nuU (O1 s)))=false:= by
 have h0:=(B0x hs).zero
 have hall:∀x∈q,∃ y,FgOk y∧X4 s.Gowns y x=0:=fun x hx=>by
  obtain⟨i,hi,rfl⟩:=A4i hx
  have:=h.ok.u.len
  exact⟨_,hs.figure _ (J3 (by omega)),h.ok.u.use i hi⟩
 refine⟨(B9d hs).mpr ⟨⟨⟨E3v hs h.ok.u,fun i hi=>?_⟩,fun d hd=>?_⟩,fun x hx=>?_⟩,?_,?_,?_⟩
 ·rw[Zj]at hi
  rw[D9u (D0d _) hi];exact h.ok.tw i hi
 ·obtain⟨E,h1,h2⟩:=D6s hs h.ok.u hd
  have:=h.left E (by omega)
  omega
 ·obtain⟨z,hz,e⟩:=ZK.mp hx
  obtain⟨y,hy,hu⟩:=hall z hz
  rw[← e]
  exact(B9i hs.gown hy h0 hu).2.1
 ·unfold R9
  rw[Z1e]
  refine congrArg sm (Z3h fun x _=>?_)
  simp only[Function.comp,D0d]
 ·unfold A0d
  rw[D0j,B9z,Z1e,Z1e]
  refine C64 fun z hz=>?_
  obtain⟨hy,hu,_⟩:=D0v hs h.ok.u z hz
  exact(B9i hs.gown hy h0 hu).2.2.2.1
 ·refine C2i _ _ fun x hx=>?_
  obtain⟨y,hy,hu⟩:=hall x hx
  exact(B9i hs.gown hy h0 hu).2.2.1
theorem D2x {s:PaShow} (hs:ShOk s):Pay s (Zv s.Figures.length bare0)∧∀ x∈Zv s.Figures.length bare0,x.Gown = -1∨x.Day∈O1 s:= by
 have hget:∀i,i<s.Figures.length→(Zv s.Figures.length bare0)[i]! = bare0:=fun i hi=>by
  rw[getElem!_pos _ i (by simpa using hi),List.getElem_replicate]
 have hu:PlU s (Zv s.Figures.length bare0):=⟨by simp,fun i hi=>by
  rw[Z1p]at hi
  rw[hget i hi];exact Y2.mpr (.inl Z)⟩
 refine⟨⟨⟨hu,fun i hi=>?_⟩,fun d hd=>?_⟩,fun x hx=>?_⟩
 ·rw[Z1p]at hi
  unfold twP
  rw[hget i hi];rfl
 ·have h1:S3 (pays s (Zv s.Figures.length bare0)) d=0:= by
   unfold S3
   refine C4o fun x hx=>?_
   obtain⟨i,hi,rfl⟩:=A4i hx
   rw[K5 hu]at hi
   rw[A3i hu hi,hget i (by simpa using hi)]
   show (if (0:Int)≤d then (0:Int) else 0)=0
   split <;> rfl
  have h2:=(A2l (fun x hx=>(Y9 hs x hx).1) d).1
  have h3:=hs.purse
  unfold I3
  omega
 ·rw[(List.mem_replicate.mp hx).2];exact .inl Z
theorem A7q {s:PaShow} (hs:ShOk s) {p:List PaUse} (h:PlU s p):0≤A0d s p∧A0d s p≤300000:= by
 have:=B7n hs h (pays s p).length
 rwa [Z1a]at this
theorem D0z {s:PaShow} (hs:ShOk s):∃b,fm (A7w s) (PA s)=some b∧Pay s b∧(∀ q,Pay s q→A7w s b≤A7w s q)∧∀ q,Pay s q→A7w s q=A7w s b→A0t q b=false:= by
 obtain⟨b,hb⟩:=D56 (k:=A7w s) ((B9d hs).mpr (D2x hs))
 have hbp:=((B9d hs).mp (D8j hb)).1
 have hkey:∀q,Pay s q→A7w s (q.map (nuU (O1 s)))≤A7w s q:=fun q hq=>by
  obtain⟨_,h2,h3,_⟩:=C8e hs hq
  unfold A7w
  omega
 refine⟨b,hb,hbp,fun q hq=>Z5n (D7y hb (C8e hs hq).1) (hkey q hq),fun q hq he=>?_⟩
 obtain⟨h1,h2,h3,h4⟩:=C8e hs hq
 have hle:=D7y hb h1
 have hle2:=hkey q hq
 have e:A7w s (q.map (nuU (O1 s)))=A7w s b:= by omega
 have hb2:A0t (q.map (nuU (O1 s))) b=false:= by
  obtain⟨-,A,B,hAL,h5⟩:=B7q hb
  have hp:(PA s).Pairwise fun a b=>A0t b a=false:=(C29 hs (B0x hs) _ _).filter _
  rw[hAL]at hp h1
  rcases ZA.mp h1 with h1|h1
  ·have:=h5 _ h1;omega
  ·rcases Zu.mp h1 with h1|h1
   ·rw[h1];exact B87 _
   ·exact(List.pairwise_cons.mp (Z0t.mp hp).2.1).1 _ h1
 have l1:=hq.ok.u.len
 have l2:=hbp.ok.u.len
 exact B6f _ _ _ (by simp) (by simp;omega) h4 hb2
theorem D8u {s:PaShow} (hs:ShOk s) {p q:List PaUse} (hp:PlU s p) (hq:PlU s q):A7w s p<A7w s q↔R9 p<R9 q∨(R9 p=R9 q∧A0d s p<A0d s q):= by
 have h1:=A7q hs hp
 have h2:=A7q hs hq
 unfold A7w
 omega
theorem D2z {s:PaShow} (hs:ShOk s):∀p∈PA s,∀ q∈PA s,∃ r,A4t (fdP s p) (fdP s q)=some r∧(r<0↔A7w s p<A7w s q):= by
 intro p hp q hq
 have hp':=((B9d hs).mp hp).1.ok.u
 have hq':=((B9d hs).mp hq).1.ok.u
 have h1:=A7q hs hp'
 have h2:=A7q hs hq'
 have h3:=B73 p
 have h4:=B73 q
 have h5:=hp'.len
 have h6:=hq'.len
 have h7:=hs.figures
 refine⟨if R9 p-R9 q=0 then A0d s p-A0d s q else R9 p-R9 q,?_,?_⟩
 ·unfold A4t fdP
  simp only
  rw[F5 (by omega),F5 (by omega),or2]
  rfl
 ·rw[D8u hs hp' hq']
  split <;> omega
theorem D5t (s:PaShow) (hb:NB s):A37 s=some (if (chk s).2.2=0 then (match fm (A7w s) (PA s) with|some b=>(b,R9 b,A0d s b,0)|none=>([],0,0,0)) else ([],0,0,(chk s).2.2)):= by
 unfold A37
 rw[A9i s hb]
 simp only[Zd]
 by_cases h:(chk s).2.2=0
 ·have hs:=(A0r s).mp h
  simp only[h,if_true,BEq.rfl]
  rw[D5x (k:=A7w s) (L:=PA s) (F:=fdP s) (fun σ ρ body st X hX=>D45 hs (E3f hs) body hX) (D2z hs)]
  cases fm (A7w s) (PA s) <;> rfl
 ·rw[if_neg h,if_neg (by simpa using h),if_neg h]
end Pw
end
section
set_option maxRecDepth 100000
set_option maxHeartbeats 0
namespace Pw
open Go Am Go.Proofs.YtjpjdglddmhplaaGreat.Cd
def A5s (a0:PaShow) (a1:(List PaUse)):Option Bool :=
 (A24 a0 a1).bind fun x1 =>
 some (decide (x1.1≥0))
theorem C4c {c:Sc} {H:A1} {a0:PaShow} {a1:(List PaUse)} {r:Bool} (h:A5s a0 a1=some r) :
  F0 tab c H (.fn (.func 35) [] []) [(.agg (B1 a0)),(.seq 3 (Zg A6 a1))] [.b r]:= by
 unfold A5s at h
 refine cE Z Z<|sg 0 Z<|A0 (F6 (cs:=B1 a0) Z Z Z) Z<|qm Z<|es (ra2 Z Z)<|s0<|oB h fun x1 hx1 h=>A0 (D1 Z Z Z) Z<|qm Z<|B7 (rs:=[.i x1.1,.i x1.2]) Z Z (A2 (D0 Z) (A2 Z B4)) ((A95 hx1).frz)<|qm Z<|A0 (A9 Z Z) Z<|A0 (A9 Z Z) Z<|qm Z<|qm Z<|es (ra1 Z)<|s0<|qm Z<|A0 (A7n Z Z) Z<|qm Z<|es (ra1 Z)<|C7 ?_
 obtain rfl:=os h
 exact retq trivial (A7 Z B6) (A5 Z B5) (A3 A4 A8)
def Y0 (a0:(List PaUse)) (s1:(Int×Int)):Option ((Int×Int)⊕Int) :=
 if (decide (s1.2<(Zh a0:Int)))=true then
  (idx a0 s1.2).bind fun x4 =>
  if (x4.Gown==(-1))=true then
  some (.inl ((w64 (s1.1+1)),(w64 (s1.2+1))))
  else
  some (.inl (s1.1,(w64 (s1.2+1))))
 else
  some (.inr s1.1)
def A0m (a0:(List PaUse)):Option Int :=
 (loop (Y0 a0) (0,0)).bind fun (o6:Int) =>
 some o6
theorem A71 {c:Sc} {H:A1} {a0:(List PaUse)} {r:Int} (h:A0m a0=some r) :
  F0 tab c H (.fn (.func 36) [] []) [(.seq 3 (Zg A6 a0))] [.i r]:= by
 unfold A0m at h
 refine cE Z Z<|s0<|qm Z<|es (ra1 Z)<|s0<|qm Z<|es (ra2 Z Z)<|C1<|s0<|qm Z<|es (ra3 Z Z Z)<|C8<|oB h fun o6 ho6 h=>wl (fun s1=>[(0,(.seq 3 (Zg A6 a0))),(3,.i s1.1),(4,.i s1.2)]) (fun (q2:Unit) s1=>[]) 0 (fun r e s' H'=>PX 0 [(3,.i r)] (H++[]) e s' H') () ho6 Z Z (fun _ _=>rfl) (fun _=>rfl) Z (fun s1=>(bdc K2 (bdc A4 (bdc A4 bdn)))) (fun q2 s1 ys1 hs1=>?_) ?_
 ·unfold Y0 at hs1
  refine C1<|s0<|qm Z<|qm Z<|A0 (G1 (f:=A6) Z) Z<|A0 (I4 Z Z) Z<|es (ra4 Z Z Z Z)<|wi hs1 Z (fun hc3 hs1=>?_) fun hc3 hs1=>?_
  ·refine C3<|C1<|C8<|s0<|oB hs1 fun x4 hx4 hs1=>qm Z<|qm Z<|A0 (E0 (f:=A6) Z Z hx4) Z<|A0 (S5 (ds:=(A6 x4)) Z Z) Z<|A0 (I2 Z Z) Z<|A0 (G5 Z Z) Z<|es (ra4 Z Z Z Z)<|wi hs1 Z (fun hc5 hs1=>?_) fun hc5 hs1=>?_
   ·refine r0<|qm Z<|A0 (F7 Z Z) Z<|qm Z<|en (ra3 Z Z Z)<|r0<|qm Z<|A0 (F7 Z Z) Z<|qm Z<|en (ra3 Z Z Z) ?_
    cases hs1
    exact lnT () Z (su3 Z Z Z)
   ·refine C3<|r0<|qm Z<|A0 (F7 Z Z) Z<|qm Z<|en (ra3 Z Z Z) ?_
    cases hs1
    exact lnT () Z (su3 Z Z Z)
  ·refine I1 ?_
   obtain rfl:=os hs1
   exact lx Z px (su1 Z)
 ·rintro e s' H'-⟨rfl,rfl,rfl⟩
  refine s0<|qm Z<|qm Z<|es (ra1 Z)<|C7 ?_
  obtain rfl:=os h
  exact retq trivial (A7 Z B6) (A5 Z B5) (A3 A4 A8)
def A19 (a0:(List Int)) (a1:(List Int)) (s1:Int):Option (Int⊕(Bool⊕Unit)) :=
 if (decide (s1<(A5d (Zh a0:Int) (Zh a1:Int))))=true then
  (idx a0 s1).bind fun x4 =>
  (idx a1 s1).bind fun x5 =>
  if (x4 != x5)=true then
  (idx a0 s1).bind fun x7 =>
  (idx a1 s1).bind fun x8 =>
  some (.inr (.inl (decide (x7<x8))))
  else
  some (.inl (w64 (s1+1)))
 else
  some (.inr (.inr ()))
def A6d (a0:(List Int)) (a1:(List Int)):Option Bool :=
 (loop (A19 a0 a1) 0).bind fun (o9:(Bool⊕Unit)) =>
 match o9 with
 | (.inl vo9_0) =>
  some vo9_0
 | (.inr vo9_1) =>
  some (decide ((Zh a0:Int)<(Zh a1:Int)))
theorem C05 {c:Sc} {H:A1} {a0:(List Int)} {a1:(List Int)} {r:Bool} (h:A6d a0 a1=some r) :
  F0 tab c H (.fn (.func 80) [] []) [(.seq 1 (Zg cI a0)),(.seq 1 (Zg cI a1))] [.b r]:= by
 unfold A6d at h
 refine cE Z Z<|s0<|qm Z<|es (ra2 Z Z)<|s0<|qm Z<|A0 (G1 (f:=cI) Z) Z<|qm Z<|A0 (G1 (f:=cI) Z) Z<|A0 (C8g Z Z) Z<|qm Z<|es (ra3 Z Z Z)<|C1<|s0<|qm Z<|es (ra4 Z Z Z Z)<|C8<|oB h fun o9 ho9 h=>wl (fun s1=>[(0,(.seq 1 (Zg cI a0))),(1,(.seq 1 (Zg cI a1))),(5,(.i (A5d (Zh a0:Int) (Zh a1:Int)))),(6,.i s1)]) (fun (q2:Unit) s1=>[]) 0 (fun r e s' H'=>(match r with|(.inl v)=>e=.ret∧RetQ H [.tmp 4] [.b v] e s' H' | (.inr v)=>PX 0 [(0,(.seq 1 (Zg cI a0))),(1,(.seq 1 (Zg cI a1)))] (H++[]) e s' H':Prop)) () ho9 Z Z (fun _ _=>rfl) (fun _=>rfl) Z (fun s1=>(bdc K2 (bdc K2 (bdc A4 (bdc A4 bdn))))) (fun q2 s1 ys1 hs1=>?_) ?_
 ·unfold A19 at hs1
  refine C1<|s0<|qm Z<|qm Z<|A0 (I4 Z Z) Z<|es (ra5 Z Z Z Z Z)<|wi hs1 Z (fun hc3 hs1=>?_) fun hc3 hs1=>?_
  ·refine C3<|C1<|C8<|s0<|oB hs1 fun x4 hx4 hs1=>oB hs1 fun x5 hx5 hs1=>qm Z<|qm Z<|A0 (E0 (f:=cI) Z Z hx4) Z<|A0 (I2 Z Z) Z<|qm Z<|qm Z<|A0 (E0 (f:=cI) Z Z hx5) Z<|A0 (I2 Z Z) Z<|A0 (I9 Z Z) Z<|es (ra5 Z Z Z Z Z)<|wi hs1 Z (fun hc6 hs1=>?_) fun hc6 hs1=>?_
   ·refine s0<|oB hs1 fun x7 hx7 hs1=>oB hs1 fun x8 hx8 hs1=>qm Z<|qm Z<|A0 (E0 (f:=cI) Z Z hx7) Z<|A0 (I2 Z Z) Z<|qm Z<|qm Z<|A0 (E0 (f:=cI) Z Z hx8) Z<|A0 (I2 Z Z) Z<|A0 (I4 Z Z) Z<|qm Z<|es (ra1 Z)<|C7 ?_
    obtain rfl:=os hs1
    exact lx Z (ZF Z (retq trivial (A7 Z B6) (A5 Z B5) (A3 A4 A8))) (Sub.refl _)
   ·refine C3<|r0<|qm Z<|A0 (F7 Z Z) Z<|qm Z<|en (ra4 Z Z Z Z) ?_
    cases hs1
    exact lnT () Z (su4 Z Z Z Z)
  ·refine I1 ?_
   obtain rfl:=os hs1
   exact lx Z px (su2 Z Z)
 ·rcases o9 with vo9_0|vo9_1
  ·rintro e s' H'-⟨rfl,hret⟩
   cases h
   exact hret
  ·rintro e s' H'-⟨rfl,rfl,rfl⟩
   refine s0<|qm Z<|A0 (G1 (f:=cI) Z) Z<|qm Z<|A0 (G1 (f:=cI) Z) Z<|A0 (I4 Z Z) Z<|qm Z<|es (ra1 Z)<|C7 ?_
   obtain rfl:=os h
   exact retq trivial (A7 Z B6) (A5 Z B5) (A3 A4 A8)
def V3 (a0:(List PaUse)) (a1:(List PaUse)) (s1:Int):Option (Int⊕(Bool⊕Unit)) :=
 if ((decide (s1<(Zh a0:Int)))&&(decide (s1<(Zh a1:Int))))=true then
  (idx a0 s1).bind fun x5 =>
  (idx a1 s1).bind fun x6 =>
  if ((x5.Gown==x6.Gown)&&((x5.How==x6.How)&&((x5.Day==x6.Day)&&true)))=true then
  some (.inl (w64 (s1+1)))
  else
  (idx a0 s1).bind fun x8 =>
  (idx a1 s1).bind fun x9 =>
  if (x8.Gown != x9.Gown)=true then
   (idx a1 s1).bind fun x11 =>
   (if (x11.Gown==(-1))=true then
   some true
   else
   (idx a0 s1).bind fun x13 =>
   (if (x13.Gown != (-1))=true then
    (idx a0 s1).bind fun x15 =>
    (idx a1 s1).bind fun x16 =>
    some (decide (x15.Gown<x16.Gown))
   else
    some false).bind fun x17 =>
   some x17).bind fun x18 =>
   some (.inr (.inl x18))
  else
   (idx a0 s1).bind fun x19 =>
   (idx a0 s1).bind fun x20 =>
   (idx a1 s1).bind fun x21 =>
   (idx a1 s1).bind fun x22 =>
   (A6d [x19.How,x20.Day] [x21.How,x22.Day]).bind fun x23 =>
   some (.inr (.inl x23))
 else
  some (.inr (.inr ()))
def A3l (a0:(List PaUse)) (a1:(List PaUse)):Option Bool :=
 (loop (V3 a0 a1) 0).bind fun (o24:(Bool⊕Unit)) =>
 match o24 with
 | (.inl vo24_0) =>
  some vo24_0
 | (.inr vo24_1) =>
  some false
theorem B7h {c:Sc} {H:A1} {a0:(List PaUse)} {a1:(List PaUse)} {r:Bool} (h:A3l a0 a1=some r) :
  F0 tab c H (.fn (.func 39) [] []) [(.seq 3 (Zg A6 a0)),(.seq 3 (Zg A6 a1))] [.b r]:= by
 unfold A3l at h
 refine cE Z Z<|s0<|qm Z<|es (ra2 Z Z)<|C1<|s0<|qm Z<|es (ra3 Z Z Z)<|C8<|oB h fun o24 ho24 h=>wl (fun s1=>[(0,(.seq 3 (Zg A6 a0))),(1,(.seq 3 (Zg A6 a1))),(5,.i s1)]) (fun (q2:Unit) s1=>[]) 0 (fun r e s' H'=>(match r with|(.inl v)=>e=.ret∧RetQ H [.tmp 4] [.b v] e s' H' | (.inr v)=>PX 0 [] (H++[]) e s' H':Prop)) () ho24 Z Z (fun _ _=>rfl) (fun _=>rfl) Z (fun s1=>(bdc K2 (bdc K2 (bdc A4 bdn)))) (fun q2 s1 ys1 hs1=>?_) ?_
 ·unfold V3 at hs1
  refine C1<|s0<|qm Z<|qm Z<|A0 (G1 (f:=A6) Z) Z<|A0 (I4 Z Z) Z<|qm Z<|gp 5 15 (.b ((decide (s1<(Zh a0:Int)))&&(decide (s1<(Zh a1:Int))))) 10 Z Z (fun hg3=>?_) (fun hg3=>?_) ?_
  ·exact gT Z hg3<|qm Z<|gT Z hg3<|qm Z<|gT Z hg3<|A0 (G1 (f:=A6) Z) Z<|gT Z hg3<|A0 (I4 Z Z) Z<|A0 (C6 Z hg3 Z) Z<|ge 5 (by rw[hg3];rfl) Z Z
  ·exact nT Z hg3 Z<|nT Z hg3 Z<|nT Z hg3 Z<|nT Z hg3 Z<|A0 (C5 Z hg3 Z) Z<|ge 5 (by rw[hg3];rfl) Z Z
  refine es (ra4 Z Z Z Z)<|wi hs1 Z (fun hc4 hs1=>?_) fun hc4 hs1=>?_
  ·refine C3<|C1<|C8<|C1<|s0<|oB hs1 fun x5 hx5 hs1=>oB hs1 fun x6 hx6 hs1=>qm Z<|qm Z<|A0 (E0 (f:=A6) Z Z hx5) Z<|A0 (G4 Z Z) Z<|qm Z<|qm Z<|A0 (E0 (f:=A6) Z Z hx6) Z<|A0 (G4 Z Z) Z<|A0 (C33 (a:=A6 x5) (b:=A6 x6) Z Z Z Z (S8 (S8 (S8 B0y)))) Z<|es (ra4 Z Z Z Z)<|wi hs1 Z (fun hc7 hs1=>?_) fun hc7 hs1=>?_
   ·refine I1<|r0<|qm Z<|A0 (F7 Z Z) Z<|qm Z<|en (ra3 Z Z Z) ?_
    cases hs1
    exact lnT () Z (su3 Z Z Z)
   ·refine C3<|C1<|s0<|oB hs1 fun x8 hx8 hs1=>oB hs1 fun x9 hx9 hs1=>qm Z<|qm Z<|A0 (E0 (f:=A6) Z Z hx8) Z<|A0 (S5 (ds:=(A6 x8)) Z Z) Z<|A0 (I2 Z Z) Z<|qm Z<|qm Z<|A0 (E0 (f:=A6) Z Z hx9) Z<|A0 (S5 (ds:=(A6 x9)) Z Z) Z<|A0 (I2 Z Z) Z<|A0 (I9 Z Z) Z<|es (ra4 Z Z Z Z)<|wi hs1 Z (fun hc10 hs1=>?_) fun hc10 hs1=>?_
    ·refine s0<|oB hs1 fun x11 hx11 hs1=>oB hs1 fun x18 hx18 hs1=>qm Z<|qm Z<|A0 (E0 (f:=A6) Z Z hx11) Z<|A0 (S5 (ds:=(A6 x11)) Z Z) Z<|A0 (I2 Z Z) Z<|A0 (G5 Z Z) Z<|qm Z<|gp 20 64 (.b x18) 44 Z Z (fun hg12=>?_) (fun hg12=>?_) ?_
     ·obtain rfl:=os (bt hx18 hg12)
      exact nF Z hg12 Z<|nF Z hg12 Z<|nF Z hg12 Z<|nF Z hg12 Z<|nF Z hg12 Z<|nF Z hg12 Z<|nF Z hg12 Z<|nX Z Z<|nX Z Z<|nX Z Z<|nX Z Z<|nX Z Z<|nX Z Z<|nX Z Z<|nX Z Z<|nX Z Z<|nX Z Z<|nX Z Z<|nF Z hg12 Z<|A0 (C6 Z hg12 Z) Z<|ge 20 Z Z Z
     ·refine oB (bf hx18 hg12) fun x13 hx13 hx18=>oB hx18 fun x17 hx17 hx18=>?_
      obtain rfl:=os hx18
      refine gF Z hg12<|qm Z<|gF Z hg12<|qm Z<|gF Z hg12<|A0 (E0 (f:=A6) Z Z hx13) Z<|gF Z hg12<|A0 (S5 (ds:=(A6 x13)) Z Z) Z<|gF Z hg12<|A0 (I2 Z Z) Z<|gF Z hg12<|A0 (I9 Z Z) Z<|gF Z hg12<|qm Z<|gq 12 63 (.b x17) 51 Z Z (fun hg14=>?_) (fun hg14=>?_) ?_
      ·refine oB (bt hx17 hg14) fun x15 hx15 hx17=>oB hx17 fun x16 hx16 hx17=>?_
       obtain rfl:=os hx17
       exact gT Z hg14<|qm Z<|gT Z hg14<|qm Z<|gT Z hg14<|A0 (E0 (f:=A6) Z Z hx15) Z<|gT Z hg14<|A0 (S5 (ds:=(A6 x15)) Z Z) Z<|gT Z hg14<|A0 (I2 Z Z) Z<|gT Z hg14<|qm Z<|gT Z hg14<|qm Z<|gT Z hg14<|A0 (E0 (f:=A6) Z Z hx16) Z<|gT Z hg14<|A0 (S5 (ds:=(A6 x16)) Z Z) Z<|gT Z hg14<|A0 (I2 Z Z) Z<|gT Z hg14<|A0 (I4 Z Z) Z<|gF Z hg12<|A0 (C6 Z hg14 Z) Z<|ge 12 Z Z Z
      ·obtain rfl:=os (bf hx17 hg14)
       exact nT Z hg14 Z<|nT Z hg14 Z<|nT Z hg14 Z<|nT Z hg14 Z<|nT Z hg14 Z<|nT Z hg14 Z<|nT Z hg14 Z<|nT Z hg14 Z<|nT Z hg14 Z<|nT Z hg14 Z<|nT Z hg14 Z<|gF Z hg12<|A0 (C5 Z hg14 Z) Z<|ge 12 Z Z Z
      exact A0 (C5 Z hg12 Z) Z<|ge 9 Z Z Z
     refine qm Z<|es (ra1 Z)<|C7 ?_
     obtain rfl:=os hs1
     exact lx Z (ZF Z (retq trivial (A7 Z B6) (A5 Z B5) (A3 A4 A8))) (Sub.refl _)
    ·refine C3<|s0<|oB hs1 fun x19 hx19 hs1=>oB hs1 fun x20 hx20 hs1=>oB hs1 fun x21 hx21 hs1=>oB hs1 fun x22 hx22 hs1=>oB hs1 fun x23 hx23 hs1=>qm Z<|qm Z<|A0 (E0 (f:=A6) Z Z hx19) Z<|A0 (S5 (ds:=(Z1v 1 (A6 x19))) Z Z) Z<|A0 (I2 Z Z) Z<|qm Z<|qm Z<|A0 (E0 (f:=A6) Z Z hx20) Z<|A0 (S5 (ds:=(Z1v 2 (A6 x20))) Z Z) Z<|A0 (I2 Z Z) Z<|A0 (K0 (rows:=Zg cI [x19.How,x20.Day]) Z Z (F3 (fun _=>rfl) _)) Z<|qm Z<|qm Z<|A0 (E0 (f:=A6) Z Z hx21) Z<|A0 (S5 (ds:=(Z1v 1 (A6 x21))) Z Z) Z<|A0 (I2 Z Z) Z<|qm Z<|qm Z<|A0 (E0 (f:=A6) Z Z hx22) Z<|A0 (S5 (ds:=(Z1v 2 (A6 x22))) Z Z) Z<|A0 (I2 Z Z) Z<|A0 (K0 (rows:=Zg cI [x21.How,x22.Day]) Z Z (F3 (fun _=>rfl) _)) Z<|B7 (rs:=[.b x23]) Z Z (A2 Z (A2 Z B4)) ((C05 hx23).frz)<|qm Z<|es (ra1 Z)<|C7 ?_
     obtain rfl:=os hs1
     exact lx Z (ZF Z (retq trivial (A7 Z B6) (A5 Z B5) (A3 A4 A8))) (Sub.refl _)
  ·refine I1 ?_
   obtain rfl:=os hs1
   exact lx Z px (.nil _)
 ·rcases o24 with vo24_0|vo24_1
  ·rintro e s' H'-⟨rfl,hret⟩
   cases h
   exact hret
  ·rintro e s' H'-⟨rfl,rfl,rfl⟩
   refine s0<|qm Z<|es (ra1 Z)<|C7 ?_
   obtain rfl:=os h
   exact retq trivial (A7 Z B6) (A5 Z B5) (A3 A4 A8)
def A3f (a0:PaShow) (a1:(List Int)):Option Bool :=
 (A37 a0).bind fun x1 =>
 (A21 a0).bind fun x2 =>
 if (!x2)=true then
  (if ((((x1.2.2.2 != 0)&&((Zh x1.1:Int)==0))&&(x1.2.1==0))&&(x1.2.2.1==0))=true then
  (T6).bind fun x8 =>
  some x8
  else
  some false).bind fun x9 =>
  some x9
 else
  (if (x1.2.2.2 != 0)=true then
  some true
  else
  (A2u a0 x1.1).bind fun x11 =>
  some (x11 != 0)).bind fun x12 =>
  (if x12=true then
  some true
  else
  (A5s a0 x1.1).bind fun x14 =>
  some (!x14)).bind fun x15 =>
  (if x15=true then
  some true
  else
  (A0m x1.1).bind fun x17 =>
  some (x17 != x1.2.1)).bind fun x18 =>
  (if x18=true then
  some true
  else
  (A2r a0 x1.1).bind fun x20 =>
  some (x20 != x1.2.2.1)).bind fun x21 =>
  if x21=true then
  some false
  else
  (X0 a0 x1.1).bind fun x23 =>
  (A5o a0 a1).bind fun x24 =>
  (X0 a0 x24).bind fun x25 =>
  if ((x23.2 != 4)||((x25.2 != 0)&&(x25.2 != 4)))=true then
   some false
  else
   if (x25.2==0)=true then
   (T6).bind fun x30 =>
   some x30
   else
   (A0m x24).bind fun x31 =>
   (A2r a0 x24).bind fun x32 =>
   (if (decide (x31>x1.2.1))=true then
    some true
   else
    (if (x31==x1.2.1)=true then
    (if (decide (x32>x1.2.2.1))=true then
     some true
    else
     (if (x32==x1.2.2.1)=true then
     (A3l x24 x1.1).bind fun x37 =>
     some (!x37)
     else
     some false).bind fun x38 =>
     some x38).bind fun x39 =>
    some x39
    else
    some false).bind fun x40 =>
    some x40).bind fun x41 =>
   (if x41=true then
    (T6).bind fun x43 =>
    some x43
   else
    some false).bind fun x44 =>
   some x44
theorem B3z {c:Sc} {H:A1} (hscv:S7 c H=true) {a0:PaShow} {a1:(List Int)} {r:Bool} (h:A3f a0 a1=some r) :
  F0 tab c H (.fn (.func 6) [] []) [(.agg (B1 a0)),(.seq 1 (Zg A5u a1))] [.b r]:= by
 unfold A3f at h
 refine cE Z Z<|sg 0 Z<|A0 (F6 (cs:=B1 a0) Z Z Z) Z<|qm Z<|es (ra2 Z Z)<|s0<|oB h fun x1 hx1 h=>A0 (D1 Z Z Z) Z<|B7 (rs:=[(.seq 3 (Zg A6 x1.1)),.i x1.2.1,.i x1.2.2.1,.i x1.2.2.2]) Z Z (A2 (D0 Z) B4) ((A8v (B0m hscv) hx1).frz)<|qm Z<|A0 (A9 Z Z) Z<|A0 (A9 Z Z) Z<|A0 (A9 Z Z) Z<|A0 (A9 Z Z) Z<|qm Z<|qm Z<|qm Z<|qm Z<|es (ra6 Z Z Z Z Z Z)<|C1<|s0<|oB h fun x2 hx2 h=>A0 (D1 Z Z Z) Z<|B7 (rs:=[.b x2]) Z Z (A2 (D0 Z) B4) ((A92 hx2).frz)<|A0 (Q2 Z) Z<|es (ra7 Z Z Z Z Z Z Z)<|wi h Z (fun hc3 h=>?_) fun hc3 h=>?_
 ·refine s0<|oB h fun x9 hx9 h=>qm Z<|A0 (I9 Z Z) Z<|qm Z<|gp 4 32 (.b ((x1.2.2.2 != 0)&&((Zh x1.1:Int)==0))) 28 Z Z (fun hg4=>?_) (fun hg4=>?_) ?_
  ·exact gT Z hg4<|qm Z<|gT Z hg4<|A0 (G1 (f:=A6) Z) Z<|gT Z hg4<|A0 (G5 Z Z) Z<|A0 (C6 Z hg4 Z) Z<|ge 4 (by rw[hg4];rfl) Z Z
  ·exact nT Z hg4 Z<|nT Z hg4 Z<|nT Z hg4 Z<|A0 (C5 Z hg4 Z) Z<|ge 4 (by rw[hg4];rfl) Z Z
  refine qm Z<|gp 3 36 (.b (((x1.2.2.2 != 0)&&((Zh x1.1:Int)==0))&&(x1.2.1==0))) 33 Z Z (fun hg5=>?_) (fun hg5=>?_) ?_
  ·exact gT Z hg5<|qm Z<|gT Z hg5<|A0 (G5 Z Z) Z<|A0 (C6 Z hg5 Z) Z<|ge 3 (by rw[hg5];rfl) Z Z
  ·exact nT Z hg5 Z<|nT Z hg5 Z<|A0 (C5 Z hg5 Z) Z<|ge 3 (by rw[hg5];rfl) Z Z
  refine qm Z<|gp 3 40 (.b ((((x1.2.2.2 != 0)&&((Zh x1.1:Int)==0))&&(x1.2.1==0))&&(x1.2.2.1==0))) 37 Z Z (fun hg6=>?_) (fun hg6=>?_) ?_
  ·exact gT Z hg6<|qm Z<|gT Z hg6<|A0 (G5 Z Z) Z<|A0 (C6 Z hg6 Z) Z<|ge 3 (by rw[hg6];rfl) Z Z
  ·exact nT Z hg6 Z<|nT Z hg6 Z<|A0 (C5 Z hg6 Z) Z<|ge 3 (by rw[hg6];rfl) Z Z
  refine qm Z<|gp 2 43 (.b x9) 41 Z Z (fun hg7=>?_) (fun hg7=>?_) ?_
  ·refine oB (bt hx9 hg7) fun x8 hx8 hx9=>?_
   obtain rfl:=os hx9
   exact gT Z hg7<|B7 (rs:=[.b x8]) Z Z B4 ((U5 (B0m hscv) hx8).frz)<|A0 (C6 Z hg7 Z) Z<|ge 2 Z Z Z
  ·obtain rfl:=os (bf hx9 hg7)
   exact H7 (D5 Z (by rw[hg7];rfl)) Z<|A0 (C5 Z hg7 Z) Z<|ge 2 Z Z Z
  refine qm Z<|es (ra1 Z)<|C7 ?_
  obtain rfl:=os h
  exact retq trivial (A7 Z B6) (A5 Z B5) (A3 A4 A8)
 ·refine C3<|C1<|s0<|oB h fun x12 hx12 h=>oB h fun x15 hx15 h=>oB h fun x18 hx18 h=>oB h fun x21 hx21 h=>qm Z<|A0 (I9 Z Z) Z<|qm Z<|gp 5 51 (.b x12) 46 Z Z (fun hg10=>?_) (fun hg10=>?_) ?_
  ·obtain rfl:=os (bt hx12 hg10)
   exact nF Z hg10 Z<|nF Z hg10 Z<|H7 (D5 Z (by rw[hg10];rfl)) Z<|nF Z hg10 Z<|A0 (C6 Z hg10 Z) Z<|ge 5 Z Z Z
  ·refine oB (bf hx12 hg10) fun x11 hx11 hx12=>?_
   obtain rfl:=os hx12
   exact gF Z hg10<|A0 (D1 Z Z Z) Z<|gF Z hg10<|qm Z<|gF Z hg10<|B7 (rs:=[.i x11]) Z Z (A2 (D0 Z) (A2 Z B4)) ((B11 hx11).frz)<|gF Z hg10<|A0 (I9 Z Z) Z<|A0 (C5 Z hg10 Z) Z<|ge 5 Z Z Z
  refine qm Z<|gp 5 57 (.b x15) 52 Z Z (fun hg13=>?_) (fun hg13=>?_) ?_
  ·obtain rfl:=os (bt hx15 hg13)
   exact nF Z hg13 Z<|nF Z hg13 Z<|H7 (D5 Z (by rw[hg13];rfl)) Z<|nF Z hg13 Z<|A0 (C6 Z hg13 Z) Z<|ge 5 Z Z Z
  ·refine oB (bf hx15 hg13) fun x14 hx14 hx15=>?_
   obtain rfl:=os hx15
   exact gF Z hg13<|A0 (D1 Z Z Z) Z<|gF Z hg13<|qm Z<|gF Z hg13<|B7 (rs:=[.b x14]) Z Z (A2 (D0 Z) (A2 Z B4)) ((C4c hx14).frz)<|gF Z hg13<|A0 (Q2 Z) Z<|A0 (C5 Z hg13 Z) Z<|ge 5 Z Z Z
  refine qm Z<|gp 5 63 (.b x18) 58 Z Z (fun hg16=>?_) (fun hg16=>?_) ?_
  ·obtain rfl:=os (bt hx18 hg16)
   exact nF Z hg16 Z<|H7 (D5 Z (by rw[hg16];rfl)) Z<|nF Z hg16 Z<|nF Z hg16 Z<|A0 (C6 Z hg16 Z) Z<|ge 5 Z Z Z
  ·refine oB (bf hx18 hg16) fun x17 hx17 hx18=>?_
   obtain rfl:=os hx18
   exact gF Z hg16<|qm Z<|gF Z hg16<|B7 (rs:=[.i x17]) Z Z (A2 Z B4) ((A71 hx17).frz)<|gF Z hg16<|qm Z<|gF Z hg16<|A0 (I9 Z Z) Z<|A0 (C5 Z hg16 Z) Z<|ge 5 Z Z Z
  refine qm Z<|gp 6 70 (.b x21) 64 Z Z (fun hg19=>?_) (fun hg19=>?_) ?_
  ·obtain rfl:=os (bt hx21 hg19)
   exact nF Z hg19 Z<|nF Z hg19 Z<|H7 (D5 Z (by rw[hg19];rfl)) Z<|nF Z hg19 Z<|nF Z hg19 Z<|A0 (C6 Z hg19 Z) Z<|ge 6 Z Z Z
  ·refine oB (bf hx21 hg19) fun x20 hx20 hx21=>?_
   obtain rfl:=os hx21
   exact gF Z hg19<|A0 (D1 Z Z Z) Z<|gF Z hg19<|qm Z<|gF Z hg19<|B7 (rs:=[.i x20]) Z Z (A2 (D0 Z) (A2 Z B4)) ((A7d hx20).frz)<|gF Z hg19<|qm Z<|gF Z hg19<|A0 (I9 Z Z) Z<|A0 (C5 Z hg19 Z) Z<|ge 6 Z Z Z
  refine es (ra6 Z Z Z Z Z Z)<|wi h Z (fun hc22 h=>?_) fun hc22 h=>?_
  ·refine s0<|qm Z<|es (ra1 Z)<|C7 ?_
   obtain rfl:=os h
   exact retq trivial (A7 Z B6) (A5 Z B5) (A3 A4 A8)
  ·refine C3<|s0<|oB h fun x23 hx23 h=>A0 (D1 Z Z Z) Z<|qm Z<|B7 (rs:=[.i x23.1,.i x23.2]) Z Z (A2 (D0 Z) (A2 Z B4)) ((A12 hx23).frz)<|qm Z<|A0 (A9 Z Z) Z<|A0 (A9 Z Z) Z<|qm Z<|qm Z<|es (ra6 Z Z Z Z Z Z)<|s0<|oB h fun x24 hx24 h=>A0 (D1 Z Z Z) Z<|qm Z<|B7 (rs:=[(.seq 3 (Zg A6 x24))]) Z Z (A2 (D0 Z) (A2 Z B4)) ((B3y hx24).frz)<|qm Z<|es (ra6 Z Z Z Z Z Z)<|s0<|oB h fun x25 hx25 h=>A0 (D1 Z Z Z) Z<|qm Z<|B7 (rs:=[.i x25.1,.i x25.2]) Z Z (A2 (D0 Z) (A2 Z B4)) ((A12 hx25).frz)<|qm Z<|A0 (A9 Z Z) Z<|A0 (A9 Z Z) Z<|qm Z<|qm Z<|es (ra7 Z Z Z Z Z Z Z)<|C1<|s0<|qm Z<|A0 (I9 Z Z) Z<|qm Z<|gp 7 95 (.b ((x23.2 != 4)||((x25.2 != 0)&&(x25.2 != 4)))) 88 Z Z (fun hg26=>?_) (fun hg26=>?_) ?_
   ·exact nF Z hg26 Z<|nF Z hg26 Z<|nF Z hg26 Z<|nX Z Z<|nX Z Z<|nF Z hg26 Z<|A0 (C6 Z hg26 Z) Z<|ge 7 (by rw[hg26];rfl) Z Z
   ·refine gF Z hg26<|qm Z<|gF Z hg26<|A0 (I9 Z Z) Z<|gF Z hg26<|qm Z<|gq 3 94 (.b ((x25.2 != 0)&&(x25.2 != 4))) 91 Z Z (fun hg27=>?_) (fun hg27=>?_) ?_
    ·exact gT Z hg27<|qm Z<|gT Z hg27<|A0 (I9 Z Z) Z<|gF Z hg26<|A0 (C6 Z hg27 Z) Z<|ge 3 (by rw[hg27];rfl) Z Z
    ·exact nT Z hg27 Z<|nT Z hg27 Z<|gF Z hg26<|A0 (C5 Z hg27 Z) Z<|ge 3 (by rw[hg27];rfl) Z Z
    exact A0 (C5 Z hg26 Z) Z<|ge 5 (by rw[hg26];rfl) Z Z
   refine es (ra7 Z Z Z Z Z Z Z)<|wi h Z (fun hc28 h=>?_) fun hc28 h=>?_
   ·refine s0<|qm Z<|es (ra1 Z)<|C7 ?_
    obtain rfl:=os h
    exact retq trivial (A7 Z B6) (A5 Z B5) (A3 A4 A8)
   ·refine C3<|C1<|s0<|qm Z<|A0 (G5 Z Z) Z<|es (ra6 Z Z Z Z Z Z)<|wi h Z (fun hc29 h=>?_) fun hc29 h=>?_
    ·refine s0<|oB h fun x30 hx30 h=>B7 (rs:=[.b x30]) Z Z B4 ((U5 (B0m hscv) hx30).frz)<|qm Z<|es (ra1 Z)<|C7 ?_
     obtain rfl:=os h
     exact retq trivial (A7 Z B6) (A5 Z B5) (A3 A4 A8)
    ·refine C3<|s0<|oB h fun x31 hx31 h=>oB h fun x32 hx32 h=>qm Z<|U7 (rs:=[.i x31]) Z Z (T0 Z A0p) (A2 Z B4) ((A71 hx31).frz)<|A0 (D1 Z Z Z) Z<|qm Z<|B7 (rs:=[.i x32]) Z Z (A2 (D0 Z) (A2 Z B4)) ((A7d hx32).frz)<|qm Z<|qm Z<|es (ra6 Z Z Z Z Z Z)<|s0<|oB h fun x41 hx41 h=>oB h fun x44 hx44 h=>qm Z<|qm Z<|A0 (Y5 Z Z) Z<|qm Z<|gp 20 127 (.b x41) 107 Z Z (fun hg33=>?_) (fun hg33=>?_) ?_
     ·obtain rfl:=os (bt hx41 hg33)
      exact nF Z hg33 Z<|nF Z hg33 Z<|nF Z hg33 Z<|nF Z hg33 Z<|nX Z Z<|nX Z Z<|nX Z Z<|nX Z Z<|nX Z Z<|nX Z Z<|nX Z Z<|nX Z Z<|nX Z Z<|nX Z Z<|H7 (A6n Z) Z<|nX Z Z<|nX Z Z<|nX Z Z<|nF Z hg33 Z<|A0 (C6 Z hg33 Z) Z<|ge 20 Z Z Z
     ·refine oB (bf hx41 hg33) fun x40 hx40 hx41=>?_
      obtain rfl:=os hx41
      refine gF Z hg33<|qm Z<|gF Z hg33<|qm Z<|gF Z hg33<|A0 (G5 Z Z) Z<|gF Z hg33<|qm Z<|gq 15 126 (.b x40) 111 Z Z (fun hg34=>?_) (fun hg34=>?_) ?_
      ·refine oB (bt hx40 hg34) fun x39 hx39 hx40=>?_
       obtain rfl:=os hx40
       refine gT Z hg34<|qm Z<|gT Z hg34<|qm Z<|gT Z hg34<|A0 (Y5 Z Z) Z<|gT Z hg34<|qm Z<|gq 10 125 (.b x39) 115 Z Z (fun hg35=>?_) (fun hg35=>?_) ?_
       ·obtain rfl:=os (bt hx39 hg35)
        exact nF Z hg35 Z<|nF Z hg35 Z<|nF Z hg35 Z<|nF Z hg35 Z<|nX Z Z<|nX Z Z<|H7 (A6n Z) Z<|nX Z Z<|nF Z hg35 Z<|gT Z hg34<|A0 (C6 Z hg35 Z) Z<|ge 10 Z Z Z
       ·refine oB (bf hx39 hg35) fun x38 hx38 hx39=>?_
        obtain rfl:=os hx39
        refine gF Z hg35<|qm Z<|gF Z hg35<|qm Z<|gF Z hg35<|A0 (G5 Z Z) Z<|gF Z hg35<|qm Z<|gq 5 124 (.b x38) 119 Z Z (fun hg36=>?_) (fun hg36=>?_) ?_
        ·refine oB (bt hx38 hg36) fun x37 hx37 hx38=>?_
         obtain rfl:=os hx38
         exact gT Z hg36<|qm Z<|gT Z hg36<|qm Z<|gT Z hg36<|B7 (rs:=[.b x37]) Z Z (A2 Z (A2 Z B4)) ((B7h hx37).frz)<|gT Z hg36<|A0 (Q2 Z) Z<|gF Z hg35<|A0 (C6 Z hg36 Z) Z<|ge 5 Z Z Z
        ·obtain rfl:=os (bf hx38 hg36)
         exact nT Z hg36 Z<|nT Z hg36 Z<|H7 (D5 Z (by rw[hg36];rfl)) Z<|nT Z hg36 Z<|gF Z hg35<|A0 (C5 Z hg36 Z) Z<|ge 5 Z Z Z
        exact gT Z hg34<|A0 (C5 Z hg35 Z) Z<|ge 6 Z Z Z
       exact gF Z hg33<|A0 (C6 Z hg34 Z) Z<|ge 6 Z Z Z
      ·obtain rfl:=os (bf hx40 hg34)
       exact nT Z hg34 Z<|nT Z hg34 Z<|nT Z hg34 Z<|nT Z hg34 Z<|nX Z Z<|nX Z Z<|nX Z Z<|nX Z Z<|nX Z Z<|nX Z Z<|H7 (A6n Z) Z<|nX Z Z<|nX Z Z<|nT Z hg34 Z<|gF Z hg33<|A0 (C5 Z hg34 Z) Z<|ge 15 Z Z Z
      exact A0 (C5 Z hg33 Z) Z<|ge 6 Z Z Z
     refine qm Z<|gp 2 130 (.b x44) 128 Z Z (fun hg42=>?_) (fun hg42=>?_) ?_
     ·refine oB (bt hx44 hg42) fun x43 hx43 hx44=>?_
      obtain rfl:=os hx44
      exact gT Z hg42<|B7 (rs:=[.b x43]) Z Z B4 ((U5 (B0m hscv) hx43).frz)<|A0 (C6 Z hg42 Z) Z<|ge 2 Z Z Z
     ·obtain rfl:=os (bf hx44 hg42)
      exact H7 (D5 Z (by rw[hg42];rfl)) Z<|A0 (C5 Z hg42 Z) Z<|ge 2 Z Z Z
     refine qm Z<|es (ra1 Z)<|C7 ?_
     obtain rfl:=os h
     exact retq trivial (A7 Z B6) (A5 Z B5) (A3 A4 A8)
end Pw
end
section
namespace Pw
open Go Am
theorem C8s {s:PaShow} (hs:ShOk s) {p:List PaUse} (h:PlU s p):A5s s p=some (decide ((M6 s p).1=0)):= by
 unfold A5s
 rw[B4d hs h]
 simp only[Zd]
 have:=(B6x hs h).2.2.1
 rw[Option.some_inj,Bool.eq_iff_iff,decide_eq_true_eq,decide_eq_true_eq,this]
theorem B0i {p:List PaUse} (hl:p.length≤100):A0m p=some (R9 p):= by
 unfold A0m
 have e1:loop (Y0 p) (0,0)=some (R9 p):= by
  refine A0k p (fun a (x:PaUse)=>a+if x.Gown = -1 then 1 else 0) 0 (fun i t=>(t,(i:Int))) (by omega) (fun i hi=>?_) ?_
  ·have hb:=B73 (p.take i)
   rw[ZE]at hb
   rw[A1w,show sm ((p.take i).map fun x=>if x.Gown = -1 then 1 else 0)=R9 (p.take i) from Z,Z4w]
   unfold Y0
   simp only[]
   rw[if_pos (by simpa using hi),I5 hi]
   simp only[Zd]
   rw[F5 (n:=(i:Int)+1) (by omega),F5 (by omega)]
   by_cases h:p[i]!.Gown = -1
   ·rw[if_pos (by rw[h];rfl),if_pos h];rfl
   ·rw[if_neg (by rw[beq_iff_eq];exact h),if_neg h,Z3f];rfl
  ·unfold Y0
   simp only[]
   rw[if_neg (by simp),A1w,Z4w];rfl
 rw[e1];rfl
def UB (u:PaUse):Prop:=u=bare0∨((0≤u.Gown∧u.Gown<5)∧(0≤u.How∧u.How≤2)∧(0≤u.Day∧u.Day≤364))
theorem E12 {G:List PaGown} (hG:G.length≤5) {y:PaFigure} {u:PaUse} (h:X4 G y u=0):UB u:= by
 rcases Y2.mp h with e|e
 ·exact .inl e
 ·have h1:=e.lo
  have h2:=e.hi
  right
  rcases form1 e.form with q|⟨_,q|q⟩
  ·exact⟨⟨h1,by omega⟩,by omega,by omega⟩
  ·exact⟨⟨h1,by omega⟩,by omega,by omega⟩
  ·exact⟨⟨h1,by omega⟩,by omega,by omega⟩
theorem less2 (a b c d:Int):A6d [a,b] [c,d]=some (if a=c then decide (b<d) else decide (a<c)):= by
 unfold A6d
 rw[A6w (b:=A19 [a,b] [c,d]) 2 (fun i=>if ([a,b][i]!:Int)=[c,d][i]! then none else some (.inl (decide (([a,b][i]!:Int)<[c,d][i]!)))) (.inr ()) (by omega) (fun i hi _=>by
  unfold A19
  rw[if_pos (by unfold A5d;simp;omega),I5 (by simp;omega),I5 (by simp;omega)]
  simp only[Zd]
  by_cases h:([a,b][i]!:Int)=[c,d][i]!
  ·rw[if_neg (by rw[h];simp),if_pos h]
  ·rw[if_pos (bne_iff_ne.mpr h),if_neg h]) (by
  unfold A19 A5d
  rw[if_neg (by simp)])]
 simp only[first]
 rw[show ([a,b][0]!:Int)=a from Z,show ([a,b][1]!:Int)=b from Z,show ([c,d][0]!:Int)=c from Z,show ([c,d][1]!:Int)=d from Z]
 by_cases ha:a=c
 ·by_cases hb:b=d
  ·simp[ha,hb]
  ·simp[ha,hb]
 ·simp[ha]
theorem C46 {u v:PaUse} (hu:UB u) (hv:UB v) {a b:List PaUse} {i:Nat} (h1:i<a.length) (h2:i<b.length) (hl:a.length≤100) (hui:a[i]! = u) (hvi:b[i]! = v):V3 a b (i:Int)=some (if ku u=ku v then .inl ((i+1:Nat):Int) else .inr (.inl (decide (ku u<ku v)))):= by
 unfold V3
 rw[if_pos (by simp;omega),I5 h1,I5 h2,hui,hvi]
 simp only[Zd]
 rw[F5 (n:=(i:Int)+1) (by omega),less2]
 simp only[Zd]
 obtain⟨g1,o1,d1⟩:=u
 obtain⟨g2,o2,d2⟩:=v
 unfold UB bare0 at hu hv
 unfold ku
 simp only[PaUse.mk.injEq]at hu hv
 simp only
 by_cases e:g1=g2∧o1=o2∧d1=d2
 ·obtain⟨rfl,rfl,rfl⟩:=e
  rw[if_pos (by simp),if_pos Z];rfl
 ·rw[if_neg (by simp only[Zc,beq_iff_eq,Bool.and_true];exact e)]
  by_cases eg:g1=g2
  ·subst eg
   rw[if_neg (by simp)]
   by_cases eo:o1=o2
   ·subst eo
    rw[if_pos Z,if_neg (by omega)]
    congr 3
    rw[decide_eq_decide];omega
   ·rw[if_neg eo]
    by_cases hb:g1 = -1
    ·omega
    ·rw[if_neg hb,if_neg (by omega)]
     congr 3
     rw[decide_eq_decide];omega
  ·rw[if_pos (bne_iff_ne.mpr eg)]
   by_cases hb2:g2 = -1
   ·subst hb2
    rw[if_pos (by rfl),if_neg eg,if_pos Z,if_neg (by omega)]
    simp only[Zd]
    rw[decide_eq_true (by omega)]
   ·rw[if_neg (by rw[beq_iff_eq];exact hb2),if_neg hb2]
    by_cases hb1:g1 = -1
    ·subst hb1
     rw[if_neg (by decide),if_pos Z,if_neg (by omega)]
     simp only[Zd]
     rw[decide_eq_false (by omega)]
    ·rw[if_pos (bne_iff_ne.mpr hb1),if_neg hb1,if_neg (by omega)]
     simp only[Zd]
     congr 3
     rw[decide_eq_decide];omega
theorem D0w {a b:List PaUse} (ha:∀x∈a,UB x) (hb:∀x∈b,UB x) (hl:a.length≤100) (hab:a.length=b.length):A3l a b=some (A0t a b):= by
 have key:∀(d m i:Nat),i+d=a.length→d<m→(A52 (V3 a b) m (i:Int)).bind (fun o=>match o with
   | .inl v=>some v
   | .inr _=>some false)=some (A0t (a.drop i) (b.drop i)):= by
  intro d
  induction d with
  | zero =>
   intro m i hi hm
   obtain⟨m',rfl⟩:∃m',m=m'+1:=⟨m-1,by omega⟩
   rw[L2]
   unfold V3
   rw[if_neg (by simp;omega),Z1l (by omega),Z1l (by omega)]
   rfl
  | succ d ih =>
   intro m i hi hm
   obtain⟨m',rfl⟩:∃m',m=m'+1:=⟨m-1,by omega⟩
   have h1:i<a.length:= by omega
   have h2:i<b.length:= by omega
   rw[L2,Z1c h1,Z1c h2,C46 (ha _ (J3 h1)) (hb _ (J3 h2)) h1 h2 hl Z Z]
   unfold A0t
   rw[← getElem!_pos a i h1,← getElem!_pos b i h2]
   by_cases c:ku a[i]! = ku b[i]!
   ·rw[if_pos c,if_pos c];exact ih m' (i+1) (by omega) (by omega)
   ·rw[if_neg c,if_neg c];rfl
 unfold A3l
 exact key a.length _ 0 (by omega) (by omega)
theorem D77 {s:PaShow} (hs:ShOk s) {p:List PaUse} (h:PlU s p):∀x∈p,UB x:=fun x hx=>by
 obtain⟨i,hi,rfl⟩:=A4i hx
 exact E12 hs.gowns (h.use i hi)
theorem C1b {s:PaShow} {x:List Int} (hb:NB s) (hx:x.length<9223372036854775808):A3f s x=some true:= by
 unfold A3f
 rw[C7b,awake,D5t s hb]
 simp only[Zd]
 by_cases hv:(chk s).2.2=0
 ·have hs:=(A0r s).mp hv
  have hfl:=hs.figures
  obtain⟨b,e,hbp,hmin,hfirst⟩:=D0z hs
  obtain⟨p,ha,hp⟩:=D2r hs hx
  have hbl:=hbp.ok.u.len
  have hpl:=hp.u.len
  have hse:∀q,PlOk s q→A7j s q=if (M6 s q).1=0 then 4 else 0:=fun q hq=>by
   unfold A7j
   rw[A81 hv hq];rfl
  have E1:A2u s b=some 0:= by rw[B6t hs,B2s.mpr hbp.ok]
  have E2:A5s s b=some true:= by rw[C8s hs hbp.ok.u,(B1j hs hbp.ok.u).mpr hbp.left];rfl
  have E3:=B0i (p:=b) (by omega)
  have E4:=B0i (p:=p) (by omega)
  have E5:=B0f hs hbp.ok.u
  have E6:=B0f hs hp.u
  have E7:X0 s b=some (0,4):= by rw[B76 s hb,hse b hbp.ok,(B1j hs hbp.ok.u).mpr hbp.left];rfl
  have E8:=B76 s hb p
  rw[hse p hp]at E8
  have E9:=D0w (D77 hs hp.u) (D77 hs hbp.ok.u) (by omega) (by omega)
  rw[e,ha]
  simp only[hv,if_true,Zd,E1,E2,E3,E4,E5,E6,E7,E8,E9]
  clear E1 E2 E3 E4 E5 E6 E7 E8 E9
  by_cases hz:(M6 s p).1=0
  ·have hpay:Pay s p:=⟨hp,(B1j hs hp.u).mp hz⟩
   have h1:=hmin p hpay
   have h2:=hfirst p hpay
   have c1:=A7q hs hbp.ok.u
   have c2:=A7q hs hp.u
   unfold A7w at h1 h2
   by_cases q1:R9 p>R9 b
   ·simp[hz,q1]
   ·by_cases q2:A0d s p>A0d s b
    ·have:R9 p=R9 b:= by omega
     simp[hz,this,q2]
    ·have e1:R9 p=R9 b:= by omega
     have e2:A0d s p=A0d s b:= by omega
     simp[hz,e1,e2,h2 (by omega)]
  ·simp[hz]
 ·simp[hv]
end Pw
end
