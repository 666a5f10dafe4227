/- Texts that the claim stands on, one behind another. -/
import Derived.Test.YtjpjdglddmhplaaGreatA6
set_option linter.unusedVariables false
set_option linter.unusedSimpArgs false
set_option linter.unnecessarySimpa false
open And renaming intro→ZE
open Bool renaming and_eq_true→Zc,eq_iff_iff→Z0c,false_eq_true→Zj,false_or→Z30,not_true→Z0y,true_and→Z1h
open Int renaming add_zero→Z3l,le_refl→Z02,le_trans→Z5y,natCast_nonneg→Z0v,tdiv_eq_ediv_of_nonneg→Z2o,tmod_eq_emod_of_nonneg→Z3w,toNat_natCast→ZG,toNat_of_nonneg→Z4z,zero_add→Z55
open List renaming any_cons→Z4v,any_eq_false→Z3z,append_assoc→ZB,append_nil→ZY,filter_append→Z2d,filter_cons→Z08,filter_nil→Z5n,flatMap_append→Z13,flatMap_cons→Z0l,flatMap_nil→Z5h,foldl_cons→Z09,getElem?_eq_some_iff→Ze,getElem_map→Z47,getElem_mem→Z22,getElem_set_self→Z4r,getElem_zip→Z49,length_append→Zo,length_cons→ZT,length_filter_le→Z1k,length_map→Zi,length_range→Z1q,length_replicate→Z1y,length_set→Z0t,length_singleton→Z37,length_take→ZD,length_zip→Z4i,length→Zh,map_append→Z00,map_congr_left→Z25,map_cons→Zt,map_map→Z1f,map→Zg,mem_append→ZA,mem_cons_of_mem→Zx,mem_cons_self→Zy,mem_cons→Zu,mem_filter→Z0a,mem_flatMap→Z2k,mem_iff_getElem→ZX,mem_map→ZK,mem_of_mem_take→ZZ,mem_range→Z1s,mem_take_iff_getElem→Z0f,nil_append→Z06,pairwise_append→Z0x,pairwise_cons→Z1j,pairwise_iff_getElem→Z0e,pairwise_lt_range→Z2z,pairwise_map→Z40,range_succ→Z5m,range→Z04,replicate→Zv,set_eq_of_length_le→Z1o,take_left→Z07,take_length→Z0n,take_of_length_le→ZR,take_set→Z31,take_succ_cons→Z24,take_succ_eq_append_getElem→ZM,take_take→Z3q
open Nat renaming add_assoc→Z03,add_zero→Z1e,div_add_mod→Z4d,div_eq_of_lt→Z44,div_le_self→Z5k,le_add_right→ZL,le_refl→Zn,le_succ→Z61,le_trans→Z01,min_eq_left→Z1x,mod_eq_of_lt→Z33,mod_lt→Z20,mul_add_div→Z4e,mul_add_mod→Z5l,mul_comm→Z1g,mul_le_mul_right→ZQ,mul_le_mul→Z1t,succ_mul→Z1m
open Option renaming bind_some→Zd
open Option.some renaming inj→Z0b
open Prod renaming fst→Z36
open Sum renaming inl→Z42
section
set_option maxRecDepth 100000
set_option maxHeartbeats 0
namespace Pw
open Go Am Go.Proofs.YtjpjdglddmhplaaGreat.Cd
def B6g (a0:PaShow) (a1:(List PaUse)) (x1:(Int×(List Int))) (s4:(Int×(List Int))):Option ((Int×(List Int))⊕(List Int)) :=
 if (decide (s4.1<(Zh a0.Gowns:Int)))=true then
  (idx a0.Gowns s4.1).bind fun x7 =>
  (if (x7.Pawn&&(decide (x7.Last<364)))=true then
  (A6z (pawn_show.mk a0 (Ar3.mk (pawn_way.mk ) (pawn_way.mk ) (pawn_way.mk )) x1.2) a1 s4.1).bind fun x10 =>
  some (!x10)
  else
  some false).bind fun x11 =>
  if x11=true then
  (app 8 s4.2 [s4.1]).bind fun x13 =>
  some (.inl ((w64 (s4.1+1)),x13))
  else
  some (.inl ((w64 (s4.1+1)),s4.2))
 else
  some (.inr s4.2)
def B8d (a0:PaShow) (a1:(List PaUse)):Option ((List Int)×Int) :=
 (A43 a0 a1).bind fun x1 =>
 if (x1.1==0)=true then
  (loop (B6g a0 a1 x1) (0,([]:List Int))).bind fun (o14:(List Int)) =>
  some (o14,0)
 else
  some (([]:List Int),x1.1)
theorem C7h {c:Sc} {H:A2} {a0:PaShow} {a1:(List PaUse)} {r:((List Int)×Int)} (h:B8d a0 a1=some r) :
  F0 tab c H (.fn (.func 24) [] []) [(.agg (A9 a0)),(.seq 3 (Zg A6 a1))] [(.fresh 1 (Zg cI r.1)),.i r.2]:= by
 unfold B8d at h
 refine cE Z Z<|sg 0 Z<|A0 (G1 (cs:=A9 a0) Z Z Z) Z<|A0 A5d Z<|qm Z<|es (ra3 Z Z Z)<|s0<|oB h fun x1 hx1 h=>A0 (C9 Z Z Z) Z<|qm Z ?_
 by_cases hc2:(x1.1==0)=true
 ·rw[if_pos hc2]at h
  obtain⟨X3,hX3⟩:=B2r hx1 hc2
  refine O7 (A6e hX3 Z Z (A1 (D0 Z) (A1 Z B3)) Z) Z<|qm Z<|A0 (A7 Z Z) Z<|A0 (A7 Z Z) Z<|qm Z<|qm Z<|es (ra5 Z Z Z Z Z)<|B9<|s0<|qm Z<|A0 (R8 (v:=(.b false)) Z Z Z) Z<|es (ra6 Z Z Z Z Z Z)<|T0 Z Z<|B8<|s0<|qm Z<|A0 (A5r Z Z) Z<|qm Z<|es (ra4 Z Z Z Z)<|B9<|s0<|A0 (C3 Z) Z<|A0 (B4 Z Z Z) Z<|A0 (F2 (f:=C7) Z) Z<|qm Z<|es (ra6 Z Z Z Z Z Z)<|C5<|oB h fun o14 ho14 h=>wl (fun s4=>[(1,(.seq 3 (Zg A6 a1))),(4,(.asl (H.length+1) (Zh s4.2))),(7,(.fn (.func 68) [(.ptr (H.length+5) 0)] [])),(22,(.seq 8 (Zg C7 a0.Gowns))),(23,(.i (Zh a0.Gowns:Int))),(24,.i s4.1)]) (fun (q5:Unit) s4=>[(.cells (A9 a0)),(.arr 1 false (Zg cI s4.2)),(.cells (A9 a0)),(.cells (A9 a0)),X3,(.cells [(.seq 8 (Zg C7 a0.Gowns)),(.seq 4 (Zg B7 a0.Figures)),.i a0.Purse,(.seq 2 (Zg D3 a0.Incomes)),(.fn (.func 90) [] []),(.fn (.func 91) [] []),(.fn (.func 92) [] []),(.fn (.func 52) [] []),(.fn (.func 93) [] []),(.fn (.func 94) [] []),(.fn (.func 55) [] []),(.fn (.func 95) [] []),(.fn (.func 96) [] []),(.seq 1 (Zg cI x1.2))])]) 6 (fun r e s' H'=>PX 0 [(4,(.asl (H.length+1) (Zh r)))] (H++[(.cells (A9 a0)),(.arr 1 false (Zg cI r)),(.cells (A9 a0)),(.cells (A9 a0)),X3,(.cells [(.seq 8 (Zg C7 a0.Gowns)),(.seq 4 (Zg B7 a0.Figures)),.i a0.Purse,(.seq 2 (Zg D3 a0.Incomes)),(.fn (.func 90) [] []),(.fn (.func 91) [] []),(.fn (.func 92) [] []),(.fn (.func 52) [] []),(.fn (.func 93) [] []),(.fn (.func 94) [] []),(.fn (.func 55) [] []),(.fn (.func 95) [] []),(.fn (.func 96) [] []),(.seq 1 (Zg cI x1.2))])]) e s' H') () ho14 Z Z (fun _ _=>rfl) (fun _=>rfl) Z (fun s4=>(bdc G6 (bdc (R3 Z) (bdc (E2i (A3 (J7 Z) B1) B1) (bdc G6 (bdc A4 (bdc A4 bdn))))))) (fun q5 s4 ys4 hs4=>?_) ?_
  ·unfold B6g at hs4
   refine s0<|A0 (I3 Z Z) Z<|es (ra7 Z Z Z Z Z Z Z)<|B9<|wi hs4 Z (fun hc6 hs4=>?_) fun hc6 hs4=>?_
   ·refine B8<|B9<|C5<|sg 6 Z<|oB hs4 fun x7 hx7 hs4=>qm Z<|A0 (D4 (f:=C7) Z Z hx7) Z<|A0 (I0 Z Z) Z<|A0 J6 Z<|qm Z<|O6 (G0 (ds:=(C7 x7)) Z Z Z Z (E0 Z) Z) Z<|es (ra8 Z Z Z Z Z Z Z Z)<|s0<|oB hs4 fun x11 hx11 hs4=>A0 (C3 Z) Z<|A0 (B4 Z Z Z) Z<|qm Z<|gp 4 35 (.b (x7.Pawn&&(decide (x7.Last<364)))) 31 Z Z (fun hg8=>?_) (fun hg8=>?_) ?_
    ·exact gT Z hg8<|A0 (C3 Z) Z<|gT Z hg8<|A0 (B4 Z Z Z) Z<|gT Z hg8<|A0 (I3 Z Z) Z<|A0 (C1 Z hg8 Z) Z<|ge 4 (by rw[hg8];rfl) Z Z
    ·exact nT Z hg8 Z<|nT Z hg8 Z<|nT Z hg8 Z<|A0 (C0 Z hg8 Z) Z<|ge 4 (by rw[hg8];rfl) Z Z
    refine qm Z<|gp 6 42 (.b x11) 36 Z Z (fun hg9=>?_) (fun hg9=>?_) ?_
    ·refine oB (bt hx11 hg9) fun x10 hx10 hx11=>?_
     obtain rfl:=os hx11
     exact gT Z hg9<|qm Z<|gT Z hg9<|qm Z<|gT Z hg9<|qm Z<|gT Z hg9<|B2 (rs:=[.b x10]) Z Z (A1 Z (A1 Z B3)) ((A5g (B41 (F7 Z) hx10)).frz)<|gT Z hg9<|A0 (M9 Z) Z<|A0 (C1 Z hg9 Z) Z<|ge 6 Z Z Z
    ·obtain rfl:=os (bf hx11 hg9)
     exact nT Z hg9 Z<|nT Z hg9 Z<|nT Z hg9 Z<|G4 (D2 Z (by rw[hg9];rfl)) Z<|nT Z hg9 Z<|A0 (C0 Z hg9 Z) Z<|ge 6 Z Z Z
    refine es (ra8 Z Z Z Z Z Z Z Z)<|wi hs4 Z (fun hc12 hs4=>?_) fun hc12 hs4=>?_
    ·refine r0<|oB hs4 fun x13 hx13 hs4=>qm Z<|qm Z<|A0 (J2 (rows:=Zg cI [s4.1]) Z Z (D9 (fun _=>rfl) _)) Z<|O7 (A0u (f:=cI) Z Z Z Z X8 (fun _=>rfl) hx13) Z<|qm Z<|en (ra6 Z Z Z Z Z Z)<|r0<|A0 (D8 Z Z) Z<|qm Z<|en (ra6 Z Z Z Z Z Z) ?_
     cases hs4
     exact lnT () Z (su6 Z Z Z Z Z Z)
    ·refine B8<|r0<|A0 (D8 Z Z) Z<|qm Z<|en (ra6 Z Z Z Z Z Z) ?_
     cases hs4
     exact lnT () Z (su6 Z Z Z Z Z Z)
   ·refine G5 ?_
    obtain rfl:=os hs4
    exact lx Z px (su1 Z)
  ·rintro e s' H'-⟨rfl,rfl,rfl⟩
   refine s0<|qm Z<|qm Z<|qm Z<|es (ra2 Z Z)<|C6 ?_
   obtain rfl:=os h
   exact retq trivial (A8 Z (A8 Z B6)) (A5 (A5u Z (Zi _)) (A5 Z B5)) (A3 Y2 (A3 A4 B1))
 ·rw[if_neg hc2]at h
  refine O7 (U1 (rs:=[.lit (.pointer none),.i x1.1]) Z Z (A1 (D0 Z) (A1 Z B3)) (B2q hx1 (by simpa using hc2)) Z) Z<|qm Z<|A0 (A7 Z Z) Z<|A0 (A7 Z Z) Z<|qm Z<|qm Z<|es (ra5 Z Z Z Z Z)<|B9<|s0<|qm Z<|A0 (H9 Z Z) Z<|es (ra6 Z Z Z Z Z Z)<|Q5 Z (nef hc2)<|sg 2 Z<|qm Z<|A0 A5d Z<|qm Z<|es (ra2 Z Z)<|C6 ?_
  obtain rfl:=os h
  exact retq trivial (A8 Z (A8 Z B6)) (A5 (A5u Z (Zi _)) (A5 Z B5)) (A3 Y2 (A3 A4 B1))
def A83 (a0:pawn_found) (a1:pawn_found):Option Int :=
 (A5h [(w64 (a0.without_-a1.without_)),(w64 (a0.short_-a1.short_))]).bind fun x1 =>
 some x1
theorem C2h {c:Sc} {H:A2} {a0:pawn_found} {a1:pawn_found} {r:Int} (h:A83 a0 a1=some r) :
  F0 tab c H (.fn (.func 76) [] []) [(.agg (C8 a0)),(.agg (C8 a1))] [.i r]:= by
 unfold A83 at h
 refine cE Z Z<|sg 0 Z<|A0 (G1 (cs:=C8 a0) Z Z Z) Z<|A0 (G1 (cs:=C8 a1) Z Z Z) Z<|qm Z<|es (ra2 Z Z)<|s0<|oB h fun x1 hx1 h=>A0 (C3 Z) Z<|A0 (B4 Z Z Z) Z<|A0 (C3 Z) Z<|A0 (B4 Z Z Z) Z<|A0 (W1 Z Z) Z<|A0 (C3 Z) Z<|A0 (B4 Z Z Z) Z<|A0 (C3 Z) Z<|A0 (B4 Z Z Z) Z<|A0 (W1 Z Z) Z<|A0 (J2 (rows:=Zg cI [(w64 (a0.without_-a1.without_)),(w64 (a0.short_-a1.short_))]) Z Z (D9 (fun _=>rfl) _)) Z<|B2 (rs:=[.i x1]) Z Z (A1 Z B3) ((B4b hx1).frz)<|qm Z<|es (ra1 Z)<|C6 ?_
 obtain rfl:=os h
 exact retq trivial (A8 Z B6) (A5 Z B5) (A3 A4 B1)
def A5w (a0:PaShow):Option (Int×Int) :=
 (A32 a0).bind fun x1 =>
 if (x1.1==0)=true then
  (C04 (C0z a0 x1.2) A83).bind fun x4 =>
  if (((!x4.2)||(decide (x4.1.without_>0)))||(decide (x4.1.short_>10000)))=true then
  some (0,9)
  else
  if (x4.1.short_==0)=true then
   some (0,4)
  else
   some (x4.1.short_,0)
 else
  some (0,x1.1)
theorem B06 {c:Sc} {H:A2} (hscv:T5 c H=true) {a0:PaShow} {r:(Int×Int)} (h:A5w a0=some r) :
  F0 tab c H (.fn (.func 31) [] []) [(.agg (A9 a0))] [.i r.1,.i r.2]:= by
 unfold A5w at h
 refine cE Z Z<|sg 0 Z<|A0 (G1 (cs:=A9 a0) Z Z Z) Z<|qm Z<|qm Z<|es (ra1 Z)<|s0<|oB h fun x1 hx1 h=>A0 (C9 Z Z Z) Z ?_
 by_cases hc2:(x1.1==0)=true
 ·rw[if_pos hc2]at h
  obtain⟨X3,hX3⟩:=A4g hx1 hc2
  refine O7 (A6e hX3 Z Z (A1 (D0 Z) B3) Z) Z<|qm Z<|A0 (A7 Z Z) Z<|A0 (A7 Z Z) Z<|qm Z<|qm Z<|es (ra2 Z Z)<|B9<|s0<|qm Z<|A0 (R8 (v:=(.b false)) Z Z Z) Z<|es (ra3 Z Z Z)<|T0 Z Z<|B8<|sg 4 Z<|qm Z<|A7m (as2:=[(.ptr (H.length+3) 0)]) (H1:=(H++[(.cells (A9 a0)),(.cells (A9 a0)),X3,(.cells [(.seq 8 (Zg C7 a0.Gowns)),(.seq 4 (Zg B7 a0.Figures)),.i a0.Purse,(.seq 2 (Zg D3 a0.Incomes)),(.fn (.func 90) [] []),(.fn (.func 91) [] []),(.fn (.func 92) [] []),(.fn (.func 52) [] []),(.fn (.func 93) [] []),(.fn (.func 94) [] []),(.fn (.func 55) [] []),(.fn (.func 95) [] []),(.fn (.func 96) [] []),(.seq 1 (Zg cI x1.2))]),.dead])) Z Z (A1 Z B3) Z Z Z (B3l Z)<|sg 5 Z<|A0 (G1 (cs:=[(.ptr (H.length+3) 0)]) Z Z Z) Z<|qm Z<|es (ra1 Z)<|s0<|A0 (A5r Z Z) Z<|qm Z<|es (ra1 Z)<|C6<|InlQ.mk trivial ⟨_,_,_,[(.fn (.func 108) [] [(.ptr (H.length+5) 0)])],_,(A8 Z B6),(A5 Z B5),(B3h (Y3 (B7a (Y3 (A8r Z)))) (B3g Z B7m)),?_⟩
  refine oB h fun x4 hx4 h=>B2 (rs:=[(.agg (C8 x4.1)),.b x4.2]) Z Z (A1 Z (A1 Z B3)) (C6j (D6k (t:=a0) (days:=x1.2) (bS:=H.length+5) (b:=H.length+3)) (fun h=>(C2h h).frz) (ZE (F7 Z) (F7 Z)) (A1w hscv) hx4)<|qm Z<|A0 (A7 Z Z) Z<|A0 (A7 Z Z) Z<|A0 J6 Z<|O6 (G0 (ds:=(C8 x4.1)) Z Z Z Z (E0 Z) Z) Z<|qm Z<|es (ra2 Z Z)<|B9<|C5<|s0<|qm Z<|A0 (M9 Z) Z<|qm Z<|gp 4 29 (.b ((!x4.2)||(decide (x4.1.without_>0)))) 25 Z Z (fun hg5=>?_) (fun hg5=>?_) ?_
  ·exact nF Z hg5 Z<|nF Z hg5 Z<|nF Z hg5 Z<|A0 (C1 Z hg5 Z) Z<|ge 4 (by rw[hg5];rfl) Z Z
  ·exact gF Z hg5<|A0 (C3 Z) Z<|gF Z hg5<|A0 (B4 Z Z Z) Z<|gF Z hg5<|A0 (W0 Z Z) Z<|A0 (C0 Z hg5 Z) Z<|ge 4 (by rw[hg5];rfl) Z Z
  refine qm Z<|gp 4 34 (.b (((!x4.2)||(decide (x4.1.without_>0)))||(decide (x4.1.short_>10000)))) 30 Z Z (fun hg6=>?_) (fun hg6=>?_) ?_
  ·exact nF Z hg6 Z<|nF Z hg6 Z<|nF Z hg6 Z<|A0 (C1 Z hg6 Z) Z<|ge 4 (by rw[hg6];rfl) Z Z
  ·exact gF Z hg6<|A0 (C3 Z) Z<|gF Z hg6<|A0 (B4 Z Z Z) Z<|gF Z hg6<|A0 (W0 Z Z) Z<|A0 (C0 Z hg6 Z) Z<|ge 4 (by rw[hg6];rfl) Z Z
  refine qm Z<|es (ra2 Z Z)<|wi h Z (fun hc7 h=>?_) fun hc7 h=>?_
  ·refine s0<|qm Z<|qm Z<|es (ra2 Z Z)<|C6 ?_
   obtain rfl:=os h
   exact retq trivial (A8 Z (A8 Z B6)) (A5 Z (A5 Z B5)) (A3 A4 (A3 A4 B1))
  ·refine s0<|A0 (C3 Z) Z<|A0 (B4 Z Z Z) Z<|A0 (F9 Z Z) Z<|qm Z<|es (ra2 Z Z)<|wi h Z (fun hc8 h=>?_) fun hc8 h=>?_
   ·refine s0<|qm Z<|qm Z<|es (ra2 Z Z)<|C6 ?_
    obtain rfl:=os h
    exact retq trivial (A8 Z (A8 Z B6)) (A5 Z (A5 Z B5)) (A3 A4 (A3 A4 B1))
   ·refine B8<|s0<|A0 (C3 Z) Z<|A0 (B4 Z Z Z) Z<|qm Z<|qm Z<|es (ra2 Z Z)<|C6 ?_
    obtain rfl:=os h
    exact retq trivial (A8 Z (A8 Z B6)) (A5 Z (A5 Z B5)) (A3 A4 (A3 A4 B1))
 ·rw[if_neg hc2]at h
  refine O7 (U1 (rs:=[.lit (.pointer none),.i x1.1]) Z Z (A1 (D0 Z) B3) (A5i hx1 (by simpa using hc2)) Z) Z<|qm Z<|A0 (A7 Z Z) Z<|A0 (A7 Z Z) Z<|qm Z<|qm Z<|es (ra2 Z Z)<|B9<|s0<|qm Z<|A0 (H9 Z Z) Z<|es (ra3 Z Z Z)<|Q5 Z (nef hc2)<|s0<|qm Z<|qm Z<|qm Z<|es (ra2 Z Z)<|C6 ?_
  obtain rfl:=os h
  exact retq trivial (A8 Z (A8 Z B6)) (A5 Z (A5 Z B5)) (A3 A4 (A3 A4 B1))
def A0x (a0:PaShow) (a1:(List PaUse)) (a2:Int):Option (Int×Int) :=
 (A43 a0 a1).bind fun x1 =>
 if (x1.1==0)=true then
  (G3 0 364 [a2]).bind fun x4 =>
  if x4=true then
  some (0,7)
  else
  (T4 (pawn_show.mk a0 (Ar3.mk (pawn_way.mk ) (pawn_way.mk ) (pawn_way.mk )) x1.2) a1 a2).bind fun x6 =>
  some (x6,0)
 else
  some (0,x1.1)
theorem A3c {c:Sc} {H:A2} {a0:PaShow} {a1:(List PaUse)} {a2:Int} {r:(Int×Int)} (h:A0x a0 a1 a2=some r) :
  F0 tab c H (.fn (.func 20) [] []) [(.agg (A9 a0)),(.seq 3 (Zg A6 a1)),.i a2] [.i r.1,.i r.2]:= by
 unfold A0x at h
 refine cE Z Z<|sg 0 Z<|A0 (G1 (cs:=A9 a0) Z Z Z) Z<|qm Z<|qm Z<|es (ra3 Z Z Z)<|s0<|oB h fun x1 hx1 h=>A0 (C9 Z Z Z) Z<|qm Z ?_
 by_cases hc2:(x1.1==0)=true
 ·rw[if_pos hc2]at h
  obtain⟨X3,hX3⟩:=B2r hx1 hc2
  refine O7 (A6e hX3 Z Z (A1 (D0 Z) (A1 Z B3)) Z) Z<|qm Z<|A0 (A7 Z Z) Z<|A0 (A7 Z Z) Z<|qm Z<|qm Z<|es (ra4 Z Z Z Z)<|B9<|C5<|s0<|qm Z<|A0 (R8 (v:=(.b false)) Z Z Z) Z<|qm Z<|es (ra5 Z Z Z Z Z)<|T0 Z Z<|s0<|oB h fun x4 hx4 h=>qm Z<|A0 (J2 (rows:=Zg cI [a2]) Z Z (D9 (fun _=>rfl) _)) Z<|B2 (rs:=[.b x4]) Z Z (A1 Z (A1 Z (A1 Z B3))) ((H8 hx4).frz)<|qm Z<|es (ra4 Z Z Z Z)<|wi h Z (fun hc5 h=>?_) fun hc5 h=>?_
  ·refine s0<|qm Z<|qm Z<|es (ra2 Z Z)<|C6 ?_
   obtain rfl:=os h
   exact retq trivial (A8 Z (A8 Z B6)) (A5 Z (A5 Z B5)) (A3 A4 (A3 A4 B1))
  ·refine B8<|s0<|oB h fun x6 hx6 h=>qm Z<|qm Z<|qm Z<|O7 (Z7 (rs:=[.i x6]) Z Z ((A81 (F7 Z) hx6).frz)) Z<|qm Z<|qm Z<|es (ra2 Z Z)<|C6 ?_
   obtain rfl:=os h
   exact retq trivial (A8 Z (A8 Z B6)) (A5 Z (A5 Z B5)) (A3 A4 (A3 A4 B1))
 ·rw[if_neg hc2]at h
  refine O7 (U1 (rs:=[.lit (.pointer none),.i x1.1]) Z Z (A1 (D0 Z) (A1 Z B3)) (B2q hx1 (by simpa using hc2)) Z) Z<|qm Z<|A0 (A7 Z Z) Z<|A0 (A7 Z Z) Z<|qm Z<|qm Z<|es (ra4 Z Z Z Z)<|B9<|C5<|s0<|qm Z<|A0 (H9 Z Z) Z<|qm Z<|es (ra5 Z Z Z Z Z)<|Q5 Z (nef hc2)<|s0<|qm Z<|qm Z<|qm Z<|es (ra2 Z Z)<|C6 ?_
  obtain rfl:=os h
  exact retq trivial (A8 Z (A8 Z B6)) (A5 Z (A5 Z B5)) (A3 A4 (A3 A4 B1))
def Z8 (a0:PaShow) (a1:(List PaUse)):Option (Int×Int) :=
 (A43 a0 a1).bind fun x1 =>
 if (x1.1==0)=true then
  (R2 (pawn_show.mk a0 (Ar3.mk (pawn_way.mk ) (pawn_way.mk ) (pawn_way.mk )) x1.2) a1).bind fun x4 =>
  if (x4.1==0)=true then
  some (0,4)
  else
  some (x4.2,0)
 else
  some (0,x1.1)
theorem A3d {c:Sc} {H:A2} {a0:PaShow} {a1:(List PaUse)} {r:(Int×Int)} (h:Z8 a0 a1=some r) :
  F0 tab c H (.fn (.func 22) [] []) [(.agg (A9 a0)),(.seq 3 (Zg A6 a1))] [.i r.1,.i r.2]:= by
 unfold Z8 at h
 refine cE Z Z<|sg 0 Z<|A0 (G1 (cs:=A9 a0) Z Z Z) Z<|qm Z<|qm Z<|es (ra2 Z Z)<|s0<|oB h fun x1 hx1 h=>A0 (C9 Z Z Z) Z<|qm Z ?_
 by_cases hc2:(x1.1==0)=true
 ·rw[if_pos hc2]at h
  obtain⟨X3,hX3⟩:=B2r hx1 hc2
  refine O7 (A6e hX3 Z Z (A1 (D0 Z) (A1 Z B3)) Z) Z<|qm Z<|A0 (A7 Z Z) Z<|A0 (A7 Z Z) Z<|qm Z<|qm Z<|es (ra3 Z Z Z)<|B9<|s0<|qm Z<|A0 (R8 (v:=(.b false)) Z Z Z) Z<|es (ra4 Z Z Z Z)<|T0 Z Z<|B8<|s0<|oB h fun x4 hx4 h=>qm Z<|qm Z<|O7 (Z7 (rs:=[.i x4.1,.i x4.2]) Z Z ((B42 (F7 Z) hx4).frz)) Z<|qm Z<|A0 (A7 Z Z) Z<|A0 (A7 Z Z) Z<|qm Z<|qm Z<|es (ra2 Z Z)<|B9<|s0<|qm Z<|A0 (F9 Z Z) Z<|es (ra2 Z Z)<|wi h Z (fun hc5 h=>?_) fun hc5 h=>?_
  ·refine s0<|qm Z<|qm Z<|es (ra2 Z Z)<|C6 ?_
   obtain rfl:=os h
   exact retq trivial (A8 Z (A8 Z B6)) (A5 Z (A5 Z B5)) (A3 A4 (A3 A4 B1))
  ·refine B8<|s0<|qm Z<|qm Z<|qm Z<|es (ra2 Z Z)<|C6 ?_
   obtain rfl:=os h
   exact retq trivial (A8 Z (A8 Z B6)) (A5 Z (A5 Z B5)) (A3 A4 (A3 A4 B1))
 ·rw[if_neg hc2]at h
  refine O7 (U1 (rs:=[.lit (.pointer none),.i x1.1]) Z Z (A1 (D0 Z) (A1 Z B3)) (B2q hx1 (by simpa using hc2)) Z) Z<|qm Z<|A0 (A7 Z Z) Z<|A0 (A7 Z Z) Z<|qm Z<|qm Z<|es (ra3 Z Z Z)<|B9<|s0<|qm Z<|A0 (H9 Z Z) Z<|es (ra4 Z Z Z Z)<|Q5 Z (nef hc2)<|s0<|qm Z<|qm Z<|qm Z<|es (ra2 Z Z)<|C6 ?_
  obtain rfl:=os h
  exact retq trivial (A8 Z (A8 Z B6)) (A5 Z (A5 Z B5)) (A3 A4 (A3 A4 B1))
def A1g (a0:(List PaUse)) (a1:(List PaUse)) (s2:Int):Option (Int⊕(Bool⊕Unit)) :=
 if (decide (s2<(Zh a0:Int)))=true then
  (idx a0 s2).bind fun x5 =>
  (idx a1 s2).bind fun x6 =>
  if (!((x5.Gown==x6.Gown)&&((x5.How==x6.How)&&((x5.Day==x6.Day)&&true))))=true then
  some (.inr (.inl false))
  else
  some (.inl (w64 (s2+1)))
 else
  some (.inr (.inr ()))
def A52 (a0:(List PaUse)) (a1:(List PaUse)):Option Bool :=
 if ((Zh a0:Int) != (Zh a1:Int))=true then
  some false
 else
  (loop (A1g a0 a1) 0).bind fun (o8:(Bool⊕Unit)) =>
  match o8 with
  | (.inl vo8_0) =>
  some vo8_0
  | (.inr vo8_1) =>
  some true
theorem B4h {c:Sc} {H:A2} {a0:(List PaUse)} {a1:(List PaUse)} {r:Bool} (h:A52 a0 a1=some r) :
  F0 tab c H (.fn (.func 28) [] []) [(.seq 3 (Zg A6 a0)),(.seq 3 (Zg A6 a1))] [.b r]:= by
 unfold A52 at h
 refine cE Z Z<|s0<|qm Z<|es (ra2 Z Z)<|B9<|s0<|qm Z<|A0 (F2 (f:=A6) Z) Z<|qm Z<|A0 (F2 (f:=A6) Z) Z<|A0 (H9 Z Z) Z<|es (ra3 Z Z Z)<|wi h Z (fun hc1 h=>?_) fun hc1 h=>?_
 ·refine s0<|qm Z<|es (ra1 Z)<|C6 ?_
  obtain rfl:=os h
  exact retq trivial (A8 Z B6) (A5 Z B5) (A3 A4 B1)
 ·refine B8<|B9<|s0<|qm Z<|es (ra3 Z Z Z)<|C5<|oB h fun o8 ho8 h=>wl (fun s2=>[(0,(.seq 3 (Zg A6 a0))),(1,(.seq 3 (Zg A6 a1))),(5,.i s2)]) (fun (q3:Unit) s2=>[]) 0 (fun r e s' H'=>(match r with|(.inl v)=>e=.ret∧RetQ H [.tmp 4] [.b v] e s' H' | (.inr v)=>PX 0 [] (H++[]) e s' H':Prop)) () ho8 Z Z (fun _ _=>rfl) (fun _=>rfl) Z (fun s2=>(bdc G6 (bdc G6 (bdc A4 bdn)))) (fun q3 s2 ys2 hs2=>?_) ?_
  ·unfold A1g at hs2
   refine B9<|s0<|qm Z<|qm Z<|A0 (F2 (f:=A6) Z) Z<|A0 (I3 Z Z) Z<|es (ra4 Z Z Z Z)<|wi hs2 Z (fun hc4 hs2=>?_) fun hc4 hs2=>?_
   ·refine B8<|B9<|C5<|s0<|oB hs2 fun x5 hx5 hs2=>oB hs2 fun x6 hx6 hs2=>qm Z<|qm Z<|A0 (D4 (f:=A6) Z Z hx5) Z<|A0 (I0 Z Z) Z<|qm Z<|qm Z<|A0 (D4 (f:=A6) Z Z hx6) Z<|A0 (I0 Z Z) Z<|A0 (D8g (a:=A6 x5) (b:=A6 x6) Z Z Z Z (U9 (U9 (U9 B29)))) Z<|es (ra4 Z Z Z Z)<|wi hs2 Z (fun hc7 hs2=>?_) fun hc7 hs2=>?_
    ·refine s0<|qm Z<|es (ra1 Z)<|C6 ?_
     obtain rfl:=os hs2
     exact lx Z (ZE Z (retq trivial (A8 Z B6) (A5 Z B5) (A3 A4 B1))) (Sub.refl _)
    ·refine B8<|r0<|qm Z<|A0 (D8 Z Z) Z<|qm Z<|en (ra3 Z Z Z) ?_
     cases hs2
     exact lnT () Z (su3 Z Z Z)
   ·refine G5 ?_
    obtain rfl:=os hs2
    exact lx Z px (.nil _)
  ·rcases o8 with vo8_0|vo8_1
   ·rintro e s' H'-⟨rfl,hret⟩
    cases h
    exact hret
   ·rintro e s' H'-⟨rfl,rfl,rfl⟩
    refine s0<|qm Z<|es (ra1 Z)<|C6 ?_
    obtain rfl:=os h
    exact retq trivial (A8 Z B6) (A5 Z B5) (A3 A4 B1)
end Pw
end
section
set_option maxRecDepth 100000
set_option maxHeartbeats 0
namespace Am
open Go
section
variable {T:Tab} {s:C2} {H0 H:A2} {l:List AO} {c:Sc} {n0 k0:Nat}
theorem D8k {x:Opd} {b r:Nat} {es:List (AV×AV)} (hx:ev s x=some (.mp b)) (hm:hmap (H0++l) b=some es):One T c (H0.length+k0) s (H0++l) (.rangeM x r) (.itr (H0.length+(k0+r))) (H0++l.set (k0+r) (.mit b es.length [])) :=
 ⟨0,by simp only[core,prim,hx,hm,Z03,I7]⟩
theorem D5i {H L:A2} {b m n:Nat} {seen:List Nat} {e:AV×AV} {es:List (AV×AV)} (hg:hget H b=some (.mit m n seen)) (hm:hmap H m=some es) (h:B1m H b=some e):B1m (H++L) b=some e:= by
 have h1:hget (H++L) b=some (.mit m n seen):=D45 hg L
 have h2:hmap (H++L) m=some es:= by
  have:m<H.length:= by
   unfold hmap hget at hm
   cases e:H[m]? with
   | none=>rw[e]at hm;cases hm
   | some o=>exact(Ze.1 e).1
  unfold hmap hget at hm ⊢
  rw[List.getElem?_append_left this];exact hm
 unfold B1m at h ⊢
 rw[h1]
 rw[hg]at h
 simp only[h2,hm]at h ⊢
 exact h
theorem E03 {x:Opd} {b:Nat} {e:AV×AV} (hx:ev s x=some (.itr b)) (hm:B1m H b=some e):One T c n0 s H (.entry x) (.tup [e.1,e.2]) H:=⟨0,by simp only[core,prim,hx,hm]⟩
end
end Am
namespace Pw
open Go Am Go.Proofs.YtjpjdglddmhplaaGreat.Cd
abbrev Had:=Ar3 Int
theorem D3p:KeyOk (κ:=Had) true [0,0,0] (fun x=>.agg (C8c cI x)) (fun x=>C8c cI x):=⟨fun _=>rfl,fun _=>rfl,fun a b=>by
 obtain⟨a1,a2,a3⟩:=a
 obtain⟨b1,b2,b3⟩:=b
 show I4 [.lit (.int .i64 a1),.lit (.int .i64 a2),.lit (.int .i64 a3)] [.lit (.int .i64 b1),.lit (.int .i64 b2),.lit (.int .i64 b3)]=_
 simp only[D1f,Ar3.mk.injEq]
 by_cases h1:a1=b1 <;> by_cases h2:a2=b2 <;> by_cases h3:a3=b3 <;> simp[h1,h2,h3,I4]⟩
abbrev Met:=List (Had×Int)
def C9a (m:Met):List (AV×AV):=m.map (kE (fun x=>.agg (C8c cI x)) (fun n=>.i n))
def C9v (h:Had) (f:Int):Option Bool :=
 if (!((h.x0==0)&&((h.x1==0)&&((h.x2==0)&&true))))=true then (idx h.l f).bind fun v=>some (decide (v>0)) else some false
def C5x (f:Int):Met→Option (List Bool)
 | []=>some []
 | e::l=>(C9v e.1 f).bind fun b=>(C5x f l).bind fun r=>some (b::r)
def cnt (bs:List Bool) (seen:List Nat):Int:=((seen.filter fun i=>bs.getD i false).length:Int)
def C08 (m:Met) (f:Int):Option Int :=
 if m.length<4611686018427387904 then (C5x f m).bind fun bs=>some ((bs.filter fun b=>b).length:Int) else none
theorem C5y {f:Int}:∀{m:Met} {bs:List Bool},C5x f m=some bs→bs.length=m.length∧∀ (i:Nat) (e:Had×Int),m[i]? = some e→C9v e.1 f=some (bs.getD i false)
 | [],bs,h=>by cases h;exact⟨Z,fun i e he=>by simp at he⟩
 | x::m,bs,h=>by
  unfold C5x at h
  refine oB h fun b hb h=>oB h fun r hr h=>?_
  obtain rfl:=os h
  obtain⟨h1,h2⟩:=C5y hr
  refine⟨by simp[h1],fun i e he=>?_⟩
  cases i with
  | zero=>simp at he;subst he;simpa using hb
  | succ i=>simp at he;simpa using h2 i e he
theorem B5s:∀(bs:List Bool),((Z04 bs.length).filter fun i=>bs.getD i false).length=(bs.filter fun b=>b).length
 | []=>rfl
 | b::bs=>by
  rw[ZT,List.range_succ_eq_map,Z08,List.filter_map,Z08]
  have ih:=B5s bs
  have e:(fun i=>(b::bs).getD i false)∘Nat.succ=fun i=>bs.getD i false:= by funext i;simp
  rw[e]
  cases b <;> simp at ih ⊢ <;> exact ih
theorem D94 {bs:List Bool} {seen:List Nat} (hn:seen.Nodup) (hm:∀j,j∈seen↔j<bs.length):cnt bs seen=((bs.filter fun b=>b).length:Int):= by
 have hp:seen.Perm (Z04 bs.length):=(List.perm_ext_iff_of_nodup hn List.nodup_range).mpr fun j=>by rw[hm,Z1s]
 unfold cnt
 rw[(hp.filter _).length_eq,B5s]
theorem E2m (bs:List Bool) (seen:List Nat):cnt bs seen≤seen.length:= by
 unfold cnt
 have:=Z1k (fun i=>bs.getD i false) seen
 omega
theorem D6x (bs:List Bool) (seen:List Nat) (i:Nat):cnt bs (seen++[i])=cnt bs seen+(if bs.getD i false=true then 1 else 0):= by
 unfold cnt
 rw[Z2d,Zo,Z08]
 by_cases h:bs.getD i false=true
 ·rw[if_pos h,if_pos h];rfl
 ·rw[if_neg h,if_neg h];simp
theorem C5m:∀(n:Nat) (l:List Nat),l.Nodup→(∀ x∈l,x<n)→l.length≤n
 | 0,l,_,h=>by
  cases l with
  | nil=>simp
  | cons x l=>exact absurd (h x (Zy ..)) (Nat.not_lt_zero x)
 | n+1,l,hd,h=>by
  have h1:=C5m n (l.filter fun x=>x != n) (hd.filter _) fun x hx=>by
   have:=Z0a.mp hx
   have h2:=h x this.1
   have h3:x≠n:= by simpa using this.2
   omega
  have h2:(l.filter fun x=>!(x != n)).length≤1:= by
   have hn:(l.filter fun x=>!(x != n)).Nodup:=hd.filter _
   cases hl:l.filter fun x=>!(x != n) with
   | nil=>simp
   | cons a t =>
    cases t with
    | nil=>simp
    | cons b t =>
     rw[hl]at hn
     have ha:a∈l.filter fun x=>!(x != n):= by rw[hl];simp
     have hb:b∈l.filter fun x=>!(x != n):= by rw[hl];simp
     have ea:a=n:= by simpa using (Z0a.mp ha).2
     have eb:b=n:= by simpa using (Z0a.mp hb).2
     subst ea;subst eb
     simp at hn
  have h3:l.length=(l.filter fun x=>x != n).length+(l.filter fun x=>!(x != n)).length:= by
   clear h1 h2 hd h
   induction l with
   | nil=>rfl
   | cons x l ih =>
    rw[Z08,Z08]
    cases x != n <;> simp[ih] <;> omega
  omega
theorem D9e {n:Nat} {seen:List Nat} (hn:seen.Nodup) (hm:∀j∈seen,j<n):seen.length≤n:=C5m n seen hn hm
def D20:ACode:=(.seq (.cond 69 .skip (.exit 4)) (.block 5 (.s 1 [q 0 70 (.entry 67),EX 1 71 70 0,q 2 14 (.alloc [.lit (.int .i64 0),.lit (.int .i64 0),.lit (.int .i64 0)] [] 0),ST 3 3 14 71] [2,3,8,12,13,14,62,63,67] (.s 0 [LK 0 72 3 14,q 1 73 (.build [.lit (.int .i64 0),.lit (.int .i64 0),.lit (.int .i64 0)] []),q 2 74 (.cmp true [0,0,0] 72 73),M 3 75 74,G 4 76 75 true (.mv 12),G 5 77 75 true (.idxA 1 3 14 76),G 6 78 75 true (.load none 77),G 7 79 75 true (.bin .gtr 78 (.i 0)),q 8 80 (.pick 75 79 (.b false))] [2,3,8,12,13,62,63,67,80] (.cond 80 (.g 0 [M 0 81 13,B 1 82 .add 81 (.i 1),M 2 13 82] [2,3,8,12,13,62,63,67]) .skip)))))
theorem D1b {c:Sc} {Hh:A2} {l m:Nat} {met:Met} {f r:Int} {a2 a3 a8 a62 a63:AV} (hl:hget Hh l=some (.mit m met.length [])) (hm:hmap Hh m=some (C9a met)) (hlm:l≠m) (h:C08 met f=some r)
  (hb2:a2.bd Hh.length=true) (hb3:a3.bd Hh.length=true) (hb8:a8.bd Hh.length=true) (hb62:a62.bd Hh.length=true) (hb63:a63.bd Hh.length=true) :
  WP tab (.loopM 67 68 69 [2,3,8,12,13,62,63,67] [2,3,8,12,13,62,63,67] [2,3,8,12,13,62,63] D20) [(2,a2),(3,a3),(8,a8),(12,.i f),(13,.i 0),(62,a62),(63,a63),(67,.itr l)] Hh c
   (fun e s' H'=>e=.exit 4∧s'=[(2,a2),(3,a3),(8,a8),(12,.i f),(13,.i r),(62,a62),(63,a63)]∧H'=hset Hh l .dead):= by
 unfold C08 at h
 split at h
 ·next hlen =>
  refine oB h fun bs hbs h=>?_
  obtain rfl:=os h
  obtain⟨hbl,hbg⟩:=C5y hbs
  have hlt:l<Hh.length:= by unfold hget at hl;exact(Ze.1 hl).1
  have hset0:hset Hh l (.mit m met.length [])=Hh:= by
   unfold hset
   unfold hget at hl
   obtain⟨h1,h2⟩:=Ze.1 hl
   rw[← h2];exact List.set_getElem_self h1
  have hmm:∀o,hmap (hset Hh l o) m=some (C9a met):=fun o=>by
   rw[← hm];unfold hmap hget hset;rw[List.getElem?_set_ne hlm]
  have hss:∀o o',hset (hset Hh l o) l o'=hset Hh l o':=fun o o'=>by unfold hset;rw[List.set_set]
  have hgl:∀o,hget (hset Hh l o) l=some o:=fun o=>by unfold hget hset;rw[List.getElem?_set_self hlt]
  have hle:∀o,(hset Hh l o).length=Hh.length:=fun o=>I5 _ _ _
  have key:=D6b (T:=tab) (c:=c) (x:=67) (nx:=68) (ok:=69) (l:=l) (m:=m) (n:=met.length) (live0:=[2,3,8,12,13,62,63,67]) (live:=[2,3,8,12,13,62,63,67]) (liveX:=[2,3,8,12,13,62,63]) (rest:=D20) (es:=C9a met) (e0:=.exit 4)
   (fun seen=>[(2,a2),(3,a3),(8,a8),(12,.i f),(13,.i (cnt bs seen)),(62,a62),(63,a63),(67,.itr l)]) (fun seen=>hset Hh l (.mit m met.length seen)) [(2,a2),(3,a3),(8,a8),(12,.i f),(13,.i ((bs.filter fun b=>b).length:Int)),(62,a62),(63,a63)] (hset Hh l .dead)
   (fun _=>rfl) (by decide) Z (by decide) (fun _=>rfl) (fun _=>hgl _) (fun _=>hmm _) (by rw[C9a,Zi,decide_eq_true Z];rfl) ?_ ?_ ?_
  ·refine A22 (B9q hset0.symm key) ?_
   rintro e s' H' ⟨h1,h2,h3⟩
   exact⟨h1,h2,h3⟩
  ·intro seen i hnd hsl hi hni
   rw[hss,hle]
   obtain⟨e,he⟩:∃e,met[i]? = some e:=⟨_,List.getElem?_eq_getElem hi⟩
   have hpo:=hbg i e he
   have hent:B1m (hset Hh l (.mit m met.length (seen++[i]))) l=some (.agg (C8c cI e.1),.i e.2):= by
    unfold B1m
    simp only[hgl,hmm,C9a,Zi,if_true,List.getLast?_append,List.getLast?_singleton,Option.some_or,Zd,List.getElem?_map,he,Option.map_some,kE]
   have hw:w64 (cnt bs seen+1)=cnt bs seen+1:= by
    have h1:=E2m bs seen
    have h2:=D9e hnd hsl
    have h3:0≤cnt bs seen:=Z0v _
    unfold w64 IntKind.wrap
    simp[IntKind.bits,IntKind.signed]
    omega
   have hsn:=D6x bs seen i
   have htk:∀Y:List AO,(hset Hh l (.mit m met.length (seen++[i]))++Y).take Hh.length=hset Hh l (.mit m met.length (seen++[i])):=fun Y=>by
    rw[← hle (.mit m met.length (seen++[i]))];exact Z07
   unfold C9v at hpo
   refine Z3<|B9<|Q5 Z Z<|B8<|C5<|sg 0 Z<|O7 (E03 Z (D5i (hgl _) (hmm _) hent)) Z<|A0 (A7 Z Z) Z<|A0 J6 Z<|O6 (G0 (ds:=C8c cI e.1) Z Z Z Z (E0 Z) Z) Z<|es (ra9 Z Z Z Z Z Z Z Z Z)<|s0<|A0 (C9 Z Z Z) Z<|A0 (R4 (cs:=[.i 0,.i 0,.i 0]) Z Z) Z<|A0 (D8g (a:=C8c cI e.1) (b:=[.i 0,.i 0,.i 0]) Z Z Z Z (U9 (U9 (U9 B29)))) Z<|qm Z<|gp 5 80 (.b (bs.getD i false)) 75 Z Z (fun hc1=>?_) (fun hc1=>?_) ?_
   ·refine oB (bt hpo hc1) fun v hv hpo=>?_
    have hz:=os hpo
    rw[← hz]
    exact gT Z hc1<|qm Z<|gT Z hc1<|A0 (D8h (e:=Ar3.l e.1) Z Z Z hv) Z<|gT Z hc1<|A0 (D8j (f:=cI) (g:=fun n=>.i n) (e:=Ar3.l e.1) (fun _=>rfl) Z (F7 Z) Z hv) Z<|gT Z hc1<|A0 (W0 Z Z) Z<|A0 (C1 Z hc1 Z) Z<|ge 5 Z Z Z
   ·have hz:=os (bf hpo hc1)
    rw[← hz]
    exact nT Z hc1 Z<|nT Z hc1 Z<|nT Z hc1 Z<|nT Z hc1 Z<|A0 (C0 Z hc1 Z) Z<|ge 5 Z Z Z
   ·refine es (ra9 Z Z Z Z Z Z Z Z Z) ?_
    rw[hsn]
    by_cases hbi:bs.getD i false=true
    ·rw[if_pos hbi,← hw]
     refine Q5 Z hbi<|r0<|qm Z<|A0 (D8 Z Z) Z<|qm Z<|en (ra8 Z Z Z Z Z Z Z Z) ?_
     exact⟨Z,su8 Z Z Z Z Z Z Z Z,htk _⟩
    ·rw[if_neg hbi,Z3l]
     refine T0 Z (by simpa using hbi)<|B8 ?_
     exact⟨Z,su8 Z Z Z Z Z Z Z Z,htk _⟩
  ·intro seen i
   simp only[hle]
   have hbl':(AV.itr l).bd Hh.length=true:= by simp only[AV.bd];exact Nat.ble_eq_true_of_le hlt
   exact bdc hb2 (bdc hb3 (bdc hb8 (bdc A4 (bdc A4 (bdc hb62 (bdc hb63 (bdc hbl' bdn)))))))
  ·intro seen hnd hall
   refine B9<|T0 Z Z<|G5 ?_
   refine⟨Z,Z,?_,⟨_,_,_,hgl _⟩,hss _ _⟩
   rw[← D94 hnd (by rw[hbl];exact hall)]
   exact su7 Z Z Z Z Z Z Z
 ·cases h
end Pw
end
section
set_option maxRecDepth 100000
set_option maxHeartbeats 0
namespace Pw
open Go Am Go.Proofs.YtjpjdglddmhplaaGreat.Cd
def A82 (a0:pawn_found) (a1:pawn_found):Option Int :=
 some (w64 (a0.without_-a1.without_))
theorem C2f {c:Sc} {H:A2} {a0:pawn_found} {a1:pawn_found} {r:Int} (h:A82 a0 a1=some r) :
  F0 tab c H (.fn (.func 74) [] []) [(.agg (C8 a0)),(.agg (C8 a1))] [.i r]:= by
 unfold A82 at h
 refine cE Z Z<|sg 0 Z<|A0 (G1 (cs:=C8 a0) Z Z Z) Z<|A0 (G1 (cs:=C8 a1) Z Z Z) Z<|qm Z<|es (ra2 Z Z)<|s0<|A0 (C3 Z) Z<|A0 (B4 Z Z Z) Z<|A0 (C3 Z) Z<|A0 (B4 Z Z Z) Z<|A0 (W1 Z Z) Z<|qm Z<|es (ra1 Z)<|C6 ?_
 obtain rfl:=os h
 exact retq trivial (A8 Z B6) (A5 Z B5) (A3 A4 B1)
def D5g (few:pawn_found) (x:pawn_found) (m:Met):Option (Met⊕Unit) :=
 (if (x.without_==few.without_)=true then
  (if (!(kget m x.had_).isSome)=true then some true else some (decide (x.cost_<(kget m x.had_).getD 0))).bind fun w=>some w
 else some false).bind fun g =>
 if g=true then some (.inl (kset m x.had_ x.cost_)) else some (.inl m)
def C01 (figs:List PaFigure) (m:Met) (s:List Int×List Int×Int):Option ((List Int×List Int×Int)⊕(List Int×List Int)) :=
 if (decide (s.2.2<(Zh figs:Int)))=true then
  (C08 m s.2.2).bind fun n =>
  (if (n==0)=true then (app 8 s.1 [s.2.2]).bind fun l=>some l else some s.1).bind fun l1 =>
  (if (decide (n<(Zh m:Int)))=true then (app 8 s.2.1 [s.2.2]).bind fun l=>some l else some s.2.1).bind fun l2 =>
  some (.inl (l1,l2,w64 (s.2.2+1)))
 else some (.inr (s.1,s.2.1))
def A5v (a0:PaShow):Option (List Int×List Int×Int) :=
 (A32 a0).bind fun x1 =>
 if (x1.1==0)=true then
  (C04 (B9b a0 x1.2) A82).bind fun few =>
  (B9b a0 x1.2 Met Unit (D5g few.1) []).bind fun o =>
  match o with
  | .inl m=>(loop (C01 a0.Figures m) ([],[],0)).bind fun y=>some (y.1,y.2,0)
  | .inr _=>none
 else some ([],[],x1.1)
theorem E4s {H:A2} {l:List AO} {j n:Nat} (h:Nat.ble (j+1) l.length=true):(AV.asl (H.length+j) n).bd (H++l).length=true:= by rw[Zo];exact R3 h
def A60 (H:A2) (t:PaShow) (X:AO) (days:List Int) (few:pawn_found) (l1 l2:List Int) (m:Met):List AO :=
 [.cells (A9 t),.arr 1 false (l1.map cI),.arr 1 false (l2.map cI),.cells (A9 t),X,.cells (A5f t days),.cells (C8 few),.cells [.ptr (H.length+5) 0],.map (C9a m),.cells [.mp (H.length+8)],.cells [.ptr (H.length+5) 0]]
theorem B05 {c:Sc} {H:A2} (hscv:T5 c H=true) {a0:PaShow} {r:List Int×List Int×Int} (h:A5v a0=some r) :
  F0 tab c H (.fn (.func 29) [] []) [.agg (A9 a0)] [.fresh 1 (r.1.map cI),.fresh 1 (r.2.1.map cI),.i r.2.2]:= by
 unfold A5v at h
 refine oB h fun x1 hx1 h=>?_
 refine cE Z Z<|sg 0 Z<|A0 (G1 (cs:=A9 a0) Z Z Z) Z<|A0 A5d Z<|A0 A5d Z<|qm Z<|es (ra3 Z Z Z)<|s0<|A0 (C9 Z Z Z) Z ?_
 by_cases hc2:(x1.1==0)=true
 ·rw[if_pos hc2]at h
  refine oB h fun few hfew h=>oB h fun o ho h=>?_
  obtain⟨X,hX⟩:=A4g hx1 hc2
  refine O7 (A6e hX Z Z (A1 (D0 Z) B3) Z) Z<|qm Z<|A0 (A7 Z Z) Z<|A0 (A7 Z Z) Z<|qm Z<|qm Z<|es (ra5 Z Z Z Z Z)<|B9<|s0<|qm Z<|A0 (H9 Z Z) Z<|es (ra6 Z Z Z Z Z Z)<|T0 Z Z<|B8<|sg 6 Z<|qm Z<|A7m (as2:=[(.ptr (H.length+5) 0)]) (H1:=H++[.cells (A9 a0),.arr 1 false [],.arr 1 false [],.cells (A9 a0),X,.cells (A5f a0 x1.2),.dead]) Z Z (A1 Z B3) Z Z Z (B3l Z)<|sg 7 Z<|A0 (G1 (cs:=[.ptr (H.length+5) 0]) Z Z Z) Z<|qm Z<|es (ra1 Z)<|s0<|A0 (A5r Z Z) Z<|qm Z<|es (ra1 Z)<|C6<|InlQ.mk trivial ⟨_,_,_,[(.fn (.func 106) [] [(.ptr (H.length+7) 0)])],_,(A8 Z B6),(A5 Z B5),(B3h (Y3 (B7a (Y3 (A8r Z)))) (B3g Z B7m)),?_⟩
  refine B2 (rs:=[(.agg (C8 few.1)),.b few.2]) Z Z (A1 Z (A1 Z B3)) (C6j (D14 (t:=a0) (days:=x1.2) (bS:=H.length+7) (b:=H.length+5)) (fun h=>(C2f h).frz) (ZE (F7 Z) (F7 Z)) (A1w hscv) hfew)<|qm Z<|A0 (A7 Z Z) Z<|A0 (A7 Z Z) Z<|A0 J6 Z<|O6 (G0 (ds:=(C8 few.1)) Z Z Z Z (E0 Z) Z) Z<|qm Z<|es (ra5 Z Z Z Z Z) ?_
  refine sg 8 Z<|A0 E08 Z<|A0 J6 Z<|O6 (G0 (ds:=[.mp (H.length+8)]) Z Z Z Z (A2p (ZL _ _)) Z) Z<|es (ra6 Z Z Z Z Z Z)<|B9<|s0<|qm Z<|A7m (as2:=[(.ptr (H.length+5) 0)]) (H1:=H++[.cells (A9 a0),.arr 1 false [],.arr 1 false [],.cells (A9 a0),X,.cells (A5f a0 x1.2),.cells (C8 few.1),.cells [.ptr (H.length+5) 0],.map [],.cells [.mp (H.length+8)]]) Z Z (A1 Z B3) Z Z Z (B3l Z)<|sg 10 Z<|A0 (G1 (cs:=[.ptr (H.length+5) 0]) Z Z Z) Z<|qm Z<|es (ra1 Z)<|s0<|A0 (A5r Z Z) Z<|qm Z<|es (ra1 Z)<|C6<|InlQ.mk trivial ⟨_,_,_,[(.fn (.func 106) [] [(.ptr (H.length+10) 0)])],_,(A8 Z B6),(A5 Z B5),(B3h (Y3 (B7a (Y3 (A8r Z)))) (B3g Z B7m)),?_⟩
  refine es (ra6 Z Z Z Z Z Z)<|C5 ?_
  have hl11:∀m,(H++A60 H a0 X x1.2 few.1 [] [] m).length=H.length+11:=fun m=>by rw[Zo];rfl
  refine B62 (it:=B9b a0 x1.2) (sh:=shF) (pre:=B8f a0 x1.2 (H.length+10) (H.length+5)) D14 (K:=H.length+11) [(6,.ptr (H.length+6) 0),(8,.ptr (H.length+9) 0)] (fun m=>H++A60 H a0 X x1.2 few.1 [] [] m) (fun (_:Unit)=>H++A60 H a0 X x1.2 few.1 [] [] []) (fun _=>.ret) ho (fun _=>rfl) Z (fun S hS=>Q8 (live:=[6,8]) Z (by decide) (Sub.trans (su2 Z Z) hS)) Z (fun _=>hl11 _) (fun _=>hl11 _) ⟨fun _ _=>B8f.app ⟨F7 Z,F7 Z⟩,fun _ _=>B8f.app ⟨F7 Z,F7 Z⟩⟩ (A1w hscv) (fun c' x m o' L v hsc hgr hv hbo y0 y1 hy0 hy1=>?_) ?_
  ·obtain rfl:v=.agg (C8 x):=hv
   have hGl:∀m z,(H++A60 H a0 X x1.2 few.1 [] [] m++z::L).length=H.length+11+1+L.length:=fun m z=>by rw[Zo,hl11];simp;omega
   refine Z3<|rg 0 Z<|A0 J6 Z<|O6 (G0 (ds:=C8 x) Z Z Z Z (A2p (by rw[hGl];exact ZL _ _)) Z) Z<|en (ra3 Z Z Z) ⟨Z,L++[.cells (C8 x)],by simp,?_⟩
   refine B9q (show _=H++(A60 H a0 X x1.2 few.1 [] [] m++(y1::(L++[AO.cells (C8 x)]))) by simp) ?_
   rw[show (AV.ptr ((H++A60 H a0 X x1.2 few.1 [] [] m++y0::L).length+(0+0)) 0)=.ptr (H.length+11+1+L.length) 0 by rw[hGl];rfl]
   have q9:∀m,hcells (H++(A60 H a0 X x1.2 few.1 [] [] m++(y1::(L++[AO.cells (C8 x)])))) (H.length+11+1+L.length)=some (C8 x):=fun m=>by
    rw[show H++(A60 H a0 X x1.2 few.1 [] [] m++(y1::(L++[AO.cells (C8 x)])))=(H++A60 H a0 X x1.2 few.1 [] [] m++y1::L)++[AO.cells (C8 x)] by simp,← hGl m y1]
    exact F7 (j:=0) Z
   have htk:∀m,(H++(A60 H a0 X x1.2 few.1 [] [] m++(y1::(L++[AO.cells (C8 x)])))).take (H.length+11+1+L.length)=H++A60 H a0 X x1.2 few.1 [] [] m++y1::L:=fun m=>by
    rw[show H++(A60 H a0 X x1.2 few.1 [] [] m++(y1::(L++[AO.cells (C8 x)])))=(H++A60 H a0 X x1.2 few.1 [] [] m++y1::L)++[AO.cells (C8 x)] by simp,← hGl m y1]
    exact Z07
   unfold D5g at hbo
   refine oB hbo fun g hg hbo=>?_
   refine C5<|s0<|A0 (B4 (x:=.mp (H.length+8)) Z Z Z) Z<|A0 (C3 Z) Z<|A0 (A98 (ds:=C8c cI x.had_) Z (q9 m) Z Z) Z<|A0 (E04 (k:=x.had_) (es:=m) (gv:=fun n=>.i n) (z:=0) D3p Z (B2a Z) Z Z) Z<|qm Z<|A0 (A7 Z Z) Z<|A0 (A7 Z Z) Z<|qm Z<|qm Z<|es (ra5 Z Z Z Z Z)<|s0<|A0 (C3 Z) Z<|A0 (A67 (x:=.i x.without_) Z (q9 m) Z) Z<|A0 (C3 Z) Z<|A0 (B4 (x:=.i few.1.without_) Z Z Z) Z<|A0 (F9 Z Z) Z<|qm Z<|gp 9 54 (.b g) 45 Z Z (fun hc1=>?_) (fun hc1=>?_) ?_
   ·refine oB (bt hg hc1) fun w hw hg=>?_
    obtain rfl:=os hg
    refine gT Z hc1<|qm Z<|gT Z hc1<|A0 (C9i Z Z) Z<|gT Z hc1<|qm Z<|gq 5 53 (.b w) 48 Z Z (fun hc3=>?_) (fun hc3=>?_) ?_
    ·obtain rfl:=os (bt hw hc3)
     exact nF Z hc3 Z<|nF Z hc3 Z<|nF Z hc3 Z<|nF Z hc3 Z<|gT Z hc1<|A0 (C1 Z hc3 Z) Z<|ge 5 Z Z Z
    ·obtain rfl:=os (bf hw hc3)
     exact gF Z hc3<|A0 (C3 Z) Z<|gF Z hc3<|A0 (A67 (x:=.i x.cost_) Z (q9 m) Z) Z<|gF Z hc3<|qm Z<|gF Z hc3<|A0 (I3 Z Z) Z<|gT Z hc1<|A0 (C0 Z hc3 Z) Z<|ge 5 Z Z Z
    ·exact A0 (C1 Z hc1 Z) Z<|ge 5 Z Z Z
   ·obtain rfl:=os (bf hg hc1)
    exact nT Z hc1 Z<|nT Z hc1 Z<|nT Z hc1 Z<|nX Z Z<|nX Z Z<|nX Z Z<|nX Z Z<|nT Z hc1 Z<|A0 (C0 Z hc1 Z) Z<|ge 9 Z Z Z
   ·refine es (ra3 Z Z Z)<|wi hbo Z (fun hc4 hbo=>?_) fun hc4 hbo=>?_
    ·cases hbo
     refine r0<|A0 (B4 (x:=.mp (H.length+8)) Z Z Z) Z<|A0 (C3 Z) Z<|A0 (A98 (ds:=C8c cI x.had_) Z (q9 m) Z Z) Z<|A0 (C3 Z) Z<|A0 (A67 (x:=.i x.cost_) Z (q9 m) Z) Z<|O6 (E05 (k:=x.had_) (v:=x.cost_) (es:=m) (gv:=fun n=>.i n) D3p Z Z Z Z Z) Z<|en .n ⟨Z,htk _⟩
    ·cases hbo
     exact B8 ⟨Z,htk _⟩
  ·rcases o with m|m
   ·refine oB h fun y hy h=>?_
    obtain rfl:=os h
    refine B9q (show _=H++(A60 H a0 X x1.2 few.1 [] [] m++[.dead]) by simp) ?_
    refine B9<|s0<|A0 (C3 Z) Z<|A0 (B4 Z Z Z) Z<|A0 (F2 (f:=B7) Z) Z<|qm Z<|es (ra5 Z Z Z Z Z)<|C5<|wl (fun s=>[(2,.asl (H.length+1) s.1.length),(3,.asl (H.length+2) s.2.1.length),(8,.ptr (H.length+9) 0),(62,.i a0.Figures.length),(63,.i s.2.2)]) (fun (_:Unit) s=>A60 H a0 X x1.2 few.1 s.1 s.2.1 m++[.dead]) 12 (fun r e s' H'=>PX 2 [(2,.asl (H.length+1) r.1.length),(3,.asl (H.length+2) r.2.length)] (H++(A60 H a0 X x1.2 few.1 r.1 r.2 m++[.dead])) e s' H') () hy Z Z (fun _ _=>rfl) (fun _=>rfl) Z (fun _=>bdc (R3 Z) (bdc (R3 Z) (bdc (J7 Z) (bdc A4 (bdc A4 bdn))))) (fun _ s o hs=>?_) ?_
    ·obtain⟨l1,l2,i⟩:=s
     unfold C01 at hs
     refine s0<|A0 (I3 Z Z) Z<|es (ra6 Z Z Z Z Z Z)<|B9<|wi hs Z (fun hc hs=>?_) fun hc hs=>?_
     ·refine oB hs fun n hn hs=>oB hs fun k1 hl1 hs=>oB hs fun k2 hl2 hs=>?_
      simp only at hn hl1 hl2 hs
      refine B8<|B9<|C5<|s0<|qm Z<|qm Z<|es (ra6 Z Z Z Z Z Z)<|s0<|qm Z<|es (ra7 Z Z Z Z Z Z Z)<|B9<|sg 12 Z<|A0 (B4 (x:=.mp (H.length+8)) Z Z Z) Z<|O7 (D8k Z (B2a Z)) Z<|es (ra8 Z Z Z Z Z Z Z Z)<|C5<|A22 (D1b (l:=H.length+12) (m:=H.length+8) (met:=m) (f:=i) (r:=n) (by rw[W4];show some (AO.mit _ (C9a m).length [])=_;rw[C9a,Zi]) (B2a Z) (by omega) hn (E4s Z) (E4s Z) (by rw[Zo];exact J7 Z) A4 A4) ?_
      rintro e s' H' ⟨rfl,rfl,rfl⟩
      rw[I7]
      refine B9<|s0<|qm Z<|A0 (F9 Z Z) Z<|es (ra8 Z Z Z Z Z Z Z Z)<|wi hl1 Z (fun hc5 hl1=>?_) fun hc5 hl1=>?_
      ·refine oB hl1 fun l1' hl1' hl1=>?_
       obtain rfl:=os hl1
       refine r0<|qm Z<|qm Z<|A0 (J2 (rows:=Zg cI [i]) Z Z (D9 (fun _=>rfl) _)) Z<|O7 (A0u (f:=cI) (j:=1) Z Z Z Z X8 (fun _=>rfl) hl1') Z<|qm Z<|en (ra7 Z Z Z Z Z Z Z) ?_
       refine s0<|qm Z<|A0 (B4 (x:=.mp (H.length+8)) Z Z Z) Z<|A0 (D8i (es:=m) Z (B2a Z)) Z<|A0 (I3 Z Z) Z<|es (ra7 Z Z Z Z Z Z Z)<|wi hl2 Z (fun hc6 hl2=>?_) fun hc6 hl2=>?_
       ·refine oB hl2 fun l2' hl2' hl2=>?_
        obtain rfl:=os hl2
        refine r0<|qm Z<|qm Z<|A0 (J2 (rows:=Zg cI [i]) Z Z (D9 (fun _=>rfl) _)) Z<|O7 (A0u (f:=cI) (j:=2) Z Z Z Z X8 (fun _=>rfl) hl2') Z<|qm Z<|en (ra5 Z Z Z Z Z) ?_
        obtain rfl:=os hs
        refine r0<|A0 (D8 Z Z) Z<|qm Z<|en (ra5 Z Z Z Z Z) ?_
        exact lnT () Z (su5 Z Z Z Z Z)
       ·obtain rfl:=os hl2
        obtain rfl:=os hs
        refine B8<|r0<|A0 (D8 Z Z) Z<|qm Z<|en (ra5 Z Z Z Z Z) ?_
        exact lnT () Z (su5 Z Z Z Z Z)
      ·obtain rfl:=os hl1
       refine B8 ?_
       refine s0<|qm Z<|A0 (B4 (x:=.mp (H.length+8)) Z Z Z) Z<|A0 (D8i (es:=m) Z (B2a Z)) Z<|A0 (I3 Z Z) Z<|es (ra7 Z Z Z Z Z Z Z)<|wi hl2 Z (fun hc6 hl2=>?_) fun hc6 hl2=>?_
       ·refine oB hl2 fun l2' hl2' hl2=>?_
        obtain rfl:=os hl2
        refine r0<|qm Z<|qm Z<|A0 (J2 (rows:=Zg cI [i]) Z Z (D9 (fun _=>rfl) _)) Z<|O7 (A0u (f:=cI) (j:=2) Z Z Z Z X8 (fun _=>rfl) hl2') Z<|qm Z<|en (ra5 Z Z Z Z Z) ?_
        obtain rfl:=os hs
        refine r0<|A0 (D8 Z Z) Z<|qm Z<|en (ra5 Z Z Z Z Z) ?_
        exact lnT () Z (su5 Z Z Z Z Z)
       ·obtain rfl:=os hl2
        obtain rfl:=os hs
        refine B8<|r0<|A0 (D8 Z Z) Z<|qm Z<|en (ra5 Z Z Z Z Z) ?_
        exact lnT () Z (su5 Z Z Z Z Z)
     ·refine G5 ?_
      obtain rfl:=os hs
      exact lx Z px (su2 Z Z)
    ·rintro e s' H'-⟨rfl,rfl,rfl⟩
     refine s0<|qm Z<|qm Z<|qm Z<|qm Z<|qm Z<|es (ra3 Z Z Z)<|C6 ?_
     exact retq trivial (A8 Z (A8 Z (A8 Z B6))) (A5 (A5u Z (Zi _)) (A5 (A5u Z (Zi _)) (A5 Z B5))) (A3 Y2 (A3 Y2 (A3 A4 B1)))
   ·cases h
 ·rw[if_neg hc2]at h
  obtain rfl:=os h
  refine O7 (U1 (rs:=[.lit (.pointer none),.i x1.1]) Z Z (A1 (D0 Z) B3) (A5i hx1 (by simpa using hc2)) Z) Z<|qm Z<|A0 (A7 Z Z) Z<|A0 (A7 Z Z) Z<|qm Z<|qm Z<|es (ra5 Z Z Z Z Z)<|B9<|s0<|qm Z<|A0 (H9 Z Z) Z<|es (ra6 Z Z Z Z Z Z)<|Q5 Z (nef hc2)<|sg 3 Z<|qm Z<|A0 A5d Z<|A0 A5d Z<|qm Z<|es (ra3 Z Z Z)<|C6 ?_
  exact retq trivial (A8 Z (A8 Z (A8 Z B6))) (A5 (A5u Z Z) (A5 (A5u Z Z) (A5 Z B5))) (A3 Y2 (A3 Y2 (A3 A4 B1)))
def K9 :Option Bool :=
 (B01 false).bind fun x1 =>
 (B01 true).bind fun x2 =>
 (A4k x1 0 10).bind fun x3 =>
 (A14 x1 2 2).bind fun x4 =>
 (A14 x1 2 1).bind fun x5 =>
 (A5x x1 1).bind fun x6 =>
 (A5n).bind fun x7 =>
 (A0x x1 x7 45).bind fun x8 =>
 (A5n).bind fun x9 =>
 (Z8 x1 x9).bind fun x10 =>
 (A5n).bind fun x11 =>
 (Z8 x2 x11).bind fun x12 =>
 (S3 x1).bind fun x13 =>
 (S3 x2).bind fun x14 =>
 (A5v x2).bind fun x15 =>
 (A5w x2).bind fun x16 =>
 (A5n).bind fun x17 =>
 (B8d x1 x17).bind fun x18 =>
 (if ((((((((((((((x3.2==0)&&(x4.2==0))&&(x6.2==0))&&(x8.2==0))&&(x12.2==0))&&(x13.2.2.2==0))&&(x14.2.2.2==0))&&(x15.2.2==0))&&(x16.2==0))&&(x18.2==0))&&(x5.2==9))&&(x10.2==4))&&(x3.1==110))&&(x4.1==48))=true then
  (X0 x6.1 [0,1,2]).bind fun x33 =>
  some x33
 else
  some false).bind fun x34 =>
 (if ((x34&&(x8.1==102))&&(x12.1==0))=true then
  (T9 0 2 0).bind fun x38 =>
  (T9 1 0 0).bind fun x39 =>
  (T9 2 2 0).bind fun x40 =>
  (A52 x13.1 [x38,x39,x40]).bind fun x41 =>
  some x41
 else
  some false).bind fun x42 =>
 (if (((x42&&(x13.2.1==0))&&(x13.2.2.1==78))&&(x14.2.1==2))=true then
  (X0 x15.1 [0,2]).bind fun x47 =>
  some x47
 else
  some false).bind fun x48 =>
 (if x48=true then
  (X0 x15.2.1 [0,2]).bind fun x50 =>
  some x50
 else
  some false).bind fun x51 =>
 (if (x51&&(x16.1==58))=true then
  (X0 x18.1 [2]).bind fun x54 =>
  some x54
 else
  some false).bind fun x55 =>
 some x55
theorem K0 {c:Sc} {H:A2} (hscv:T5 c H=true)  {r:Bool} (h:K9  = some r) :
  F0 tab c H (.fn (.func 19) [] []) [] [.b r]:= by
 unfold K9 at h
 refine cE Z Z<|s0<|qm Z<|es .n<|sg 0 Z<|oB h fun x1 hx1 h=>oB h fun x2 hx2 h=>B2 (rs:=[(.agg (A9 x1))]) Z Z (A1 Z B3) ((B4c hx1).frz)<|B2 (rs:=[(.agg (A9 x2))]) Z Z (A1 Z B3) ((B4c hx2).frz)<|A0 J6 Z<|A0 J6 Z<|O6 (G0 (ds:=(A9 x1)) Z Z Z Z (E0 Z) Z) Z<|O6 (G0 (ds:=(A9 x2)) Z Z Z Z (E0 Z) Z) Z<|es (ra2 Z Z)<|s0<|oB h fun x3 hx3 h=>A0 (C9 Z Z Z) Z<|B2 (rs:=[.i x3.1,.i x3.2]) Z Z (A1 (D0 Z) (A1 Z (A1 Z B3))) ((B2k hx3).frz)<|qm Z<|A0 (A7 Z Z) Z<|A0 (A7 Z Z) Z<|qm Z<|qm Z<|es (ra4 Z Z Z Z)<|s0<|oB h fun x4 hx4 h=>A0 (C9 Z Z Z) Z<|B2 (rs:=[.i x4.1,.i x4.2]) Z Z (A1 (D0 Z) (A1 Z (A1 Z B3))) ((A70 hx4).frz)<|qm Z<|A0 (A7 Z Z) Z<|A0 (A7 Z Z) Z<|qm Z<|qm Z<|es (ra6 Z Z Z Z Z Z)<|s0<|oB h fun x5 hx5 h=>A0 (C9 Z Z Z) Z<|B2 (rs:=[.i x5.1,.i x5.2]) Z Z (A1 (D0 Z) (A1 Z (A1 Z B3))) ((A70 hx5).frz)<|qm Z<|A0 (A7 Z Z) Z<|A0 (A7 Z Z) Z<|qm Z<|qm Z<|es (ra7 Z Z Z Z Z Z Z)<|s0<|oB h fun x6 hx6 h=>A0 (C9 Z Z Z) Z<|B2 (rs:=[(.seq 1 (Zg cI x6.1)),.i x6.2]) Z Z (A1 (D0 Z) (A1 Z B3)) ((B4e hx6).frz)<|qm Z<|A0 (A7 Z Z) Z<|A0 (A7 Z Z) Z<|qm Z<|qm Z<|es (ra9 Z Z Z Z Z Z Z Z Z)<|s0<|oB h fun x7 hx7 h=>oB h fun x8 hx8 h=>A0 (C9 Z Z Z) Z<|T3 (rs:=[(.seq 3 (Zg A6 x7))]) Z Z A0j B3 ((A6c hx7).frz)<|B2 (rs:=[.i x8.1,.i x8.2]) Z Z (A1 (D0 Z) (A1 Z (A1 Z B3))) ((A3c hx8).frz)<|qm Z ?_
 refine A0 (A7 Z Z) Z<|A0 (A7 Z Z) Z<|qm Z<|qm Z<|es (ra11 Z Z Z Z Z Z Z Z Z Z Z)<|s0<|oB h fun x9 hx9 h=>oB h fun x10 hx10 h=>A0 (C9 Z Z Z) Z<|T3 (rs:=[(.seq 3 (Zg A6 x9))]) Z Z A0j B3 ((A6c hx9).frz)<|B2 (rs:=[.i x10.1,.i x10.2]) Z Z (A1 (D0 Z) (A1 Z B3)) ((A3d hx10).frz)<|qm Z<|A0 (A7 Z Z) Z<|A0 (A7 Z Z) Z<|qm Z<|qm Z<|es (ra12 Z Z Z Z Z Z Z Z Z Z Z Z)<|s0<|oB h fun x11 hx11 h=>oB h fun x12 hx12 h=>A0 (C9 Z Z Z) Z<|T3 (rs:=[(.seq 3 (Zg A6 x11))]) Z Z A0j B3 ((A6c hx11).frz)<|B2 (rs:=[.i x12.1,.i x12.2]) Z Z (A1 (D0 Z) (A1 Z B3)) ((A3d hx12).frz)<|qm Z<|A0 (A7 Z Z) Z<|A0 (A7 Z Z) Z<|qm Z<|qm Z<|es (ra14 Z Z Z Z Z Z Z Z Z Z Z Z Z Z)<|s0<|oB h fun x13 hx13 h=>A0 (C9 Z Z Z) Z<|B2 (rs:=[(.seq 3 (Zg A6 x13.1)),.i x13.2.1,.i x13.2.2.1,.i x13.2.2.2]) Z Z (A1 (D0 Z) B3) ((V1 (A1w hscv) hx13).frz)<|qm Z<|A0 (A7 Z Z) Z<|A0 (A7 Z Z) Z<|A0 (A7 Z Z) Z<|A0 (A7 Z Z) Z<|qm Z<|qm Z<|qm Z<|qm Z<|es (.k Z (.k Z (.k Z (.k Z (.k Z (.k Z (.k Z (.k Z (.k Z (.k Z (.k Z (.k Z (.k Z (.k Z (.k Z (.k Z (.k Z (.k Z .n))))))))))))))))))<|s0<|oB h fun x14 hx14 h=>A0 (C9 Z Z Z) Z<|B2 (rs:=[(.seq 3 (Zg A6 x14.1)),.i x14.2.1,.i x14.2.2.1,.i x14.2.2.2]) Z Z (A1 (D0 Z) B3) ((V1 (A1w hscv) hx14).frz)<|qm Z<|A0 (A7 Z Z) Z<|A0 (A7 Z Z) Z<|A0 (A7 Z Z) Z<|A0 (A7 Z Z) Z<|qm Z<|qm Z<|qm Z<|qm Z<|es (.k Z (.k Z (.k Z (.k Z (.k Z (.k Z (.k Z (.k Z (.k Z (.k Z (.k Z (.k Z (.k Z (.k Z (.k Z (.k Z (.k Z (.k Z (.k Z (.k Z .n))))))))))))))))))))<|s0<|oB h fun x15 hx15 h=>A0 (C9 Z Z Z) Z<|B2 (rs:=[(.seq 1 (Zg cI x15.1)),(.seq 1 (Zg cI x15.2.1)),.i x15.2.2]) Z Z (A1 (D0 Z) B3) ((B05 (A1w hscv) hx15).frz) ?_
 refine qm Z<|A0 (A7 Z Z) Z<|A0 (A7 Z Z) Z<|A0 (A7 Z Z) Z<|qm Z<|qm Z<|qm Z<|es (.k Z (.k Z (.k Z (.k Z (.k Z (.k Z (.k Z (.k Z (.k Z (.k Z (.k Z (.k Z (.k Z (.k Z (.k Z (.k Z (.k Z (.k Z (.k Z (.k Z (.k Z (.k Z (.k Z .n)))))))))))))))))))))))<|s0<|oB h fun x16 hx16 h=>A0 (C9 Z Z Z) Z<|B2 (rs:=[.i x16.1,.i x16.2]) Z Z (A1 (D0 Z) B3) ((B06 (A1w hscv) hx16).frz)<|qm Z<|A0 (A7 Z Z) Z<|A0 (A7 Z Z) Z<|qm Z<|qm Z<|es (.k Z (.k Z (.k Z (.k Z (.k Z (.k Z (.k Z (.k Z (.k Z (.k Z (.k Z (.k Z (.k Z (.k Z (.k Z (.k Z (.k Z (.k Z (.k Z (.k Z (.k Z (.k Z (.k Z (.k Z .n))))))))))))))))))))))))<|s0<|oB h fun x17 hx17 h=>oB h fun x18 hx18 h=>A0 (C9 Z Z Z) Z<|T3 (rs:=[(.seq 3 (Zg A6 x17))]) Z Z A0j B3 ((A6c hx17).frz)<|B2 (rs:=[(.seq 1 (Zg cI x18.1)),.i x18.2]) Z Z (A1 (D0 Z) (A1 Z B3)) ((C7h hx18).frz)<|qm Z<|A0 (A7 Z Z) Z<|A0 (A7 Z Z) Z<|qm Z<|qm Z<|es (.k Z (.k Z (.k Z (.k Z (.k Z (.k Z (.k Z (.k Z (.k Z (.k Z (.k Z (.k Z (.k Z (.k Z (.k Z (.k Z (.k Z (.k Z (.k Z (.k Z (.k Z (.k Z (.k Z (.k Z (.k Z .n)))))))))))))))))))))))))<|s0<|oB h fun x34 hx34 h=>oB h fun x42 hx42 h=>oB h fun x48 hx48 h=>oB h fun x51 hx51 h=>oB h fun x55 hx55 h=>qm Z<|A0 (F9 Z Z) Z<|qm Z<|gp 3 108 (.b ((x3.2==0)&&(x4.2==0))) 105 Z Z (fun hg19=>?_) (fun hg19=>?_) ?_
 ·exact gT Z hg19<|qm Z<|gT Z hg19<|A0 (F9 Z Z) Z<|A0 (C1 Z hg19 Z) Z<|ge 3 (by rw[hg19];rfl) Z Z
 ·exact nT Z hg19 Z<|nT Z hg19 Z<|A0 (C0 Z hg19 Z) Z<|ge 3 (by rw[hg19];rfl) Z Z
 refine qm Z<|gp 3 112 (.b (((x3.2==0)&&(x4.2==0))&&(x6.2==0))) 109 Z Z (fun hg20=>?_) (fun hg20=>?_) ?_
 ·exact gT Z hg20<|qm Z<|gT Z hg20<|A0 (F9 Z Z) Z<|A0 (C1 Z hg20 Z) Z<|ge 3 (by rw[hg20];rfl) Z Z
 ·exact nT Z hg20 Z<|nT Z hg20 Z<|A0 (C0 Z hg20 Z) Z<|ge 3 (by rw[hg20];rfl) Z Z
 refine qm Z<|gp 3 116 (.b ((((x3.2==0)&&(x4.2==0))&&(x6.2==0))&&(x8.2==0))) 113 Z Z (fun hg21=>?_) (fun hg21=>?_) ?_
 ·exact gT Z hg21<|qm Z<|gT Z hg21<|A0 (F9 Z Z) Z<|A0 (C1 Z hg21 Z) Z<|ge 3 (by rw[hg21];rfl) Z Z
 ·exact nT Z hg21 Z<|nT Z hg21 Z<|A0 (C0 Z hg21 Z) Z<|ge 3 (by rw[hg21];rfl) Z Z
 refine qm Z<|gp 3 120 (.b (((((x3.2==0)&&(x4.2==0))&&(x6.2==0))&&(x8.2==0))&&(x12.2==0))) 117 Z Z (fun hg22=>?_) (fun hg22=>?_) ?_
 ·exact gT Z hg22<|qm Z<|gT Z hg22<|A0 (F9 Z Z) Z<|A0 (C1 Z hg22 Z) Z<|ge 3 (by rw[hg22];rfl) Z Z
 ·exact nT Z hg22 Z<|nT Z hg22 Z<|A0 (C0 Z hg22 Z) Z<|ge 3 (by rw[hg22];rfl) Z Z
 refine qm Z<|gp 3 124 (.b ((((((x3.2==0)&&(x4.2==0))&&(x6.2==0))&&(x8.2==0))&&(x12.2==0))&&(x13.2.2.2==0))) 121 Z Z (fun hg23=>?_) (fun hg23=>?_) ?_
 ·exact gT Z hg23<|qm Z<|gT Z hg23<|A0 (F9 Z Z) Z<|A0 (C1 Z hg23 Z) Z<|ge 3 (by rw[hg23];rfl) Z Z
 ·exact nT Z hg23 Z<|nT Z hg23 Z<|A0 (C0 Z hg23 Z) Z<|ge 3 (by rw[hg23];rfl) Z Z
 refine qm Z<|gp 3 128 (.b (((((((x3.2==0)&&(x4.2==0))&&(x6.2==0))&&(x8.2==0))&&(x12.2==0))&&(x13.2.2.2==0))&&(x14.2.2.2==0))) 125 Z Z (fun hg24=>?_) (fun hg24=>?_) ?_
 ·exact gT Z hg24<|qm Z<|gT Z hg24<|A0 (F9 Z Z) Z<|A0 (C1 Z hg24 Z) Z<|ge 3 (by rw[hg24];rfl) Z Z
 ·exact nT Z hg24 Z<|nT Z hg24 Z<|A0 (C0 Z hg24 Z) Z<|ge 3 (by rw[hg24];rfl) Z Z
 refine qm Z<|gp 3 132 (.b ((((((((x3.2==0)&&(x4.2==0))&&(x6.2==0))&&(x8.2==0))&&(x12.2==0))&&(x13.2.2.2==0))&&(x14.2.2.2==0))&&(x15.2.2==0))) 129 Z Z (fun hg25=>?_) (fun hg25=>?_) ?_
 ·exact gT Z hg25<|qm Z<|gT Z hg25<|A0 (F9 Z Z) Z<|A0 (C1 Z hg25 Z) Z<|ge 3 (by rw[hg25];rfl) Z Z
 ·exact nT Z hg25 Z<|nT Z hg25 Z<|A0 (C0 Z hg25 Z) Z<|ge 3 (by rw[hg25];rfl) Z Z
 refine qm Z<|gp 3 136 (.b (((((((((x3.2==0)&&(x4.2==0))&&(x6.2==0))&&(x8.2==0))&&(x12.2==0))&&(x13.2.2.2==0))&&(x14.2.2.2==0))&&(x15.2.2==0))&&(x16.2==0))) 133 Z Z (fun hg26=>?_) (fun hg26=>?_) ?_
 ·exact gT Z hg26<|qm Z<|gT Z hg26<|A0 (F9 Z Z) Z<|A0 (C1 Z hg26 Z) Z<|ge 3 (by rw[hg26];rfl) Z Z
 ·exact nT Z hg26 Z<|nT Z hg26 Z<|A0 (C0 Z hg26 Z) Z<|ge 3 (by rw[hg26];rfl) Z Z
 refine qm Z<|gp 3 140 (.b ((((((((((x3.2==0)&&(x4.2==0))&&(x6.2==0))&&(x8.2==0))&&(x12.2==0))&&(x13.2.2.2==0))&&(x14.2.2.2==0))&&(x15.2.2==0))&&(x16.2==0))&&(x18.2==0))) 137 Z Z (fun hg27=>?_) (fun hg27=>?_) ?_
 ·exact gT Z hg27<|qm Z<|gT Z hg27<|A0 (F9 Z Z) Z<|A0 (C1 Z hg27 Z) Z<|ge 3 (by rw[hg27];rfl) Z Z
 ·exact nT Z hg27 Z<|nT Z hg27 Z<|A0 (C0 Z hg27 Z) Z<|ge 3 (by rw[hg27];rfl) Z Z
 refine qm Z<|gp 3 144 (.b (((((((((((x3.2==0)&&(x4.2==0))&&(x6.2==0))&&(x8.2==0))&&(x12.2==0))&&(x13.2.2.2==0))&&(x14.2.2.2==0))&&(x15.2.2==0))&&(x16.2==0))&&(x18.2==0))&&(x5.2==9))) 141 Z Z (fun hg28=>?_) (fun hg28=>?_) ?_
 ·exact gT Z hg28<|qm Z<|gT Z hg28<|A0 (F9 Z Z) Z<|A0 (C1 Z hg28 Z) Z<|ge 3 (by rw[hg28];rfl) Z Z
 ·exact nT Z hg28 Z<|nT Z hg28 Z<|A0 (C0 Z hg28 Z) Z<|ge 3 (by rw[hg28];rfl) Z Z
 refine qm Z<|gp 3 148 (.b ((((((((((((x3.2==0)&&(x4.2==0))&&(x6.2==0))&&(x8.2==0))&&(x12.2==0))&&(x13.2.2.2==0))&&(x14.2.2.2==0))&&(x15.2.2==0))&&(x16.2==0))&&(x18.2==0))&&(x5.2==9))&&(x10.2==4))) 145 Z Z (fun hg29=>?_) (fun hg29=>?_) ?_
 ·exact gT Z hg29<|qm Z<|gT Z hg29<|A0 (F9 Z Z) Z<|A0 (C1 Z hg29 Z) Z<|ge 3 (by rw[hg29];rfl) Z Z
 ·exact nT Z hg29 Z<|nT Z hg29 Z<|A0 (C0 Z hg29 Z) Z<|ge 3 (by rw[hg29];rfl) Z Z
 refine qm Z<|gp 3 152 (.b (((((((((((((x3.2==0)&&(x4.2==0))&&(x6.2==0))&&(x8.2==0))&&(x12.2==0))&&(x13.2.2.2==0))&&(x14.2.2.2==0))&&(x15.2.2==0))&&(x16.2==0))&&(x18.2==0))&&(x5.2==9))&&(x10.2==4))&&(x3.1==110))) 149 Z Z (fun hg30=>?_) (fun hg30=>?_) ?_
 ·exact gT Z hg30<|qm Z<|gT Z hg30<|A0 (F9 Z Z) Z<|A0 (C1 Z hg30 Z) Z<|ge 3 (by rw[hg30];rfl) Z Z
 ·exact nT Z hg30 Z<|nT Z hg30 Z<|A0 (C0 Z hg30 Z) Z<|ge 3 (by rw[hg30];rfl) Z Z
 refine qm Z<|gp 3 156 (.b ((((((((((((((x3.2==0)&&(x4.2==0))&&(x6.2==0))&&(x8.2==0))&&(x12.2==0))&&(x13.2.2.2==0))&&(x14.2.2.2==0))&&(x15.2.2==0))&&(x16.2==0))&&(x18.2==0))&&(x5.2==9))&&(x10.2==4))&&(x3.1==110))&&(x4.1==48))) 153 Z Z (fun hg31=>?_) (fun hg31=>?_) ?_
 ·exact gT Z hg31<|qm Z<|gT Z hg31<|A0 (F9 Z Z) Z<|A0 (C1 Z hg31 Z) Z<|ge 3 (by rw[hg31];rfl) Z Z
 ·exact nT Z hg31 Z<|nT Z hg31 Z<|A0 (C0 Z hg31 Z) Z<|ge 3 (by rw[hg31];rfl) Z Z
 refine qm Z<|gp 4 161 (.b x34) 157 Z Z (fun hg32=>?_) (fun hg32=>?_) ?_
 ·refine oB (bt hx34 hg32) fun x33 hx33 hx34=>?_
  obtain rfl:=os hx34
  exact gT Z hg32<|qm Z<|gT Z hg32<|A0 (J2 (rows:=Zg cI [0,1,2]) Z Z (D9 (fun _=>rfl) _)) Z<|gT Z hg32<|B2 (rs:=[.b x33]) Z Z (A1 Z (A1 Z B3)) ((Z6 hx33).frz)<|A0 (C1 Z hg32 Z) Z<|ge 4 Z Z Z
 ·obtain rfl:=os (bf hx34 hg32)
  exact nT Z hg32 Z<|nT Z hg32 Z<|G4 (D2 Z (by rw[hg32];rfl)) Z<|A0 (C0 Z hg32 Z) Z<|ge 4 Z Z Z
 refine qm Z<|gp 3 165 (.b (x34&&(x8.1==102))) 162 Z Z (fun hg35=>?_) (fun hg35=>?_) ?_
 ·exact gT Z hg35<|qm Z<|gT Z hg35<|A0 (F9 Z Z) Z<|A0 (C1 Z hg35 Z) Z<|ge 3 (by rw[hg35];rfl) Z Z
 ·exact nT Z hg35 Z<|nT Z hg35 Z<|A0 (C0 Z hg35 Z) Z<|ge 3 (by rw[hg35];rfl) Z Z
 refine qm Z<|gp 3 169 (.b ((x34&&(x8.1==102))&&(x12.1==0))) 166 Z Z (fun hg36=>?_) (fun hg36=>?_) ?_
 ·exact gT Z hg36<|qm Z<|gT Z hg36<|A0 (F9 Z Z) Z<|A0 (C1 Z hg36 Z) Z<|ge 3 (by rw[hg36];rfl) Z Z
 ·exact nT Z hg36 Z<|nT Z hg36 Z<|A0 (C0 Z hg36 Z) Z<|ge 3 (by rw[hg36];rfl) Z Z
 refine qm Z<|gp 7 177 (.b x42) 170 Z Z (fun hg37=>?_) (fun hg37=>?_) ?_
 ·refine oB (bt hx42 hg37) fun x38 hx38 hx42=>oB hx42 fun x39 hx39 hx42=>oB hx42 fun x40 hx40 hx42=>oB hx42 fun x41 hx41 hx42=>?_
  obtain rfl:=os hx42
  exact gT Z hg37<|qm Z<|gT Z hg37<|B2 (rs:=[(.agg (A6 x38))]) Z Z (A1 Z (A1 Z (A1 Z B3))) ((Y8 hx38).frz)<|gT Z hg37<|B2 (rs:=[(.agg (A6 x39))]) Z Z (A1 Z (A1 Z (A1 Z B3))) ((Y8 hx39).frz)<|gT Z hg37<|B2 (rs:=[(.agg (A6 x40))]) Z Z (A1 Z (A1 Z (A1 Z B3))) ((Y8 hx40).frz)<|gT Z hg37<|A0 (J2 (rows:=Zg A6 [x38,x39,x40]) Z Z (D9 (fun _=>rfl) _)) Z<|gT Z hg37<|B2 (rs:=[.b x41]) Z Z (A1 Z (A1 Z B3)) ((B4h hx41).frz)<|A0 (C1 Z hg37 Z) Z<|ge 7 Z Z Z
 ·obtain rfl:=os (bf hx42 hg37)
  exact nT Z hg37 Z<|G4 (D2 Z (by rw[hg37];rfl)) Z<|G4 (D2 Z (by rw[hg37];rfl)) Z<|G4 (D2 Z (by rw[hg37];rfl)) Z<|nT Z hg37 Z<|G4 (D2 Z (by rw[hg37];rfl)) Z<|A0 (C0 Z hg37 Z) Z<|ge 7 Z Z Z
 refine qm Z<|gp 3 181 (.b (x42&&(x13.2.1==0))) 178 Z Z (fun hg43=>?_) (fun hg43=>?_) ?_
 ·exact gT Z hg43<|qm Z<|gT Z hg43<|A0 (F9 Z Z) Z<|A0 (C1 Z hg43 Z) Z<|ge 3 (by rw[hg43];rfl) Z Z
 ·exact nT Z hg43 Z<|nT Z hg43 Z<|A0 (C0 Z hg43 Z) Z<|ge 3 (by rw[hg43];rfl) Z Z
 refine qm Z<|gp 3 185 (.b ((x42&&(x13.2.1==0))&&(x13.2.2.1==78))) 182 Z Z (fun hg44=>?_) (fun hg44=>?_) ?_
 ·exact gT Z hg44<|qm Z<|gT Z hg44<|A0 (F9 Z Z) Z<|A0 (C1 Z hg44 Z) Z<|ge 3 (by rw[hg44];rfl) Z Z
 ·exact nT Z hg44 Z<|nT Z hg44 Z<|A0 (C0 Z hg44 Z) Z<|ge 3 (by rw[hg44];rfl) Z Z
 refine qm Z<|gp 3 189 (.b (((x42&&(x13.2.1==0))&&(x13.2.2.1==78))&&(x14.2.1==2))) 186 Z Z (fun hg45=>?_) (fun hg45=>?_) ?_
 ·exact gT Z hg45<|qm Z<|gT Z hg45<|A0 (F9 Z Z) Z<|A0 (C1 Z hg45 Z) Z<|ge 3 (by rw[hg45];rfl) Z Z
 ·exact nT Z hg45 Z<|nT Z hg45 Z<|A0 (C0 Z hg45 Z) Z<|ge 3 (by rw[hg45];rfl) Z Z
 refine qm Z<|gp 4 194 (.b x48) 190 Z Z (fun hg46=>?_) (fun hg46=>?_) ?_
 ·refine oB (bt hx48 hg46) fun x47 hx47 hx48=>?_
  obtain rfl:=os hx48
  exact gT Z hg46<|qm Z<|gT Z hg46<|A0 (J2 (rows:=Zg cI [0,2]) Z Z (D9 (fun _=>rfl) _)) Z<|gT Z hg46<|B2 (rs:=[.b x47]) Z Z (A1 Z (A1 Z B3)) ((Z6 hx47).frz)<|A0 (C1 Z hg46 Z) Z<|ge 4 Z Z Z
 ·obtain rfl:=os (bf hx48 hg46)
  exact nT Z hg46 Z<|nT Z hg46 Z<|G4 (D2 Z (by rw[hg46];rfl)) Z<|A0 (C0 Z hg46 Z) Z<|ge 4 Z Z Z
 refine qm Z<|gp 4 199 (.b x51) 195 Z Z (fun hg49=>?_) (fun hg49=>?_) ?_
 ·refine oB (bt hx51 hg49) fun x50 hx50 hx51=>?_
  obtain rfl:=os hx51
  exact gT Z hg49<|qm Z<|gT Z hg49<|A0 (J2 (rows:=Zg cI [0,2]) Z Z (D9 (fun _=>rfl) _)) Z<|gT Z hg49<|B2 (rs:=[.b x50]) Z Z (A1 Z (A1 Z B3)) ((Z6 hx50).frz)<|A0 (C1 Z hg49 Z) Z<|ge 4 Z Z Z
 ·obtain rfl:=os (bf hx51 hg49)
  exact nT Z hg49 Z<|nT Z hg49 Z<|G4 (D2 Z (by rw[hg49];rfl)) Z<|A0 (C0 Z hg49 Z) Z<|ge 4 Z Z Z
 refine qm Z<|gp 3 203 (.b (x51&&(x16.1==58))) 200 Z Z (fun hg52=>?_) (fun hg52=>?_) ?_
 ·exact gT Z hg52<|qm Z<|gT Z hg52<|A0 (F9 Z Z) Z<|A0 (C1 Z hg52 Z) Z<|ge 3 (by rw[hg52];rfl) Z Z
 ·exact nT Z hg52 Z<|nT Z hg52 Z<|A0 (C0 Z hg52 Z) Z<|ge 3 (by rw[hg52];rfl) Z Z
 refine qm Z<|gp 4 208 (.b x55) 204 Z Z (fun hg53=>?_) (fun hg53=>?_) ?_
 ·refine oB (bt hx55 hg53) fun x54 hx54 hx55=>?_
  obtain rfl:=os hx55
  exact gT Z hg53<|qm Z<|gT Z hg53<|A0 (J2 (rows:=Zg cI [2]) Z Z (D9 (fun _=>rfl) _)) Z<|gT Z hg53<|B2 (rs:=[.b x54]) Z Z (A1 Z (A1 Z B3)) ((Z6 hx54).frz)<|A0 (C1 Z hg53 Z) Z<|ge 4 Z Z Z
 ·obtain rfl:=os (bf hx55 hg53)
  exact nT Z hg53 Z<|nT Z hg53 Z<|G4 (D2 Z (by rw[hg53];rfl)) Z<|A0 (C0 Z hg53 Z) Z<|ge 4 Z Z Z
 refine qm Z<|es (ra1 Z)<|C6 ?_
 obtain rfl:=os h
 exact retq trivial (A8 Z B6) (A5 Z B5) (A3 A4 B1)
end Pw
end
section
set_option maxRecDepth 100000
namespace Pw
theorem awake:K9=some true:= by decide +kernel
end Pw
end
section
set_option maxRecDepth 10000
namespace Pw
open Go Am
theorem D5e:∀l n:Fin 16,A6p ⟨ByteArray.empty,(l.val:Int),false,0,0,0,0,0⟩ ⟨ByteArray.empty,0,0,(n.val:Int)⟩=some (A2k (n.val:Int) (l.val:Int)==0):= by decide +kernel
theorem C7m {g:PaGown} (hg:GwOk g) {y:PaFigure} (hy:FgOk y):A6p g y=some (B57 g y):= by
 have h1:=hg.looks
 have h2:=hy.needs
 have:=D5e ⟨g.Looks.toNat,by omega⟩ ⟨y.Needs.toNat,by omega⟩
 simp only at this
 rw[Z4z h1.1,Z4z h2.1]at this
 exact this
theorem C95 (g:PaGown) (x:PaUse):A8b g x=some (A90 g x):= by
 unfold A8b A90
 cases g.Pawn
 ·simp
 ·simp only[A5l,Zd]
  generalize out 0 364 x.Day=b
  cases b <;> cases x.How==2&&x.Day==0 <;> cases x.How==1 <;> rfl
theorem B1f {s:PaShow} (hs:ShOk s) {f:Int} (hf:0≤f∧f<s.Figures.length) (x:PaUse):A2v s f x=some (T7 s.Gowns s.Figures[f.toNat]! x):= by
 have hG:=hs.gowns
 unfold A2v T7
 by_cases hx:x.Gown = -1
 ·rw[if_pos (by simp[hx]),if_pos hx]
  by_cases hb:x.How=0∧x.Day=0
  ·rw[if_pos hb,if_neg (by simp[hb.1,hb.2])]
  ·rw[if_neg hb,if_pos (by simp;omega)]
 ·rw[if_neg (by simp[hx]),if_neg hx,D6 (by omega),A5l]
  simp only[Zd,Bool.not_not]
  cases ho:out 0 ((s.Gowns.length:Int)-1) x.Gown with
  | true=>rfl
  | false =>
   have hg:=P6.mp ho
   simp only[Zj,if_false]
   rw[A0r (l:=s.Gowns) hg.1 (by omega),A0r (l:=s.Figures) hf.1 hf.2]
   have hok:=hs.gown _ (J1 (l:=s.Gowns) (i:=x.Gown.toNat) (by omega))
   have hok2:=hs.figure _ (J1 (l:=s.Figures) (i:=f.toNat) (by omega))
   generalize s.Gowns[x.Gown.toNat]! = g at hok
   generalize s.Figures[f.toNat]! = y at hok2
   simp only[Zd]
   rw[C95,C7m hok hok2]
   simp only[Zd]
   unfold B36
   cases A90 g x
   ·rfl
   ·cases ((x.How==1&&(decide (x.Day>g.Last)||decide (x.Day>y.Day)))||(x.How==2&&decide (y.Until>g.Last)))
    ·cases B57 g y <;> rfl
    ·rfl
theorem B6q {g:PaGown} (h:GwOk g) {day:Int} (hd:0≤day∧day≤364):A4l g day=some (price g day):= by
 have:=B4y h ⟨ByteArray.empty,0,0,0⟩ hd
 rw[← this]
 unfold A4l A0y
 rw[Int.add_comm (w64 (Int.tdiv (w64 (g.Ago+day)) 30)) 1]
theorem C21 {g:PaGown} (h:GwOk g) {f:PaFigure} (hf:FgOk f):B0e g f=some (C1h g f):=C1a h hf 0
end Pw
end
section
set_option maxRecDepth 100000
set_option maxHeartbeats 0
namespace Pw
open Go Am Go.Proofs.YtjpjdglddmhplaaGreat.Cd
def A2i (a0:(List PaUse)) (a1:Int) (s1:Int):Option (Int⊕(Bool⊕Unit)) :=
 if (decide (s1<a1))=true then
  (idx a0 a1).bind fun x4 =>
  (if (x4.Gown != (-1))=true then
  (idx a0 s1).bind fun x6 =>
  (idx a0 a1).bind fun x7 =>
  some (x6.Gown==x7.Gown)
  else
  some false).bind fun x8 =>
  if x8=true then
  some (.inr (.inl true))
  else
  some (.inl (w64 (s1+1)))
 else
  some (.inr (.inr ()))
def A2h (a0:(List PaUse)) (a1:Int):Option Bool :=
 (loop (A2i a0 a1) 0).bind fun (o10:(Bool⊕Unit)) =>
 match o10 with
 | (.inl vo10_0) =>
  some vo10_0
 | (.inr vo10_1) =>
  some false
theorem B2n {c:Sc} {H:A2} {a0:(List PaUse)} {a1:Int} {r:Bool} (h:A2h a0 a1=some r) :
  F0 tab c H (.fn (.func 77) [] []) [(.seq 3 (Zg A6 a0)),.i a1] [.b r]:= by
 unfold A2h at h
 refine cE Z Z<|s0<|qm Z<|es (ra2 Z Z)<|B9<|s0<|qm Z<|es (ra3 Z Z Z)<|C5<|oB h fun o10 ho10 h=>wl (fun s1=>[(0,(.seq 3 (Zg A6 a0))),(1,.i a1),(5,.i s1)]) (fun (q2:Unit) s1=>[]) 0 (fun r e s' H'=>(match r with|(.inl v)=>e=.ret∧RetQ H [.tmp 4] [.b v] e s' H' | (.inr v)=>PX 0 [] (H++[]) e s' H':Prop)) () ho10 Z Z (fun _ _=>rfl) (fun _=>rfl) Z (fun s1=>(bdc G6 (bdc A4 (bdc A4 bdn)))) (fun q2 s1 ys1 hs1=>?_) ?_
 ·unfold A2i at hs1
  refine B9<|s0<|qm Z<|qm Z<|A0 (I3 Z Z) Z<|es (ra4 Z Z Z Z)<|wi hs1 Z (fun hc3 hs1=>?_) fun hc3 hs1=>?_
  ·refine B8<|B9<|C5<|s0<|oB hs1 fun x4 hx4 hs1=>oB hs1 fun x8 hx8 hs1=>qm Z<|qm Z<|A0 (D4 (f:=A6) Z Z hx4) Z<|A0 (R1 (ds:=(A6 x4)) Z Z) Z<|A0 (G2 Z Z) Z<|A0 (H9 Z Z) Z<|qm Z<|gp 12 29 (.b x8) 17 Z Z (fun hg5=>?_) (fun hg5=>?_) ?_
   ·refine oB (bt hx8 hg5) fun x6 hx6 hx8=>oB hx8 fun x7 hx7 hx8=>?_
    obtain rfl:=os hx8
    exact gT Z hg5<|qm Z<|gT Z hg5<|qm Z<|gT Z hg5<|A0 (D4 (f:=A6) Z Z hx6) Z<|gT Z hg5<|A0 (R1 (ds:=(A6 x6)) Z Z) Z<|gT Z hg5<|A0 (G2 Z Z) Z<|gT Z hg5<|qm Z<|gT Z hg5<|qm Z<|gT Z hg5<|A0 (D4 (f:=A6) Z Z hx7) Z<|gT Z hg5<|A0 (R1 (ds:=(A6 x7)) Z Z) Z<|gT Z hg5<|A0 (G2 Z Z) Z<|gT Z hg5<|A0 (F9 Z Z) Z<|A0 (C1 Z hg5 Z) Z<|ge 12 Z Z Z
   ·obtain rfl:=os (bf hx8 hg5)
    exact nT Z hg5 Z<|nT Z hg5 Z<|nT Z hg5 Z<|nT Z hg5 Z<|nT Z hg5 Z<|nT Z hg5 Z<|nT Z hg5 Z<|nT Z hg5 Z<|nT Z hg5 Z<|nT Z hg5 Z<|nT Z hg5 Z<|A0 (C0 Z hg5 Z) Z<|ge 12 Z Z Z
   refine es (ra4 Z Z Z Z)<|wi hs1 Z (fun hc9 hs1=>?_) fun hc9 hs1=>?_
   ·refine s0<|qm Z<|es (ra1 Z)<|C6 ?_
    obtain rfl:=os hs1
    exact lx Z (ZE Z (retq trivial (A8 Z B6) (A5 Z B5) (A3 A4 B1))) (Sub.refl _)
   ·refine B8<|r0<|qm Z<|A0 (D8 Z Z) Z<|qm Z<|en (ra3 Z Z Z) ?_
    cases hs1
    exact lnT () Z (su3 Z Z Z)
  ·refine G5 ?_
   obtain rfl:=os hs1
   exact lx Z px (.nil _)
 ·rcases o10 with vo10_0|vo10_1
  ·rintro e s' H'-⟨rfl,hret⟩
   cases h
   exact hret
  ·rintro e s' H'-⟨rfl,rfl,rfl⟩
   refine s0<|qm Z<|es (ra1 Z)<|C6 ?_
   obtain rfl:=os h
   exact retq trivial (A8 Z B6) (A5 Z B5) (A3 A4 B1)
def A39 (a0:PaShow) (a1:Int) (a2:PaUse):Option (Int×Int) :=
 if (a2.Gown==(-1))=true then
  some (0,0)
 else
  if (a2.How==1)=true then
  (idx a0.Gowns a2.Gown).bind fun x3 =>
  (A4l x3 a2.Day).bind fun x4 =>
  some (x4,a2.Day)
  else
  if (a2.How==2)=true then
   (idx a0.Gowns a2.Gown).bind fun x6 =>
   (idx a0.Figures a1).bind fun x7 =>
   (B0e x6 x7).bind fun x8 =>
   (idx a0.Figures a1).bind fun x9 =>
   some (x8,x9.Day)
  else
   some (0,0)
theorem A9o {c:Sc} {H:A2} {a0:PaShow} {a1:Int} {a2:PaUse} {r:(Int×Int)} (h:A39 a0 a1 a2=some r) :
  F0 tab c H (.fn (.func 78) [] []) [(.agg (A9 a0)),.i a1,(.agg (A6 a2))] [.i r.1,.i r.2]:= by
 unfold A39 at h
 refine cE Z Z<|sg 0 Z<|A0 (G1 (cs:=A9 a0) Z Z Z) Z<|A0 (G1 (cs:=A6 a2) Z Z Z) Z<|qm Z<|qm Z<|es (ra3 Z Z Z)<|B9<|C5<|s0<|A0 (C3 Z) Z<|A0 (B4 Z Z Z) Z<|A0 (F9 Z Z) Z<|qm Z<|es (ra4 Z Z Z Z)<|wi h Z (fun hc1 h=>?_) fun hc1 h=>?_
 ·refine s0<|qm Z<|qm Z<|es (ra2 Z Z)<|C6 ?_
  obtain rfl:=os h
  exact retq trivial (A8 Z (A8 Z B6)) (A5 Z (A5 Z B5)) (A3 A4 (A3 A4 B1))
 ·refine s0<|A0 (C3 Z) Z<|A0 (B4 Z Z Z) Z<|A0 (F9 Z Z) Z<|qm Z<|es (ra4 Z Z Z Z)<|wi h Z (fun hc2 h=>?_) fun hc2 h=>?_
  ·refine s0<|oB h fun x3 hx3 h=>oB h fun x4 hx4 h=>A0 (C3 Z) Z<|A0 (B4 Z Z Z) Z<|A0 (C3 Z) Z<|A0 (B4 Z Z Z) Z<|A0 (D4 (f:=C7) Z Z hx3) Z<|A0 (I0 Z Z) Z<|A0 (C3 Z) Z<|A0 (B4 Z Z Z) Z<|T3 (rs:=[.i x4]) Z Z (R5 Z (R5 Z A0j)) (A1 (D0 Z) (A1 Z B3)) ((B2m hx4).frz)<|A0 (C3 Z) Z<|A0 (B4 Z Z Z) Z<|qm Z<|qm Z<|es (ra2 Z Z)<|C6 ?_
   obtain rfl:=os h
   exact retq trivial (A8 Z (A8 Z B6)) (A5 Z (A5 Z B5)) (A3 A4 (A3 A4 B1))
  ·refine s0<|A0 (C3 Z) Z<|A0 (B4 Z Z Z) Z<|A0 (F9 Z Z) Z<|qm Z<|es (ra4 Z Z Z Z)<|wi h Z (fun hc5 h=>?_) fun hc5 h=>?_
   ·refine s0<|oB h fun x6 hx6 h=>oB h fun x7 hx7 h=>oB h fun x8 hx8 h=>oB h fun x9 hx9 h=>A0 (C3 Z) Z<|A0 (B4 Z Z Z) Z<|A0 (C3 Z) Z<|A0 (B4 Z Z Z) Z<|A0 (D4 (f:=C7) Z Z hx6) Z<|A0 (I0 Z Z) Z<|A0 (C3 Z) Z<|A0 (B4 Z Z Z) Z<|qm Z<|A0 (D4 (f:=B7) Z Z hx7) Z<|A0 (I0 Z Z) Z<|T3 (rs:=[.i x8]) Z Z (R5 Z (R5 Z A0j)) (A1 (D0 Z) (A1 (D0 Z) B3)) ((B6e hx8).frz)<|A0 (C3 Z) Z<|A0 (B4 Z Z Z) Z<|qm Z<|A0 (D4 (f:=B7) Z Z hx9) Z<|A0 (R1 (ds:=(List.drop 1 (B7 x9))) Z Z) Z<|A0 (G2 Z Z) Z<|qm Z<|qm Z<|es (ra2 Z Z)<|C6 ?_
    obtain rfl:=os h
    exact retq trivial (A8 Z (A8 Z B6)) (A5 Z (A5 Z B5)) (A3 A4 (A3 A4 B1))
   ·refine B8<|s0<|qm Z<|qm Z<|es (ra2 Z Z)<|C6 ?_
    obtain rfl:=os h
    exact retq trivial (A8 Z (A8 Z B6)) (A5 Z (A5 Z B5)) (A3 A4 (A3 A4 B1))
def A3n (a0:PaShow) (a2:Int) (s1:(Int×Int)):Option ((Int×Int)⊕Int) :=
 if (decide (s1.2<(Zh a0.Incomes:Int)))=true then
  (idx a0.Incomes s1.2).bind fun x4 =>
  if (decide (x4.Day≤a2))=true then
  (idx a0.Incomes s1.2).bind fun x6 =>
  some (.inl ((w64 (s1.1+x6.Pence)),(w64 (s1.2+1))))
  else
  some (.inl (s1.1,(w64 (s1.2+1))))
 else
  some (.inr s1.1)
def A3o (a0:PaShow) (a1:(List PaUse)) (a2:Int) (s8:(Int×Int)):Option ((Int×Int)⊕Int) :=
 if (decide (s8.2<(Zh a1:Int)))=true then
  (idx a1 s8.2).bind fun x11 =>
  (A39 a0 s8.2 x11).bind fun x12 =>
  if (decide (x12.2≤a2))=true then
  some (.inl ((w64 (s8.1-x12.1)),(w64 (s8.2+1))))
  else
  some (.inl (s8.1,(w64 (s8.2+1))))
 else
  some (.inr s8.1)
def A38 (a0:PaShow) (a1:(List PaUse)) (a2:Int):Option Int :=
 (loop (A3n a0 a2) (a0.Purse,0)).bind fun (o7:Int) =>
 (loop (A3o a0 a1 a2) (o7,0)).bind fun (o14:Int) =>
 some o14
theorem A9n {c:Sc} {H:A2} {a0:PaShow} {a1:(List PaUse)} {a2:Int} {r:Int} (h:A38 a0 a1 a2=some r) :
  F0 tab c H (.fn (.func 65) [] []) [(.agg (A9 a0)),(.seq 3 (Zg A6 a1)),.i a2] [.i r]:= by
 unfold A38 at h
 refine cE Z Z<|sg 0 Z<|A0 (G1 (cs:=A9 a0) Z Z Z) Z<|qm Z<|es (ra3 Z Z Z)<|s0<|A0 (C3 Z) Z<|A0 (B4 Z Z Z) Z<|qm Z<|es (ra4 Z Z Z Z)<|B9<|s0<|qm Z<|es (ra5 Z Z Z Z Z)<|C5<|oB h fun o7 ho7 h=>wl (fun s1=>[(1,(.seq 3 (Zg A6 a1))),(2,.i a2),(3,(.ptr (H.length+0) 0)),(7,.i s1.1),(8,.i s1.2)]) (fun (q2:Unit) s1=>[(.cells (A9 a0))]) 1 (fun r e s' H'=>PX 0 [(1,(.seq 3 (Zg A6 a1))),(2,.i a2),(3,(.ptr (H.length+0) 0)),(7,.i r)] (H++[(.cells (A9 a0))]) e s' H') () ho7 Z Z (fun _ _=>rfl) (fun _=>rfl) Z (fun s1=>(bdc G6 (bdc A4 (bdc (J7 Z) (bdc A4 (bdc A4 bdn)))))) (fun q2 s1 ys1 hs1=>?_) ?_
 ·unfold A3n at hs1
  refine B9<|s0<|qm Z<|A0 (C3 Z) Z<|A0 (B4 Z Z Z) Z<|A0 (F2 (f:=D3) Z) Z<|A0 (I3 Z Z) Z<|es (ra6 Z Z Z Z Z Z)<|wi hs1 Z (fun hc3 hs1=>?_) fun hc3 hs1=>?_
  ·refine B8<|B9<|C5<|s0<|oB hs1 fun x4 hx4 hs1=>A0 (C3 Z) Z<|A0 (B4 Z Z Z) Z<|qm Z<|A0 (D4 (f:=D3) Z Z hx4) Z<|A0 (R1 (ds:=(D3 x4)) Z Z) Z<|A0 (G2 Z Z) Z<|qm Z<|A0 (A4p Z Z) Z<|es (ra6 Z Z Z Z Z Z)<|wi hs1 Z (fun hc5 hs1=>?_) fun hc5 hs1=>?_
   ·refine r0<|oB hs1 fun x6 hx6 hs1=>qm Z<|A0 (C3 Z) Z<|A0 (B4 Z Z Z) Z<|qm Z<|A0 (D4 (f:=D3) Z Z hx6) Z<|A0 (R1 (ds:=(List.drop 1 (D3 x6))) Z Z) Z<|A0 (G2 Z Z) Z<|A0 (D8 Z Z) Z<|qm Z<|en (ra5 Z Z Z Z Z)<|r0<|qm Z<|A0 (D8 Z Z) Z<|qm Z<|en (ra5 Z Z Z Z Z) ?_
    cases hs1
    exact lnT () Z (su5 Z Z Z Z Z)
   ·refine B8<|r0<|qm Z<|A0 (D8 Z Z) Z<|qm Z<|en (ra5 Z Z Z Z Z) ?_
    cases hs1
    exact lnT () Z (su5 Z Z Z Z Z)
  ·refine G5 ?_
   obtain rfl:=os hs1
   exact lx Z px (su4 Z Z Z Z)
 ·rintro e s' H'-⟨rfl,rfl,rfl⟩
  refine B9<|s0<|qm Z<|es (ra5 Z Z Z Z Z)<|C5<|oB h fun o14 ho14 h=>wl (fun s8=>[(1,(.seq 3 (Zg A6 a1))),(2,.i a2),(3,(.ptr (H.length+0) 0)),(7,.i s8.1),(9,.i s8.2)]) (fun (q9:Unit) s8=>[(.cells (A9 a0))]) 1 (fun r e s' H'=>PX 2 [(7,.i r)] (H++[(.cells (A9 a0))]) e s' H') () ho14 Z Z (fun _ _=>rfl) (fun _=>rfl) Z (fun s8=>(bdc G6 (bdc A4 (bdc (J7 Z) (bdc A4 (bdc A4 bdn)))))) (fun q9 s8 ys8 hs8=>?_) ?_
  ·unfold A3o at hs8
   refine B9<|s0<|qm Z<|qm Z<|A0 (F2 (f:=A6) Z) Z<|A0 (I3 Z Z) Z<|es (ra6 Z Z Z Z Z Z)<|wi hs8 Z (fun hc10 hs8=>?_) fun hc10 hs8=>?_
   ·refine B8<|B9<|C5<|s0<|oB hs8 fun x11 hx11 hs8=>oB hs8 fun x12 hx12 hs8=>A0 (C9 Z Z Z) Z<|qm Z<|qm Z<|qm Z<|A0 (D4 (f:=A6) Z Z hx11) Z<|A0 (I0 Z Z) Z<|B2 (rs:=[.i x12.1,.i x12.2]) Z Z (A1 (D0 Z) (A1 Z (A1 (D0 Z) B3))) ((A9o hx12).frz)<|qm Z<|A0 (A7 Z Z) Z<|A0 (A7 Z Z) Z<|qm Z<|qm Z<|es (ra7 Z Z Z Z Z Z Z)<|s0<|qm Z<|qm Z<|A0 (A4p Z Z) Z<|es (ra7 Z Z Z Z Z Z Z)<|wi hs8 Z (fun hc13 hs8=>?_) fun hc13 hs8=>?_
    ·refine r0<|qm Z<|qm Z<|A0 (W1 Z Z) Z<|qm Z<|en (ra5 Z Z Z Z Z)<|r0<|qm Z<|A0 (D8 Z Z) Z<|qm Z<|en (ra5 Z Z Z Z Z) ?_
     cases hs8
     exact lnT () Z (su5 Z Z Z Z Z)
    ·refine B8<|r0<|qm Z<|A0 (D8 Z Z) Z<|qm Z<|en (ra5 Z Z Z Z Z) ?_
     cases hs8
     exact lnT () Z (su5 Z Z Z Z Z)
   ·refine G5 ?_
    obtain rfl:=os hs8
    exact lx Z px (su1 Z)
  ·rintro e s' H'-⟨rfl,rfl,rfl⟩
   refine s0<|qm Z<|qm Z<|es (ra1 Z)<|C6 ?_
   obtain rfl:=os h
   exact retq trivial (A8 Z B6) (A5 Z B5) (A3 A4 B1)
def A2c (a0:PaShow) (a1:(List PaUse)) (s4:(Int×Int×Int)):Option ((Int×Int×Int)⊕(Int×Int)) :=
 if (decide (s4.2.2<(Zh a1:Int)))=true then
  (idx a1 s4.2.2).bind fun x7 =>
  (A39 a0 s4.2.2 x7).bind fun x8 =>
  (A38 a0 a1 x8.2).bind fun x9 =>
  if ((decide (x9<0))&&((decide (s4.2.1<0))||(decide (x8.2<s4.2.1))))=true then
  some (.inl ((A5b s4.1 x9),x8.2,(w64 (s4.2.2+1))))
  else
  some (.inl ((A5b s4.1 x9),s4.2.1,(w64 (s4.2.2+1))))
 else
  some (.inr (s4.1,s4.2.1))
def A2b (a0:PaShow) (a1:(List PaUse)):Option (Int×Int) :=
 (A38 a0 a1 0).bind fun x1 =>
 (if (decide (x1<0))=true then
  some 0
  else
  some (-1)).bind fun (p2:Int) =>
 (loop (A2c a0 a1) (x1,p2,0)).bind fun (o13:(Int×Int)) =>
 some (o13.1,o13.2)
theorem A73 {c:Sc} {H:A2} {a0:PaShow} {a1:(List PaUse)} {r:(Int×Int)} (h:A2b a0 a1=some r) :
  F0 tab c H (.fn (.func 67) [] []) [(.agg (A9 a0)),(.seq 3 (Zg A6 a1))] [.i r.1,.i r.2]:= by
 unfold A2b at h
 refine cE Z Z<|sg 0 Z<|A0 (G1 (cs:=A9 a0) Z Z Z) Z<|qm Z<|qm Z<|es (ra2 Z Z)<|s0<|oB h fun x1 hx1 h=>A0 (C9 Z Z Z) Z<|qm Z<|B2 (rs:=[.i x1]) Z Z (A1 (D0 Z) (A1 Z (A1 Z B3))) ((A9n hx1).frz)<|qm Z<|qm Z<|es (ra4 Z Z Z Z)<|B9<|s0<|qm Z<|A0 (I3 Z Z) Z<|es (ra5 Z Z Z Z Z)<|oB h fun p2 hp2 h=>A59 (Q1:=fun e s' H'=>e=.normal∧s'=[(1,(.seq 3 (Zg A6 a1))),(2,(.ptr (H.length+0) 0)),(6,.i x1),(7,.i p2)]∧H'=(H++[(.cells (A9 a0))])) ?_ ?_
 ·refine wi hp2 Z (fun hc3 hp2=>?_) fun hc3 hp2=>?_
  ·refine r0<|qm Z<|en (ra4 Z Z Z Z) ?_
   obtain rfl:=os hp2
   exact me (ZE Z (ZE Z Z)) (su4 Z Z Z Z)
  ·refine B8 ?_
   obtain rfl:=os hp2
   exact me (ZE Z (ZE Z Z)) (su4 Z Z Z Z)
 ·rintro e s' H' ⟨rfl,rfl,rfl⟩
  refine B9<|s0<|qm Z<|es (ra5 Z Z Z Z Z)<|C5<|oB h fun o13 ho13 h=>wl (fun s4=>[(1,(.seq 3 (Zg A6 a1))),(2,(.ptr (H.length+0) 0)),(6,.i s4.1),(7,.i s4.2.1),(8,.i s4.2.2)]) (fun (q5:Unit) s4=>[(.cells (A9 a0))]) 1 (fun r e s' H'=>PX 0 [(6,.i r.1),(7,.i r.2)] (H++[(.cells (A9 a0))]) e s' H') () ho13 Z Z (fun _ _=>rfl) (fun _=>rfl) Z (fun s4=>(bdc G6 (bdc (J7 Z) (bdc A4 (bdc A4 (bdc A4 bdn)))))) (fun q5 s4 ys4 hs4=>?_) ?_
  ·unfold A2c at hs4
   refine B9<|s0<|qm Z<|qm Z<|A0 (F2 (f:=A6) Z) Z<|A0 (I3 Z Z) Z<|es (ra6 Z Z Z Z Z Z)<|wi hs4 Z (fun hc6 hs4=>?_) fun hc6 hs4=>?_
   ·refine B8<|B9<|C5<|s0<|oB hs4 fun x7 hx7 hs4=>oB hs4 fun x8 hx8 hs4=>A0 (C9 Z Z Z) Z<|qm Z<|qm Z<|qm Z<|A0 (D4 (f:=A6) Z Z hx7) Z<|A0 (I0 Z Z) Z<|B2 (rs:=[.i x8.1,.i x8.2]) Z Z (A1 (D0 Z) (A1 Z (A1 (D0 Z) B3))) ((A9o hx8).frz)<|qm Z<|A0 (A7 Z Z) Z<|A0 (A7 Z Z) Z<|qm Z<|qm Z<|es (ra6 Z Z Z Z Z Z)<|s0<|oB hs4 fun x9 hx9 hs4=>A0 (C9 Z Z Z) Z<|qm Z<|qm Z<|B2 (rs:=[.i x9]) Z Z (A1 (D0 Z) (A1 Z (A1 Z B3))) ((A9n hx9).frz)<|qm Z<|es (ra7 Z Z Z Z Z Z Z)<|s0<|qm Z<|qm Z<|A0 (C9g Z Z) Z<|qm Z<|es (ra7 Z Z Z Z Z Z Z)<|s0<|qm Z<|A0 (I3 Z Z) Z<|qm Z<|gp 8 50 (.b ((decide (x9<0))&&((decide (s4.2.1<0))||(decide (x8.2<s4.2.1))))) 42 Z Z (fun hg10=>?_) (fun hg10=>?_) ?_
    ·refine gT Z hg10<|qm Z<|gT Z hg10<|A0 (I3 Z Z) Z<|gT Z hg10<|qm Z<|gq 4 49 (.b ((decide (s4.2.1<0))||(decide (x8.2<s4.2.1)))) 45 Z Z (fun hg11=>?_) (fun hg11=>?_) ?_
     ·exact nF Z hg11 Z<|nF Z hg11 Z<|nF Z hg11 Z<|gT Z hg10<|A0 (C1 Z hg11 Z) Z<|ge 4 (by rw[hg11];rfl) Z Z
     ·exact gF Z hg11<|qm Z<|gF Z hg11<|qm Z<|gF Z hg11<|A0 (I3 Z Z) Z<|gT Z hg10<|A0 (C0 Z hg11 Z) Z<|ge 4 (by rw[hg11];rfl) Z Z
     exact A0 (C1 Z hg10 Z) Z<|ge 5 (by rw[hg10];rfl) Z Z
    ·exact nT Z hg10 Z<|nT Z hg10 Z<|nT Z hg10 Z<|nX Z Z<|nX Z Z<|nX Z Z<|nT Z hg10 Z<|A0 (C0 Z hg10 Z) Z<|ge 8 (by rw[hg10];rfl) Z Z
    refine es (ra7 Z Z Z Z Z Z Z)<|wi hs4 Z (fun hc12 hs4=>?_) fun hc12 hs4=>?_
    ·refine r0<|qm Z<|qm Z<|en (ra5 Z Z Z Z Z)<|r0<|qm Z<|A0 (D8 Z Z) Z<|qm Z<|en (ra5 Z Z Z Z Z) ?_
     cases hs4
     exact lnT () Z (su5 Z Z Z Z Z)
    ·refine B8<|r0<|qm Z<|A0 (D8 Z Z) Z<|qm Z<|en (ra5 Z Z Z Z Z) ?_
     cases hs4
     exact lnT () Z (su5 Z Z Z Z Z)
   ·refine G5 ?_
    obtain rfl:=os hs4
    exact lx Z px (su2 Z Z)
  ·rintro e s' H'-⟨rfl,rfl,rfl⟩
   refine s0<|qm Z<|qm Z<|qm Z<|qm Z<|es (ra2 Z Z)<|C6 ?_
   obtain rfl:=os h
   exact retq trivial (A8 Z (A8 Z B6)) (A5 Z (A5 Z B5)) (A3 A4 (A3 A4 B1))
end Pw
end
section
namespace Pw
open Go Am
theorem C78 {α:Type} [Inhabited α] (l:List α) (p:α→Bool) {b:Int→Option (Int⊕(Bool⊕Unit))} (hl:l.length<9223372036854775808)
  (hb:∀i:Nat,i<l.length→b i=some (if p l[i]! then .inr (.inl true) else .inl (w64 ((i:Int)+1)))) (he:b l.length=some (.inr (.inr ()))) :
  ∃ o,loop b 0=some o∧(match o with|.inl v=>v=true∧l.any p=true|.inr _=>l.any p=false):= by
 have h:=A8z (b:=b) l.length (fun i=>if p l[i]! then some (.inl true) else none) (.inr ()) hl (fun i hi _=>by
  rw[hb i hi];cases p l[i]! <;> rfl) he
 refine⟨_,h,?_⟩
 have ha:=C4k l p
 cases hf:first (fun i=>if p l[i]! then some (Z42 true:Bool⊕Unit) else none) l.length with
 | none =>
  have h0:=L7.mp hf
  rw[L7.mpr fun i hi=>by
   have:=h0 i hi
   cases hp:p l[i]! with
   | false=>rfl
   | true=>rw[hp]at this;exact absurd this (by simp)]at ha
  simpa using ha.symm
 | some r =>
  obtain⟨i,hi,h1,h2⟩:=W3 hf
  cases hp:p l[i]! with
  | false=>rw[hp]at h1;exact absurd h1 (by simp)
  | true =>
   rw[hp]at h1
   have h1:some (Z42 true)=some r:=h1
   obtain rfl:=Z0b h1
   refine⟨Z,?_⟩
   rw[A9y (r:=(i:Int)) hi (by rw[hp];rfl) fun j hj=>by
    have:=h2 j hj
    cases hq:p l[j]! with
    | false=>rfl
    | true=>rw[hq]at this;exact absurd this (by simp)]at ha
   exact ha.symm
theorem B6r {p:List PaUse} {i:Nat} (hi:i<p.length) (hl:p.length≤100):A2h p (i:Int)=some (twP p i):= by
 unfold A2h twP
 have hlen:(p.take i).length=i:= by rw[ZD];omega
 obtain⟨o,ho,hc⟩:=C78 (p.take i) (fun x=>(p[i]!.Gown != -1)&&(x.Gown==p[i]!.Gown)) (b:=A2i p (i:Int)) (by omega) (fun k hk=>by
  rw[hlen]at hk
  have hkp:k<p.length:= by omega
  have e:(p.take i)[k]! = p[k]!:= by
   rw[getElem!_pos (p.take i) k (by rw[hlen];exact hk),getElem!_pos p k hkp,List.getElem_take]
  unfold A2i
  rw[if_pos (by simpa using hk),G9 hi,G9 hkp,e]
  simp only[Zd]
  cases p[i]!.Gown != -1
  ·rfl
  ·cases p[k]!.Gown==p[i]!.Gown <;> rfl) (by
  rw[hlen]
  unfold A2i
  rw[if_neg (by simp)])
 rw[ho]
 have hany:(p.take i).any (fun x=>(p[i]!.Gown != -1)&&(x.Gown==p[i]!.Gown))=((p[i]!.Gown != -1)&&(p.take i).any fun x=>x.Gown==p[i]!.Gown):= by
  cases p[i]!.Gown != -1
  ·simp
  ·simp
 rw[hany]at hc
 rcases o with v|u
 ·rw[hc.2,hc.1];rfl
 ·rw[hc];rfl
theorem B2v {s:PaShow} (hs:ShOk s) {f:Int} (hf:0≤f∧f<s.Figures.length) {x:PaUse} (h:T7 s.Gowns s.Figures[f.toNat]! x=0):A39 s f x=some (A1v s.Gowns s.Figures[f.toNat]! x):= by
 have hy:=hs.figure _ (J1 (l:=s.Figures) (i:=f.toNat) (by omega))
 unfold A39
 rcases X1.mp h with rfl|h
 ·rfl
 ·have h1:=h.lo
  have h2:=h.hi
  have hg:=hs.gown _ (J1 (l:=s.Gowns) (i:=x.Gown.toNat) (by omega))
  have hfm:=h.form
  rw[if_neg (by simp;omega),A0r (l:=s.Gowns) h1 h2,A0r (l:=s.Figures) hf.1 hf.2]
  unfold A1v
  have hne:¬ x.Gown = -1:= by omega
  simp only[hne,if_false]
  generalize s.Figures[f.toNat]! = y at hy
  generalize s.Gowns[x.Gown.toNat]! = g at hg hfm
  rcases form1 hfm with⟨_,hh,hd⟩|⟨_,⟨hh,hd⟩|⟨hh,hd⟩⟩
  ·rw[hh];rfl
  ·rw[hh]
   simp only[Zd]
   rw[C21 hg hy]
   rfl
  ·rw[hh]
   simp only[Zd]
   rw[B6q hg hd]
   rfl
theorem C1l:∀(l:List (Int×Int)) (d t:Int),l.foldl (fun a (x:Int×Int)=>a-if x.2≤d then x.1 else 0) t=t-O4 l d
 | [],d,t=>by simp[O4,sm]
 | x::l,d,t=>by rw[Z09,C1l l];simp only[O4,Zt,sm];omega
theorem D4j {s:PaShow} (hs:ShOk s) (d:Int) (i:Nat):0≤O4 ((incs s).take i) d∧O4 ((incs s).take i) d≤300000:= by
 have:=A21 (l:=(incs s).take i) (fun x hx=>(Y5 hs x (ZZ hx)).1) d
 rw[ZD,R7]at this
 have:=hs.incomes
 omega
theorem E1v {s:PaShow} (hs:ShOk s) {p:List PaUse} (h:PlU s p) (d:Int) (i:Nat):0≤O4 ((pays s p).take i) d∧O4 ((pays s p).take i) d≤300000:= by
 have:=A21 (l:=(pays s p).take i) (fun x hx=>(V2 hs h x (ZZ hx)).1) d
 rw[ZD,L3 h]at this
 have:=hs.figures
 have:=h.len
 omega
theorem B2u {s:PaShow} (hs:ShOk s) {p:List PaUse} (h:PlU s p) (d:Int):A38 s p d=some (I1 s p d):= by
 have hin:=hs.incomes
 have hfl:=hs.figures
 have hlen:=h.len
 have hpu:=hs.purse
 unfold A38
 have e1:loop (A3n s d) (s.Purse,0)=some (s.Purse+O4 (incs s) d):= by
  refine X9 (incs s) (fun a (x:Int×Int)=>a+if x.2≤d then x.1 else 0) s.Purse (fun i t=>(t,(i:Int))) (by rw[R7];omega) (fun i hi=>?_) ?_
  ·rw[R7]at hi
   have hx:=(Y5 hs _ (J1 (l:=incs s) (i:=i) (by rw[R7];exact hi))).1
   rw[C1x hi]at hx ⊢
   rw[C55]
   have:=D4j hs d i
   unfold A3n
   rw[if_pos (by simpa using hi),G9 hi]
   simp only[Zd]
   rw[D6 (n:=(i:Int)+1) (by omega)]
   by_cases hd:s.Incomes[i]!.Day≤d
   ·rw[if_pos (decide_eq_true hd),if_pos hd,D6 (by omega)];rfl
   ·rw[if_neg (by simpa using hd),if_neg hd,Z3l];rfl
  ·rw[A27,R7]
   unfold A3n
   rw[if_neg (by simp)]
   rfl
 rw[e1]
 simp only[Zd]
 have hI:=D4j hs d (incs s).length
 rw[Z0n]at hI
 have e2:loop (A3o s p d) (s.Purse+O4 (incs s) d,0)=some (I1 s p d):= by
  refine X9 (pays s p) (fun a (x:Int×Int)=>a-if x.2≤d then x.1 else 0) (s.Purse+O4 (incs s) d) (fun i t=>(t,(i:Int))) (by rw[L3 h];omega) (fun i hi=>?_) ?_
  ·rw[L3 h]at hi
   have hx:=(V2 hs h _ (J1 (l:=pays s p) (i:=i) (by rw[L3 h];exact hi))).1
   rw[C1l,A42 h hi]at *
   have:=E1v hs h d i
   unfold A3o
   simp only[]
   rw[if_pos (by simpa using hi),G9 hi]
   simp only[Zd]
   rw[B2v hs (f:=(i:Int)) (by omega) (by rw[ZG];exact h.use i hi),ZG]
   simp only[Zd]
   rw[D6 (n:=(i:Int)+1) (by omega)]
   generalize A1v s.Gowns s.Figures[i]! p[i]! = z at hx
   by_cases hd:z.2≤d
   ·rw[if_pos (decide_eq_true hd),if_pos hd,D6 (by omega)];rfl
   ·rw[if_neg (by simpa using hd),if_neg hd,Int.sub_zero];rfl
  ·unfold A3o
   simp only[]
   rw[L3 h,if_neg (by simp),C1l];rfl
 rw[e2];rfl
abbrev lsF (F:Int→Int) (a:Int×Int) (x:Int×Int):Int×Int:=(A5b a.1 (F x.2),if F x.2<0∧(a.2<0∨x.2<a.2) then x.2 else a.2)
theorem C66 (F:Int→Int):∀(l:List (Int×Int)) (t:Int×Int),(∀ x∈l,0≤x.2)→∀ r,r=l.foldl (lsF F) t →
  r.1≤t.1∧(∀ x∈l,r.1≤F x.2)∧(r.1=t.1∨∃ x∈l,F x.2=r.1) ∧
  ((r.2<0∧t.2<0∧∀ x∈l,0≤F x.2)∨(0≤r.2∧(r.2=t.2∨∃ x∈l,F x.2<0∧x.2=r.2)∧(∀ x∈l,F x.2<0→r.2≤x.2)∧(t.2<0∨r.2≤t.2)))
 | [],t,_,r,h=>by
  rw[List.foldl_nil]at h
  rw[h]
  refine⟨Z02 _,by simp,.inl Z,?_⟩
  by_cases ht:t.2<0
  ·exact .inl ⟨ht,ht,by simp⟩
  ·exact .inr ⟨by omega,.inl Z,by simp,.inr (Z02 _)⟩
 | x::l,t,hd,r,h=>by
  rw[Z09]at h
  obtain⟨h1,h2,h3,h4⟩:=C66 F l _ (fun y hy=>hd y (Zx _ hy)) r h
  have hx0:=hd x (Zy ..)
  simp only[lsF]at h1 h3 h4
  have m1:A5b t.1 (F x.2)≤t.1∧A5b t.1 (F x.2)≤F x.2∧(A5b t.1 (F x.2)=t.1∨A5b t.1 (F x.2)=F x.2):= by unfold A5b;split <;> omega
  refine⟨by omega,?_,?_,?_⟩
  ·intro y hy
   rcases Zu.mp hy with rfl|hy
   ·omega
   ·exact h2 y hy
  ·rcases h3 with h3|⟨y,hy,e⟩
   ·rcases m1.2.2 with e|e
    ·left;omega
    ·exact .inr ⟨x,Zy ..,by omega⟩
   ·exact .inr ⟨y,Zx _ hy,e⟩
  ·by_cases hc:F x.2<0∧(t.2<0∨x.2<t.2)
   ·rw[if_pos hc]at h4
    rcases h4 with⟨_,h5,_⟩|⟨h5,h6,h7,h8⟩
    ·omega
    ·refine .inr ⟨h5,?_,?_,by omega⟩
     ·rcases h6 with e|⟨y,hy,hf,e⟩
      ·exact .inr ⟨x,Zy ..,hc.1,e.symm⟩
      ·exact .inr ⟨y,Zx _ hy,hf,e⟩
     ·intro y hy hf
      rcases Zu.mp hy with rfl|hy
      ·omega
      ·exact h7 y hy hf
   ·rw[if_neg hc]at h4
    rcases h4 with⟨h5,h6,h7⟩|⟨h5,h6,h7,h8⟩
    ·refine .inl ⟨h5,h6,fun y hy=>?_⟩
     rcases Zu.mp hy with rfl|hy
     ·omega
     ·exact h7 y hy
    ·refine .inr ⟨h5,?_,?_,h8⟩
     ·rcases h6 with e|⟨y,hy,hf,e⟩
      ·exact .inl e
      ·exact .inr ⟨y,Zx _ hy,hf,e⟩
     ·intro y hy hf
      rcases Zu.mp hy with rfl|hy
      ·by_cases ht:t.2<0
       ·exact absurd ⟨hf,.inl ht⟩ hc
       ·have:t.2≤y.2:= by
         by_cases hlt:y.2<t.2
         ·exact absurd ⟨hf,.inr hlt⟩ hc
         ·omega
        exact Z5y (h8.resolve_left ht) this
      ·exact h7 y hy hf
def U5 (s:PaShow) (p:List PaUse):Int×Int:=(pays s p).foldl (lsF (I1 s p)) (I1 s p 0,if I1 s p 0<0 then 0 else -1)
theorem B1d {s:PaShow} (hs:ShOk s) {p:List PaUse} (h:PlU s p):A2b s p=some (U5 s p):= by
 have hfl:=hs.figures
 have hlen:=h.len
 unfold A2b
 rw[B2u hs h]
 simp only[Zd]
 have e0:(if decide (I1 s p 0<0)=true then some 0 else some (-1):Option Int)=some (if I1 s p 0<0 then 0 else -1):= by
  by_cases hc:I1 s p 0<0
  ·rw[if_pos (decide_eq_true hc),if_pos hc]
  ·rw[if_neg (by simpa using hc),if_neg hc]
 rw[e0]
 simp only[Zd]
 have e1:loop (A2c s p) (I1 s p 0,(if I1 s p 0<0 then 0 else -1),0)=some (U5 s p):= by
  refine X9 (pays s p) (lsF (I1 s p)) (I1 s p 0,if I1 s p 0<0 then 0 else -1) (fun i t=>(t.1,t.2,(i:Int))) (by rw[L3 h];omega) (fun i hi=>?_) ?_
  ·rw[L3 h]at hi
   rw[A42 h hi]
   generalize ((pays s p).take i).foldl (lsF (I1 s p)) (I1 s p 0,if I1 s p 0<0 then 0 else -1)=t
   unfold A2c
   simp only[]
   rw[if_pos (by simpa using hi),G9 hi]
   simp only[Zd]
   rw[B2v hs (f:=(i:Int)) (by omega) (by rw[ZG];exact h.use i hi),ZG]
   simp only[Zd]
   rw[B2u hs h]
   simp only[Zd]
   rw[D6 (n:=(i:Int)+1) (by omega)]
   generalize A1v s.Gowns s.Figures[i]! p[i]! = z
   by_cases hd:I1 s p z.2<0∧(t.2<0∨z.2<t.2)
   ·rw[if_pos (by simpa using hd),if_pos hd];rfl
   ·rw[if_neg (by simpa using hd),if_neg hd];rfl
  ·rw[L3 h]
   unfold A2c
   simp only[]
   rw[if_neg (by simp)]
   rfl
 rw[e1];rfl
theorem left0 {s:PaShow} (hs:ShOk s) {p:List PaUse} (h:PlU s p) (hl:I1 s p 0<0):∃x∈pays s p,x.2=0:= by
 refine Classical.byContradiction fun hn=>?_
 have h0:O4 (pays s p) 0=0:= by
  unfold O4
  refine C0s fun x hx=>?_
  have h1:=(V2 hs h x hx).2
  have h2:¬ x.2≤0:=fun hc=>hn ⟨x,hx,by omega⟩
  rw[if_neg h2]
 have h1:=A21 (fun x hx=>(Y5 hs x hx).1) 0
 have h2:=hs.purse
 unfold I1 at hl
 omega
theorem A9a {s:PaShow} (hs:ShOk s) {p:List PaUse} (h:PlU s p):((I2 s p).1=0↔(U5 s p).2<0)∧((U5 s p).2<0∨(I2 s p).2=(U5 s p).2)∧((I2 s p).1=0↔0≤(U5 s p).1)∧((U5 s p).1<0→(I2 s p).1 = -(U5 s p).1):= by
 obtain⟨a1,a2,a3,a4,a5,a6⟩:=A4c s p
 obtain⟨b1,b2,b3,b4⟩:=C66 (I1 s p) (pays s p) _ (fun x hx=>(V2 hs h x hx).2.1) _ Z
 rw[show (pays s p).foldl (lsF (I1 s p)) (I1 s p 0,if I1 s p 0<0 then 0 else -1)=U5 s p from Z]at b1 b2 b3 b4
 simp only at b1 b3 b4
 rcases b4 with⟨c1,c2,c3⟩|⟨c1,c2,c3,c4⟩
 ·have hz:(I2 s p).1=0:= by
   rcases a3 with e|⟨x,hx,hf,_⟩
   ·exact e
   ·have:=c3 x hx;omega
  have hl0:0≤I1 s p 0:= by
   by_cases hc:I1 s p 0<0
   ·rw[if_pos hc]at c2;omega
   ·omega
  have hm:0≤(U5 s p).1:= by
   rcases b3 with e|⟨x,hx,e⟩
   ·omega
   ·have:=c3 x hx;omega
  exact⟨⟨fun _=>c1,fun _=>hz⟩,.inl c1,⟨fun _=>hm,fun _=>hz⟩,fun hc=>by omega⟩
 ·have hx:∃x∈pays s p,I1 s p x.2<0∧x.2=(U5 s p).2:= by
   rcases c2 with e|hx
   ·by_cases hc:I1 s p 0<0
    ·rw[if_pos hc]at e
     obtain⟨x,hx,hx0⟩:=left0 hs h hc
     exact⟨x,hx,by rw[hx0];exact hc,by omega⟩
    ·rw[if_neg hc]at e;omega
   ·exact hx
  obtain⟨x,hx,hf,e⟩:=hx
  have g1:=a2 x hx hf
  have g2:=a5 x hx hf
  have g3:=(V2 hs h x hx).2
  have hm:=b2 x hx
  have hday:(I2 s p).2=(U5 s p).2:= by
   rcases a6 with e6|⟨y,hy,hfy,ey⟩
   ·omega
   ·have:=c3 y hy hfy;omega
  refine⟨⟨fun _=>by omega,fun _=>by omega⟩,.inr hday,⟨fun _=>by omega,fun _=>by omega⟩,fun hneg=>?_⟩
  have hle:-(U5 s p).1≤(I2 s p).1:= by
   rcases b3 with eb|⟨y,hy,eb⟩
   ·have hc:I1 s p 0<0:= by omega
    obtain⟨z,hz,hz0⟩:=left0 hs h hc
    have:=a2 z hz (by rw[hz0];exact hc)
    rw[hz0]at this;omega
   ·have:=a2 y hy (by omega);omega
  rcases a3 with e3|⟨y,hy,hfy,ey⟩
  ·omega
  ·have:=b2 y hy;omega
section
variable {α β σ ρ:Type}
def X4 (f:α→σ→Option (σ⊕ρ)):List α→σ→Option (σ⊕ρ)
 | [],s=>some (.inl s)
 | a::l,s=>(f a s).bind fun x=>match x with
  | .inl s'=>X4 f l s'
  | .inr r=>some (.inr r)
theorem B0v (f:α→σ→Option (σ⊕ρ)) (m:List α):∀(l:List α) (s:σ),X4 f (l++m) s=(X4 f l s).bind fun x=>match x with
  | .inl s'=>X4 f m s'
  | .inr r=>some (.inr r)
 | [],s=>rfl
 | a::l,s=>by
  show (f a s).bind _=((f a s).bind _).bind _
  cases f a s with
  | none=>rfl
  | some x=>cases x with
   | inl s'=>exact B0v f m l s'
   | inr r=>rfl
theorem C1k (f:α→σ→Option (σ⊕ρ)) (h:β→List α):∀(l:List β) (s:σ),X4 f (l.flatMap h) s=X4 (fun b s=>X4 f (h b) s) l s
 | [],s=>rfl
 | b::l,s=>by
  rw[Z0l,B0v]
  show _=(X4 f (h b) s).bind _
  cases X4 f (h b) s with
  | none=>rfl
  | some x=>cases x with
   | inl s'=>exact C1k f h l s'
   | inr r=>rfl
theorem A64 (f:α→σ→Option (σ⊕ρ)) (p:α→Bool):∀(l:List α) (s:σ),X4 f (l.filter p) s=X4 (fun a s=>if p a then f a s else some (.inl s)) l s
 | [],s=>rfl
 | a::l,s=>by
  rw[Z08]
  cases h:p a with
  | false =>
   rw[if_neg (by decide),A64 f p l s]
   show _=(if p a then f a s else some (.inl s)).bind _
   rw[h];rfl
  | true =>
   rw[if_pos Z]
   show (f a s).bind _=(if p a then f a s else some (.inl s)).bind _
   rw[h,if_pos Z]
   cases f a s with
   | none=>rfl
   | some x=>cases x with
    | inl s'=>exact A64 f p l s'
    | inr r=>rfl
theorem B14 {f g:α→σ→Option (σ⊕ρ)}:∀{l:List α} {s:σ},(∀ a∈l,∀ s,f a s=g a s)→X4 f l s=X4 g l s
 | [],s,_=>rfl
 | a::l,s,h=>by
  show (f a s).bind _=(g a s).bind _
  rw[h a (Zy ..) s]
  cases g a s with
  | none=>rfl
  | some x=>cases x with
   | inl s'=>exact B14 fun b hb s=>h b (Zx _ hb) s
   | inr r=>rfl
end
theorem C4z {α β σ ρ:Type} (f:α→σ→Option (σ⊕ρ)) (g:β→α):∀(l:List β) (s:σ),X4 f (l.map g) s=X4 (fun b s=>f (g b) s) l s
 | [],s=>rfl
 | b::l,s=>by
  show (f (g b) s).bind _=(f (g b) s).bind _
  cases f (g b) s with
  | none=>rfl
  | some x=>cases x with
   | inl s'=>exact C4z f g l s'
   | inr r=>rfl
def Q9 (D:List Int) (n:Nat):PaUse:=⟨((n / D.length / 3:Nat):Int),((n / D.length % 3:Nat):Int),D[n % D.length]!⟩
def A9i (q:List PaUse) (u:PaUse):Bool:=(u.Gown != -1)&&q.any fun x=>x.Gown==u.Gown
def okU (s:PaShow) (q:List PaUse) (u:PaUse):Bool:=T7 s.Gowns s.Figures[q.length]! u==0&&!A9i q u
def nU (s:PaShow) (D:List Int):Nat:=s.Gowns.length*3*D.length
def cand (s:PaShow) (D:List Int) (q:List PaUse):List PaUse:=((Z04 (nU s D)).map (Q9 D)).filter (okU s q)
def PL (s:PaShow) (D:List Int):Nat→List PaUse→List (List PaUse)
 | 0,q=>[q]
 | d+1,q=>(cand s D q).flatMap (fun u=>PL s D d (q++[u]))++PL s D d (q++[bare0])
theorem E3v (s:PaShow) {D:List Int} (h0:0<D.length) (hD:D.length≤365) {n:Nat} (hn:n<100000):plx s D (n:Int)=some (Q9 D n):= by
 have hD0:(0:Int)≤n:=Z0v n
 have e1:C39 (n:Int) (D.length:Int)=some ((n / D.length:Nat):Int):= by
  unfold C39
  rw[if_neg (by omega),Z2o hD0,← Int.natCast_ediv]
  have:n / D.length≤n:=Z5k _ _
  generalize n / D.length=k at this
  rw[D6 (by omega)]
 have e2:C39 ((n / D.length:Nat):Int) 3=some ((n / D.length / 3:Nat):Int):= by
  have:n / D.length≤n:=Z5k _ _
  generalize n / D.length=k at this
  unfold C39
  rw[if_neg (by omega),Z2o (Z0v _),D6 (by omega)]
  rfl
 have e3:B1u ((n / D.length:Nat):Int) 3=some ((n / D.length % 3:Nat):Int):= by
  unfold B1u
  rw[if_neg (by omega),Z3w (Z0v _)]
  rfl
 have e4:B1u (n:Int) (D.length:Int)=some ((n % D.length:Nat):Int):= by
  unfold B1u
  rw[if_neg (by omega),Z3w hD0,← Int.natCast_emod]
 unfold plx
 rw[e1]
 simp only[Zd]
 rw[e2,e3,e4]
 simp only[Zd]
 rw[G9 (Z20 _ h0)]
 rfl
theorem C3a {p:List PaUse} {k:Nat} (hk:k<p.length) (u:PaUse):(T6 p (k:Int) u).take (k+1)=p.take k++[u]∧(T6 p (k:Int) u).length=p.length∧(T6 p (k:Int) u)[k]! = u∧(T6 p (k:Int) u).take k=p.take k:= by
 unfold T6
 rw[ZG]
 refine⟨?_,Z0t,?_,?_⟩
 ·rw[ZM (by rw[Z0t];exact hk),Z4r]
  congr 1
  rw[Z31]
  exact Z1o (by rw[ZD];omega)
 ·rw[getElem!_pos _ k (by rw[Z0t];exact hk),Z4r]
 ·rw[Z31]
  exact Z1o (by rw[ZD];omega)
section
variable {σ ρ:Type}
theorem D9l {s:PaShow} (hs:ShOk s) {D:List Int} (h0:0<D.length) (hD:D.length≤365) {q p:List PaUse} (hp:p.length=s.Figures.length) (hq:p.take q.length=q) (hk:q.length<p.length) (rec:Int→List PaUse→σ→Option (List PaUse×(σ⊕ρ))) {n:Nat} (hn:n<nU s D) (st:σ) :
  B5e s D (q.length:Int) rec ((n:Int),p,st)=if okU s q (Q9 D n) then (rec ((q.length+1:Nat):Int) (T6 p (q.length:Int) (Q9 D n)) st).bind fun y=>match y with
    | (p,.inl s')=>some (.inl (((n+1:Nat):Int),p,s'))
    | (p,.inr r)=>some (.inr (.inl (p,r)))
   else some (.inl (((n+1:Nat):Int),T6 p (q.length:Int) (Q9 D n),st)):= by
 have hG:=hs.gowns
 have hF:=hs.figures
 have hN:nU s D≤6000:= by
  unfold nU
  have:s.Gowns.length*3*D.length≤15*365:=Z1t (by omega) hD
  omega
 have hw:w64 (w64 ((s.Gowns.length:Int)*3)*(D.length:Int))=(nU s D:Int):= by
  rw[D6 (n:=(s.Gowns.length:Int)*3) (by omega)]
  have e:(s.Gowns.length:Int)*3*(D.length:Int)=(nU s D:Int):= by unfold nU;simp
  rw[e,D6 (by omega)]
 obtain⟨g1,g2,g3,g4⟩:=C3a hk (Q9 D n)
 unfold B5e
 simp only[]
 rw[hw,if_pos (by simpa using hn),E3v s h0 hD (by omega)]
 simp only[Zd]
 rw[G9 hk,D2l hs D (f:=(q.length:Int)) (by omega),D2k,ZG]
 simp only[Zd]
 rw[D0q (by rw[g2];exact hk) (by rw[g2];omega),D6 (n:=(n:Int)+1) (by omega),D6 (n:=(q.length:Int)+1) (by omega)]
 have ht:twP (T6 p (q.length:Int) (Q9 D n)) q.length=A9i q (Q9 D n):= by
  unfold twP A9i
  rw[g3,g4,hq]
 rw[ht]
 unfold okU
 by_cases hu:T7 s.Gowns s.Figures[q.length]! (Q9 D n)=0
 ·have e1:(T7 s.Gowns s.Figures[q.length]! (Q9 D n) != 0)=false:= by rw[hu];rfl
  have e2:(T7 s.Gowns s.Figures[q.length]! (Q9 D n)==0)=true:= by rw[hu];rfl
  rw[e1,e2]
  cases A9i q (Q9 D n) <;> rfl
 ·have e1:(T7 s.Gowns s.Figures[q.length]! (Q9 D n) != 0)=true:=bne_iff_ne.mpr hu
  have e2:(T7 s.Gowns s.Figures[q.length]! (Q9 D n)==0)=false:=beq_eq_false_iff_ne.mpr hu
  rw[e1,e2];rfl
def E40 (p:List PaUse):σ⊕ρ→(List PaUse×ρ)⊕(List PaUse×σ)
 | .inl s=>.inr (p,s)
 | .inr r=>.inl (p,r)
theorem D75 {s:PaShow} (hs:ShOk s) {D:List Int} (h0:0<D.length) (hD:D.length≤365) (body:List PaUse→σ→Option (σ⊕ρ)) :
  ∀ (d:Nat) (q p:List PaUse) (st:σ) (X:σ⊕ρ) (m:Nat),p.length=s.Figures.length→p.take q.length=q→q.length+d=p.length→d<m →
   X4 body (PL s D d q) st=some X→∃ p',B4a s D body m (q.length:Int) p st=some (p',X)∧p'.length=p.length∧p'.take q.length=q:= by
 have hG:=hs.gowns
 have hF:=hs.figures
 have hN:nU s D≤6000:= by
  unfold nU
  have:s.Gowns.length*3*D.length≤15*365:=Z1t (by omega) hD
  omega
 intro d
 induction d with
 | zero =>
  intro q p st X m hp hq hd hm hf
  obtain⟨m',rfl⟩:∃m',m=m'+1:=⟨m-1,by omega⟩
  have hpq:p=q:= by rw[← hq,ZR (by omega)]
  subst hpq
  refine⟨p,?_,Z,hq⟩
  unfold B4a
  rw[if_pos (by simp)]
  unfold PL X4 at hf
  cases hb:body p st with
  | none=>rw[hb]at hf;cases hf
  | some x=>rw[hb]at hf;cases x <;> cases hf <;> rfl
 | succ d ih =>
  intro q p st X m hp hq hd hm hf
  obtain⟨m',rfl⟩:∃m',m=m'+1:=⟨m-1,by omega⟩
  unfold PL cand at hf
  rw[B0v,C1k,A64,C4z]at hf
  have key:∀(j i m2:Nat) (p:List PaUse) (st:σ) (Y:σ⊕ρ),p.length=s.Figures.length→p.take q.length=q→q.length+(d+1)=p.length→i+j=nU s D→j<m2 →
    X4 (fun n st=>if okU s q (Q9 D n) then X4 body (PL s D d (q++[Q9 D n])) st else some (.inl st)) ((Z04 (nU s D)).drop i) st=some Y →
    ∃ p',A7w (B5e s D (q.length:Int) (B4a s D body m')) m2 ((i:Int),p,st)=some (E40 p' Y)∧p'.length=p.length∧p'.take q.length=q:= by
   intro j
   induction j with
   | zero =>
    intro i m2 p st Y hp hq hd hi hm2 h
    obtain⟨m3,rfl⟩:∃m3,m2=m3+1:=⟨m2-1,by omega⟩
    rw[List.drop_of_length_le (by simp;omega)]at h
    cases h
    refine⟨p,?_,Z,hq⟩
    rw[L8]
    unfold B5e
    simp only[]
    have hw:w64 (w64 ((s.Gowns.length:Int)*3)*(D.length:Int))=(nU s D:Int):= by
     rw[D6 (n:=(s.Gowns.length:Int)*3) (by omega)]
     have e:(s.Gowns.length:Int)*3*(D.length:Int)=(nU s D:Int):= by unfold nU;simp
     rw[e,D6 (by omega)]
    rw[hw,if_neg (by simp;omega)];rfl
   | succ j ihj =>
    intro i m2 p st Y hp hq hd hi hm2 h
    obtain⟨m3,rfl⟩:∃m3,m2=m3+1:=⟨m2-1,by omega⟩
    have hi2:i<(Z04 (nU s D)).length:= by simp;omega
    rw[List.drop_eq_getElem_cons hi2,List.getElem_range]at h
    unfold X4 at h
    obtain⟨g1,g2,g3,g4⟩:=C3a (p:=p) (k:=q.length) (by omega) (Q9 D i)
    rw[L8,D9l hs h0 hD hp hq (by omega) _ (by omega) st]
    cases hc:okU s q (Q9 D i) with
    | false =>
     rw[hc]at h
     obtain⟨p',e1,e2,e3⟩:=ihj (i+1) m3 (T6 p (q.length:Int) (Q9 D i)) st Y (by rw[g2];exact hp) (by rw[g4];exact hq) (by rw[g2];exact hd) (by omega) (by omega) h
     exact⟨p',e1,by rw[e2,g2],e3⟩
    | true =>
     rw[hc]at h
     simp only[if_true]at h
     cases hX:X4 body (PL s D d (q++[Q9 D i])) st with
     | none=>rw[hX]at h;cases h
     | some Zr =>
      rw[hX]at h
      have hql:(q++[Q9 D i]).length=q.length+1:= by simp
      obtain⟨p1,r1,r2,r3⟩:=ih (q++[Q9 D i]) (T6 p (q.length:Int) (Q9 D i)) st Zr m' (by rw[g2];exact hp) (by rw[hql,g1,hq]) (by rw[hql,g2];omega) (by omega) hX
      rw[hql]at r1 r3
      have r4:p1.take q.length=q:= by
       have:=congrArg (List.take q.length) r3
       rwa [Z3q,Z1x (Z61 _),Z07]at this
      rw[if_pos Z,r1]
      cases Zr with
      | inl s' =>
       obtain⟨p',e1,e2,e3⟩:=ihj (i+1) m3 p1 s' Y (by rw[r2,g2];exact hp) r4 (by rw[r2,g2];exact hd) (by omega) (by omega) h
       exact⟨p',e1,by rw[e2,r2,g2],e3⟩
      | inr x =>
       cases h
       exact⟨p1,Z,by rw[r2,g2],r4⟩
  cases hY:X4 (fun n st=>if okU s q (Q9 D n) then X4 body (PL s D d (q++[Q9 D n])) st else some (.inl st)) (Z04 (nU s D)) st with
  | none=>rw[hY]at hf;cases hf
  | some Y =>
   rw[hY]at hf
   obtain⟨p',e1,e2,e3⟩:=key (nU s D) 0 9223372036854775808 p st Y hp hq hd (by omega) (by omega) hY
   unfold B4a
   rw[if_neg (by simp;omega)]
   unfold loop
   rw[show ((0:Int),p,st)=(((0:Nat):Int),p,st) from Z,e1]
   cases Y with
   | inr r=>cases hf;exact⟨p',Z,e2,e3⟩
   | inl s' =>
    simp only[Zd]at hf
    obtain⟨g1,g2,g3,g4⟩:=C3a (p:=p') (k:=q.length) (by omega) bare0
    have hql:(q++[bare0]).length=q.length+1:= by simp
    obtain⟨p1,r1,r2,r3⟩:=ih (q++[bare0]) (T6 p' (q.length:Int) bare0) s' X m' (by rw[g2,e2];exact hp) (by rw[hql,g1,e3]) (by rw[hql,g2,e2];omega) (by omega) hf
    rw[hql]at r1 r3
    refine⟨p1,?_,by rw[r2,g2,e2],?_⟩
    ·unfold E40 A1c
     simp only[Zd]
     rw[G9 (by omega),D6 (n:=(q.length:Int)+1) (by omega)]
     exact r1
    ·have:=congrArg (List.take q.length) r3
     rwa [Z3q,Z1x (Z61 _),Z07]at this
theorem D16 {s:PaShow} (hs:ShOk s) {D:List Int} (h0:0<D.length) (hD:D.length≤365) (body:List PaUse→σ→Option (σ⊕ρ)) {st:σ} {X:σ⊕ρ} (h:X4 body (PL s D s.Figures.length []) st=some X):B3s s D σ ρ body st=some X:= by
 have hF:=hs.figures
 unfold B3s B38
 rw[if_pos ⟨by omega,by omega,by omega⟩]
 simp only[Zd,ZG]
 obtain⟨p',e1,_,_⟩:=D75 hs h0 hD body s.Figures.length [] (Zv s.Figures.length (PaUse.mk 0 0 0)) st X 64 (by simp) Z (by simp) (by omega) h
 rw[show ((([]:List PaUse).length:Nat):Int)=0 from Z]at e1
 rw[e1];rfl
end
theorem B5o {s:PaShow}:0<(F4 s).length∧(F4 s).length≤365:= by
 unfold F4
 have:=Z1k (fun d=>s.Incomes.any fun x=>x.Day==d) ((Z04 364).map fun (i:Nat)=>(i:Int)+1)
 rw[Zi,Z1q]at this
 rw[ZT]
 omega
def P4 (s:PaShow) (p:List PaUse):Int:=sm ((pays s p).map Z36)
theorem B99 {s:PaShow} (hs:ShOk s) {p:List PaUse} (h:PlU s p) (i:Nat):0≤sm (((pays s p).take i).map Z36)∧sm (((pays s p).take i).map Z36)≤300000:= by
 have:=D0j (a:=0) (b:=100000) (l:=((pays s p).take i).map Z36) (fun z hz=>by
  obtain⟨x,hx,rfl⟩:=ZK.mp hz
  exact(V2 hs h x (ZZ hx)).1)
 rw[Zi,ZD,L3 h]at this
 have:=hs.figures
 have:=h.len
 omega
theorem D4i {l:List (Int×Int)} (h:∀x∈l,0≤x.1) {d e:Int} (hde:d≤e):O4 l d≤O4 l e:= by
 unfold O4
 refine D0k fun x hx=>?_
 have:=h x hx
 split <;> split <;> omega
theorem C84 {l:List (Int×Int)} {d:Int}:(∃ x∈l,x.2≤d)→∃ x∈l,x.2≤d∧∀ y∈l,y.2≤d→y.2≤x.2:= by
 induction l with
 | nil=>rintro⟨x,hx,_⟩;cases hx
 | cons a l ih =>
  intro hx
  by_cases hl:∃x∈l,x.2≤d
  ·obtain⟨x,hx,hd,hm⟩:=ih hl
   by_cases ha:a.2≤d∧x.2<a.2
   ·refine⟨a,Zy ..,ha.1,fun y hy hyd=>?_⟩
    rcases Zu.mp hy with rfl|hy
    ·exact Z02 _
    ·have:=hm y hy hyd;omega
   ·refine⟨x,Zx _ hx,hd,fun y hy hyd=>?_⟩
    rcases Zu.mp hy with rfl|hy
    ·omega
    ·exact hm y hy hyd
  ·obtain⟨x,hx,hd⟩:=hx
   rcases Zu.mp hx with rfl|hx
   ·refine⟨x,Zy ..,hd,fun y hy hyd=>?_⟩
    rcases Zu.mp hy with rfl|hy
    ·exact Z02 _
    ·exact absurd ⟨y,hy,hyd⟩ hl
   ·exact absurd ⟨x,hx,hd⟩ hl
theorem C7b {s:PaShow} (hs:ShOk s) {p:List PaUse} (h:PlU s p) {d:Int} (hn:I1 s p d<0):∃x∈pays s p,x.2≤d∧I1 s p x.2<0:= by
 have hi0:∀x∈incs s,0≤x.1:=fun x hx=>(Y5 hs x hx).1.1
 have hpu:=hs.purse
 by_cases he:∃x∈pays s p,x.2≤d
 ·obtain⟨x,hx,hd,hm⟩:=C84 he
  refine⟨x,hx,hd,?_⟩
  have e:O4 (pays s p) d=O4 (pays s p) x.2:= by
   unfold O4
   refine congrArg sm (Z25 fun y hy=>?_)
   by_cases hy2:y.2≤d
   ·rw[if_pos hy2,if_pos (hm y hy hy2)]
   ·rw[if_neg hy2,if_neg (by omega)]
  have:=D4i hi0 hd
  unfold I1 at hn ⊢
  omega
 ·have e:O4 (pays s p) d=0:= by
   unfold O4
   exact C0s fun x hx=>if_neg fun hc=>he ⟨x,hx,hc⟩
  have:=(A21 (fun x hx=>(Y5 hs x hx).1) d).1
  unfold I1 at hn
  omega
def fm {α:Type} (k:α→Int):List α→Option α
 | []=>none
 | x::l=>match fm k l with
  | none=>some x
  | some y=>if k y<k x then some y else some x
section
variable {α:Type} {k:α→Int}
theorem D27:∀{l:List α},fm k l=none↔l=[]
 | []=>⟨fun _=>rfl,fun _=>rfl⟩
 | x::l=>by
  refine⟨fun h=>?_,fun h=>by cases h⟩
  unfold fm at h
  split at h
  ·cases h
  ·split at h <;> cases h
theorem C0c:∀{l:List α} {b:α},fm k l=some b→(∀ y∈l,k b≤k y)∧∃ A B,l=A++b::B∧∀ a∈A,k b<k a
 | [],b,h=>by cases h
 | x::l,b,h=>by
  unfold fm at h
  cases hf:fm k l with
  | none =>
   rw[hf]at h;cases h
   rw[D27.mp hf]
   exact⟨by simp,[],[],Z,by simp⟩
  | some y =>
   rw[hf]at h
   obtain⟨h1,A,B,rfl,h3⟩:=C0c hf
   simp only at h
   split at h
   ·next c =>
    cases h
    refine⟨fun z hz=>?_,x::A,B,Z,fun a ha=>?_⟩
    ·rcases Zu.mp hz with rfl|hz
     ·omega
     ·exact h1 z hz
    ·rcases Zu.mp ha with rfl|ha
     ·exact c
     ·exact h3 a ha
   ·next c =>
    cases h
    refine⟨fun z hz=>?_,[],A++y::B,Z,by simp⟩
    rcases Zu.mp hz with rfl|hz
    ·exact Z02 _
    ·have:=h1 z hz;omega
theorem B4r {l:List α} {b:α} (h:fm k l=some b):b∈l:= by
 obtain⟨_,A,B,rfl,_⟩:=C0c h
 simp
theorem D26 {l:List α} {b:α} (h:fm k l=some b) {y:α} (hy:y∈l):k b≤k y:=(C0c h).1 y hy
theorem C6t {l:List α} {x:α} (h:x∈l):∃b,fm k l=some b:= by
 cases hf:fm k l with
 | none=>rw[D27.mp hf]at h;cases h
 | some b=>exact⟨b,Z⟩
theorem C6s (y:α):∀(l:List α),fm k (l++[y])=match fm k l with
  | none=>some y
  | some b=>if k y<k b then some y else some b
 | []=>rfl
 | x::l=>by
  show (match fm k (l++[y]) with|none=>some x|some z=>if k z<k x then some z else some x)=match (match fm k l with|none=>some x|some z=>if k z<k x then some z else some x) with|none=>some y|some b=>if k y<k b then some y else some b
  rw[C6s y l]
  cases fm k l with
  | none=>rfl
  | some b =>
   simp only
   by_cases c1:k b<k x <;> by_cases c2:k y<k b <;> by_cases c3:k y<k x <;> simp only[c1,c2,c3,if_true,if_false] <;> omega
end
def F5 (p:List PaUse):Int:=sm (p.map fun x=>if x.Gown = -1 then 1 else 0)
theorem A31 (p:List PaUse):0≤F5 p∧F5 p≤p.length:= by
 have:=D0j (a:=0) (b:=1) (l:=p.map fun x=>if x.Gown = -1 then 1 else 0) (fun z hz=>by
  obtain⟨x,_,rfl⟩:=ZK.mp hz
  split <;> omega)
 rw[Zi]at this
 unfold F5
 omega
def gv (p:List PaUse) (k:Nat):Int:=if k<p.length then p[k]!.Gown+1 else 0
def A8o (p:List PaUse):Ar3 Int:=⟨gv p 0,gv p 1,gv p 2⟩
def fdP (s:PaShow) (p:List PaUse):pawn_found:=⟨p,F5 p,P4 s p,(I2 s p).1,A8o p⟩
theorem C6y {p:List PaUse} {u:PaUse} (k:Nat):gv (p++[u]) k=if k=p.length then u.Gown+1 else gv p k:= by
 unfold gv
 rw[Zo,Z37]
 by_cases h:k=p.length
 ·subst h
  rw[if_pos (by omega),if_pos Z,getElem!_pos _ _ (by simp)];simp
 ·rw[if_neg h]
  by_cases h2:k<p.length
  ·rw[if_pos (by omega),if_pos h2,getElem!_pos _ k (by simp;omega),getElem!_pos p k h2,List.getElem_append_left h2]
  ·rw[if_neg (by omega),if_neg h2]
theorem D7g {p:List PaUse} {u:PaUse}:(A8o p).set (p.length:Int) (u.Gown+1)=A8o (p++[u]):= by
 unfold A8o Ar3.set
 rw[C6y,C6y,C6y]
 have e0:((p.length:Int)=0)=(0=p.length):= by rw[eq_iff_iff];omega
 have e1:((p.length:Int)=1)=(1=p.length):= by rw[eq_iff_iff];omega
 have e2:((p.length:Int)=2)=(2=p.length):= by rw[eq_iff_iff];omega
 simp only[e0,e1,e2]
theorem D67 {s:PaShow} (hs:ShOk s) (D:List Int) {p:List PaUse} (h:PlU s p):B5u s D p=some (fdP s p):= by
 have hF:=hs.figures
 have hG:=hs.gowns
 have hlen:=h.len
 unfold B5u B38
 rw[if_pos ⟨by omega,by omega,by omega⟩]
 simp only[Zd]
 have e1:loop (B3d s D p) (⟨0,0,⟨0,0,0⟩⟩,0)=some ⟨F5 p,P4 s p,A8o p⟩:= by
  have hc:∀i,i≤p.length→(pays s p).take i=(pays s p).take i:=fun _ _=>rfl
  have:=N6 (b:=B3d s D p) (fun i=>((⟨F5 (p.take i),sm (((pays s p).take i).map Z36),A8o (p.take i)⟩:Fd),(i:Int))) p.length (r:=⟨F5 p,P4 s p,A8o p⟩) (by omega) (fun i hi=>by
   have hx:=(V2 hs h _ (J1 (l:=pays s p) (i:=i) (by rw[L3 h];exact hi))).1
   have hcb:=B99 hs h i
   have hwb:=A31 (p.take i)
   have htl:(p.take i).length=i:= by rw[ZD];omega
   rw[A42 h hi]at hx
   have hu:=h.use i hi
   have hgb:-1≤p[i]!.Gown∧p[i]!.Gown≤5:= by
    rcases X1.mp hu with e|e
    ·rw[e];exact⟨by decide,by decide⟩
    ·have:=e.lo;have:=e.hi;omega
   have ec:sm (((pays s p).take (i+1)).map Z36)=sm (((pays s p).take i).map Z36)+(A1v s.Gowns s.Figures[i]! p[i]!).1:= by
    rw[ZM (by rw[L3 h];exact hi),Z00,A56,← A42 h hi,getElem!_pos _ i (by rw[L3 h];exact hi)]
    simp[sm]
   have et:p.take (i+1)=p.take i++[p[i]!]:= by
    rw[ZM hi,getElem!_pos p i hi]
   have ew:F5 (p.take (i+1))=F5 (p.take i)+if p[i]!.Gown = -1 then 1 else 0:= by
    rw[et];unfold F5;rw[Z00,A56];simp[sm]
   have eh:(A8o (p.take i)).set (i:Int) (p[i]!.Gown+1)=A8o (p.take (i+1)):= by
    rw[et,← D7g,htl]
   have hi3:∃v,idx (A8o (p.take i)).l (i:Int)=some v:= by
    unfold Ar3.l
    exact⟨_,G9 (by simp;omega)⟩
   obtain⟨v,hv⟩:=hi3
   unfold B3d A1c
   simp only[]
   rw[if_pos (by simpa using hi),G9 hi]
   simp only[Zd]
   rw[C7j hs D (f:=(i:Int)) (by omega) (by rw[ZG];exact hu),ZG,hv]
   simp only[Zd]
   rw[D6 (n:=p[i]!.Gown+1) (by omega),D6 (n:=(i:Int)+1) (by omega),D6 (n:=F5 (p.take i)+1) (by omega),D6 (n:=sm (((pays s p).take i).map Z36)+_) (by omega),eh,ew,ec]
   by_cases hb:p[i]!.Gown = -1
   ·have:p[i]! = bare0:= by
     rcases X1.mp hu with e|e
     ·exact e
     ·have:=e.lo;omega
    rw[if_pos (by rw[this];rfl),if_pos hb];rfl
   ·rw[if_neg (by simp only[Zc,beq_iff_eq];exact fun q=>hb q.1),if_neg hb,Z3l];rfl) (by
   rw[ZR (Zn _),ZR (by rw[L3 h];omega)]
   unfold B3d
   simp only[]
   rw[if_neg (by simp)];rfl)
  exact this
 rw[e1]
 simp only[Zd]
 rw[D0i hs D h]
 rfl
section
variable {σ ρ:Type}
theorem C75 {s:PaShow} (hs:ShOk s) (hP:∀p∈PL s (F4 s) s.Figures.length [],PlU s p) (body:pawn_found→σ→Option (σ⊕ρ)) {st:σ} {X:σ⊕ρ} (h:X4 (fun p st=>body (fdP s p) st) (PL s (F4 s) s.Figures.length []) st=some X):C0z s (F4 s) σ ρ body st=some X:= by
 unfold C0z
 refine D16 hs B5o.1 B5o.2 _ ?_
 rw[← h]
 exact B14 fun p hp st=>by rw[D67 hs _ (hP p hp)];rfl
def B6h (s:PaShow) (p:List PaUse):Bool:=!decide ((I2 s p).1>0)
def PA (s:PaShow):List (List PaUse):=(PL s (F4 s) s.Figures.length []).filter (B6h s)
theorem C2r {s:PaShow} (hs:ShOk s) (hP:∀p∈PL s (F4 s) s.Figures.length [],PlU s p) (body:pawn_found→σ→Option (σ⊕ρ)) {st:σ} {X:σ⊕ρ} (h:X4 (fun p st=>body (fdP s p) st) (PA s) st=some X):B9b s (F4 s) σ ρ body st=some X:= by
 unfold B9b
 refine C75 hs hP _ ?_
 rw[← h]
 unfold PA
 rw[A64]
 refine B14 fun p hp st=>?_
 show (if decide ((I2 s p).1>0)=true then some (.inl st) else body (fdP s p) st)=_
 unfold B6h
 cases decide ((I2 s p).1>0) <;> rfl
end
section
variable {α:Type} {k:α→Int}
def upd (k:α→Int) (o:Option α) (a:α):Option α:=match o with|none=>some a|some b=>if k a<k b then some a else some b
theorem D25:∀(m l:List α),m.foldl (upd k) (fm k l)=fm k (l++m)
 | [],l=>by simp
 | a::m,l=>by
  rw[Z09]
  have:upd k (fm k l) a=fm k (l++[a]):= by rw[C6s];rfl
  rw[this,D25 m,ZB];rfl
def stO (F:α→pawn_found):Option α→pawn_found×Bool
 | none=>(fnd0,false)
 | some b=>(F b,true)
theorem C6i {it:It} {L:List α} {F:α→pawn_found} {g:pawn_found→pawn_found→Option Int} (hit:∀(σ ρ:Type) (body:pawn_found→σ→Option (σ⊕ρ)) (st:σ) (X:σ⊕ρ),X4 (fun a st=>body (F a) st) L st=some X→it σ ρ body st=some X)
  (hg:∀a∈L,∀ b∈L,∃ r,g (F a) (F b)=some r∧(r<0↔k a<k b)):C04 it g=some (stO F (fm k L)):= by
 have key:∀(m:List α) (o:Option α),(∀ a∈m,a∈L)→(∀ b,o=some b→b∈L)→X4 (fun a st=>C4l g (F a) st) m (stO F o)=(some (.inl (stO F (m.foldl (upd k) o))):Option ((pawn_found×Bool)⊕Unit)):= by
  intro m
  induction m with
  | nil=>intro o _ _;rfl
  | cons a m ih =>
   intro o hm ho
   have hb:C4l g (F a) (stO F o)=some (.inl (stO F (upd k o a))):= by
    unfold C4l
    cases o with
    | none=>rfl
    | some b =>
     obtain⟨r,h1,h2⟩:=hg a (hm a (Zy ..)) b (ho b Z)
     show (if (!true)=true then _ else (g (F a) (F b)).bind _:Option Bool).bind _=_
     rw[h1]
     unfold upd
     by_cases c:k a<k b
     ·simp only[if_pos c]
      have:decide (r<0)=true:=decide_eq_true (h2.mpr c)
      simp[this,stO]
     ·simp only[if_neg c]
      have:decide (r<0)=false:=decide_eq_false fun q=>c (h2.mp q)
      simp only[Z0y,Zj,if_false,Zd,this,stO]
   show (C4l g (F a) (stO F o)).bind _=_
   rw[hb]
   refine ih (upd k o a) (fun b hb=>hm b (Zx _ hb)) fun b hb=>?_
   unfold upd at hb
   cases o with
   | none=>cases hb;exact hm a (Zy ..)
   | some c =>
    simp only at hb
    split at hb
    ·cases hb;exact hm a (Zy ..)
    ·cases hb;exact ho _ Z
 unfold C04
 rw[hit _ _ _ (fnd0,false) (.inl (stO F (fm k L))) (by
  have:=key L none (fun _ h=>h) (fun b h=>by cases h)
  rw[show (none:Option α)=fm k ([]:List α) from Z,D25,Z06]at this
  exact this)]
 rfl
end
def A33 (s:PaShow) (p:List PaUse):Int:=F5 p*1000000+P4 s p
def D5b (s:PaShow) (p:List PaUse):Int:=F5 p*1000000+(I2 s p).1
theorem or2 (a b:Int):A5h [a,b]=some (if a=0 then b else a):= by
 unfold A5h
 rw[A8z (b:=A25 [a,b]) 2 (fun i=>if ([a,b][i]!:Int)=0 then none else some (.inl [a,b][i]!)) (.inr ()) (by omega) (fun i hi _=>by
  unfold A25
  rw[if_pos (by simp;omega),G9 (by simp;omega)]
  simp only[Zd]
  by_cases h:([a,b][i]!:Int)=0
  ·rw[if_neg (by rw[h];decide),if_pos h]
  ·rw[if_pos (bne_iff_ne.mpr h),if_neg h]) (by
  unfold A25
  rw[if_neg (by simp)])]
 simp only[first]
 rw[show ([a,b][0]!:Int)=a from Z,show ([a,b][1]!:Int)=b from Z]
 by_cases ha:a=0
 ·by_cases hb:b=0
  ·simp[ha,hb]
  ·simp[ha,hb]
 ·simp[ha]
end Pw
end
section
set_option maxRecDepth 100000
set_option maxHeartbeats 0
namespace Pw
open Go Am Go.Proofs.YtjpjdglddmhplaaGreat.Cd
def A3m (a0:PaShow) (a1:(List PaUse)) (s1:(Int×Int)):Option ((Int×Int)⊕Int) :=
 if (decide (s1.2<(Zh a1:Int)))=true then
  (idx a1 s1.2).bind fun x4 =>
  (A39 a0 s1.2 x4).bind fun x5 =>
  some (.inl ((w64 (s1.1+x5.1)),(w64 (s1.2+1))))
 else
  some (.inr s1.1)
def A0a (a0:PaShow) (a1:(List PaUse)):Option Int :=
 (loop (A3m a0 a1) (0,0)).bind fun (o6:Int) =>
 some o6
theorem A1b {c:Sc} {H:A2} {a0:PaShow} {a1:(List PaUse)} {r:Int} (h:A0a a0 a1=some r) :
  F0 tab c H (.fn (.func 37) [] []) [(.agg (A9 a0)),(.seq 3 (Zg A6 a1))] [.i r]:= by
 unfold A0a at h
 refine cE Z Z<|sg 0 Z<|A0 (G1 (cs:=A9 a0) Z Z Z) Z<|qm Z<|es (ra2 Z Z)<|s0<|qm Z<|es (ra3 Z Z Z)<|B9<|s0<|qm Z<|es (ra4 Z Z Z Z)<|C5<|oB h fun o6 ho6 h=>wl (fun s1=>[(1,(.seq 3 (Zg A6 a1))),(2,(.ptr (H.length+0) 0)),(5,.i s1.1),(6,.i s1.2)]) (fun (q2:Unit) s1=>[(.cells (A9 a0))]) 1 (fun r e s' H'=>PX 0 [(5,.i r)] (H++[(.cells (A9 a0))]) e s' H') () ho6 Z Z (fun _ _=>rfl) (fun _=>rfl) Z (fun s1=>(bdc G6 (bdc (J7 Z) (bdc A4 (bdc A4 bdn))))) (fun q2 s1 ys1 hs1=>?_) ?_
 ·unfold A3m at hs1
  refine B9<|s0<|qm Z<|qm Z<|A0 (F2 (f:=A6) Z) Z<|A0 (I3 Z Z) Z<|es (ra5 Z Z Z Z Z)<|wi hs1 Z (fun hc3 hs1=>?_) fun hc3 hs1=>?_
  ·refine B8<|B9<|C5<|s0<|oB hs1 fun x4 hx4 hs1=>oB hs1 fun x5 hx5 hs1=>A0 (C9 Z Z Z) Z<|qm Z<|qm Z<|qm Z<|A0 (D4 (f:=A6) Z Z hx4) Z<|A0 (I0 Z Z) Z<|B2 (rs:=[.i x5.1,.i x5.2]) Z Z (A1 (D0 Z) (A1 Z (A1 (D0 Z) B3))) ((A9o hx5).frz)<|qm Z<|A0 (A7 Z Z) Z<|A0 (A7 Z Z) Z<|qm Z<|qm Z<|es (ra5 Z Z Z Z Z)<|r0<|qm Z<|qm Z<|A0 (D8 Z Z) Z<|qm Z<|en (ra4 Z Z Z Z)<|r0<|qm Z<|A0 (D8 Z Z) Z<|qm Z<|en (ra4 Z Z Z Z) ?_
   cases hs1
   exact lnT () Z (su4 Z Z Z Z)
  ·refine G5 ?_
   obtain rfl:=os hs1
   exact lx Z px (su1 Z)
 ·rintro e s' H'-⟨rfl,rfl,rfl⟩
  refine s0<|qm Z<|qm Z<|es (ra1 Z)<|C6 ?_
  obtain rfl:=os h
  exact retq trivial (A8 Z B6) (A5 Z B5) (A3 A4 B1)
end Pw
end
section
namespace Pw
open Go Am
theorem C1r (l:List PaUse) (y:PaUse):(l++[y])[l.length]! = y:= by
 rw[getElem!_pos _ _ (by simp)];simp
theorem A4m {s:PaShow} (hs:ShOk s) {p:List PaUse} (h:PlU s p):A0a s p=some (P4 s p):= by
 have hfl:=hs.figures
 have hlen:=h.len
 unfold A0a
 have e1:loop (A3m s p) (0,0)=some (P4 s p):= by
  refine X9 (pays s p) (fun a (x:Int×Int)=>a+x.1) 0 (fun i t=>(t,(i:Int))) (by rw[L3 h];omega) (fun i hi=>?_) ?_
  ·rw[L3 h]at hi
   have hx:=(V2 hs h _ (J1 (l:=pays s p) (i:=i) (by rw[L3 h];exact hi))).1
   rw[A27,A42 h hi]at *
   have:=B99 hs h i
   unfold A3m
   simp only[]
   rw[if_pos (by simpa using hi),G9 hi]
   simp only[Zd]
   rw[B2v hs (f:=(i:Int)) (by omega) (by rw[ZG];exact h.use i hi),ZG]
   simp only[Zd]
   rw[D6 (n:=(i:Int)+1) (by omega),D6 (by omega)];rfl
  ·unfold A3m
   simp only[]
   rw[L3 h,if_neg (by simp),A27,Z55];rfl
 rw[e1];rfl
def ku (u:PaUse):Int:=(if u.Gown = -1 then 100 else u.Gown)*10000+u.How*1000+u.Day
def A1o:List PaUse→List PaUse→Bool
 | [],[]=>false
 | [],_::_=>true
 | _::_,[]=>false
 | a::l,b::m=>if ku a=ku b then A1o l m else decide (ku a<ku b)
theorem C12:∀l:List PaUse,A1o l l=false
 | []=>rfl
 | a::l=>by unfold A1o;rw[if_pos Z];exact C12 l
theorem B7w:∀q a b:List PaUse,A1o (q++a) (q++b)=A1o a b
 | [],a,b=>rfl
 | x::q,a,b=>by
  show (if ku x=ku x then A1o (q++a) (q++b) else decide (ku x<ku x))=_
  rw[if_pos Z];exact B7w q a b
theorem B80:∀a b c:List PaUse,a.length=b.length→b.length=c.length→A1o a b=false→A1o b c=false→A1o a c=false
 | [],[],[],_,_,_,_=>rfl
 | x::a,y::b,z::c,h1,h2,h3,h4=>by
  unfold A1o at h3 h4 ⊢
  by_cases e1:ku x=ku y
  ·rw[if_pos e1]at h3
   by_cases e2:ku y=ku z
   ·rw[if_pos e2]at h4
    rw[if_pos (by omega)]
    exact B80 a b c (by simpa using h1) (by simpa using h2) h3 h4
   ·rw[if_neg e2]at h4
    rw[if_neg (by omega)]
    simp at h4 ⊢; omega
  ·rw[if_neg e1]at h3
   simp at h3
   by_cases e2:ku y=ku z
   ·rw[if_neg (by omega)];simp;omega
   ·rw[if_neg e2]at h4
    simp at h4
    rw[if_neg (by omega)];simp;omega
theorem C5i (f:PaUse→PaUse):∀l:List PaUse,(∀ x∈l,ku (f x)≤ku x)→A1o l (l.map f)=false
 | [],_=>rfl
 | x::l,h=>by
  rw[Zt]
  unfold A1o
  have:=h x (Zy ..)
  split
  ·exact C5i f l fun y hy=>h y (Zx _ hy)
  ·simp;omega
structure DyOk (D:List Int):Prop where
 pos:0<D.length
 len:D.length≤365
 str:Str D
 bd:∀x∈D,0≤x∧x≤364
 zero:(0:Int)∈D
theorem A3u {s:PaShow} (hs:ShOk s):DyOk (F4 s):=⟨B5o.1,B5o.2,B7c s,fun x hx=>by
  rcases (B28 hs x).mp hx with rfl|⟨y,hy,rfl⟩
  ·exact⟨by decide,by decide⟩
  ·exact(hs.income y hy).day,(B28 hs 0).mpr (.inl Z)⟩
theorem E5e {s:PaShow} (hs:ShOk s) {D:List Int} (hD:DyOk D) {n:Nat} (h:n<nU s D):n / D.length / 3<s.Gowns.length∧n<6000:= by
 have hG:=hs.gowns
 constructor
 ·rw[Nat.div_div_eq_div_mul]
  refine Nat.div_lt_of_lt_mul ?_
  unfold nU at h
  have:s.Gowns.length*3*D.length=D.length*3*s.Gowns.length:= by
   rw[Nat.mul_assoc,Z1g s.Gowns.length,Z1g 3]
  omega
 ·have:s.Gowns.length*3*D.length≤15*365:=Z1t (by omega) hD.len
  unfold nU at h
  omega
theorem E0n {D:List Int} (hD:DyOk D) {n m:Nat} (h:n<m):ku (Q9 D n)<ku (Q9 D m):= by
 have hp:=hD.pos
 have b1:=hD.bd _ (J1 (l:=D) (Z20 n hp))
 have b2:=hD.bd _ (J1 (l:=D) (Z20 m hp))
 have hn:=Z4d n D.length
 have hm:=Z4d m D.length
 have r1:=Z20 n hp
 have r2:=Z20 m hp
 have hle:n / D.length≤m / D.length:=Nat.div_le_div_right (Nat.le_of_lt h)
 have hc:n / D.length=m / D.length→D[n % D.length]! < D[m % D.length]!:=fun e=>by
  rw[e]at hn
  have hr:n % D.length<m % D.length:= by omega
  have:=Z0e.mp hD.str _ _ r1 r2 hr
  rwa [getElem!_pos D _ r1,getElem!_pos D _ r2]
 unfold ku Q9
 simp only
 clear hn hm
 generalize D[n % D.length]! = x at *
 generalize D[m % D.length]! = y at *
 generalize n / D.length=a at *
 generalize m / D.length=c at *
 rw[if_neg (by omega),if_neg (by omega)]
 by_cases e:a=c
 ·have:=hc e
  subst e
  omega
 ·omega
theorem C18 {s:PaShow} {D:List Int} {q:List PaUse} {u:PaUse}:u∈cand s D q↔(∃ n,n<nU s D∧Q9 D n=u)∧okU s q u=true:= by
 unfold cand
 rw[Z0a,ZK]
 constructor
 ·rintro⟨⟨n,hn,e⟩,h⟩;exact⟨⟨n,by simpa using hn,e⟩,h⟩
 ·rintro⟨⟨n,hn,e⟩,h⟩;exact⟨⟨n,by simpa using hn,e⟩,h⟩
def Ext (s:PaShow) (D:List Int):List PaUse→List PaUse→Prop
 | _,[]=>True
 | q,u::r=>(u=bare0∨u∈cand s D q)∧Ext s D (q++[u]) r
theorem B02 {s:PaShow} {D:List Int}:∀{d:Nat} {q p:List PaUse},p∈PL s D d q↔∃ r,p=q++r∧r.length=d∧Ext s D q r
 | 0,q,p=>by
  unfold PL
  rw[List.mem_singleton]
  constructor
  ·intro h;exact⟨[],by simp[h],Z,trivial⟩
  ·rintro⟨r,rfl,hr,_⟩
   rw[List.length_eq_zero_iff.mp hr,ZY]
 | d+1,q,p=>by
  unfold PL
  rw[ZA,Z2k]
  constructor
  ·rintro (⟨u,hu,hp⟩|hp)
   ·obtain⟨r,rfl,hr,he⟩:=B02.mp hp
    exact⟨u::r,by simp,by simp[hr],.inr hu,he⟩
   ·obtain⟨r,rfl,hr,he⟩:=B02.mp hp
    exact⟨bare0::r,by simp,by simp[hr],.inl Z,he⟩
  ·rintro⟨r,rfl,hr,he⟩
   cases r with
   | nil=>cases hr
   | cons u r =>
    obtain⟨hu,he⟩:=he
    have hmem:q++u::r∈PL s D d (q++[u]):=B02.mpr ⟨r,by simp,by simpa using hr,he⟩
    rcases hu with rfl|hu
    ·exact .inr hmem
    ·exact .inl ⟨u,hu,hmem⟩
theorem C6c {s:PaShow} (hs:ShOk s) {D:List Int} (hD:DyOk D):∀(d:Nat) (q:List PaUse),(PL s D d q).Pairwise fun a b=>A1o b a=false
 | 0,q=>by unfold PL;simp
 | d+1,q=>by
  have hG:=hs.gowns
  unfold PL
  rw[Z0x]
  refine⟨?_,C6c hs hD d _,?_⟩
  ·rw[List.pairwise_flatMap]
   refine⟨fun u _=>C6c hs hD d _,?_⟩
   have hp:(cand s D q).Pairwise fun a b=>ku a<ku b:= by
    unfold cand
    refine List.Pairwise.filter _ ?_
    rw[Z40]
    exact Z2z.imp fun h=>E0n hD h
   refine hp.imp fun {f g} hfg x hx y hy=>?_
   obtain⟨s',rfl,-⟩:=B02.mp hx
   obtain⟨t,rfl,-⟩:=B02.mp hy
   rw[ZB,ZB,B7w]
   show A1o (g::t) (f::s')=false
   unfold A1o
   rw[if_neg (by omega),decide_eq_false (by omega)]
  ·intro a ha b hb
   obtain⟨u,hu,hx⟩:=Z2k.mp ha
   obtain⟨s',rfl,-⟩:=B02.mp hx
   obtain⟨t,rfl,-⟩:=B02.mp hb
   rw[ZB,ZB,B7w]
   show A1o (bare0::t) (u::s')=false
   obtain⟨⟨n,hn,rfl⟩,_⟩:=C18.mp hu
   have h1:=E5e hs hD hn
   have b1:=hD.bd _ (J1 (l:=D) (Z20 n hD.pos))
   have hk:ku (Q9 D n)<ku bare0:= by
    have e:ku bare0=1000000:=rfl
    rw[e]
    unfold ku Q9
    simp only
    generalize D[n % D.length]! = x at *
    generalize n / D.length=a at *
    rw[if_neg (by omega)]
    omega
   unfold A1o
   rw[if_neg (by omega),decide_eq_false (by omega)]
def C7w (s:PaShow) (D:List Int) (q:List PaUse) (u:PaUse):Prop:=T7 s.Gowns s.Figures[q.length]! u=0∧A9i q u=false∧(u.Gown = -1∨u.Day∈D)
theorem D7d {s:PaShow} (hs:ShOk s) {D:List Int} (hD:DyOk D) {q:List PaUse} {u:PaUse}:(u=bare0∨u∈cand s D q)↔C7w s D q u:= by
 unfold C7w
 constructor
 ·rintro (rfl|h)
  ·exact⟨X1.mpr (.inl Z),Z,.inl Z⟩
  ·obtain⟨⟨n,hn,rfl⟩,h2⟩:=C18.mp h
   unfold okU at h2
   rw[Zc,beq_iff_eq,Bool.not_eq_true']at h2
   exact⟨h2.1,h2.2,.inr (J1 (Z20 n hD.pos))⟩
 ·rintro⟨h1,h2,h3⟩
  rcases X1.mp h1 with e|e
  ·exact .inl e
  ·right
   have hlo:=e.lo
   have hhi:=e.hi
   obtain⟨k,hk,hkd⟩:=A40 (h3.resolve_left (by omega))
   have hh:0≤u.How∧u.How≤2:= by
    rcases form1 e.form with h|⟨_,h|h⟩ <;> omega
   refine C18.mpr ⟨⟨(u.Gown.toNat*3+u.How.toNat)*D.length+k,?_,?_⟩,?_⟩
   ·unfold nU
    have:(u.Gown.toNat*3+u.How.toNat)*D.length+D.length≤s.Gowns.length*3*D.length:= by
     rw[← Z1m]
     exact ZQ _ (by omega)
    omega
   ·have d1:((u.Gown.toNat*3+u.How.toNat)*D.length+k) / D.length=u.Gown.toNat*3+u.How.toNat:= by
     rw[Z1g,Z4e hD.pos,Z44 hk,Z1e]
    have d2:((u.Gown.toNat*3+u.How.toNat)*D.length+k) % D.length=k:= by
     rw[Z1g,Z5l,Z33 hk]
    unfold Q9
    rw[d1,d2,hkd]
    obtain⟨g,h,d⟩:=u
    simp only at hlo hhi hh ⊢
    congr 1
    ·omega
    ·omega
   ·unfold okU
    rw[h1,h2];rfl
theorem C6q {s:PaShow} (hs:ShOk s) {D:List Int} (hD:DyOk D):∀(r q:List PaUse),Ext s D q r↔∀ i,i<r.length→C7w s D (q++r.take i) r[i]!
 | [],q=>by unfold Ext;simp
 | u::r,q=>by
  unfold Ext
  rw[C6q hs hD r (q++[u]),D7d hs hD]
  constructor
  ·rintro⟨h1,h2⟩ i hi
   cases i with
   | zero=>simpa using h1
   | succ i =>
    have:=h2 i (by simpa using hi)
    rw[Z24,show q++u::r.take i=q++[u]++r.take i by simp]
    exact this
  ·intro h
   refine⟨by simpa using h 0 (by simp),fun i hi=>?_⟩
   have:=h (i+1) (by simpa using hi)
   rw[Z24,show q++u::r.take i=q++[u]++r.take i by simp]at this
   exact this
theorem B3o {s:PaShow} (hs:ShOk s) {D:List Int} (hD:DyOk D) {p:List PaUse}:p∈PL s D s.Figures.length []↔PlOk s p∧∀ x∈p,x.Gown = -1∨x.Day∈D:= by
 rw[B02]
 constructor
 ·rintro⟨r,e,hr,he⟩
  rw[Z06]at e
  rw[e]
  have h:=(C6q hs hD r []).mp he
  have h':∀i,i<r.length→T7 s.Gowns s.Figures[i]! r[i]! = 0∧twP r i=false∧(r[i]!.Gown = -1∨r[i]!.Day∈D):=fun i hi=>by
   have:=h i hi
   unfold C7w at this
   rw[Z06,ZD,Z1x (by omega)]at this
   exact this
  refine⟨⟨⟨hr,fun i hi=>(h' i hi).1⟩,fun i hi=>(h' i hi).2.1⟩,fun x hx=>?_⟩
  obtain⟨i,hi,rfl⟩:=A40 hx
  exact(h' i hi).2.2
 ·rintro⟨h1,h2⟩
  refine⟨p,Z,h1.u.len,(C6q hs hD p []).mpr fun i hi=>?_⟩
  unfold C7w
  rw[Z06,ZD,Z1x (by omega)]
  exact⟨h1.u.use i hi,h1.tw i hi,h2 _ (J1 hi)⟩
theorem C6d {s:PaShow} (hs:ShOk s):∀p∈PL s (F4 s) s.Figures.length [],PlU s p:=fun _ hp=>((B3o hs (A3u hs)).mp hp).1.u
structure Pay (s:PaShow) (p:List PaUse):Prop where
 ok:PlOk s p
 left:∀d,0≤d→0≤I1 s p d
theorem A2z {s:PaShow} (hs:ShOk s) {p:List PaUse} (h:PlU s p):(I2 s p).1=0↔∀ d,0≤d→0≤I1 s p d:= by
 obtain⟨a1,a2,a3,_⟩:=A4c s p
 constructor
 ·intro hz d hd
  refine Int.not_lt.mp fun hc=>?_
  obtain⟨y,hy,hyd,hyn⟩:=C7b hs h hc
  have:=a2 y hy hyn
  omega
 ·intro hp
  rcases a3 with e|⟨y,hy,hyn,_⟩
  ·exact e
  ·have:=hp y.2 (V2 hs h y hy).2.1
   omega
theorem A7x {s:PaShow} (hs:ShOk s) {p:List PaUse}:p∈PA s↔Pay s p∧∀ x∈p,x.Gown = -1∨x.Day∈F4 s:= by
 unfold PA B6h
 rw[Z0a,B3o hs (A3u hs)]
 have key:PlOk s p→((!decide ((I2 s p).1>0))=true↔∀ d,0≤d→0≤I1 s p d):=fun h=>by
  rw[← A2z hs h.u]
  have:=(A4c s p).1
  simp;omega
 constructor
 ·rintro⟨⟨h1,h2⟩,h3⟩;exact⟨⟨h1,(key h1).mp h3⟩,h2⟩
 ·rintro⟨⟨h1,h3⟩,h2⟩;exact⟨⟨h1,h2⟩,(key h1).mpr h3⟩
def C10 (d:Int) (a z:Int):Int:=if z≤d∧a<z then z else a
def A95 (D:List Int) (d:Int):Int:=D.foldl (C10 d) 0
theorem C65 (d:Int):∀(D:List Int) (a:Int),a≤d→a≤D.foldl (C10 d) a∧D.foldl (C10 d) a≤d∧(D.foldl (C10 d) a=a∨D.foldl (C10 d) a∈D)∧∀ z∈D,z≤d→z≤D.foldl (C10 d) a
 | [],a,h=>⟨Z02 _,h,.inl Z,by simp⟩
 | x::D,a,h=>by
  rw[Z09]
  have hs:C10 d a x=if x≤d∧a<x then x else a:=rfl
  by_cases c:x≤d∧a<x
  ·rw[hs,if_pos c]
   obtain⟨h1,h2,h3,h4⟩:=C65 d D x c.1
   refine⟨by omega,h2,?_,fun z hz hzd=>?_⟩
   ·rcases h3 with e|e
    ·rw[e];exact .inr (Zy ..)
    ·exact .inr (Zx _ e)
   ·rcases Zu.mp hz with rfl|hz
    ·exact h1
    ·exact h4 z hz hzd
  ·rw[hs,if_neg c]
   obtain⟨h1,h2,h3,h4⟩:=C65 d D a h
   refine⟨h1,h2,?_,fun z hz hzd=>?_⟩
   ·rcases h3 with e|e
    ·exact .inl e
    ·exact .inr (Zx _ e)
   ·rcases Zu.mp hz with rfl|hz
    ·have:z≤a:= by
      by_cases hc:a<z
      ·exact absurd ⟨hzd,hc⟩ c
      ·omega
     omega
    ·exact h4 z hz hzd
theorem B7v {D:List Int} (h0:(0:Int)∈D) {d:Int} (hd:0≤d):0≤A95 D d∧A95 D d≤d∧A95 D d∈D∧∀ z∈D,z≤d→z≤A95 D d:= by
 obtain⟨h1,h2,h3,h4⟩:=C65 d D 0 hd
 refine⟨h1,h2,?_,h4⟩
 rcases h3 with e|e
 ·unfold A95;rw[e];exact h0
 ·exact e
def nuU (D:List Int) (x:PaUse):PaUse:=if x.Gown ≠ -1∧x.How=1 then ⟨x.Gown,x.How,A95 D x.Day⟩ else x
theorem B3p (D:List Int) (x:PaUse):(nuU D x).Gown=x.Gown:= by unfold nuU;split <;> rfl
theorem D17 {g:PaGown} (h:GwOk g) {a b:Int} (ha:a≤b):price g a≤price g b:= by
 unfold price
 have:=Int.mul_le_mul_of_nonneg_left (show 1+(g.Ago+a) / 30≤1+(g.Ago+b) / 30 by omega) h.rate.1
 omega
theorem B7z {G:List PaGown} (hG:∀g∈G,GwOk g) {y:PaFigure} (hy:FgOk y) {D:List Int} (hD:(0:Int)∈D) {x:PaUse} (h:T7 G y x=0) :
  T7 G y (nuU D x)=0∧((nuU D x).Gown = -1∨(nuU D x).Day∈D)∧ku (nuU D x)≤ku x∧(A1v G y (nuU D x)).1≤(A1v G y x).1 ∧
   ∀ e E,(x.How=1→A95 D x.Day≤e→x.Day≤E)→e≤E→(A1v G y (nuU D x)).2≤e→(A1v G y x).2≤E:= by
 by_cases c:x.Gown ≠ -1∧x.How=1
 ·have e:nuU D x=⟨x.Gown,x.How,A95 D x.Day⟩:=if_pos c
  rcases X1.mp h with h' | h'
  ·rw[h']at c;exact absurd Z c.1
  ·have hd:0≤x.Day∧x.Day≤364:= by
    rcases form1 h'.form with q|⟨_,q|q⟩ <;> omega
   obtain⟨l1,l2,l3,l4⟩:=B7v hD hd.1
   have hpw:G[x.Gown.toNat]!.Pawn=true:= by
    rcases form1 h'.form with q|q
    ·omega
    ·exact q.1
   have hlate:=h'.late
   unfold B36 at hlate
   rw[c.2]at hlate
   simp at hlate
   have hlo:=h'.lo
   have hhi:=h'.hi
   have hgw:=hG _ (J1 (l:=G) (i:=x.Gown.toNat) (by omega))
   have hpay:A1v G y x=(price G[x.Gown.toNat]! x.Day,x.Day):= by
    unfold A1v;rw[if_neg c.1,if_pos c.2]
   have hpay2:A1v G y (nuU D x)=(price G[x.Gown.toNat]! (A95 D x.Day),A95 D x.Day):= by
    rw[e];unfold A1v;simp only;rw[if_neg c.1,if_pos c.2]
   refine⟨X1.mpr (.inr ?_),.inr (by rw[e];exact l3),?_,?_,?_⟩
   ·rw[e]
    refine⟨hlo,hhi,?_,?_,h'.look⟩
    ·unfold A90
     simp only
     rw[hpw,c.2,P6.mpr ⟨l1,by omega⟩];rfl
    ·unfold B36
     simp only
     rw[c.2]
     simp
     omega
   ·rw[e];unfold ku;simp only;split <;> omega
   ·rw[hpay,hpay2];exact D17 hgw l2
   ·intro e' E h1 h2 h3
    rw[hpay2]at h3
    rw[hpay]
    exact h1 c.2 h3
 ·have e:nuU D x=x:=if_neg c
  rw[e]
  refine⟨h,?_,Z02 _,Z02 _,?_⟩
  ·rcases X1.mp h with h' | h'
   ·left;rw[h'];rfl
   ·right
    have hlo:=h'.lo
    have:x.Day=0:= by
     rcases form1 h'.form with q|⟨_,q|q⟩
     ·exact q.2.2
     ·exact q.2
     ·exact absurd ⟨by omega,q.1⟩ c
    rw[this];exact hD
  ·intro e' E _ h2 h3;omega
theorem D4m {s:PaShow} (hs:ShOk s) {p:List PaUse} (h:PlU s p):∀z∈s.Figures.zip p,FgOk z.1∧T7 s.Gowns z.1 z.2=0∧z.2∈p:= by
 intro z hz
 obtain⟨i,hi,e⟩:=ZX.mp hz
 rw[Z49]at e
 rw[Z4i]at hi
 subst e
 have hip:i<p.length:= by omega
 have hif:i<s.Figures.length:= by omega
 refine⟨hs.figure _ (Z22 hif),?_,Z22 hip⟩
 have:=h.use i hip
 rwa [getElem!_pos s.Figures i hif,getElem!_pos p i hip]at this
theorem B9r {α β γ:Type} (f:α→β→γ):∀(l:List α) (m:List β),List.zipWith f l m=(l.zip m).map fun z=>f z.1 z.2
 | [],_=>by simp
 | _::_,[]=>by simp
 | a::l,b::m=>by simp[B9r f l m]
theorem D4l {α β:Type} (g:β→β):∀(l:List α) (m:List β),l.zip (m.map g)=(l.zip m).map fun z=>(z.1,g z.2)
 | [],_=>by simp
 | _::_,[]=>by simp
 | a::l,b::m=>by simp[D4l g l m]
theorem C2s (s:PaShow) (p:List PaUse):pays s p=(s.Figures.zip p).map fun z=>A1v s.Gowns z.1 z.2:=B9r _ _ _
theorem D38 (s:PaShow) (D:List Int) (p:List PaUse):pays s (p.map (nuU D))=(s.Figures.zip p).map fun z=>A1v s.Gowns z.1 (nuU D z.2):= by
 rw[C2s,D4l,Z1f];rfl
theorem C11 (D:List Int) (e:Int) (he:0≤e) (h0:(0:Int)∈D):∀q:List PaUse,∃ E,e≤E∧A95 D E≤e∧∀ x∈q,A95 D x.Day≤e→x.Day≤E
 | []=>⟨e,Z02 _,(B7v h0 he).2.1,by simp⟩
 | x::q=>by
  obtain⟨E,h1,h2,h3⟩:=C11 D e he h0 q
  by_cases c:A95 D x.Day≤e∧E<x.Day
  ·refine⟨x.Day,by omega,c.1,fun z hz hzd=>?_⟩
   rcases Zu.mp hz with rfl|hz
   ·exact Z02 _
   ·have:=h3 z hz hzd;omega
  ·refine⟨E,h1,h2,fun z hz hzd=>?_⟩
   rcases Zu.mp hz with rfl|hz
   ·by_cases hc:E<z.Day
    ·exact absurd ⟨hzd,hc⟩ c
    ·omega
   ·exact h3 z hz hzd
theorem D9n {f:PaUse→PaUse} (hf:∀x,(f x).Gown=x.Gown) {p:List PaUse} {i:Nat} (hi:i<p.length):twP (p.map f) i=twP p i:= by
 unfold twP
 rw[getElem!_pos (p.map f) i (by simpa using hi),Z47,hf,← List.map_take,List.any_map,getElem!_pos p i hi]
 congr 2
 funext x
 show ((f x).Gown==_)=_
 rw[hf]
theorem E26 {s:PaShow} (hs:ShOk s) {q:List PaUse} (h:PlU s q):PlU s (q.map (nuU (F4 s))):= by
 refine⟨by rw[Zi];exact h.len,fun i hi=>?_⟩
 rw[Zi]at hi
 have:=h.len
 rw[getElem!_pos (q.map _) i (by simpa using hi),Z47,← getElem!_pos q i hi]
 exact(B7z hs.gown (hs.figure _ (J1 (by omega))) (A3u hs).zero (h.use i hi)).1
theorem D3z {s:PaShow} (hs:ShOk s) {q:List PaUse} (h:PlU s q) {e:Int} (he:0≤e):∃E,e≤E∧I1 s q E≤I1 s (q.map (nuU (F4 s))) e:= by
 have h0:=(A3u hs).zero
 obtain⟨E,h1,h2,h3⟩:=C11 (F4 s) e he h0 q
 refine⟨E,h1,?_⟩
 have hinc:O4 (incs s) E=O4 (incs s) e:= by
  unfold O4
  refine congrArg sm (Z25 fun z hz=>?_)
  have hzD:z.2∈F4 s:= by
   obtain⟨x,hx,rfl⟩:=ZK.mp hz
   exact(B28 hs _).mpr (.inr ⟨x,hx,Z⟩)
  by_cases c:z.2≤E
  ·have:=(B7v h0 (by omega:0≤E)).2.2.2 z.2 hzD c
   rw[if_pos c,if_pos (by omega)]
  ·rw[if_neg c,if_neg (by omega)]
 have hpay:O4 (pays s (q.map (nuU (F4 s)))) e≤O4 (pays s q) E:= by
  rw[D38,C2s]
  unfold O4
  rw[Z1f,Z1f]
  refine D0k fun z hz=>?_
  obtain⟨hy,hu,hm⟩:=D4m hs h z hz
  obtain⟨_,_,_,n4,n5⟩:=B7z hs.gown hy h0 hu
  have hb:=(D13 hs.gown hy hu).1.1
  simp only[Function.comp]
  by_cases c:(A1v s.Gowns z.1 (nuU (F4 s) z.2)).2≤e
  ·rw[if_pos c,if_pos (n5 e E (fun _=>h3 z.2 hm) h1 c)]
   exact n4
  ·rw[if_neg c];split <;> omega
 unfold I1
 omega
theorem C2b {s:PaShow} (hs:ShOk s) {q:List PaUse} (h:Pay s q):q.map (nuU (F4 s))∈PA s∧F5 (q.map (nuU (F4 s)))=F5 q∧P4 s (q.map (nuU (F4 s)))≤P4 s q∧A1o q (q.map (nuU (F4 s)))=false:= by
 have h0:=(A3u hs).zero
 have hall:∀x∈q,∃ y,FgOk y∧T7 s.Gowns y x=0:=fun x hx=>by
  obtain⟨i,hi,rfl⟩:=A40 hx
  have:=h.ok.u.len
  exact⟨_,hs.figure _ (J1 (by omega)),h.ok.u.use i hi⟩
 refine⟨(A7x hs).mpr ⟨⟨⟨E26 hs h.ok.u,fun i hi=>?_⟩,fun d hd=>?_⟩,fun x hx=>?_⟩,?_,?_,?_⟩
 ·rw[Zi]at hi
  rw[D9n (B3p _) hi];exact h.ok.tw i hi
 ·obtain⟨E,h1,h2⟩:=D3z hs h.ok.u hd
  have:=h.left E (by omega)
  omega
 ·obtain⟨z,hz,e⟩:=ZK.mp hx
  obtain⟨y,hy,hu⟩:=hall z hz
  rw[← e]
  exact(B7z hs.gown hy h0 hu).2.1
 ·unfold F5
  rw[Z1f]
  refine congrArg sm (Z25 fun x _=>?_)
  simp only[Function.comp,B3p]
 ·unfold P4
  rw[D38,C2s,Z1f,Z1f]
  refine D0k fun z hz=>?_
  obtain⟨hy,hu,_⟩:=D4m hs h.ok.u z hz
  exact(B7z hs.gown hy h0 hu).2.2.2.1
 ·refine C5i _ _ fun x hx=>?_
  obtain⟨y,hy,hu⟩:=hall x hx
  exact(B7z hs.gown hy h0 hu).2.2.1
theorem C02 {s:PaShow} (hs:ShOk s):Pay s (Zv s.Figures.length bare0)∧∀ x∈Zv s.Figures.length bare0,x.Gown = -1∨x.Day∈F4 s:= by
 have hget:∀i,i<s.Figures.length→(Zv s.Figures.length bare0)[i]! = bare0:=fun i hi=>by
  rw[getElem!_pos _ i (by simpa using hi),List.getElem_replicate]
 have hu:PlU s (Zv s.Figures.length bare0):=⟨by simp,fun i hi=>by
  rw[Z1y]at hi
  rw[hget i hi];exact X1.mpr (.inl Z)⟩
 refine⟨⟨⟨hu,fun i hi=>?_⟩,fun d hd=>?_⟩,fun x hx=>?_⟩
 ·rw[Z1y]at hi
  unfold twP
  rw[hget i hi];rfl
 ·have h1:O4 (pays s (Zv s.Figures.length bare0)) d=0:= by
   unfold O4
   refine C0s fun x hx=>?_
   obtain⟨i,hi,rfl⟩:=A40 hx
   rw[L3 hu]at hi
   rw[A42 hu hi,hget i (by simpa using hi)]
   show (if (0:Int)≤d then (0:Int) else 0)=0
   split <;> rfl
  have h2:=(A21 (fun x hx=>(Y5 hs x hx).1) d).1
  have h3:=hs.purse
  unfold I1
  omega
 ·rw[(List.mem_replicate.mp hx).2];exact .inl Z
theorem A6j {s:PaShow} (hs:ShOk s) {p:List PaUse} (h:PlU s p):0≤P4 s p∧P4 s p≤300000:= by
 have:=B99 hs h (pays s p).length
 rwa [Z0n]at this
theorem A7h {s:PaShow} (hs:ShOk s):∃b,fm (A33 s) (PA s)=some b∧Pay s b∧(∀ q,Pay s q→A33 s b≤A33 s q)∧∀ q,Pay s q→A33 s q=A33 s b→A1o q b=false:= by
 obtain⟨b,hb⟩:=C6t (k:=A33 s) ((A7x hs).mpr (C02 hs))
 have hbp:=((A7x hs).mp (B4r hb)).1
 have hkey:∀q,Pay s q→A33 s (q.map (nuU (F4 s)))≤A33 s q:=fun q hq=>by
  obtain⟨_,h2,h3,_⟩:=C2b hs hq
  unfold A33
  omega
 refine⟨b,hb,hbp,fun q hq=>Z5y (D26 hb (C2b hs hq).1) (hkey q hq),fun q hq he=>?_⟩
 obtain⟨h1,h2,h3,h4⟩:=C2b hs hq
 have hle:=D26 hb h1
 have hle2:=hkey q hq
 have e:A33 s (q.map (nuU (F4 s)))=A33 s b:= by omega
 have hb2:A1o (q.map (nuU (F4 s))) b=false:= by
  obtain⟨-,A,B,hAL,h5⟩:=C0c hb
  have hp:(PA s).Pairwise fun a b=>A1o b a=false:=(C6c hs (A3u hs) _ _).filter _
  rw[hAL]at hp h1
  rcases ZA.mp h1 with h1|h1
  ·have:=h5 _ h1;omega
  ·rcases Zu.mp h1 with h1|h1
   ·rw[h1];exact C12 _
   ·exact(Z1j.mp (Z0x.mp hp).2.1).1 _ h1
 have l1:=hq.ok.u.len
 have l2:=hbp.ok.u.len
 exact B80 _ _ _ (by simp) (by simp;omega) h4 hb2
theorem D7p {s:PaShow} (hs:ShOk s) {p q:List PaUse} (hp:PlU s p) (hq:PlU s q):A33 s p<A33 s q↔F5 p<F5 q∨(F5 p=F5 q∧P4 s p<P4 s q):= by
 have h1:=A6j hs hp
 have h2:=A6j hs hq
 unfold A33
 omega
theorem D6q {s:PaShow} (hs:ShOk s):∀p∈PA s,∀ q∈PA s,∃ r,A6n (fdP s p) (fdP s q)=some r∧(r<0↔A33 s p<A33 s q):= by
 intro p hp q hq
 have hp':=((A7x hs).mp hp).1.ok.u
 have hq':=((A7x hs).mp hq).1.ok.u
 have h1:=A6j hs hp'
 have h2:=A6j hs hq'
 have h3:=A31 p
 have h4:=A31 q
 have h5:=hp'.len
 have h6:=hq'.len
 have h7:=hs.figures
 refine⟨if F5 p-F5 q=0 then P4 s p-P4 s q else F5 p-F5 q,?_,?_⟩
 ·unfold A6n fdP
  simp only
  rw[D6 (by omega),D6 (by omega),or2]
  rfl
 ·rw[D7p hs hp' hq']
  split <;> omega
theorem B5f (s:PaShow) (hb:NB s):S3 s=some (if (chk s).2.2=0 then (match fm (A33 s) (PA s) with|some b=>(b,F5 b,P4 s b,0)|none=>([],0,0,0)) else ([],0,0,(chk s).2.2)):= by
 unfold S3
 rw[A7r s hb]
 simp only[Zd]
 by_cases h:(chk s).2.2=0
 ·have hs:=(O9 s).mp h
  simp only[h,if_true,BEq.rfl]
  rw[C6i (k:=A33 s) (L:=PA s) (F:=fdP s) (fun σ ρ body st X hX=>C2r hs (C6d hs) body hX) (D6q hs)]
  cases fm (A33 s) (PA s) <;> rfl
 ·rw[if_neg h,if_neg (by simpa using h),if_neg h]
end Pw
end
section
set_option maxRecDepth 100000
set_option maxHeartbeats 0
namespace Pw
open Go Am Go.Proofs.YtjpjdglddmhplaaGreat.Cd
def A2u (a0:PaShow) (a1:(List PaUse)):Option Bool :=
 (A2b a0 a1).bind fun x1 =>
 some (decide (x1.1≥0))
theorem A69 {c:Sc} {H:A2} {a0:PaShow} {a1:(List PaUse)} {r:Bool} (h:A2u a0 a1=some r) :
  F0 tab c H (.fn (.func 35) [] []) [(.agg (A9 a0)),(.seq 3 (Zg A6 a1))] [.b r]:= by
 unfold A2u at h
 refine cE Z Z<|sg 0 Z<|A0 (G1 (cs:=A9 a0) Z Z Z) Z<|qm Z<|es (ra2 Z Z)<|s0<|oB h fun x1 hx1 h=>A0 (C9 Z Z Z) Z<|qm Z<|B2 (rs:=[.i x1.1,.i x1.2]) Z Z (A1 (D0 Z) (A1 Z B3)) ((A73 hx1).frz)<|qm Z<|A0 (A7 Z Z) Z<|A0 (A7 Z Z) Z<|qm Z<|qm Z<|es (ra1 Z)<|s0<|qm Z<|A0 (A8p Z Z) Z<|qm Z<|es (ra1 Z)<|C6 ?_
 obtain rfl:=os h
 exact retq trivial (A8 Z B6) (A5 Z B5) (A3 A4 B1)
def A0m (a0:(List PaUse)) (s1:(Int×Int)):Option ((Int×Int)⊕Int) :=
 if (decide (s1.2<(Zh a0:Int)))=true then
  (idx a0 s1.2).bind fun x4 =>
  if (x4.Gown==(-1))=true then
  some (.inl ((w64 (s1.1+1)),(w64 (s1.2+1))))
  else
  some (.inl (s1.1,(w64 (s1.2+1))))
 else
  some (.inr s1.1)
def O1 (a0:(List PaUse)):Option Int :=
 (loop (A0m a0) (0,0)).bind fun (o6:Int) =>
 some o6
theorem Q0 {c:Sc} {H:A2} {a0:(List PaUse)} {r:Int} (h:O1 a0=some r) :
  F0 tab c H (.fn (.func 36) [] []) [(.seq 3 (Zg A6 a0))] [.i r]:= by
 unfold O1 at h
 refine cE Z Z<|s0<|qm Z<|es (ra1 Z)<|s0<|qm Z<|es (ra2 Z Z)<|B9<|s0<|qm Z<|es (ra3 Z Z Z)<|C5<|oB h fun o6 ho6 h=>wl (fun s1=>[(0,(.seq 3 (Zg A6 a0))),(3,.i s1.1),(4,.i s1.2)]) (fun (q2:Unit) s1=>[]) 0 (fun r e s' H'=>PX 0 [(3,.i r)] (H++[]) e s' H') () ho6 Z Z (fun _ _=>rfl) (fun _=>rfl) Z (fun s1=>(bdc G6 (bdc A4 (bdc A4 bdn)))) (fun q2 s1 ys1 hs1=>?_) ?_
 ·unfold A0m at hs1
  refine B9<|s0<|qm Z<|qm Z<|A0 (F2 (f:=A6) Z) Z<|A0 (I3 Z Z) Z<|es (ra4 Z Z Z Z)<|wi hs1 Z (fun hc3 hs1=>?_) fun hc3 hs1=>?_
  ·refine B8<|B9<|C5<|s0<|oB hs1 fun x4 hx4 hs1=>qm Z<|qm Z<|A0 (D4 (f:=A6) Z Z hx4) Z<|A0 (R1 (ds:=(A6 x4)) Z Z) Z<|A0 (G2 Z Z) Z<|A0 (F9 Z Z) Z<|es (ra4 Z Z Z Z)<|wi hs1 Z (fun hc5 hs1=>?_) fun hc5 hs1=>?_
   ·refine r0<|qm Z<|A0 (D8 Z Z) Z<|qm Z<|en (ra3 Z Z Z)<|r0<|qm Z<|A0 (D8 Z Z) Z<|qm Z<|en (ra3 Z Z Z) ?_
    cases hs1
    exact lnT () Z (su3 Z Z Z)
   ·refine B8<|r0<|qm Z<|A0 (D8 Z Z) Z<|qm Z<|en (ra3 Z Z Z) ?_
    cases hs1
    exact lnT () Z (su3 Z Z Z)
  ·refine G5 ?_
   obtain rfl:=os hs1
   exact lx Z px (su1 Z)
 ·rintro e s' H'-⟨rfl,rfl,rfl⟩
  refine s0<|qm Z<|qm Z<|es (ra1 Z)<|C6 ?_
  obtain rfl:=os h
  exact retq trivial (A8 Z B6) (A5 Z B5) (A3 A4 B1)
end Pw
end
section
namespace Pw
open Go Am
theorem B1c {s:PaShow} (hs:ShOk s) {p:List PaUse} (h:PlU s p):A2u s p=some (decide ((I2 s p).1=0)):= by
 unfold A2u
 rw[B1d hs h]
 simp only[Zd]
 have:=(A9a hs h).2.2.1
 rw[Option.some_inj,Z0c,decide_eq_true_eq,decide_eq_true_eq,this]
theorem Q7 {p:List PaUse} (hl:p.length≤100):O1 p=some (F5 p):= by
 unfold O1
 have e1:loop (A0m p) (0,0)=some (F5 p):= by
  refine X9 p (fun a (x:PaUse)=>a+if x.Gown = -1 then 1 else 0) 0 (fun i t=>(t,(i:Int))) (by omega) (fun i hi=>?_) ?_
  ·have hb:=A31 (p.take i)
   rw[ZD]at hb
   rw[A27,show sm ((p.take i).map fun x=>if x.Gown = -1 then 1 else 0)=F5 (p.take i) from Z,Z55]
   unfold A0m
   simp only[]
   rw[if_pos (by simpa using hi),G9 hi]
   simp only[Zd]
   rw[D6 (n:=(i:Int)+1) (by omega),D6 (by omega)]
   by_cases h:p[i]!.Gown = -1
   ·rw[if_pos (by rw[h];rfl),if_pos h];rfl
   ·rw[if_neg (by rw[beq_iff_eq];exact h),if_neg h,Z3l];rfl
  ·unfold A0m
   simp only[]
   rw[if_neg (by simp),A27,Z55];rfl
 rw[e1];rfl
section
variable {α σ ρ:Type}
end
theorem A9z {α β:Type} {f:α→List β} {k:Nat}:∀{l:List α},(∀ x∈l,(f x).length≤k)→(l.flatMap f).length≤l.length*k
 | [],_=>by simp
 | x::l,h=>by
  have h1:=h x (Zy ..)
  have h2:=A9z (l:=l) fun y hy=>h y (Zx _ hy)
  rw[Z0l,Zo,ZT,Z1m]
  omega
theorem C6b (s:PaShow) (D:List Int):∀(d:Nat) (q:List PaUse),(PL s D d q).length≤(nU s D+1) ^ d
 | 0,q=>by unfold PL;simp
 | d+1,q=>by
  unfold PL
  have hc:(cand s D q).length≤nU s D:= by
   unfold cand
   refine Z01 (Z1k _ _) ?_
   rw[Zi,Z1q]
   exact Zn _
  have h1:=A9z (f:=fun u=>PL s D d (q++[u])) (k:=(nU s D+1) ^ d) (l:=cand s D q) fun u _=>C6b s D d _
  have h2:=C6b s D d (q++[bare0])
  have h3:=ZQ ((nU s D+1) ^ d) hc
  rw[Zo,Nat.pow_succ,Z1g,Z1m]
  generalize (nU s D+1) ^ d=k at *
  omega
section
end
structure MetI (w:Int) (l:List (List PaUse)) (m:Met):Prop where
 len:m.length≤l.length
 of:∀e∈m,∃ p∈l,F5 p=w∧A8o p=e.1
 all:∀p∈l,F5 p=w→∃ e∈m,e.1=A8o p
def U7 (s:PaShow):Int:=match fm (A33 s) (PA s) with|some b=>F5 b|none=>0
theorem A1z {s:PaShow} (hs:ShOk s):(∀ q,Pay s q→U7 s≤F5 q)∧∃ b,fm (A33 s) (PA s)=some b∧Pay s b∧F5 b=U7 s:= by
 obtain⟨b,e,hb,hmin,_⟩:=A7h hs
 have hf:U7 s=F5 b:= by unfold U7;rw[e]
 refine⟨fun q hq=>?_,b,e,hb,hf.symm⟩
 have h1:=hmin q hq
 have h2:=A6j hs hb.ok.u
 have h3:=A6j hs hq.ok.u
 unfold A33 at h1
 omega
def NT (a b:PaUse):Prop:=a.Gown = -1∨b.Gown = -1∨a.Gown≠b.Gown
theorem NT.symm {a b:PaUse} (h:NT a b):NT b a:= by
 rcases h with h|h|h
 ·exact .inr (.inl h)
 ·exact .inl h
 ·exact .inr (.inr (Ne.symm h))
theorem D9m (p:List PaUse):(∀ i,i<p.length→twP p i=false)↔p.Pairwise NT:= by
 rw[Z0e]
 constructor
 ·intro h i j hi hj hij
  have:=h j hj
  unfold twP at this
  rw[getElem!_pos p j hj]at this
  unfold NT
  by_cases c:p[j].Gown = -1
  ·exact .inr (.inl c)
  ·right;right
   rw[show (p[j].Gown != -1)=true from bne_iff_ne.mpr c,Z1h,Z3z]at this
   have:=this p[i] (by rw[Z0f];exact⟨i,by omega,Z⟩)
   simpa using this
 ·intro h j hj
  unfold twP
  rw[getElem!_pos p j hj]
  by_cases c:p[j].Gown = -1
  ·rw[show (p[j].Gown != -1)=false by rw[c];rfl];rfl
  ·rw[show (p[j].Gown != -1)=true from bne_iff_ne.mpr c,Z1h,Z3z]
   intro x hx
   rw[Z0f]at hx
   obtain⟨i,hi,rfl⟩:=hx
   have:=h i j (by omega) hj (by omega)
   unfold NT at this
   rw[beq_iff_eq]
   omega
theorem D39 {s:PaShow} {p:List PaUse}:PlU s p↔p.length=s.Figures.length∧∀ z∈s.Figures.zip p,T7 s.Gowns z.1 z.2=0:= by
 constructor
 ·intro h
  refine⟨h.len,fun z hz=>?_⟩
  obtain⟨i,hi,e⟩:=ZX.mp hz
  rw[Z49]at e
  rw[Z4i]at hi
  subst e
  have:=h.use i (by omega)
  rwa [getElem!_pos s.Figures i (by omega),getElem!_pos p i (by omega)]at this
 ·rintro⟨h1,h2⟩
  refine⟨h1,fun i hi=>?_⟩
  rw[getElem!_pos s.Figures i (by omega),getElem!_pos p i hi]
  exact h2 _ (ZX.mpr ⟨i,by rw[Z4i];omega,by rw[Z49]⟩)
theorem B0d {s:PaShow} {p:List PaUse}:PlOk s p↔p.length=s.Figures.length∧(∀ z∈s.Figures.zip p,T7 s.Gowns z.1 z.2=0)∧p.Pairwise NT:= by
 constructor
 ·intro h
  obtain⟨h1,h2⟩:=D39.mp h.u
  exact⟨h1,h2,(D9m p).mp h.tw⟩
 ·rintro⟨h1,h2,h3⟩
  exact⟨D39.mpr ⟨h1,h2⟩,(D9m p).mpr h3⟩
end Pw
end
section
set_option maxRecDepth 100000
set_option maxHeartbeats 0
namespace Pw
open Go Am Go.Proofs.YtjpjdglddmhplaaGreat.Cd
def A44 (a0:(List Int)) (a1:Int) (s1:Int):Option (Int⊕(Bool⊕Unit)) :=
 if (decide (s1<(Zh a0:Int)))=true then
  (idx a0 s1).bind fun x4 =>
  if (x4==a1)=true then
  some (.inr (.inl true))
  else
  some (.inl (w64 (s1+1)))
 else
  some (.inr (.inr ()))
def A2t (a0:(List Int)) (a1:Int):Option Bool :=
 (loop (A44 a0 a1) 0).bind fun (o6:(Bool⊕Unit)) =>
 match o6 with
 | (.inl vo6_0) =>
  some vo6_0
 | (.inr vo6_1) =>
  some false
theorem A41 {c:Sc} {H:A2} {a0:(List Int)} {a1:Int} {r:Bool} (h:A2t a0 a1=some r) :
  F0 tab c H (.fn (.func 40) [] []) [(.seq 1 (Zg cI a0)),.i a1] [.b r]:= by
 unfold A2t at h
 refine cE Z Z<|s0<|qm Z<|es (ra2 Z Z)<|B9<|s0<|qm Z<|es (ra3 Z Z Z)<|C5<|oB h fun o6 ho6 h=>wl (fun s1=>[(0,(.seq 1 (Zg cI a0))),(1,.i a1),(5,.i s1)]) (fun (q2:Unit) s1=>[]) 0 (fun r e s' H'=>(match r with|(.inl v)=>e=.ret∧RetQ H [.tmp 4] [.b v] e s' H' | (.inr v)=>PX 0 [] (H++[]) e s' H':Prop)) () ho6 Z Z (fun _ _=>rfl) (fun _=>rfl) Z (fun s1=>(bdc G6 (bdc A4 (bdc A4 bdn)))) (fun q2 s1 ys1 hs1=>?_) ?_
 ·unfold A44 at hs1
  refine B9<|s0<|qm Z<|qm Z<|A0 (F2 (f:=cI) Z) Z<|A0 (I3 Z Z) Z<|es (ra4 Z Z Z Z)<|wi hs1 Z (fun hc3 hs1=>?_) fun hc3 hs1=>?_
  ·refine B8<|B9<|C5<|s0<|oB hs1 fun x4 hx4 hs1=>qm Z<|qm Z<|A0 (D4 (f:=cI) Z Z hx4) Z<|A0 (G2 Z Z) Z<|qm Z<|A0 (F9 Z Z) Z<|es (ra4 Z Z Z Z)<|wi hs1 Z (fun hc5 hs1=>?_) fun hc5 hs1=>?_
   ·refine s0<|qm Z<|es (ra1 Z)<|C6 ?_
    obtain rfl:=os hs1
    exact lx Z (ZE Z (retq trivial (A8 Z B6) (A5 Z B5) (A3 A4 B1))) (Sub.refl _)
   ·refine B8<|r0<|qm Z<|A0 (D8 Z Z) Z<|qm Z<|en (ra3 Z Z Z) ?_
    cases hs1
    exact lnT () Z (su3 Z Z Z)
  ·refine G5 ?_
   obtain rfl:=os hs1
   exact lx Z px (.nil _)
 ·rcases o6 with vo6_0|vo6_1
  ·rintro e s' H'-⟨rfl,hret⟩
   cases h
   exact hret
  ·rintro e s' H'-⟨rfl,rfl,rfl⟩
   refine s0<|qm Z<|es (ra1 Z)<|C6 ?_
   obtain rfl:=os h
   exact retq trivial (A8 Z B6) (A5 Z B5) (A3 A4 B1)
end Pw
end
section
namespace Pw
open Go Am
theorem B63 {l:List Int} (hl:l.length<9223372036854775808) (x:Int):A2t l x=some (decide (x∈l)):= by
 unfold A2t
 obtain⟨o,ho,hc⟩:=C78 l (fun y=>y==x) (b:=A44 l x) hl (fun i hi=>by
  unfold A44
  rw[if_pos (by simpa using hi),G9 hi]
  simp only[Zd]
  cases l[i]! == x <;> rfl) (by
  unfold A44
  rw[if_neg (by simp)])
 have e:l.any (fun y=>y==x)=decide (x∈l):= by
  rw[Z0c,List.any_eq_true,decide_eq_true_eq]
  constructor
  ·rintro⟨y,h1,h2⟩;rw[beq_iff_eq]at h2;rwa [← h2]
  ·intro h;exact⟨x,h,by simp⟩
 rw[e]at hc
 rw[ho]
 rcases o with v|u
 ·rw[hc.2,hc.1];rfl
 ·rw[hc];rfl
section
variable {s:PaShow} {A B:List PaFigure} {y:PaFigure} {P1 P2:List PaUse} {u:PaUse}
end
theorem E0p {s:PaShow} (hs:ShOk s) {p:List PaUse} (h:PlU s p) {d:Int} (hn:I1 s p d<0):∃x∈pays s p,I1 s p x.2≤I1 s p d:= by
 have hi0:∀x∈incs s,0≤x.1:=fun x hx=>(Y5 hs x hx).1.1
 have hpu:=hs.purse
 by_cases he:∃x∈pays s p,x.2≤d
 ·obtain⟨x,hx,hd,hm⟩:=C84 he
  refine⟨x,hx,?_⟩
  have e:O4 (pays s p) d=O4 (pays s p) x.2:= by
   unfold O4
   refine congrArg sm (Z25 fun y hy=>?_)
   by_cases hy2:y.2≤d
   ·rw[if_pos hy2,if_pos (hm y hy hy2)]
   ·rw[if_neg hy2,if_neg (by omega)]
  have:=D4i hi0 hd
  unfold I1
  omega
 ·have e:O4 (pays s p) d=0:= by
   unfold O4
   exact C0s fun x hx=>if_neg fun hc=>he ⟨x,hx,hc⟩
  have:=(A21 (fun x hx=>(Y5 hs x hx).1) d).1
  unfold I1 at hn
  omega
theorem A8h {s:PaShow} (hs:ShOk s) {p:List PaUse} (h:PlU s p) {n:Int}:(I2 s p).1≤n↔0≤n∧∀ d,0≤d→-I1 s p d≤n:= by
 obtain⟨a1,a2,a3,_⟩:=A4c s p
 constructor
 ·intro hn
  refine⟨by omega,fun d hd=>?_⟩
  by_cases hc:I1 s p d<0
  ·obtain⟨y,hy,hyn⟩:=E0p hs h hc
   have:=a2 y hy (by omega)
   omega
  ·omega
 ·rintro⟨hn,hp⟩
  rcases a3 with e|⟨y,hy,hyn,e⟩
  ·omega
  ·have:=hp y.2 (V2 hs h y hy).2.1
   omega
theorem D8b {s:PaShow} (hs:ShOk s) {q:List PaUse} (h:PlU s q):(I2 s (q.map (nuU (F4 s)))).1≤(I2 s q).1:= by
 obtain⟨h1,h2⟩:=(A8h hs h).mp (Z02 _)
 refine(A8h hs (E26 hs h)).mpr ⟨h1,fun d hd=>?_⟩
 obtain⟨E,g1,g2⟩:=D3z hs h hd
 have:=h2 E (by omega)
 omega
theorem E5f {s:PaShow} (hs:ShOk s) {q:List PaUse} (h:PlOk s q):q.map (nuU (F4 s))∈PL s (F4 s) s.Figures.length []∧F5 (q.map (nuU (F4 s)))=F5 q:= by
 refine⟨(B3o hs (A3u hs)).mpr ⟨⟨E26 hs h.u,fun i hi=>?_⟩,fun x hx=>?_⟩,?_⟩
 ·rw[Zi]at hi
  rw[D9n (B3p _) hi];exact h.tw i hi
 ·obtain⟨z,hz,e⟩:=ZK.mp hx
  obtain⟨i,hi,e2⟩:=A40 hz
  have:=h.u.len
  rw[← e,← e2]
  exact(B7z hs.gown (hs.figure _ (J1 (by omega))) (A3u hs).zero (h.u.use i hi)).2.1
 ·unfold F5
  rw[Z1f]
  refine congrArg sm (Z25 fun x _=>?_)
  simp only[Function.comp,B3p]
theorem A8g {s:PaShow} (hs:ShOk s) {p:List PaUse} (h:PlU s p):0≤(I2 s p).1∧(I2 s p).1≤300000:=⟨(A4c s p).1,(A8h hs h).mpr ⟨by decide,fun d _=>by have:=B3k hs h d;omega⟩⟩
def B1n (s:PaShow):Int×Int:=match fm (D5b s) (PL s (F4 s) s.Figures.length []) with|some b=>(F5 b,(I2 s b).1)|none=>(1,0)
theorem A97 {s:PaShow} (hs:ShOk s):∃b,PlOk s b∧fm (D5b s) (PL s (F4 s) s.Figures.length [])=some b∧B1n s=(F5 b,(I2 s b).1)∧∀ q,PlOk s q→F5 b<F5 q∨(F5 b=F5 q∧(I2 s b).1≤(I2 s q).1):= by
 obtain⟨b,hb⟩:=C6t (k:=D5b s) ((B3o hs (A3u hs)).mpr ⟨(C02 hs).1.ok,(C02 hs).2⟩)
 have hbp:=((B3o hs (A3u hs)).mp (B4r hb)).1
 refine⟨b,hbp,hb,by unfold B1n;rw[hb],fun q hq=>?_⟩
 obtain⟨h1,h2⟩:=E5f hs hq
 have h3:=D8b hs hq.u
 have h4:=D26 hb h1
 have h5:=A8g hs hbp.u
 have h6:=A8g hs hq.u
 unfold D5b at h4
 omega
def C9c (s:PaShow):Int×Int:=if (B1n s).1>0∨(B1n s).2>10000 then (0,9) else if (B1n s).2=0 then (0,4) else ((B1n s).2,0)
theorem D2t (s:PaShow) (hb:NB s):A5w s=some (if (chk s).2.2=0 then C9c s else (0,(chk s).2.2)):= by
 unfold A5w
 rw[A7r s hb]
 simp only[Zd]
 by_cases h:(chk s).2.2=0
 ·have hs:=(O9 s).mp h
  simp only[h,if_true,BEq.rfl]
  rw[C6i (k:=D5b s) (L:=PL s (F4 s) s.Figures.length []) (F:=fdP s) (fun σ ρ body st X hX=>C75 hs (C6d hs) body hX) (fun p hp q hq=>by
   have h1:=C6d hs p hp
   have h2:=C6d hs q hq
   have h3:=A31 p
   have h4:=A31 q
   have h5:=h1.len
   have h6:=h2.len
   have h7:=A8g hs h1
   have h8:=A8g hs h2
   have h9:=hs.figures
   refine⟨if F5 p-F5 q=0 then (I2 s p).1-(I2 s q).1 else F5 p-F5 q,?_,?_⟩
   ·unfold A83 fdP
    simp only
    rw[D6 (by omega),D6 (by omega),or2]
    rfl
   ·unfold D5b
    split <;> omega)]
  obtain⟨b,_,e,hn,_⟩:=A97 hs
  rw[e]
  unfold C9c
  rw[hn]
  simp only[Zd,stO,fdP]
  by_cases c:F5 b>0∨(I2 s b).1>10000
  ·rw[if_pos c,if_pos (by simpa using c)]
  ·rw[if_neg c,if_neg (by simpa using c)]
   by_cases hz:(I2 s b).1=0
   ·rw[if_pos hz,if_pos (by simpa using hz)]
   ·rw[if_neg hz,if_neg (by simpa using hz)]
 ·rw[if_neg h,if_neg (by simpa using h),if_neg h]
def bcost (s:PaShow):Int:=match fm (A33 s) (PA s) with|some b=>P4 s b|none=>0
theorem C0t {s:PaShow} (hb:NB s) (hs:ShOk s):∃b,S3 s=some (b,U7 s,bcost s,0):= by
 obtain⟨b,e,_⟩:=A7h hs
 refine⟨b,?_⟩
 rw[B5f s hb,(O9 s).mpr hs]
 unfold U7 bcost
 rw[e];rfl
end Pw
end
section
set_option maxRecDepth 100000
set_option maxHeartbeats 0
namespace Pw
open Go Am Go.Proofs.YtjpjdglddmhplaaGreat.Cd
def A3r (a0:PaShow) (s1:(Int×(List Int))) (s4:(Int×(List Int))):Option ((Int×(List Int))⊕(List Int)) :=
 if (decide (s4.1<(Zh a0.Incomes:Int)))=true then
  (idx a0.Incomes s4.1).bind fun x7 =>
  (if (x7.Day==s1.1)=true then
  (A2t s4.2 s1.1).bind fun x9 =>
  some (!x9)
  else
  some false).bind fun x10 =>
  if x10=true then
  (app 8 s4.2 [s1.1]).bind fun x12 =>
  some (.inl ((w64 (s4.1+1)),x12))
  else
  some (.inl ((w64 (s4.1+1)),s4.2))
 else
  some (.inr s4.2)
def A3s (a0:PaShow) (s1:(Int×(List Int))):Option ((Int×(List Int))⊕(List Int)) :=
 if (decide (s1.1≤364))=true then
  (loop (A3r a0 s1) (0,s1.2)).bind fun (o13:(List Int)) =>
  some (.inl ((w64 (s1.1+1)),o13))
 else
  some (.inr s1.2)
def A8a (a0:PaShow):Option (List Int) :=
 (loop (A3s a0) (1,([0]:List Int))).bind fun (o15:(List Int)) =>
 some o15
theorem C33 {c:Sc} {H:A2} {a0:PaShow} {r:(List Int)} (h:A8a a0=some r) :
  F0 tab c H (.fn (.func 118) [] []) [(.agg (A9 a0))] [(.seq 1 (Zg cI r))]:= by
 unfold A8a at h
 refine cE Z Z<|sg 0 Z<|A0 (G1 (cs:=A9 a0) Z Z Z) Z<|qm Z<|es (ra1 Z)<|sg 1 Z<|A0 (C0m (rows:=Zg cI [0]) Z Z (D9 (fun _=>rfl) _)) Z<|qm Z<|es (ra2 Z Z)<|B9<|s0<|qm Z<|es (ra3 Z Z Z)<|C5<|oB h fun o15 ho15 h=>wl (fun s1=>[(1,(.ptr (H.length+0) 0)),(3,(.asl (H.length+1) (Zh s1.2))),(4,.i s1.1)]) (fun (q2:Bool) s1=>[(.cells (A9 a0)),(.arr 1 q2 (Zg cI s1.2))]) 2 (fun r e s' H'=>e=(.exit 0)∧s'=[(3,(.asl (H.length+1) (Zh r)))]∧∃ (q0q:Bool),H'=(H++[(.cells (A9 a0)),(.arr 1 q0q (Zg cI r))])) false ho15 Z Z (fun _ _=>rfl) (fun _=>rfl) Z (fun s1=>(bdc (J7 Z) (bdc (R3 Z) (bdc A4 bdn)))) (fun q2 s1 ys1 hs1=>?_) ?_
 ·unfold A3s at hs1
  refine B9<|s0<|qm Z<|A0 (A4p Z Z) Z<|es (ra4 Z Z Z Z)<|wi hs1 Z (fun hc3 hs1=>?_) fun hc3 hs1=>?_
  ·refine B8<|B9<|C5<|s0<|qm Z<|es (ra4 Z Z Z Z)<|C5<|oB hs1 fun o13 ho13 hs1=>wl (fun s4=>[(1,(.ptr (H.length+0) 0)),(3,(.asl (H.length+1) (Zh s4.2))),(4,.i s1.1),(5,.i s4.1)]) (fun (q5:Bool) s4=>[(.cells (A9 a0)),(.arr 1 q5 (Zg cI s4.2))]) 2 (fun r e s' H'=>e=(.exit 2)∧s'=[(1,(.ptr (H.length+0) 0)),(3,(.asl (H.length+1) (Zh r))),(4,.i s1.1)]∧∃ (q0q:Bool),H'=(H++[(.cells (A9 a0)),(.arr 1 q0q (Zg cI r))])) q2 ho13 Z Z (fun _ _=>rfl) (fun _=>rfl) Z (fun s4=>(bdc (J7 Z) (bdc (R3 Z) (bdc A4 (bdc A4 bdn))))) (fun q5 s4 ys4 hs4=>?_) ?_
   ·unfold A3r at hs4
    refine B9<|s0<|qm Z<|A0 (C3 Z) Z<|A0 (B4 Z Z Z) Z<|A0 (F2 (f:=D3) Z) Z<|A0 (I3 Z Z) Z<|es (ra5 Z Z Z Z Z)<|wi hs4 Z (fun hc6 hs4=>?_) fun hc6 hs4=>?_
    ·refine B8<|B9<|C5<|B9<|E2d (D4a Z (B4p Z (Zi _)))<|r0<|oB hs4 fun x7 hx7 hs4=>oB hs4 fun x10 hx10 hs4=>A0 (C3 Z) Z<|A0 (B4 Z Z Z) Z<|qm Z<|A0 (D4 (f:=D3) Z Z hx7) Z<|A0 (R1 (ds:=(D3 x7)) Z Z) Z<|A0 (G2 Z Z) Z<|qm Z<|A0 (F9 Z Z) Z<|qm Z<|gp 5 31 (.b x10) 26 Z Z (fun hg8=>?_) (fun hg8=>?_) ?_
     ·refine oB (bt hx10 hg8) fun x9 hx9 hx10=>?_
      obtain rfl:=os hx10
      exact gT Z hg8<|qm Z<|gT Z hg8<|qm Z<|gT Z hg8<|B2 (rs:=[.b x9]) Z Z (A1 (B4p Z (Zi _)) (A1 Z B3)) ((A41 hx9).frz)<|gT Z hg8<|A0 (M9 Z) Z<|A0 (C1 Z hg8 Z) Z<|ge 5 Z Z Z
     ·obtain rfl:=os (bf hx10 hg8)
      exact nT Z hg8 Z<|nT Z hg8 Z<|G4 (D2 Z (by rw[hg8];rfl)) Z<|nT Z hg8 Z<|A0 (C0 Z hg8 Z) Z<|ge 5 Z Z Z
     refine es (ra5 Z Z Z Z Z)<|wi hs4 Z (fun hc11 hs4=>?_) fun hc11 hs4=>?_
     ·refine r0<|oB hs4 fun x12 hx12 hs4=>qm Z<|qm Z<|A0 (J2 (rows:=Zg cI [s1.1]) Z Z (D9 (fun _=>rfl) _)) Z<|O7 (A0u (f:=cI) Z Z Z Z X8 (fun _=>rfl) hx12) Z<|qm Z<|en (ra4 Z Z Z Z)<|r0<|qm Z<|A0 (D8 Z Z) Z<|qm Z<|en (ra4 Z Z Z Z) ?_
      cases hs4
      exact lnT true Z (su4 Z Z Z Z)
     ·refine B8<|r0<|qm Z<|A0 (D8 Z Z) Z<|qm Z<|en (ra4 Z Z Z Z) ?_
      cases hs4
      exact lnT true Z (su4 Z Z Z Z)
    ·refine G5 ?_
     obtain rfl:=os hs4
     exact lx Z (ZE Z (ZE Z ⟨q5,Z⟩)) (su3 Z Z Z)
   ·rintro e s' H'-⟨rfl,rfl,q14,rfl⟩
    refine r0<|qm Z<|A0 (D8 Z Z) Z<|qm Z<|en (ra3 Z Z Z) ?_
    cases hs1
    exact lnT q14 Z (su3 Z Z Z)
  ·refine G5 ?_
   obtain rfl:=os hs1
   exact lx Z (ZE Z (ZE Z ⟨q2,Z⟩)) (su1 Z)
 ·rintro e s' H'-⟨rfl,rfl,q16,rfl⟩
  refine B9<|E2d (D4a Z (B4p Z (Zi _)))<|r0<|qm Z<|qm Z<|es (ra1 Z)<|C6 ?_
  obtain rfl:=os h
  exact retq trivial (A8 Z B6) (A5 (E3k Z (Zi _)) B5) (A3 G6 B1)
def A1i (a0:PaShow) (a1:Int) (x1:(List Int)) (s2:(Int×(List PaUse))) (s5:(Int×(List PaUse))) (s8:(Int×(List PaUse))):Option ((Int×(List PaUse))⊕(List PaUse)) :=
 if (decide (s8.1<(Zh x1:Int)))=true then
  (idx x1 s8.1).bind fun x11 =>
  (A2v a0 a1 (PaUse.mk s2.1 s5.1 x11)).bind fun x12 =>
  if (x12==0)=true then
  (app 24 s8.2 [(PaUse.mk s2.1 s5.1 x11)]).bind fun x14 =>
  some (.inl ((w64 (s8.1+1)),x14))
  else
  some (.inl ((w64 (s8.1+1)),s8.2))
 else
  some (.inr s8.2)
def A1j (a0:PaShow) (a1:Int) (x1:(List Int)) (s2:(Int×(List PaUse))) (s5:(Int×(List PaUse))):Option ((Int×(List PaUse))⊕(List PaUse)) :=
 if (decide (s5.1≤2))=true then
  (loop (A1i a0 a1 x1 s2 s5) (0,s5.2)).bind fun (o15:(List PaUse)) =>
  some (.inl ((w64 (s5.1+1)),o15))
 else
  some (.inr s5.2)
def A1k (a0:PaShow) (a1:Int) (x1:(List Int)) (s2:(Int×(List PaUse))):Option ((Int×(List PaUse))⊕(List PaUse)) :=
 if (decide (s2.1<(Zh a0.Gowns:Int)))=true then
  (loop (A1j a0 a1 x1 s2) (0,s2.2)).bind fun (o16:(List PaUse)) =>
  some (.inl ((w64 (s2.1+1)),o16))
 else
  some (.inr s2.2)
def A8d (a0:PaShow) (a1:Int):Option (List PaUse) :=
 (A8a a0).bind fun x1 =>
 (loop (A1k a0 a1 x1) (0,([]:List PaUse))).bind fun (o17:(List PaUse)) =>
 (app 24 o17 [(PaUse.mk (-1) 0 0)]).bind fun x18 =>
 some x18
theorem C36 {c:Sc} {H:A2} {a0:PaShow} {a1:Int} {r:(List PaUse)} (h:A8d a0 a1=some r) :
  F0 tab c H (.fn (.func 107) [] []) [(.agg (A9 a0)),.i a1] [(.seq 3 (Zg A6 r))]:= by
 unfold A8d at h
 refine cE Z Z<|sg 0 Z<|A0 (G1 (cs:=A9 a0) Z Z Z) Z<|qm Z<|es (ra2 Z Z)<|s0<|oB h fun x1 hx1 h=>A0 (C9 Z Z Z) Z<|B2 (rs:=[(.seq 1 (Zg cI x1))]) Z Z (A1 (D0 Z) B3) ((C33 hx1).frz)<|qm Z<|es (ra3 Z Z Z)<|sg 1 Z<|A0 A5d Z<|es (ra4 Z Z Z Z)<|B9<|s0<|qm Z<|es (ra5 Z Z Z Z Z)<|C5<|oB h fun o17 ho17 h=>wl (fun s2=>[(1,.i a1),(2,(.ptr (H.length+0) 0)),(5,(.seq 1 (Zg cI x1))),(6,(.asl (H.length+1) (Zh s2.2))),(7,.i s2.1)]) (fun (q3:Unit) s2=>[(.cells (A9 a0)),(.arr 3 false (Zg A6 s2.2))]) 2 (fun r e s' H'=>PX 0 [(6,(.asl (H.length+1) (Zh r)))] (H++[(.cells (A9 a0)),(.arr 3 false (Zg A6 r))]) e s' H') () ho17 Z Z (fun _ _=>rfl) (fun _=>rfl) Z (fun s2=>(bdc A4 (bdc (J7 Z) (bdc G6 (bdc (R3 Z) (bdc A4 bdn)))))) (fun q3 s2 ys2 hs2=>?_) ?_
 ·unfold A1k at hs2
  refine B9<|s0<|qm Z<|A0 (C3 Z) Z<|A0 (B4 Z Z Z) Z<|A0 (F2 (f:=C7) Z) Z<|A0 (I3 Z Z) Z<|es (ra6 Z Z Z Z Z Z)<|wi hs2 Z (fun hc4 hs2=>?_) fun hc4 hs2=>?_
  ·refine B8<|B9<|C5<|s0<|qm Z<|es (ra6 Z Z Z Z Z Z)<|C5<|oB hs2 fun o16 ho16 hs2=>wl (fun s5=>[(1,.i a1),(2,(.ptr (H.length+0) 0)),(5,(.seq 1 (Zg cI x1))),(6,(.asl (H.length+1) (Zh s5.2))),(7,.i s2.1),(8,.i s5.1)]) (fun (q6:Unit) s5=>[(.cells (A9 a0)),(.arr 3 false (Zg A6 s5.2))]) 2 (fun r e s' H'=>PX 2 [(1,.i a1),(2,(.ptr (H.length+0) 0)),(5,(.seq 1 (Zg cI x1))),(6,(.asl (H.length+1) (Zh r))),(7,.i s2.1)] (H++[(.cells (A9 a0)),(.arr 3 false (Zg A6 r))]) e s' H') () ho16 Z Z (fun _ _=>rfl) (fun _=>rfl) Z (fun s5=>(bdc A4 (bdc (J7 Z) (bdc G6 (bdc (R3 Z) (bdc A4 (bdc A4 bdn))))))) (fun q6 s5 ys5 hs5=>?_) ?_
   ·unfold A1j at hs5
    refine B9<|s0<|qm Z<|A0 (A4p Z Z) Z<|es (ra7 Z Z Z Z Z Z Z)<|wi hs5 Z (fun hc7 hs5=>?_) fun hc7 hs5=>?_
    ·refine B8<|B9<|C5<|s0<|qm Z<|es (ra7 Z Z Z Z Z Z Z)<|C5<|oB hs5 fun o15 ho15 hs5=>wl (fun s8=>[(1,.i a1),(2,(.ptr (H.length+0) 0)),(5,(.seq 1 (Zg cI x1))),(6,(.asl (H.length+1) (Zh s8.2))),(7,.i s2.1),(8,.i s5.1),(9,.i s8.1)]) (fun (q9:Unit) s8=>[(.cells (A9 a0)),(.arr 3 false (Zg A6 s8.2))]) 2 (fun r e s' H'=>PX 4 [(1,.i a1),(2,(.ptr (H.length+0) 0)),(5,(.seq 1 (Zg cI x1))),(6,(.asl (H.length+1) (Zh r))),(7,.i s2.1),(8,.i s5.1)] (H++[(.cells (A9 a0)),(.arr 3 false (Zg A6 r))]) e s' H') () ho15 Z Z (fun _ _=>rfl) (fun _=>rfl) Z (fun s8=>(bdc A4 (bdc (J7 Z) (bdc G6 (bdc (R3 Z) (bdc A4 (bdc A4 (bdc A4 bdn)))))))) (fun q9 s8 ys8 hs8=>?_) ?_
     ·unfold A1i at hs8
      refine B9<|s0<|qm Z<|qm Z<|A0 (F2 (f:=cI) Z) Z<|A0 (I3 Z Z) Z<|es (ra8 Z Z Z Z Z Z Z Z)<|wi hs8 Z (fun hc10 hs8=>?_) fun hc10 hs8=>?_
      ·refine B8<|B9<|C5<|sg 2 Z<|oB hs8 fun x11 hx11 hs8=>qm Z<|qm Z<|qm Z<|qm Z<|A0 (D4 (f:=cI) Z Z hx11) Z<|A0 (G2 Z Z) Z<|A0 (R4 (cs:=A6 (PaUse.mk s2.1 s5.1 x11)) Z Z) Z<|A0 J6 Z<|O6 (G0 (ds:=(A6 (PaUse.mk s2.1 s5.1 x11))) Z Z Z Z (E0 Z) Z) Z<|es (ra8 Z Z Z Z Z Z Z Z)<|s0<|oB hs8 fun x12 hx12 hs8=>A0 (C9 Z Z Z) Z<|qm Z<|A0 (C9 Z Z Z) Z<|B2 (rs:=[.i x12]) Z Z (A1 (D0 Z) (A1 Z (A1 (D0 Z) B3))) ((A7a hx12).frz)<|A0 (F9 Z Z) Z<|es (ra9 Z Z Z Z Z Z Z Z Z)<|wi hs8 Z (fun hc13 hs8=>?_) fun hc13 hs8=>?_
       ·refine r0<|oB hs8 fun x14 hx14 hs8=>qm Z<|A0 (C9 Z Z Z) Z<|A0 (J2 (rows:=Zg A6 [(PaUse.mk s2.1 s5.1 x11)]) Z Z (D9 (fun _=>rfl) _)) Z<|O7 (A0u (f:=A6) Z Z Z Z X8 (fun _=>rfl) hx14) Z<|qm Z<|en (ra7 Z Z Z Z Z Z Z)<|r0<|qm Z<|A0 (D8 Z Z) Z<|qm Z<|en (ra7 Z Z Z Z Z Z Z) ?_
        cases hs8
        exact lnT () Z (su7 Z Z Z Z Z Z Z)
       ·refine B8<|r0<|qm Z<|A0 (D8 Z Z) Z<|qm Z<|en (ra7 Z Z Z Z Z Z Z) ?_
        cases hs8
        exact lnT () Z (su7 Z Z Z Z Z Z Z)
      ·refine G5 ?_
       obtain rfl:=os hs8
       exact lx Z px (su6 Z Z Z Z Z Z)
     ·rintro e s' H'-⟨rfl,rfl,rfl⟩
      refine r0<|qm Z<|A0 (D8 Z Z) Z<|qm Z<|en (ra6 Z Z Z Z Z Z) ?_
      cases hs5
      exact lnT () Z (su6 Z Z Z Z Z Z)
    ·refine G5 ?_
     obtain rfl:=os hs5
     exact lx Z px (su5 Z Z Z Z Z)
   ·rintro e s' H'-⟨rfl,rfl,rfl⟩
    refine r0<|qm Z<|A0 (D8 Z Z) Z<|qm Z<|en (ra5 Z Z Z Z Z) ?_
    cases hs2
    exact lnT () Z (su5 Z Z Z Z Z)
  ·refine G5 ?_
   obtain rfl:=os hs2
   exact lx Z px (su1 Z)
 ·rintro e s' H'-⟨rfl,rfl,rfl⟩
  refine s0<|oB h fun x18 hx18 h=>qm Z<|A0 (R4 (cs:=A6 (PaUse.mk (-1) 0 0)) Z Z) Z<|A0 (J2 (rows:=Zg A6 [(PaUse.mk (-1) 0 0)]) Z Z (D9 (fun _=>rfl) _)) Z<|O7 (C7c (f:=A6) Z Z Z Z X8 (fun _=>rfl) hx18) Z<|qm Z<|es (ra1 Z)<|C6 ?_
  obtain rfl:=os h
  exact retq trivial (A8 Z B6) (A5 Z B5) (A3 G6 B1)
def A2e (s1:((List (List PaUse))×Int)) (x4:(List PaUse)) (s5:(Int×(List (List PaUse)))) (s8:(Int×(List (List PaUse)))):Option ((Int×(List (List PaUse)))⊕(List (List PaUse))) :=
 if (decide (s8.1<(Zh x4:Int)))=true then
  (idx s1.1 s5.1).bind fun x11 =>
  (app 24 ([]:List PaUse) x11).bind fun x12 =>
  (idx x4 s8.1).bind fun x13 =>
  (app 24 x12 [x13]).bind fun x14 =>
  (A2h x14 s1.2).bind fun x15 =>
  if (!x15)=true then
  (app 24 s8.2 [x14]).bind fun x17 =>
  some (.inl ((w64 (s8.1+1)),x17))
  else
  some (.inl ((w64 (s8.1+1)),s8.2))
 else
  some (.inr s8.2)
def A0l (s1:((List (List PaUse))×Int)) (x4:(List PaUse)) (s5:(Int×(List (List PaUse)))):Option ((Int×(List (List PaUse)))⊕(List (List PaUse))) :=
 if (decide (s5.1<(Zh s1.1:Int)))=true then
  (loop (A2e s1 x4 s5) (0,s5.2)).bind fun (o18:(List (List PaUse))) =>
  some (.inl ((w64 (s5.1+1)),o18))
 else
  some (.inr s5.2)
def A2f (a0:PaShow) (s1:((List (List PaUse))×Int)):Option (((List (List PaUse))×Int)⊕(List (List PaUse))) :=
 if (decide (s1.2<(Zh a0.Figures:Int)))=true then
  (A8d a0 s1.2).bind fun x4 =>
  (loop (A0l s1 x4) (0,([]:List (List PaUse)))).bind fun (o19:(List (List PaUse))) =>
  some (.inl (o19,(w64 (s1.2+1))))
 else
  some (.inr s1.1)
def A2d (a0:PaShow):Option (List (List PaUse)) :=
 (loop (A2f a0) ([([]:List PaUse)],0)).bind fun (o20:(List (List PaUse))) =>
 some o20
theorem A74 {c:Sc} {H:A2} {a0:PaShow} {r:(List (List PaUse))} (h:A2d a0=some r) :
  F0 tab c H (.fn (.func 73) [] []) [(.agg (A9 a0))] [(.seq 1 (Zg (cL 3 A6) r))]:= by
 unfold A2d at h
 refine cE Z Z<|sg 0 Z<|A0 (G1 (cs:=A9 a0) Z Z Z) Z<|qm Z<|es (ra1 Z)<|s0<|A0 (J2 (rows:=Zg (cL 3 A6) [([]:List PaUse)]) Z Z (D9 (fun _=>rfl) _)) Z<|qm Z<|es (ra2 Z Z)<|B9<|s0<|qm Z<|es (ra3 Z Z Z)<|C5<|oB h fun o20 ho20 h=>wl (fun s1=>[(1,(.ptr (H.length+0) 0)),(3,(.seq 1 (Zg (cL 3 A6) s1.1))),(4,.i s1.2)]) (fun (q2:Unit) s1=>[(.cells (A9 a0))]) 1 (fun r e s' H'=>PX 0 [(3,(.seq 1 (Zg (cL 3 A6) r)))] (H++[(.cells (A9 a0))]) e s' H') () ho20 Z Z (fun _ _=>rfl) (fun _=>rfl) Z (fun s1=>(bdc (J7 Z) (bdc G6 (bdc A4 bdn)))) (fun q2 s1 ys1 hs1=>?_) ?_
 ·unfold A2f at hs1
  refine B9<|s0<|qm Z<|A0 (C3 Z) Z<|A0 (B4 Z Z Z) Z<|A0 (F2 (f:=B7) Z) Z<|A0 (I3 Z Z) Z<|es (ra4 Z Z Z Z)<|wi hs1 Z (fun hc3 hs1=>?_) fun hc3 hs1=>?_
  ·refine B8<|B9<|C5<|s0<|oB hs1 fun x4 hx4 hs1=>A0 (C9 Z Z Z) Z<|qm Z<|B2 (rs:=[(.seq 3 (Zg A6 x4))]) Z Z (A1 (D0 Z) (A1 Z B3)) ((C36 hx4).frz)<|qm Z<|es (ra4 Z Z Z Z)<|sg 1 Z<|A0 A5d Z<|es (ra5 Z Z Z Z Z)<|B9<|s0<|qm Z<|es (ra6 Z Z Z Z Z Z)<|C5<|oB hs1 fun o19 ho19 hs1=>wl (fun s5=>[(1,(.ptr (H.length+0) 0)),(3,(.seq 1 (Zg (cL 3 A6) s1.1))),(4,.i s1.2),(5,(.seq 3 (Zg A6 x4))),(6,(.asl (H.length+1) (Zh s5.2))),(7,.i s5.1)]) (fun (q6:Unit) s5=>[(.cells (A9 a0)),(.arr 1 false (Zg (cL 3 A6) s5.2))]) 2 (fun r e s' H'=>PX 2 [(1,(.ptr (H.length+0) 0)),(4,.i s1.2),(6,(.asl (H.length+1) (Zh r)))] (H++[(.cells (A9 a0)),(.arr 1 false (Zg (cL 3 A6) r))]) e s' H') () ho19 Z Z (fun _ _=>rfl) (fun _=>rfl) Z (fun s5=>(bdc (J7 Z) (bdc G6 (bdc A4 (bdc G6 (bdc (R3 Z) (bdc A4 bdn))))))) (fun q6 s5 ys5 hs5=>?_) ?_
   ·unfold A0l at hs5
    refine B9<|s0<|qm Z<|qm Z<|A0 (F2 (f:=(cL 3 A6)) Z) Z<|A0 (I3 Z Z) Z<|es (ra7 Z Z Z Z Z Z Z)<|wi hs5 Z (fun hc7 hs5=>?_) fun hc7 hs5=>?_
    ·refine B8<|B9<|C5<|s0<|qm Z<|es (ra7 Z Z Z Z Z Z Z)<|C5<|oB hs5 fun o18 ho18 hs5=>wl (fun s8=>[(1,(.ptr (H.length+0) 0)),(3,(.seq 1 (Zg (cL 3 A6) s1.1))),(4,.i s1.2),(5,(.seq 3 (Zg A6 x4))),(6,(.asl (H.length+1) (Zh s8.2))),(7,.i s5.1),(8,.i s8.1)]) (fun (q9:Unit) s8=>[(.cells (A9 a0)),(.arr 1 false (Zg (cL 3 A6) s8.2))]) 2 (fun r e s' H'=>PX 4 [(1,(.ptr (H.length+0) 0)),(3,(.seq 1 (Zg (cL 3 A6) s1.1))),(4,.i s1.2),(5,(.seq 3 (Zg A6 x4))),(6,(.asl (H.length+1) (Zh r))),(7,.i s5.1)] (H++[(.cells (A9 a0)),(.arr 1 false (Zg (cL 3 A6) r))]) e s' H') () ho18 Z Z (fun _ _=>rfl) (fun _=>rfl) Z (fun s8=>(bdc (J7 Z) (bdc G6 (bdc A4 (bdc G6 (bdc (R3 Z) (bdc A4 (bdc A4 bdn)))))))) (fun q9 s8 ys8 hs8=>?_) ?_
     ·unfold A2e at hs8
      refine B9<|s0<|qm Z<|qm Z<|A0 (F2 (f:=A6) Z) Z<|A0 (I3 Z Z) Z<|es (ra8 Z Z Z Z Z Z Z Z)<|wi hs8 Z (fun hc10 hs8=>?_) fun hc10 hs8=>?_
      ·refine B8<|B9<|C5<|sg 2 Z<|oB hs8 fun x11 hx11 hs8=>oB hs8 fun x12 hx12 hs8=>oB hs8 fun x13 hx13 hs8=>oB hs8 fun x14 hx14 hs8=>A0 (C0m (rows:=Zg A6 []) Z Z (D9 (fun _=>rfl) _)) Z<|qm Z<|qm Z<|J3 [2] (O2 [2] rfl H7 Z Z) (seen0 Z) (D4 (f:=(cL 3 A6)) Z Z hx11) Z<|J3 [2] (O2 [2] rfl H7 Z Z) (seen0 Z) (G2 Z Z) Z<|O7 (A0u (f:=A6) Z Z Z Z X8 (fun _=>rfl) hx12) Z<|qm Z<|qm Z<|J3 [2] (O2 [2] rfl H7 Z Z) (A54 Z) (D4 (f:=A6) Z Z hx13) Z<|J3 [2] (O2 [2] rfl H7 Z Z) (A54 Z) (I0 Z Z) Z<|A0 (J2 (rows:=Zg A6 [x13]) Z Z (D9 (fun _=>rfl) _)) Z<|O7 (C7c (f:=A6) Z Z Z Z X8 (fun _=>rfl) hx14) Z<|qm Z<|es (ra8 Z Z Z Z Z Z Z Z)<|s0<|oB hs8 fun x15 hx15 hs8=>qm Z<|qm Z<|B2 (rs:=[.b x15]) Z Z (A1 Z (A1 Z B3)) ((B2n hx15).frz)<|A0 (M9 Z) Z<|es (ra9 Z Z Z Z Z Z Z Z Z)<|wi hs8 Z (fun hc16 hs8=>?_) fun hc16 hs8=>?_
       ·refine r0<|oB hs8 fun x17 hx17 hs8=>qm Z<|qm Z<|A0 (J2 (rows:=Zg (cL 3 A6) [x14]) Z Z (D9 (fun _=>rfl) _)) Z<|O7 (A0u (f:=(cL 3 A6)) Z Z Z Z X8 (fun _=>rfl) hx17) Z<|qm Z<|en (ra7 Z Z Z Z Z Z Z)<|r0<|qm Z<|A0 (D8 Z Z) Z<|qm Z<|en (ra7 Z Z Z Z Z Z Z) ?_
        cases hs8
        exact lnT () Z (su7 Z Z Z Z Z Z Z)
       ·refine B8<|r0<|qm Z<|A0 (D8 Z Z) Z<|qm Z<|en (ra7 Z Z Z Z Z Z Z) ?_
        cases hs8
        exact lnT () Z (su7 Z Z Z Z Z Z Z)
      ·refine G5 ?_
       obtain rfl:=os hs8
       exact lx Z px (su6 Z Z Z Z Z Z)
     ·rintro e s' H'-⟨rfl,rfl,rfl⟩
      refine r0<|qm Z<|A0 (D8 Z Z) Z<|qm Z<|en (ra6 Z Z Z Z Z Z) ?_
      cases hs5
      exact lnT () Z (su6 Z Z Z Z Z Z)
    ·refine G5 ?_
     obtain rfl:=os hs5
     exact lx Z px (su3 Z Z Z)
   ·rintro e s' H'-⟨rfl,rfl,rfl⟩
    refine r0<|qm Z<|O7 (E3b Z Z (Zi _)) Z<|en (ra3 Z Z Z)<|r0<|qm Z<|A0 (D8 Z Z) Z<|qm Z<|en (ra3 Z Z Z) ?_
    cases hs1
    exact lnT () Z (su3 Z Z Z)
  ·refine G5 ?_
   obtain rfl:=os hs1
   exact lx Z px (su1 Z)
 ·rintro e s' H'-⟨rfl,rfl,rfl⟩
  refine s0<|qm Z<|qm Z<|es (ra1 Z)<|C6 ?_
  obtain rfl:=os h
  exact retq trivial (A8 Z B6) (A5 Z B5) (A3 G6 B1)
end Pw
end
section
namespace Pw
open Go Am
def D60 (s:PaShow) (d:Int):Bool:=s.Incomes.any fun x=>x.Day==d
def B1y (s:PaShow) (k:Nat):List Int:=0::((Z04 k).map fun (i:Nat)=>(i:Int)+1).filter (D60 s)
theorem D1c (s:PaShow) (k:Nat):B1y s (k+1)=if D60 s ((k:Int)+1) then B1y s k++[(k:Int)+1] else B1y s k:= by
 unfold B1y
 rw[Z5m,Z00,Z2d]
 cases h:D60 s ((k:Int)+1) <;> simp[h]
theorem D4w (s:PaShow) (k:Nat):(B1y s k).length≤k+1:= by
 unfold B1y
 have:=Z1k (D60 s) ((Z04 k).map fun (i:Nat)=>(i:Int)+1)
 rw[Zi,Z1q]at this
 rw[ZT];omega
theorem D61 {s:PaShow} {k:Nat} {x:Int} (h:x∈B1y s k):x<(k:Int)+1:= by
 unfold B1y at h
 rcases Zu.mp h with rfl|h
 ·omega
 ·obtain⟨i,hi,rfl⟩:=ZK.mp (Z0a.mp h).1
  have:=Z1s.mp hi
  omega
theorem D99 {s:PaShow} (hI:s.Incomes.length≤3) {l:List Int} {d:Int} (hl:l.length≤1000) (hd:d ∉ l):loop (A3r s (d,l)) (0,l)=some (if D60 s d then l++[d] else l):= by
 have hs:∀i:Nat,i≤s.Incomes.length→s.Incomes.take i=s.Incomes.take i:=fun _ _=>rfl
 rw[show ((0:Int),l)=(((0:Nat):Int),if (s.Incomes.take 0).any (fun x=>x.Day==d) then l++[d] else l) from Z]
 refine N6 (fun i=>((i:Int),if (s.Incomes.take i).any (fun x=>x.Day==d) then l++[d] else l)) s.Incomes.length (by omega) (fun i hi=>?_) ?_
 ·have e:s.Incomes.take (i+1)=s.Incomes.take i++[s.Incomes[i]!]:= by
   rw[ZM hi,getElem!_pos s.Incomes i hi]
  unfold A3r
  simp only[]
  rw[if_pos (by simpa using hi),G9 hi,e,List.any_append,D6 (n:=(i:Int)+1) (by omega)]
  simp only[Zd,Z4v,List.any_nil,Bool.or_false]
  cases h1:(s.Incomes.take i).any fun x=>x.Day==d
  ·simp only[Zj,if_false,Z30]
   rw[B63 (by omega),decide_eq_false hd,A0p (by omega) (by simp;omega)]
   cases s.Incomes[i]!.Day==d <;> rfl
  ·simp only[if_true,Bool.true_or]
   rw[B63 (by simp;omega),decide_eq_true (by simp)]
   cases s.Incomes[i]!.Day==d <;> rfl
 ·unfold A3r
  simp only[]
  rw[if_neg (by simp),Z0n]
  rfl
theorem C94 {s:PaShow} (hs:ShOk s):A8a s=some (F4 s):= by
 have hI:=hs.incomes
 unfold A8a
 rw[show ((1:Int),([0]:List Int))=(((0:Nat):Int)+1,B1y s 0) from Z]
 rw[N6 (b:=A3s s) (fun k=>((k:Int)+1,B1y s k)) 364 (r:=B1y s 364) (by omega) (fun k hk=>by
  have hl:=D4w s k
  unfold A3s
  simp only[]
  rw[if_pos (by simp;omega),D99 hI (by omega) (fun c=>by have:=D61 c;omega),D1c,D6 (by omega)]
  rfl) (by
  unfold A3s
  rw[if_neg (by simp)])]
 rfl
theorem D1h {l:List Int} (h:Str l) (c:Int):(l.filter fun d=>c==d).length≤1:= by
 induction l with
 | nil=>simp
 | cons x l ih =>
  obtain⟨h1,h2⟩:=Z1j.mp h
  rw[Z08]
  by_cases e:c=x
  ·have:(l.filter fun d=>c==d)=[]:=List.filter_eq_nil_iff.mpr fun y hy=>by
    have:=h1 y hy
    simp;omega
   rw[this]
   split <;> simp
  ·rw[if_neg (by simpa using e)]
   exact ih h2
theorem C4v (p q:Int→Bool):∀l:List Int,(l.filter fun d=>p d||q d).length≤(l.filter p).length+(l.filter q).length
 | []=>by simp
 | x::l=>by
  have:=C4v p q l
  rw[Z08,Z08,Z08]
  cases p x <;> cases q x <;> simp <;> omega
theorem D2x {l:List Int} (h:Str l):∀m:List PaIncome,(l.filter fun d=>m.any fun x=>x.Day==d).length≤m.length
 | []=>by simp
 | x::m=>by
  have h1:=D2x h m
  have h2:=D1h h x.Day
  have h3:=C4v (fun d=>x.Day==d) (fun d=>m.any fun x=>x.Day==d) l
  simp only[Z4v,ZT]
  omega
theorem B7d {s:PaShow} (hs:ShOk s):(F4 s).length≤4:= by
 have h:=hs.incomes
 have h1:=(Z1j.mp (B7c s)).2
 unfold F4 at h1 ⊢
 have hr:Str ((Z04 364).map fun (i:Nat)=>(i:Int)+1):= by
  show List.Pairwise _ _
  rw[Z40]
  exact Z2z.imp (fun h=>by omega)
 have:=D2x hr s.Incomes
 rw[ZT]
 omega
theorem B5g {s:PaShow} (hs:ShOk s) {d:Nat} (hd:d≤3) (q:List PaUse):(PL s (F4 s) d q).length≤226981:= by
 have h1:=C6b s (F4 s) d q
 have h4:s.Gowns.length*3*(F4 s).length≤15*4:=Z1t (by have:=hs.gowns;omega) (B7d hs)
 have h5:(nU s (F4 s)+1) ^ d≤61 ^ d:=Nat.pow_le_pow_left (by unfold nU;omega) _
 have h3:61 ^ d≤61 ^ 3:=Nat.pow_le_pow_right (by decide) hd
 omega
def A23 (s:PaShow) (f n:Nat):List PaUse:=((Z04 n).map (Q9 (F4 s))).filter fun u=>T7 s.Gowns s.Figures[f]! u==0
theorem D2m (s:PaShow) (f n:Nat):A23 s f (n+1)=if T7 s.Gowns s.Figures[f]! (Q9 (F4 s) n)==0 then A23 s f n++[Q9 (F4 s) n] else A23 s f n:= by
 unfold A23
 rw[Z5m,Z00,Z2d,Zt,List.map_nil,Z08,Z5n]
 cases T7 s.Gowns s.Figures[f]! (Q9 (F4 s) n)==0 <;> simp
theorem B8q (s:PaShow) (f n:Nat):(A23 s f n).length≤n:= by
 unfold A23
 have:=Z1k (fun u=>T7 s.Gowns s.Figures[f]! u==0) ((Z04 n).map (Q9 (F4 s)))
 rw[Zi,Z1q]at this
 exact this
theorem D9o {D:List Int} {g h k:Nat} (hh:h<3) (hk:k<D.length):Q9 D ((g*3+h)*D.length+k)=⟨(g:Int),(h:Int),D[k]!⟩:= by
 have d1:((g*3+h)*D.length+k) / D.length=g*3+h:= by
  rw[Z1g,Z4e (by omega),Z44 hk,Z1e]
 have d2:((g*3+h)*D.length+k) % D.length=k:= by
  rw[Z1g,Z5l,Z33 hk]
 unfold Q9
 rw[d1,d2]
 congr 1
 ·omega
 ·omega
theorem C97 {s:PaShow} (hs:ShOk s) {f:Nat} (hf:f<s.Figures.length):A8d s (f:Int)=some (A23 s f (nU s (F4 s))++[bare0]):= by
 have hG:=hs.gowns
 have hF:=hs.figures
 have hD:=B7d hs
 have hb:∀g h k:Nat,g<s.Gowns.length→h<3→k≤(F4 s).length→(A23 s f ((g*3+h)*(F4 s).length+k)).length≤100:=fun g h k hg hh hk=>by
  refine Z01 (B8q _ _ _) ?_
  have:(g*3+h)*(F4 s).length≤14*4:=Z1t (by omega) hD
  omega
 unfold A8d
 rw[C94 hs]
 simp only[Zd]
 have i1:∀g h:Nat,g<s.Gowns.length→h<3→∀ acc acc2,loop (A1i s (f:Int) (F4 s) ((g:Int),acc) ((h:Int),acc2)) (0,A23 s f ((g*3+h)*(F4 s).length))=some (A23 s f ((g*3+(h+1))*(F4 s).length)):=fun g h hg hh acc acc2=>by
  have e2:(g*3+(h+1))*(F4 s).length=(g*3+h)*(F4 s).length+(F4 s).length:= by
   rw[← Z03,Z1m]
  rw[e2]
  refine N6 (b:=A1i s (f:Int) (F4 s) ((g:Int),acc) ((h:Int),acc2)) (fun k=>((k:Int),A23 s f ((g*3+h)*(F4 s).length+k))) (F4 s).length (by omega) (fun k hk=>?_) ?_
  ·have hbl:=hb g h k hg hh (by omega)
   unfold A1i
   simp only[]
   rw[if_pos (by simpa using hk),G9 hk]
   simp only[Zd]
   rw[B1f hs (f:=(f:Int)) (by omega),ZG,A0p (by omega) (by simp;omega),D6 (by omega),← Z03,D2m,D9o hh hk]
   simp only[Zd]
   cases T7 s.Gowns s.Figures[f]! ⟨(g:Int),(h:Int),(F4 s)[k]!⟩==0 <;> rfl
  ·unfold A1i
   simp only[]
   rw[if_neg (by simp)]
 have i2:∀g:Nat,g<s.Gowns.length→∀ acc,loop (A1j s (f:Int) (F4 s) ((g:Int),acc)) (0,A23 s f (g*3*(F4 s).length))=some (A23 s f ((g+1)*3*(F4 s).length)):=fun g hg acc=>by
  have e2:(g+1)*3=g*3+3:= by omega
  rw[e2]
  refine N6 (b:=A1j s (f:Int) (F4 s) ((g:Int),acc)) (fun h=>((h:Int),A23 s f ((g*3+h)*(F4 s).length))) 3 (by omega) (fun h hh=>?_) ?_
  ·unfold A1j
   simp only[]
   rw[if_pos (by simp;omega),i1 g h hg hh,D6 (by omega)]
   rfl
  ·unfold A1j
   rw[if_neg (by simp)]
 have i3:loop (A1k s (f:Int) (F4 s)) (0,([]:List PaUse))=some (A23 s f (nU s (F4 s))):= by
  have e0:([]:List PaUse)=A23 s f (0*3*(F4 s).length):= by simp only[Nat.zero_mul];rfl
  rw[e0]
  refine N6 (b:=A1k s (f:Int) (F4 s)) (fun g=>((g:Int),A23 s f (g*3*(F4 s).length))) s.Gowns.length (by omega) (fun g hg=>?_) ?_
  ·unfold A1k
   simp only[]
   rw[if_pos (by simpa using hg),i2 g hg,D6 (by omega)]
   rfl
  ·unfold A1k
   simp only[]
   rw[if_neg (by simp)]
   rfl
 rw[i3]
 simp only[Zd]
 have hl:(A23 s f (nU s (F4 s))).length≤100:= by
  refine Z01 (B8q _ _ _) ?_
  have h4:s.Gowns.length*3*(F4 s).length≤15*4:=Z1t (by omega) hD
  unfold nU;omega
 rw[A0p (by omega) (by simp;omega)]
 rfl
def A80 (s:PaShow) (D:List Int) (r:List PaUse):List (List PaUse):=(cand s D r++[bare0]).map fun u=>r++[u]
theorem C4x {α β γ:Type} (f:α→List β) (g:β→List γ):∀l:List α,(l.flatMap f).flatMap g=l.flatMap fun x=>(f x).flatMap g
 | []=>rfl
 | x::l=>by rw[Z0l,Z13,Z0l,C4x f g l]
theorem B96 (s:PaShow) (D:List Int):∀(d:Nat) (q:List PaUse),PL s D (d+1) q=(PL s D d q).flatMap (A80 s D)
 | 0,q=>by
  have e:∀l:List PaUse,l.flatMap (fun u=>PL s D 0 (q++[u]))=l.map fun u=>q++[u]:=fun l=>by
   induction l with
   | nil=>rfl
   | cons u l ih=>rw[Z0l,ih];rfl
  show (cand s D q).flatMap (fun u=>PL s D 0 (q++[u]))++PL s D 0 (q++[bare0])=[q].flatMap (A80 s D)
  rw[e,Z0l,Z5h,ZY]
  unfold A80
  rw[Z00];rfl
 | d+1,q=>by
  show (cand s D q).flatMap (fun u=>PL s D (d+1) (q++[u]))++PL s D (d+1) (q++[bare0])=((cand s D q).flatMap (fun u=>PL s D d (q++[u]))++PL s D d (q++[bare0])).flatMap (A80 s D)
  rw[Z13,C4x,B96 s D d (q++[bare0])]
  congr 1
  congr 1
  funext u
  exact B96 s D d (q++[u])
theorem E00 {s:PaShow} {q:List PaUse} {f:Nat} (hq:q.length=f):A80 s (F4 s) q=((A23 s f (nU s (F4 s))++[bare0]).filter fun u=>!A9i q u).map fun u=>q++[u]:= by
 unfold A80 cand A23
 rw[Z2d,List.filter_filter]
 have e:(List.filter (fun u=>!A9i q u) [bare0])=[bare0]:=rfl
 rw[e]
 congr 2
 refine List.filter_congr fun u _=>?_
 unfold okU
 rw[hq,Bool.and_comm]
theorem B1e {s:PaShow} (hs:ShOk s):A2d s=some (PL s (F4 s) s.Figures.length []):= by
 have hF:=hs.figures
 unfold A2d
 rw[show (([([]:List PaUse)],0):List (List PaUse)×Int)=(PL s (F4 s) 0 [],((0:Nat):Int)) from Z]
 rw[N6 (b:=A2f s) (fun f=>(PL s (F4 s) f [],(f:Int))) s.Figures.length (r:=PL s (F4 s) s.Figures.length []) (by omega) (fun f hf=>by
  have hlen:=B5g hs (d:=f) (by omega) []
  have hlen2:=B5g hs (d:=f+1) (by omega) []
  have hpl:∀q∈PL s (F4 s) f [],q.length=f:=fun q hq=>by
   obtain⟨r,rfl,hr,_⟩:=B02.mp hq
   simpa using hr
  have hul:(A23 s f (nU s (F4 s))++[bare0]).length≤101:= by
   have:=B8q s f (nU s (F4 s))
   have h4:s.Gowns.length*3*(F4 s).length≤15*4:=Z1t (by have:=hs.gowns;omega) (B7d hs)
   rw[Zo,Z37]
   unfold nU at this ⊢; omega
  unfold A2f
  simp only[]
  rw[if_pos (by simpa using hf),C97 hs hf]
  simp only[Zd]
  generalize hU:A23 s f (nU s (F4 s))++[bare0]=U at hul
  generalize hL:PL s (F4 s) f []=L at hlen hpl
  have hsub:∀i,i≤L.length→((L.take i).flatMap (A80 s (F4 s))).length≤226981:=fun i hi=>by
   have e:PL s (F4 s) (f+1) []=(L.take i).flatMap (A80 s (F4 s))++(L.drop i).flatMap (A80 s (F4 s)):= by
    rw[B96,hL,← Z13,List.take_append_drop]
   rw[e,Zo]at hlen2
   omega
  have j1:∀i,i<L.length→∀ acc acc2,acc2=(L.take i).flatMap (A80 s (F4 s))→loop (A2e (L,(f:Int)) U ((i:Int),acc)) (0,acc2)=some ((L.take (i+1)).flatMap (A80 s (F4 s))):=fun i hi acc acc2 h2=>by
   have hq:=hpl _ (J1 hi)
   have et:L.take (i+1)=L.take i++[L[i]!]:= by rw[ZM hi,getElem!_pos L i hi]
   have hidx:=G9 hi
   rw[et,Z13,← h2,Z0l,Z5h,ZY,E00 hq,hU]
   have hs2:=hsub i (by omega)
   rw[← h2]at hs2
   clear et
   generalize L[i]! = R at *
   refine X9 U (fun a u=>if !A9i R u then a++[R++[u]] else a) acc2 (fun k t=>((k:Int),t)) (by omega) (fun k hk=>?_) ?_
   ·have hfl:∀m:List PaUse,m.foldl (fun a u=>if !A9i R u then a++[R++[u]] else a) acc2=acc2++(m.filter fun u=>!A9i R u).map fun u=>R++[u]:=fun m=>by
     induction m generalizing acc2 with
     | nil=>simp
     | cons u m ih =>
      have gen:∀(m:List PaUse) (a:List (List PaUse)),m.foldl (fun a u=>if !A9i R u then a++[R++[u]] else a) a=a++(m.filter fun u=>!A9i R u).map fun u=>R++[u]:= by
       intro m
       induction m with
       | nil=>intro a;simp
       | cons v m ihm =>
        intro a
        rw[Z09,ihm,Z08]
        cases A9i R v <;> simp
      exact gen (u::m) acc2
    rw[hfl]
    have hml:((U.take k).filter fun u=>!A9i R u).length≤101:= by
     have:=Z1k (fun u=>!A9i R u) (U.take k)
     rw[ZD]at this
     omega
    unfold A2e
    simp only[]
    rw[if_pos (by simpa using hk),hidx,G9 hk]
    simp only[Zd]
    rw[A0p (by omega) (by simp;omega)]
    simp only[Zd]
    rw[Z06,A0p (by omega) (by simp;omega)]
    simp only[Zd]
    have htw:A2h (R++[U[k]!]) (f:Int)=some (A9i R U[k]!):= by
     rw[B6r (by simp;omega) (by simp;omega)]
     unfold twP A9i
     have e1:(R++[U[k]!])[f]! = U[k]!:= by rw[← hq];exact C1r _ _
     have e2:(R++[U[k]!]).take f=R:= by rw[← hq,Z07]
     rw[e1,e2]
    rw[htw,A0p (by omega) (by simp;omega),D6 (by omega)]
    simp only[Zd]
    cases A9i R U[k]! <;> rfl
   ·have gen:∀(m:List PaUse) (a:List (List PaUse)),m.foldl (fun a u=>if !A9i R u then a++[R++[u]] else a) a=a++(m.filter fun u=>!A9i R u).map fun u=>R++[u]:= by
     intro m
     induction m with
     | nil=>intro a;simp
     | cons v m ihm =>
      intro a
      rw[Z09,ihm,Z08]
      cases A9i R v <;> simp
    unfold A2e
    simp only[]
    rw[if_neg (by simp),gen]
  have j2:loop (A0l (L,(f:Int)) U) (0,([]:List (List PaUse)))=some (L.flatMap (A80 s (F4 s))):= by
   have:=N6 (b:=A0l (L,(f:Int)) U) (fun i=>((i:Int),(L.take i).flatMap (A80 s (F4 s)))) L.length (r:=L.flatMap (A80 s (F4 s))) (by omega) (fun i hi=>by
    unfold A0l
    simp only[]
    rw[if_pos (by simpa using hi),j1 i hi _ _ Z,D6 (by omega)]
    rfl) (by
    unfold A0l
    simp only[]
    rw[if_neg (by simp),Z0n])
   exact this
  rw[j2,B96,hL,D6 (by omega)]
  rfl) (by
  unfold A2f
  rw[if_neg (by simp)])]
 rfl
end Pw
end
section
set_option maxRecDepth 100000
set_option maxHeartbeats 0
namespace Pw
open Go Am Go.Proofs.YtjpjdglddmhplaaGreat.Cd
def A1f (a0:PaShow) (x3:(List (List PaUse))) (s4:((List PaUse)×Bool×Int)):Option (((List PaUse)×Bool×Int)⊕(List PaUse)) :=
 if (decide (s4.2.2<(Zh x3:Int)))=true then
  (idx x3 s4.2.2).bind fun x7 =>
  (A2u a0 x7).bind fun x8 =>
  if (!x8)=true then
  some (.inl (s4.1,s4.2.1,(w64 (s4.2.2+1))))
  else
  (idx x3 s4.2.2).bind fun x10 =>
  (O1 x10).bind fun x11 =>
  (O1 s4.1).bind fun x12 =>
  (if ((!s4.2.1)||(decide (x11<x12)))=true then
   some true
  else
   (if (x11==x12)=true then
   (idx x3 s4.2.2).bind fun x16 =>
   (A0a a0 x16).bind fun x17 =>
   (A0a a0 s4.1).bind fun x18 =>
   some (decide (x17<x18))
   else
   some false).bind fun x19 =>
   some x19).bind fun x20 =>
  if x20=true then
   (idx x3 s4.2.2).bind fun x22 =>
   some (.inl (x22,true,(w64 (s4.2.2+1))))
  else
   some (.inl (s4.1,s4.2.1,(w64 (s4.2.2+1))))
 else
  some (.inr s4.1)
def A17 (a0:PaShow):Option ((List PaUse)×Int×Int×Int) :=
 (V7 a0).bind fun x1 =>
 if (x1.2.2 != 0)=true then
  some (([]:List PaUse),0,0,x1.2.2)
 else
  (A2d a0).bind fun x3 =>
  (loop (A1f a0 x3) (([]:List PaUse),false,0)).bind fun (o23:(List PaUse)) =>
  (O1 o23).bind fun x24 =>
  (A0a a0 o23).bind fun x25 =>
  some (o23,x24,x25,0)
theorem A6d {c:Sc} {H:A2} {a0:PaShow} {r:((List PaUse)×Int×Int×Int)} (h:A17 a0=some r) :
  F0 tab c H (.fn (.func 27) [] []) [(.agg (A9 a0))] [(.seq 3 (Zg A6 r.1)),.i r.2.1,.i r.2.2.1,.i r.2.2.2]:= by
 unfold A17 at h
 refine cE Z Z<|sg 0 Z<|A0 (G1 (cs:=A9 a0) Z Z Z) Z<|qm Z<|qm Z<|qm Z<|qm Z<|es (ra1 Z)<|s0<|oB h fun x1 hx1 h=>A0 (C9 Z Z Z) Z<|B2 (rs:=[.i x1.1,.i x1.2.1,.i x1.2.2]) Z Z (A1 (D0 Z) B3) ((A0h hx1).frz)<|qm Z<|A0 (A7 Z Z) Z<|A0 (A7 Z Z) Z<|A0 (A7 Z Z) Z<|qm Z<|qm Z<|qm Z<|es (ra2 Z Z)<|B9<|s0<|qm Z<|A0 (H9 Z Z) Z<|es (ra3 Z Z Z)<|wi h Z (fun hc2 h=>?_) fun hc2 h=>?_
 ·refine s0<|qm Z<|qm Z<|qm Z<|qm Z<|qm Z<|es (ra4 Z Z Z Z)<|C6 ?_
  obtain rfl:=os h
  exact retq trivial (A8 Z (A8 Z (A8 Z (A8 Z B6)))) (A5 Z (A5 Z (A5 Z (A5 Z B5)))) (A3 G6 (A3 A4 (A3 A4 (A3 A4 B1))))
 ·refine B8<|s0<|oB h fun x3 hx3 h=>A0 (C9 Z Z Z) Z<|B2 (rs:=[(.seq 1 (Zg (cL 3 A6) x3))]) Z Z (A1 (D0 Z) B3) ((A74 hx3).frz)<|qm Z<|es (ra2 Z Z)<|s0<|qm Z<|es (ra3 Z Z Z)<|s0<|qm Z<|es (ra4 Z Z Z Z)<|B9<|s0<|qm Z<|es (ra5 Z Z Z Z Z)<|C5<|oB h fun o23 ho23 h=>wl (fun s4=>[(1,(.ptr (H.length+0) 0)),(9,(.seq 1 (Zg (cL 3 A6) x3))),(10,(.seq 3 (Zg A6 s4.1))),(11,.b s4.2.1),(12,.i s4.2.2)]) (fun (q5:Unit) s4=>[(.cells (A9 a0))]) 1 (fun r e s' H'=>PX 0 [(1,(.ptr (H.length+0) 0)),(10,(.seq 3 (Zg A6 r)))] (H++[(.cells (A9 a0))]) e s' H') () ho23 Z Z (fun _ _=>rfl) (fun _=>rfl) Z (fun s4=>(bdc (J7 Z) (bdc G6 (bdc G6 (bdc A4 (bdc A4 bdn)))))) (fun q5 s4 ys4 hs4=>?_) ?_
  ·unfold A1f at hs4
   refine B9<|s0<|qm Z<|qm Z<|A0 (F2 (f:=(cL 3 A6)) Z) Z<|A0 (I3 Z Z) Z<|es (ra6 Z Z Z Z Z Z)<|wi hs4 Z (fun hc6 hs4=>?_) fun hc6 hs4=>?_
   ·refine B8<|B9<|C5<|B9<|s0<|oB hs4 fun x7 hx7 hs4=>oB hs4 fun x8 hx8 hs4=>A0 (C9 Z Z Z) Z<|qm Z<|qm Z<|A0 (D4 (f:=(cL 3 A6)) Z Z hx7) Z<|A0 (G2 Z Z) Z<|B2 (rs:=[.b x8]) Z Z (A1 (D0 Z) (A1 Z B3)) ((A69 hx8).frz)<|A0 (M9 Z) Z<|es (ra6 Z Z Z Z Z Z)<|wi hs4 Z (fun hc9 hs4=>?_) fun hc9 hs4=>?_
    ·refine G5<|r0<|qm Z<|A0 (D8 Z Z) Z<|qm Z<|en (ra5 Z Z Z Z Z) ?_
     cases hs4
     exact lnT () Z (su5 Z Z Z Z Z)
    ·refine B8<|s0<|oB hs4 fun x10 hx10 hs4=>oB hs4 fun x11 hx11 hs4=>oB hs4 fun x12 hx12 hs4=>qm Z<|qm Z<|A0 (D4 (f:=(cL 3 A6)) Z Z hx10) Z<|A0 (G2 Z Z) Z<|B2 (rs:=[.i x11]) Z Z (A1 Z B3) ((Q0 hx11).frz)<|qm Z<|B2 (rs:=[.i x12]) Z Z (A1 Z B3) ((Q0 hx12).frz)<|qm Z<|qm Z<|es (ra7 Z Z Z Z Z Z Z)<|s0<|oB hs4 fun x20 hx20 hs4=>qm Z<|A0 (M9 Z) Z<|qm Z<|gp 4 52 (.b ((!s4.2.1)||(decide (x11<x12)))) 48 Z Z (fun hg13=>?_) (fun hg13=>?_) ?_
     ·exact nF Z hg13 Z<|nF Z hg13 Z<|nF Z hg13 Z<|A0 (C1 Z hg13 Z) Z<|ge 4 (by rw[hg13];rfl) Z Z
     ·exact gF Z hg13<|qm Z<|gF Z hg13<|qm Z<|gF Z hg13<|A0 (I3 Z Z) Z<|A0 (C0 Z hg13 Z) Z<|ge 4 (by rw[hg13];rfl) Z Z
     refine qm Z<|gp 16 69 (.b x20) 53 Z Z (fun hg14=>?_) (fun hg14=>?_) ?_
     ·obtain rfl:=os (bt hx20 hg14)
      exact nF Z hg14 Z<|nF Z hg14 Z<|nF Z hg14 Z<|nF Z hg14 Z<|nX Z Z<|nX Z Z<|nX Z Z<|nX Z Z<|nX Z Z<|nX Z Z<|nX Z Z<|nX Z Z<|G4 (A4d Z) Z<|nX Z Z<|nF Z hg14 Z<|A0 (C1 Z hg14 Z) Z<|ge 16 Z Z Z
     ·refine oB (bf hx20 hg14) fun x19 hx19 hx20=>?_
      obtain rfl:=os hx20
      refine gF Z hg14<|qm Z<|gF Z hg14<|qm Z<|gF Z hg14<|A0 (F9 Z Z) Z<|gF Z hg14<|qm Z<|gq 11 68 (.b x19) 57 Z Z (fun hg15=>?_) (fun hg15=>?_) ?_
      ·refine oB (bt hx19 hg15) fun x16 hx16 hx19=>oB hx19 fun x17 hx17 hx19=>oB hx19 fun x18 hx18 hx19=>?_
       obtain rfl:=os hx19
       exact gT Z hg15<|A0 (C9 Z Z Z) Z<|gT Z hg15<|qm Z<|gT Z hg15<|qm Z<|gT Z hg15<|A0 (D4 (f:=(cL 3 A6)) Z Z hx16) Z<|gT Z hg15<|A0 (G2 Z Z) Z<|gT Z hg15<|T3 (rs:=[.i x17]) Z Z (R5 Z (R5 Z A0j)) (A1 (D0 Z) (A1 Z B3)) ((A1b hx17).frz)<|gT Z hg15<|A0 (C9 Z Z Z) Z<|gT Z hg15<|qm Z<|gT Z hg15<|B2 (rs:=[.i x18]) Z Z (A1 (D0 Z) (A1 Z B3)) ((A1b hx18).frz)<|gT Z hg15<|A0 (I3 Z Z) Z<|gF Z hg14<|A0 (C1 Z hg15 Z) Z<|ge 11 Z Z Z
      ·obtain rfl:=os (bf hx19 hg15)
       exact nT Z hg15 Z<|nT Z hg15 Z<|nT Z hg15 Z<|nT Z hg15 Z<|nT Z hg15 Z<|nT Z hg15 Z<|nT Z hg15 Z<|nT Z hg15 Z<|G4 (D2 Z (by rw[hg15];rfl)) Z<|nT Z hg15 Z<|gF Z hg14<|A0 (C0 Z hg15 Z) Z<|ge 11 Z Z Z
      exact A0 (C0 Z hg14 Z) Z<|ge 6 Z Z Z
     refine es (ra6 Z Z Z Z Z Z)<|wi hs4 Z (fun hc21 hs4=>?_) fun hc21 hs4=>?_
     ·refine r0<|oB hs4 fun x22 hx22 hs4=>qm Z<|qm Z<|A0 (D4 (f:=(cL 3 A6)) Z Z hx22) Z<|A0 (G2 Z Z) Z<|qm Z<|qm Z<|en (ra5 Z Z Z Z Z)<|r0<|qm Z<|A0 (D8 Z Z) Z<|qm Z<|en (ra5 Z Z Z Z Z) ?_
      cases hs4
      exact lnT () Z (su5 Z Z Z Z Z)
     ·refine B8<|r0<|qm Z<|A0 (D8 Z Z) Z<|qm Z<|en (ra5 Z Z Z Z Z) ?_
      cases hs4
      exact lnT () Z (su5 Z Z Z Z Z)
   ·refine G5 ?_
    obtain rfl:=os hs4
    exact lx Z px (su2 Z Z)
  ·rintro e s' H'-⟨rfl,rfl,rfl⟩
   refine s0<|oB h fun x24 hx24 h=>oB h fun x25 hx25 h=>qm Z<|T3 (rs:=[.i x24]) Z Z (R5 Z A0j) (A1 Z B3) ((Q0 hx24).frz)<|A0 (C9 Z Z Z) Z<|qm Z<|B2 (rs:=[.i x25]) Z Z (A1 (D0 Z) (A1 Z B3)) ((A1b hx25).frz)<|qm Z<|qm Z<|qm Z<|qm Z<|qm Z<|es (ra4 Z Z Z Z)<|C6 ?_
   obtain rfl:=os h
   exact retq trivial (A8 Z (A8 Z (A8 Z (A8 Z B6)))) (A5 Z (A5 Z (A5 Z (A5 Z B5)))) (A3 G6 (A3 A4 (A3 A4 (A3 A4 B1))))
end Pw
end
section
namespace Pw
open Go Am
theorem D37 (s:PaShow) (p:List PaUse):decide ((I2 s p).1=0)=B6h s p:= by
 have:=(A4c s p).1
 unfold B6h
 rw[Z0c]
 simp;omega
def D92 (o:Option (List PaUse)):List PaUse×Bool:=match o with|none=>([],false)|some b=>(b,true)
theorem B9m {α:Type} [Inhabited α] (q:α→Bool) {l:List α} {i:Nat} (hi:i<l.length):(l.take (i+1)).filter q=if q l[i]! then (l.take i).filter q++[l[i]!] else (l.take i).filter q:= by
 rw[ZM hi,Z2d,← getElem!_pos l i hi,Z08,Z5n]
 cases q l[i]! <;> simp
theorem A87 (s:PaShow):A17 s=some (if (chk s).2.2=0 then (match fm (A33 s) (PA s) with|some b=>(b,F5 b,P4 s b,0)|none=>([],0,0,0)) else ([],0,0,(chk s).2.2)):= by
 unfold A17
 rw[A01]
 simp only[Zd]
 by_cases h:(chk s).2.2=0
 ·have hs:=(O9 s).mp h
  have hF:=hs.figures
  have hlen:=B5g hs hF []
  have hPU:=C6d hs
  rw[if_neg (by rw[h];decide),B1e hs,if_pos h]
  simp only[Zd]
  unfold PA
  generalize hL:PL s (F4 s) s.Figures.length []=L at hlen hPU
  obtain⟨b,hb,hbp,_⟩:=A7h hs
  unfold PA at hb
  rw[hL]at hb
  have hloop:loop (A1f s L) (([]:List PaUse),false,0)=some b:= by
   have:=N6 (b:=A1f s L) (fun i=>((D92 (fm (A33 s) ((L.take i).filter (B6h s)))).1,(D92 (fm (A33 s) ((L.take i).filter (B6h s)))).2,(i:Int))) L.length (r:=b) (by omega) (fun i hi=>by
    have hp:=hPU _ (J1 hi)
    have hpl:=hp.len
    have hidx:=G9 hi
    have htf:=B9m (B6h s) hi
    generalize L[i]! = p at *
    rw[htf]
    unfold A1f
    simp only[]
    rw[if_pos (by simpa using hi),hidx]
    simp only[Zd]
    rw[B1c hs hp,D37,D6 (by omega)]
    simp only[Zd]
    cases hc:B6h s p
    ·rfl
    ·simp only[Z0y,Zj,if_false,if_true]
     rw[Q7 (by omega),C6s,A4m hs hp]
     cases ho:fm (A33 s) ((L.take i).filter (B6h s)) with
     | none =>
      simp only[D92]
      rw[Q7 (by simp)]
      rfl
     | some c =>
      have hcm:=B4r ho
      have hcu:=hPU c (ZZ (Z0a.mp hcm).1)
      have hcl:=hcu.len
      simp only[D92]
      rw[Q7 (by omega),A4m hs hcu]
      simp only[Zd,Z0y,Z30]
      have hk:=D7p hs hp hcu
      by_cases k:A33 s p<A33 s c
      ·rw[if_pos k]
       rcases hk.mp k with k1|⟨k1,k2⟩
       ·rw[if_pos (decide_eq_true k1)];rfl
       ·rw[if_neg (by simp;omega),if_pos (by rw[beq_iff_eq];exact k1)]
        simp only[Zd]
        rw[if_pos (decide_eq_true k2)];rfl
      ·rw[if_neg k]
       have k1:¬ F5 p<F5 c:=fun q=>k (hk.mpr (.inl q))
       rw[if_neg (by simpa using k1)]
       by_cases k2:F5 p=F5 c
       ·have k3:¬ P4 s p<P4 s c:=fun q=>k (hk.mpr (.inr ⟨k2,q⟩))
        rw[if_pos (by rw[beq_iff_eq];exact k2)]
        simp only[Zd]
        rw[if_neg (by simpa using k3)];rfl
       ·rw[if_neg (by rw[beq_iff_eq];exact k2)];rfl) (by
    rw[Z0n,hb]
    unfold A1f
    simp only[]
    rw[if_neg (by simp)];rfl)
   exact this
  have hbl:=hbp.ok.u.len
  rw[hloop]
  simp only[Zd]
  rw[Q7 (by omega),A4m hs hbp.ok.u,hb]
  rfl
 ·rw[if_pos (bne_iff_ne.mpr h),if_neg h]
theorem C6r (s:PaShow):0≤U7 s:= by
 unfold U7
 split
 ·exact(A31 _).1
 ·exact Z02 _
end Pw
end
section
set_option maxRecDepth 100000
set_option maxHeartbeats 0
namespace Pw
open Go Am Go.Proofs.YtjpjdglddmhplaaGreat.Cd
def A4y (a0:PaShow):Option Bool :=
 (A5w a0).bind fun x1 =>
 (T2 a0).bind fun x2 =>
 if (!x2)=true then
  (if ((x1.2 != 0)&&(x1.1==0))=true then
  (K9).bind fun x6 =>
  some x6
  else
  some false).bind fun x7 =>
  some x7
 else
  (S3 a0).bind fun x8 =>
  if ((x8.2.2.2 != 0)||(!((x1.2==4)==(x8.2.1==0))))=true then
  some false
  else
  if (x1.2==4)=true then
   (if (x1.1==0)=true then
   (K9).bind fun x13 =>
   some x13
   else
   some false).bind fun x14 =>
   some x14
  else
   if (((x1.2 != 0)&&((x1.2 != 9)||(x1.1 != 0)))||((x1.2==0)&&((decide (x1.1<1))||(decide (x1.1>10000)))))=true then
   some false
   else
   if (x1.2 != 0)=true then
    (A17 (PaShow.mk a0.Gowns a0.Figures (w64 (a0.Purse+10000)) a0.Incomes)).bind fun x22 =>
    (T2 (PaShow.mk a0.Gowns a0.Figures (w64 (a0.Purse+10000)) a0.Incomes)).bind fun x23 =>
    (if ((!x23)||(decide (x22.2.1>0)))=true then
    (K9).bind fun x26 =>
    some x26
    else
    some false).bind fun x27 =>
    some x27
   else
    (T2 (PaShow.mk a0.Gowns a0.Figures (w64 (a0.Purse+x1.1)) a0.Incomes)).bind fun x28 =>
    (if x28=true then
     (S3 (PaShow.mk a0.Gowns a0.Figures (w64 (a0.Purse+x1.1)) a0.Incomes)).bind fun x31 =>
     if ((x31.2.2.2 != 0)||(x31.2.1 != 0))=true then
     some (.inl false)
     else
     some (.inr ())
    else
     some (.inr ())).bind fun (p29:(Bool⊕Unit)) =>
    match p29 with
    | (.inl vp29_0) =>
    some vp29_0
    | (.inr vp29_1) =>
    (T2 (PaShow.mk a0.Gowns a0.Figures (w64 ((w64 (a0.Purse+x1.1))-1)) a0.Incomes)).bind fun x34 =>
    if x34=true then
     (S3 (PaShow.mk a0.Gowns a0.Figures (w64 ((w64 (a0.Purse+x1.1))-1)) a0.Incomes)).bind fun x36 =>
     if ((x36.2.2.2 != 0)||(x36.2.1==0))=true then
     some false
     else
     (K9).bind fun x39 =>
     some x39
    else
     (K9).bind fun x40 =>
     some x40
theorem B6b {c:Sc} {H:A2} (hscv:T5 c H=true) {a0:PaShow} {r:Bool} (h:A4y a0=some r) :
  F0 tab c H (.fn (.func 8) [] []) [(.agg (A9 a0))] [.b r]:= by
 unfold A4y at h
 refine cE Z Z<|sg 0 Z<|A0 (G1 (cs:=A9 a0) Z Z Z) Z<|qm Z<|es (ra1 Z)<|s0<|oB h fun x1 hx1 h=>A0 (C9 Z Z Z) Z<|B2 (rs:=[.i x1.1,.i x1.2]) Z Z (A1 (D0 Z) B3) ((B06 (A1w hscv) hx1).frz)<|qm Z<|A0 (A7 Z Z) Z<|A0 (A7 Z Z) Z<|qm Z<|qm Z<|es (ra3 Z Z Z)<|B9<|s0<|oB h fun x2 hx2 h=>A0 (C9 Z Z Z) Z<|B2 (rs:=[.b x2]) Z Z (A1 (D0 Z) B3) ((W7 hx2).frz)<|A0 (M9 Z) Z<|es (ra4 Z Z Z Z)<|wi h Z (fun hc3 h=>?_) fun hc3 h=>?_
 ·refine s0<|oB h fun x7 hx7 h=>qm Z<|A0 (H9 Z Z) Z<|qm Z<|gp 3 36 (.b ((x1.2 != 0)&&(x1.1==0))) 33 Z Z (fun hg4=>?_) (fun hg4=>?_) ?_
  ·exact gT Z hg4<|qm Z<|gT Z hg4<|A0 (F9 Z Z) Z<|A0 (C1 Z hg4 Z) Z<|ge 3 (by rw[hg4];rfl) Z Z
  ·exact nT Z hg4 Z<|nT Z hg4 Z<|A0 (C0 Z hg4 Z) Z<|ge 3 (by rw[hg4];rfl) Z Z
  refine qm Z<|gp 2 39 (.b x7) 37 Z Z (fun hg5=>?_) (fun hg5=>?_) ?_
  ·refine oB (bt hx7 hg5) fun x6 hx6 hx7=>?_
   obtain rfl:=os hx7
   exact gT Z hg5<|B2 (rs:=[.b x6]) Z Z B3 ((K0 (A1w hscv) hx6).frz)<|A0 (C1 Z hg5 Z) Z<|ge 2 Z Z Z
  ·obtain rfl:=os (bf hx7 hg5)
   exact G4 (D2 Z (by rw[hg5];rfl)) Z<|A0 (C0 Z hg5 Z) Z<|ge 2 Z Z Z
  refine qm Z<|es (ra1 Z)<|C6 ?_
  obtain rfl:=os h
  exact retq trivial (A8 Z B6) (A5 Z B5) (A3 A4 B1)
 ·refine B8<|s0<|oB h fun x8 hx8 h=>A0 (C9 Z Z Z) Z<|B2 (rs:=[(.seq 3 (Zg A6 x8.1)),.i x8.2.1,.i x8.2.2.1,.i x8.2.2.2]) Z Z (A1 (D0 Z) B3) ((V1 (A1w hscv) hx8).frz)<|qm Z<|A0 (A7 Z Z) Z<|A0 (A7 Z Z) Z<|A0 (A7 Z Z) Z<|A0 (A7 Z Z) Z<|qm Z<|qm Z<|qm Z<|qm Z<|es (ra5 Z Z Z Z Z)<|B9<|s0<|qm Z<|A0 (H9 Z Z) Z<|qm Z<|gp 6 55 (.b ((x8.2.2.2 != 0)||(!((x1.2==4)==(x8.2.1==0))))) 49 Z Z (fun hg9=>?_) (fun hg9=>?_) ?_
  ·exact nF Z hg9 Z<|nF Z hg9 Z<|nF Z hg9 Z<|nF Z hg9 Z<|nF Z hg9 Z<|A0 (C1 Z hg9 Z) Z<|ge 6 (by rw[hg9];rfl) Z Z
  ·exact gF Z hg9<|qm Z<|gF Z hg9<|A0 (F9 Z Z) Z<|gF Z hg9<|qm Z<|gF Z hg9<|A0 (F9 Z Z) Z<|gF Z hg9<|A0 (D8d Z Z) Z<|A0 (C0 Z hg9 Z) Z<|ge 6 (by rw[hg9];rfl) Z Z
  refine es (ra4 Z Z Z Z)<|wi h Z (fun hc10 h=>?_) fun hc10 h=>?_
  ·refine s0<|qm Z<|es (ra1 Z)<|C6 ?_
   obtain rfl:=os h
   exact retq trivial (A8 Z B6) (A5 Z B5) (A3 A4 B1)
  ·refine B8<|B9<|s0<|qm Z<|A0 (F9 Z Z) Z<|es (ra4 Z Z Z Z)<|wi h Z (fun hc11 h=>?_) fun hc11 h=>?_
   ·refine s0<|oB h fun x14 hx14 h=>qm Z<|A0 (F9 Z Z) Z<|qm Z<|gp 2 62 (.b x14) 60 Z Z (fun hg12=>?_) (fun hg12=>?_) ?_
    ·refine oB (bt hx14 hg12) fun x13 hx13 hx14=>?_
     obtain rfl:=os hx14
     exact gT Z hg12<|B2 (rs:=[.b x13]) Z Z B3 ((K0 (A1w hscv) hx13).frz)<|A0 (C1 Z hg12 Z) Z<|ge 2 Z Z Z
    ·obtain rfl:=os (bf hx14 hg12)
     exact G4 (D2 Z (by rw[hg12];rfl)) Z<|A0 (C0 Z hg12 Z) Z<|ge 2 Z Z Z
    refine qm Z<|es (ra1 Z)<|C6 ?_
    obtain rfl:=os h
    exact retq trivial (A8 Z B6) (A5 Z B5) (A3 A4 B1)
   ·refine B8<|B9<|s0<|qm Z<|A0 (H9 Z Z) Z<|qm Z<|gp 7 72 (.b ((x1.2 != 0)&&((x1.2 != 9)||(x1.1 != 0)))) 65 Z Z (fun hg15=>?_) (fun hg15=>?_) ?_
    ·refine gT Z hg15<|qm Z<|gT Z hg15<|A0 (H9 Z Z) Z<|gT Z hg15<|qm Z<|gq 3 71 (.b ((x1.2 != 9)||(x1.1 != 0))) 68 Z Z (fun hg16=>?_) (fun hg16=>?_) ?_
     ·exact nF Z hg16 Z<|nF Z hg16 Z<|gT Z hg15<|A0 (C1 Z hg16 Z) Z<|ge 3 (by rw[hg16];rfl) Z Z
     ·exact gF Z hg16<|qm Z<|gF Z hg16<|A0 (H9 Z Z) Z<|gT Z hg15<|A0 (C0 Z hg16 Z) Z<|ge 3 (by rw[hg16];rfl) Z Z
     exact A0 (C1 Z hg15 Z) Z<|ge 5 (by rw[hg15];rfl) Z Z
    ·exact nT Z hg15 Z<|nT Z hg15 Z<|nT Z hg15 Z<|nX Z Z<|nX Z Z<|nT Z hg15 Z<|A0 (C0 Z hg15 Z) Z<|ge 7 (by rw[hg15];rfl) Z Z
    refine qm Z<|gp 11 84 (.b (((x1.2 != 0)&&((x1.2 != 9)||(x1.1 != 0)))||((x1.2==0)&&((decide (x1.1<1))||(decide (x1.1>10000)))))) 73 Z Z (fun hg17=>?_) (fun hg17=>?_) ?_
    ·exact nF Z hg17 Z<|nF Z hg17 Z<|nF Z hg17 Z<|nX Z Z<|nX Z Z<|nX Z Z<|nX Z Z<|nX Z Z<|nX Z Z<|nF Z hg17 Z<|A0 (C1 Z hg17 Z) Z<|ge 11 (by rw[hg17];rfl) Z Z
    ·refine gF Z hg17<|qm Z<|gF Z hg17<|A0 (F9 Z Z) Z<|gF Z hg17<|qm Z<|gq 7 83 (.b ((x1.2==0)&&((decide (x1.1<1))||(decide (x1.1>10000))))) 76 Z Z (fun hg18=>?_) (fun hg18=>?_) ?_
     ·refine gT Z hg18<|qm Z<|gT Z hg18<|A0 (I3 Z Z) Z<|gT Z hg18<|qm Z<|gq 3 82 (.b ((decide (x1.1<1))||(decide (x1.1>10000)))) 79 Z Z (fun hg19=>?_) (fun hg19=>?_) ?_
      ·exact nF Z hg19 Z<|nF Z hg19 Z<|gT Z hg18<|A0 (C1 Z hg19 Z) Z<|ge 3 (by rw[hg19];rfl) Z Z
      ·exact gF Z hg19<|qm Z<|gF Z hg19<|A0 (W0 Z Z) Z<|gT Z hg18<|A0 (C0 Z hg19 Z) Z<|ge 3 (by rw[hg19];rfl) Z Z
      exact gF Z hg17<|A0 (C1 Z hg18 Z) Z<|ge 5 (by rw[hg18];rfl) Z Z
     ·exact nT Z hg18 Z<|nT Z hg18 Z<|nT Z hg18 Z<|nX Z Z<|nX Z Z<|nT Z hg18 Z<|gF Z hg17<|A0 (C0 Z hg18 Z) Z<|ge 7 (by rw[hg18];rfl) Z Z
     exact A0 (C0 Z hg17 Z) Z<|ge 5 (by rw[hg17];rfl) Z Z
    refine es (ra4 Z Z Z Z)<|wi h Z (fun hc20 h=>?_) fun hc20 h=>?_
    ·refine s0<|qm Z<|es (ra1 Z)<|C6 ?_
     obtain rfl:=os h
     exact retq trivial (A8 Z B6) (A5 Z B5) (A3 A4 B1)
    ·refine B8<|sg 1 Z<|A0 (C9 Z Z Z) Z<|A0 J6 Z<|O6 (G0 (ds:=(A9 a0)) Z Z Z Z (E0 Z) Z) Z<|es (ra4 Z Z Z Z)<|B9<|s0<|qm Z<|A0 (H9 Z Z) Z<|es (ra4 Z Z Z Z)<|wi h Z (fun hc21 h=>?_) fun hc21 h=>?_
     ·refine s0<|A0 (C3 Z) Z<|A0 (B4 Z Z Z) Z<|A0 (D8 Z Z) Z<|A0 (C3 Z) Z<|O6 (G0 (ds:=(A9 (PaShow.mk a0.Gowns a0.Figures (w64 (a0.Purse+10000)) a0.Incomes))) Z Z Z Z (E0 Z) Z) Z<|es (ra1 Z)<|s0<|oB h fun x22 hx22 h=>A0 (C9 Z Z Z) Z<|B2 (rs:=[(.seq 3 (Zg A6 x22.1)),.i x22.2.1,.i x22.2.2.1,.i x22.2.2.2]) Z Z (A1 (D0 Z) B3) ((A6d hx22).frz)<|qm Z<|A0 (A7 Z Z) Z<|A0 (A7 Z Z) Z<|A0 (A7 Z Z) Z<|A0 (A7 Z Z) Z<|qm Z<|qm Z<|qm Z<|qm Z<|es (ra2 Z Z)<|s0<|oB h fun x23 hx23 h=>oB h fun x27 hx27 h=>A0 (C9 Z Z Z) Z<|B2 (rs:=[.b x23]) Z Z (A1 (D0 Z) B3) ((W7 hx23).frz)<|A0 (M9 Z) Z<|qm Z<|gp 3 105 (.b ((!x23)||(decide (x22.2.1>0)))) 102 Z Z (fun hg24=>?_) (fun hg24=>?_) ?_
      ·exact nF Z hg24 Z<|nF Z hg24 Z<|A0 (C1 Z hg24 Z) Z<|ge 3 (by rw[hg24];rfl) Z Z
      ·exact gF Z hg24<|qm Z<|gF Z hg24<|A0 (W0 Z Z) Z<|A0 (C0 Z hg24 Z) Z<|ge 3 (by rw[hg24];rfl) Z Z
      refine qm Z<|gp 2 108 (.b x27) 106 Z Z (fun hg25=>?_) (fun hg25=>?_) ?_
      ·refine oB (bt hx27 hg25) fun x26 hx26 hx27=>?_
       obtain rfl:=os hx27
       exact gT Z hg25<|B2 (rs:=[.b x26]) Z Z B3 ((K0 (A1w hscv) hx26).frz)<|A0 (C1 Z hg25 Z) Z<|ge 2 Z Z Z
      ·obtain rfl:=os (bf hx27 hg25)
       exact G4 (D2 Z (by rw[hg25];rfl)) Z<|A0 (C0 Z hg25 Z) Z<|ge 2 Z Z Z
      refine qm Z<|es (ra1 Z)<|C6 ?_
      obtain rfl:=os h
      exact retq trivial (A8 Z B6) (A5 Z B5) (A3 A4 B1)
     ·refine B8<|s0<|A0 (C3 Z) Z<|A0 (B4 Z Z Z) Z<|qm Z<|A0 (D8 Z Z) Z<|A0 (C3 Z) Z<|O6 (G0 (ds:=(A9 (PaShow.mk a0.Gowns a0.Figures (w64 (a0.Purse+x1.1)) a0.Incomes))) Z Z Z Z (E0 Z) Z) Z<|es (ra3 Z Z Z)<|sg 2 Z<|A0 (C9 Z Z Z) Z<|A0 J6 Z<|O6 (G0 (ds:=(A9 a0)) Z Z Z Z (E0 Z) Z) Z<|es (ra4 Z Z Z Z)<|s0<|A0 (C3 Z) Z<|A0 (B4 Z Z Z) Z<|qm Z<|A0 (D8 Z Z) Z<|A0 (W1 Z Z) Z<|A0 (C3 Z) Z<|O6 (G0 (ds:=(A9 (PaShow.mk a0.Gowns a0.Figures (w64 ((w64 (a0.Purse+x1.1))-1)) a0.Incomes))) Z Z Z Z (E0 Z) Z) Z<|es (ra2 Z Z)<|B9<|s0<|oB h fun x28 hx28 h=>A0 (C9 Z Z Z) Z<|B2 (rs:=[.b x28]) Z Z (A1 (D0 Z) B3) ((W7 hx28).frz)<|es (ra3 Z Z Z)<|oB h fun p29 hp29 h=>A59 (Q1:=fun e s' H'=>(match p29 with|(.inl v)=>e=.ret∧RetQ H [.tmp 2] [.b v] e s' H' | (.inr v)=>e=.normal∧s'=[(14,(.ptr (H.length+2) 0))]∧H'=(H++[(.cells (A9 a0)),(.cells (A9 (PaShow.mk a0.Gowns a0.Figures (w64 (a0.Purse+x1.1)) a0.Incomes))),(.cells (A9 (PaShow.mk a0.Gowns a0.Figures (w64 ((w64 (a0.Purse+x1.1))-1)) a0.Incomes)))]):Prop)) ?_ ?_
      ·refine wi hp29 Z (fun hc30 hp29=>?_) fun hc30 hp29=>?_
       ·refine s0<|oB hp29 fun x31 hx31 hp29=>A0 (C9 Z Z Z) Z<|B2 (rs:=[(.seq 3 (Zg A6 x31.1)),.i x31.2.1,.i x31.2.2.1,.i x31.2.2.2]) Z Z (A1 (D0 Z) B3) ((V1 (A1w hscv) hx31).frz)<|qm Z<|A0 (A7 Z Z) Z<|A0 (A7 Z Z) Z<|A0 (A7 Z Z) Z<|A0 (A7 Z Z) Z<|qm Z<|qm Z<|qm Z<|qm Z<|es (ra3 Z Z Z)<|s0<|qm Z<|A0 (H9 Z Z) Z<|qm Z<|gp 3 135 (.b ((x31.2.2.2 != 0)||(x31.2.1 != 0))) 132 Z Z (fun hg32=>?_) (fun hg32=>?_) ?_
        ·exact nF Z hg32 Z<|nF Z hg32 Z<|A0 (C1 Z hg32 Z) Z<|ge 3 (by rw[hg32];rfl) Z Z
        ·exact gF Z hg32<|qm Z<|gF Z hg32<|A0 (H9 Z Z) Z<|A0 (C0 Z hg32 Z) Z<|ge 3 (by rw[hg32];rfl) Z Z
        refine es (ra2 Z Z)<|wi hp29 Z (fun hc33 hp29=>?_) fun hc33 hp29=>?_
        ·refine s0<|qm Z<|es (ra1 Z)<|C6 ?_
         obtain rfl:=os hp29
         exact me (ZE Z (retq trivial (A8 Z B6) (A5 Z B5) (A3 A4 B1))) (Sub.refl _)
        ·refine B8 ?_
         obtain rfl:=os hp29
         exact me (ZE Z (ZE Z Z)) (su1 Z)
       ·refine B8 ?_
        obtain rfl:=os hp29
        exact me (ZE Z (ZE Z Z)) (su1 Z)
      ·rcases p29 with vp29_0|vp29_1
       ·rintro e s' H' ⟨rfl,hret⟩
        cases h
        exact hret
       ·rintro e s' H' ⟨rfl,rfl,rfl⟩
        refine B9<|s0<|oB h fun x34 hx34 h=>A0 (C9 Z Z Z) Z<|B2 (rs:=[.b x34]) Z Z (A1 (D0 Z) B3) ((W7 hx34).frz)<|es (ra2 Z Z)<|wi h Z (fun hc35 h=>?_) fun hc35 h=>?_
        ·refine s0<|oB h fun x36 hx36 h=>A0 (C9 Z Z Z) Z<|B2 (rs:=[(.seq 3 (Zg A6 x36.1)),.i x36.2.1,.i x36.2.2.1,.i x36.2.2.2]) Z Z (A1 (D0 Z) B3) ((V1 (A1w hscv) hx36).frz)<|qm Z<|A0 (A7 Z Z) Z<|A0 (A7 Z Z) Z<|A0 (A7 Z Z) Z<|A0 (A7 Z Z) Z<|qm Z<|qm Z<|qm Z<|qm Z<|es (ra2 Z Z)<|s0<|qm Z<|A0 (H9 Z Z) Z<|qm Z<|gp 3 150 (.b ((x36.2.2.2 != 0)||(x36.2.1==0))) 147 Z Z (fun hg37=>?_) (fun hg37=>?_) ?_
         ·exact nF Z hg37 Z<|nF Z hg37 Z<|A0 (C1 Z hg37 Z) Z<|ge 3 (by rw[hg37];rfl) Z Z
         ·exact gF Z hg37<|qm Z<|gF Z hg37<|A0 (F9 Z Z) Z<|A0 (C0 Z hg37 Z) Z<|ge 3 (by rw[hg37];rfl) Z Z
         refine es (ra1 Z)<|wi h Z (fun hc38 h=>?_) fun hc38 h=>?_
         ·refine s0<|qm Z<|es (ra1 Z)<|C6 ?_
          obtain rfl:=os h
          exact retq trivial (A8 Z B6) (A5 Z B5) (A3 A4 B1)
         ·refine B8<|s0<|oB h fun x39 hx39 h=>B2 (rs:=[.b x39]) Z Z B3 ((K0 (A1w hscv) hx39).frz)<|qm Z<|es (ra1 Z)<|C6 ?_
          obtain rfl:=os h
          exact retq trivial (A8 Z B6) (A5 Z B5) (A3 A4 B1)
        ·refine B8<|s0<|oB h fun x40 hx40 h=>B2 (rs:=[.b x40]) Z Z B3 ((K0 (A1w hscv) hx40).frz)<|qm Z<|es (ra1 Z)<|C6 ?_
         obtain rfl:=os h
         exact retq trivial (A8 Z B6) (A5 Z B5) (A3 A4 B1)
end Pw
end
section
namespace Pw
open Go Am
def B8g (s:PaShow) (n:Int):PaShow:=⟨s.Gowns,s.Figures,n,s.Incomes⟩
theorem C2x {s:PaShow} (hs:ShOk s) (n:Int):ShOk (B8g s n)↔0≤n∧n≤10000 :=
 ⟨fun h=>h.purse,fun h=>⟨hs.gowns,hs.gown,hs.gname,hs.figures,hs.figure,hs.fname,h,hs.incomes,hs.income⟩⟩
theorem D9a {s:PaShow} {n:Int} {p:List PaUse}:PlOk (B8g s n) p↔PlOk s p:= by rw[B0d,B0d];rfl
theorem C90 (s:PaShow) (n:Int) (p:List PaUse) (d:Int):I1 (B8g s n) p d=I1 s p d+(n-s.Purse):= by
 show n+O4 (incs s) d-O4 (pays s p) d=s.Purse+O4 (incs s) d-O4 (pays s p) d+(n-s.Purse)
 omega
theorem C8m {s:PaShow} (hs:ShOk s):U7 s=0↔∃ p,Pay s p∧F5 p=0:= by
 obtain⟨hmin,b,_,hb,hw⟩:=A1z hs
 constructor
 ·intro h;exact⟨b,hb,by omega⟩
 ·rintro⟨p,hp,h0⟩
  have:=hmin p hp
  have:=C6r s
  omega
theorem C2y {s:PaShow} (hs:ShOk s) {n:Int} (hn:s.Purse≤n) (hn2:n≤10000):U7 (B8g s n)=0↔∃ p,PlOk s p∧F5 p=0∧(I2 s p).1≤n-s.Purse:= by
 have hpu:=hs.purse
 rw[C8m ((C2x hs n).mpr ⟨by omega,hn2⟩)]
 constructor
 ·rintro⟨p,hp,h0⟩
  have hok:=D9a.mp hp.ok
  refine⟨p,hok,h0,(A8h hs hok.u).mpr ⟨by omega,fun d hd=>?_⟩⟩
  have:=hp.left d hd
  rw[C90]at this
  omega
 ·rintro⟨p,hp,h0,hsh⟩
  refine⟨p,⟨D9a.mpr hp,fun d hd=>?_⟩,h0⟩
  have:=((A8h hs hp.u).mp hsh).2 d hd
  rw[C90]
  omega
theorem D89 {s:PaShow} (h:NB s) (n:Int):NB (B8g s n):=h
theorem C38 {s:PaShow} (hb:NB s):A4y s=some true:= by
 unfold A4y
 rw[D2t s hb,A8m,awake]
 simp only[Zd]
 by_cases h:(chk s).2.2=0
 ·have hs:=(O9 s).mp h
  have hpu:=hs.purse
  obtain⟨b,hbb,_,hn,hm⟩:=A97 hs
  obtain⟨bb,eb⟩:=C0t hb hs
  have hb0:=A31 b
  have hbs:=A8g hs hbb.u
  have hfz:U7 s=0↔F5 b=0∧(I2 s b).1=0:= by
   rw[C8m hs]
   constructor
   ·rintro⟨p,hp,h0⟩
    have h1:=hm p hp.ok
    have h2:=(A2z hs hp.ok.u).mpr hp.left
    omega
   ·rintro⟨h1,h2⟩
    exact⟨b,⟨hbb,(A2z hs hbb.u).mp h2⟩,h1⟩
  have hnn:=C6r s
  have hval:∀n,decide ((chk (B8g s n)).2.2=0)=decide (0≤n∧n≤10000):=fun n=>by
   rw[decide_eq_decide,O9,C2x hs]
  rw[eb]
  simp only[h,if_true,Zd]
  rw[if_neg (by simp)]
  unfold C9c
  rw[hn]
  simp only
  by_cases c1:F5 b>0∨(I2 s b).1>10000
  ·have hf:¬ U7 s=0:=fun q=>by have:=hfz.mp q;omega
   have hfe:(U7 s==0)=false:=beq_eq_false_iff_ne.mpr hf
   rw[if_pos c1]
   simp only[hfe]
   rw[if_neg (by decide),if_neg (by decide),if_neg (by decide),if_pos (by decide)]
   rw[D6 (n:=s.Purse+10000) (by omega)]
   have e1:(PaShow.mk s.Gowns s.Figures (s.Purse+10000) s.Incomes)=B8g s (s.Purse+10000):=rfl
   rw[e1,A87,A8m,hval]
   simp only[Zd]
   by_cases hv:0≤s.Purse+10000∧s.Purse+10000≤10000
   ·have ht:=(C2x hs _).mpr hv
    obtain⟨_,c,ec,_,hcw⟩:=A1z ht
    have hpos:¬ U7 (B8g s (s.Purse+10000))=0:=fun q=>by
     obtain⟨p,hp,h0,hsh⟩:=(C2y hs (by omega) hv.2).mp q
     have:=hm p hp
     omega
    have:=C6r (B8g s (s.Purse+10000))
    rw[(O9 _).mpr ht,if_pos Z,ec]
    simp only[hcw]
    rw[if_pos (by simp;omega)]
    rfl
   ·rw[if_pos (by rw[decide_eq_false hv];rfl)]
    rfl
  ·rw[if_neg c1]
   by_cases c2:(I2 s b).1=0
   ·have hf:U7 s=0:=hfz.mpr ⟨by omega,c2⟩
    rw[if_pos c2,hf]
    rfl
   ·have hf:¬ U7 s=0:=fun q=>c2 (hfz.mp q).2
    have hfe:(U7 s==0)=false:=beq_eq_false_iff_ne.mpr hf
    have hb00:F5 b=0:= by omega
    rw[if_neg c2]
    simp only[hfe]
    generalize hN:(I2 s b).1=n at *
    rw[if_neg (by decide),if_neg (by decide),if_neg (by simp;omega),if_neg (by decide)]
    rw[D6 (n:=s.Purse+n) (by omega),D6 (n:=s.Purse+n-1) (by omega)]
    have e1:∀k,(PaShow.mk s.Gowns s.Figures k s.Incomes)=B8g s k:=fun _=>rfl
    rw[e1,e1,A8m,A8m,hval,hval]
    simp only[Zd]
    have hrich:∀K:(Bool⊕Unit)→Option Bool,((if decide (0≤s.Purse+n∧s.Purse+n≤10000)=true then
      (S3 (B8g s (s.Purse+n))).bind fun x31=>if ((x31.2.2.2 != 0)||(x31.2.1 != 0))=true then some (Z42 false:Bool⊕Unit) else some (.inr ())
     else some (.inr ())).bind K)=K (.inr ()):=fun K=>by
     by_cases hv:0≤s.Purse+n∧s.Purse+n≤10000
     ·have ht:=(C2x hs _).mpr hv
      obtain⟨c,ec⟩:=C0t (D89 hb _) ht
      have h0:U7 (B8g s (s.Purse+n))=0:=(C2y hs (by omega) hv.2).mpr ⟨b,hbb,hb00,by omega⟩
      rw[if_pos (decide_eq_true hv),ec,h0]
      rfl
     ·rw[if_neg (by rw[decide_eq_false hv];decide)]
      rfl
    refine(hrich _).trans ?_
    dsimp only
    by_cases hv:0≤s.Purse+n-1∧s.Purse+n-1≤10000
    ·have ht:=(C2x hs _).mpr hv
     obtain⟨c,ec⟩:=C0t (D89 hb _) ht
     have hpos:¬ U7 (B8g s (s.Purse+n-1))=0:=fun q=>by
      obtain⟨p,hp,h0,hsh⟩:=(C2y hs (by omega) hv.2).mp q
      have:=hm p hp
      omega
     rw[if_pos (decide_eq_true hv),ec]
     simp only[Zd]
     rw[if_neg (by simpa using hpos)]
    ·rw[if_neg (by rw[decide_eq_false hv];decide)]
 ·simp[h]
end Pw
end
