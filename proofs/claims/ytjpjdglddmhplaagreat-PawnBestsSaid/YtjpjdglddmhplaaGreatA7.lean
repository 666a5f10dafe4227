/- Texts that the claim stands on, one behind another. -/
import Derived.Test.YtjpjdglddmhplaaGreatA6
set_option linter.unusedVariables false
set_option linter.unusedSimpArgs false
set_option linter.unnecessarySimpa false
open And renaming intro→ZE
open Bool renaming and_eq_true→Zc,eq_iff_iff→Z00,false_eq_true→Zj,false_or→Z35,not_true→Z0s,or_true→Z1l
open Classical renaming byContradiction→Z47
open Int renaming add_zero→Z31,le_refl→ZY,le_trans→Z61,natCast_nonneg→Z0y,tdiv_eq_ediv_of_nonneg→Z2v,tmod_eq_emod_of_nonneg→Z41,toNat_natCast→ZG,toNat_of_nonneg→Z55,zero_add→Z5b
open List renaming all_eq_true→Zt,any_cons→Z51,any_eq_true→Z1y,append_assoc→Zz,append_nil→ZV,drop_eq_getElem_cons→Z1r,drop_of_length_le→Z2k,filter_append→Z1q,filter_cons→Z08,filter_eq_nil_iff→Z2j,filter_nil→Z4m,flatMap_append→Z15,flatMap_cons→Z0n,flatMap_nil→Z5m,foldl_cons→Z0b,getElem?_eq_getElem→Zo,getElem?_eq_some_iff→Zf,getElem_map→Z3a,getElem_mem→Z28,getElem_range→Z3x,getElem_set_self→Z4w,length_append→Zm,length_cons→ZU,length_eq_zero_iff→Z0o,length_filter_eq_length_iff→Z3c,length_filter_le→Z0a,length_map→Zi,length_range→Z1w,length_replicate→Z21,length_set→Z0w,length_singleton→Z1n,length_take→ZC,length→Zh,map_append→ZZ,map_congr_left→Z2b,map_cons→Zw,map_map→Z1j,map→Ze,mem_append→ZB,mem_cons_of_mem→Zp,mem_cons_self→Zv,mem_cons→Zs,mem_filter→Z05,mem_flatMap→Z2r,mem_map_of_mem→Z14,mem_map→ZJ,mem_of_mem_take→Z01,mem_range→Z1x,mem_singleton→Z0d,nil_append→Z07,pairwise_append→Z0z,pairwise_cons→Z1o,pairwise_lt_range→Z34,pairwise_map→Z45,range_succ→Z4l,range→Z04,replicate→Zx,set_eq_of_length_le→Z1u,take_left→Z0c,take_length→Z0g,take_of_length_le→ZO,take_set→Z36,take_succ_cons→Z2a,take_succ_eq_append_getElem→ZI,take_take→Z3t
open Nat renaming add_assoc→Z06,add_zero→Z19,div_add_mod→Z4g,div_eq_of_lt→Z49,div_le_self→Z5p,le_add_right→ZM,le_refl→Zn,le_succ→Z64,le_trans→Z03,min_eq_left→Z1g,mod_eq_of_lt→Z38,mod_lt→Z24,mul_add_div→Z4h,mul_add_mod→Z5q,mul_comm→Z1k,mul_le_mul_right→ZR,mul_le_mul→Z1p,pow_le_pow_left→Z56,pow_le_pow_right→Z50,sub_self→Z2n,succ_mul→Z1t
open Option renaming bind_some→Zd
open Option.some renaming inj→Z0e
open Prod renaming fst→Z3b
section
set_option maxRecDepth 100000
set_option maxHeartbeats 0
namespace Pw
open Go Am Go.Proofs.YtjpjdglddmhplaaGreat.Cd
def B6d (a0:PaShow) (a1:(List PaUse)) (x1:(Int×(List Int))) (s4:(Int×(List Int))):Option ((Int×(List Int))⊕(List Int)) :=
 if (decide (s4.1<(Zh a0.Gowns:Int)))=true then
  (idx a0.Gowns s4.1).bind fun x7 =>
  (if (x7.Pawn&&(decide (x7.Last<364)))=true then
  (A6u (pawn_show.mk a0 (Ar3.mk (pawn_way.mk ) (pawn_way.mk ) (pawn_way.mk )) x1.2) a1 s4.1).bind fun x10 =>
  some (!x10)
  else
  some false).bind fun x11 =>
  if x11=true then
  (app 8 s4.2 [s4.1]).bind fun x13 =>
  some (.inl ((w64 (s4.1+1)),x13))
  else
  some (.inl ((w64 (s4.1+1)),s4.2))
 else
  some (.inr s4.2)
def B8b (a0:PaShow) (a1:(List PaUse)):Option ((List Int)×Int) :=
 (A4y a0 a1).bind fun x1 =>
 if (x1.1==0)=true then
  (loop (B6d a0 a1 x1) (0,([]:List Int))).bind fun (o14:(List Int)) =>
  some (o14,0)
 else
  some (([]:List Int),x1.1)
theorem C7b {c:Sc} {H:A2} {a0:PaShow} {a1:(List PaUse)} {r:((List Int)×Int)} (h:B8b a0 a1=some r) :
  F0 tab c H (.fn (.func 24) [] []) [(.agg (A9 a0)),(.seq 3 (Ze A6 a1))] [(.fresh 1 (Ze cI r.1)),.i r.2]:= by
 unfold B8b at h
 refine cE Z Z<|sg 0 Z<|A0 (G0 (cs:=A9 a0) Z Z Z) Z<|A0 A49 Z<|qm Z<|es (ra3 Z Z Z)<|s0<|oB h fun x1 hx1 h=>A0 (D0 Z Z Z) Z<|qm Z ?_
 by_cases hc2:(x1.1==0)=true
 ·rw[if_pos hc2]at h
  obtain⟨X3,hX3⟩:=B2k hx1 hc2
  refine O4 (A59 hX3 Z Z (A1 (C9 Z) (A1 Z B3)) Z) Z<|qm Z<|A0 (A8 Z Z) Z<|A0 (A8 Z Z) Z<|qm Z<|qm Z<|es (ra5 Z Z Z Z Z)<|B8<|s0<|qm Z<|A0 (R8 (v:=(.b false)) Z Z Z) Z<|es (ra6 Z Z Z Z Z Z)<|S9 Z Z<|B9<|s0<|qm Z<|A0 (A5n Z Z) Z<|qm Z<|es (ra4 Z Z Z Z)<|B8<|s0<|A0 (C1 Z) Z<|A0 (B4 Z Z Z) Z<|A0 (F1 (f:=C6) Z) Z<|qm Z<|es (ra6 Z Z Z Z Z Z)<|C5<|oB h fun o14 ho14 h=>wl (fun s4=>[(1,(.seq 3 (Ze A6 a1))),(4,(.asl (H.length+1) (Zh s4.2))),(7,(.fn (.func 68) [(.ptr (H.length+5) 0)] [])),(22,(.seq 8 (Ze C6 a0.Gowns))),(23,(.i (Zh a0.Gowns:Int))),(24,.i s4.1)]) (fun (q5:Unit) s4=>[(.cells (A9 a0)),(.arr 1 false (Ze cI s4.2)),(.cells (A9 a0)),(.cells (A9 a0)),X3,(.cells [(.seq 8 (Ze C6 a0.Gowns)),(.seq 4 (Ze B5 a0.Figures)),.i a0.Purse,(.seq 2 (Ze D3 a0.Incomes)),(.fn (.func 90) [] []),(.fn (.func 91) [] []),(.fn (.func 92) [] []),(.fn (.func 52) [] []),(.fn (.func 93) [] []),(.fn (.func 94) [] []),(.fn (.func 55) [] []),(.fn (.func 95) [] []),(.fn (.func 96) [] []),(.seq 1 (Ze cI x1.2))])]) 6 (fun r e s' H'=>PX 0 [(4,(.asl (H.length+1) (Zh r)))] (H++[(.cells (A9 a0)),(.arr 1 false (Ze cI r)),(.cells (A9 a0)),(.cells (A9 a0)),X3,(.cells [(.seq 8 (Ze C6 a0.Gowns)),(.seq 4 (Ze B5 a0.Figures)),.i a0.Purse,(.seq 2 (Ze D3 a0.Incomes)),(.fn (.func 90) [] []),(.fn (.func 91) [] []),(.fn (.func 92) [] []),(.fn (.func 52) [] []),(.fn (.func 93) [] []),(.fn (.func 94) [] []),(.fn (.func 55) [] []),(.fn (.func 95) [] []),(.fn (.func 96) [] []),(.seq 1 (Ze cI x1.2))])]) e s' H') () ho14 Z Z (fun _ _=>rfl) (fun _=>rfl) Z (fun s4=>(bdc G6 (bdc (R3 Z) (bdc (E15 (A3 (J6 Z) B1) B1) (bdc G6 (bdc A4 (bdc A4 bdn))))))) (fun q5 s4 ys4 hs4=>?_) ?_
  ·unfold B6d at hs4
   refine s0<|A0 (I0 Z Z) Z<|es (ra7 Z Z Z Z Z Z Z)<|B8<|wi hs4 Z (fun hc6 hs4=>?_) fun hc6 hs4=>?_
   ·refine B9<|B8<|C5<|sg 6 Z<|oB hs4 fun x7 hx7 hs4=>qm Z<|A0 (D4 (f:=C6) Z Z hx7) Z<|A0 (H9 Z Z) Z<|A0 K1 Z<|qm Z<|P5 (G3 (ds:=(C6 x7)) Z Z Z Z (F7 Z) Z) Z<|es (ra8 Z Z Z Z Z Z Z Z)<|s0<|oB hs4 fun x11 hx11 hs4=>A0 (C1 Z) Z<|A0 (B4 Z Z Z) Z<|qm Z<|gp 4 35 (.b (x7.Pawn&&(decide (x7.Last<364)))) 31 Z Z (fun hg8=>?_) (fun hg8=>?_) ?_
    ·exact gT Z hg8<|A0 (C1 Z) Z<|gT Z hg8<|A0 (B4 Z Z Z) Z<|gT Z hg8<|A0 (I0 Z Z) Z<|A0 (C3 Z hg8 Z) Z<|ge 4 (by rw[hg8];rfl) Z Z
    ·exact nT Z hg8 Z<|nT Z hg8 Z<|nT Z hg8 Z<|A0 (C2 Z hg8 Z) Z<|ge 4 (by rw[hg8];rfl) Z Z
    refine qm Z<|gp 6 42 (.b x11) 36 Z Z (fun hg9=>?_) (fun hg9=>?_) ?_
    ·refine oB (bt hx11 hg9) fun x10 hx10 hx11=>?_
     obtain rfl:=os hx11
     exact gT Z hg9<|qm Z<|gT Z hg9<|qm Z<|gT Z hg9<|qm Z<|gT Z hg9<|B2 (rs:=[.b x10]) Z Z (A1 Z (A1 Z B3)) ((A5c (B4y (F5 Z) hx10)).frz)<|gT Z hg9<|A0 (M9 Z) Z<|A0 (C3 Z hg9 Z) Z<|ge 6 Z Z Z
    ·obtain rfl:=os (bf hx11 hg9)
     exact nT Z hg9 Z<|nT Z hg9 Z<|nT Z hg9 Z<|G4 (D2 Z (by rw[hg9];rfl)) Z<|nT Z hg9 Z<|A0 (C2 Z hg9 Z) Z<|ge 6 Z Z Z
    refine es (ra8 Z Z Z Z Z Z Z Z)<|wi hs4 Z (fun hc12 hs4=>?_) fun hc12 hs4=>?_
    ·refine r0<|oB hs4 fun x13 hx13 hs4=>qm Z<|qm Z<|A0 (J2 (rows:=Ze cI [s4.1]) Z Z (D8 (fun _=>rfl) _)) Z<|O4 (A0r (f:=cI) Z Z Z Z X1 (fun _=>rfl) hx13) Z<|qm Z<|en (ra6 Z Z Z Z Z Z)<|r0<|A0 (D9 Z Z) Z<|qm Z<|en (ra6 Z Z Z Z Z Z) ?_
     cases hs4
     exact lnT () Z (su6 Z Z Z Z Z Z)
    ·refine B9<|r0<|A0 (D9 Z Z) Z<|qm Z<|en (ra6 Z Z Z Z Z Z) ?_
     cases hs4
     exact lnT () Z (su6 Z Z Z Z Z Z)
   ·refine G5 ?_
    obtain rfl:=os hs4
    exact lx Z px (su1 Z)
  ·rintro e s' H'-⟨rfl,rfl,rfl⟩
   refine s0<|qm Z<|qm Z<|qm Z<|es (ra2 Z Z)<|C7 ?_
   obtain rfl:=os h
   exact retq trivial (A7 Z (A7 Z B7)) (A5 (A5q Z (Zi _)) (A5 Z B6)) (A3 X7 (A3 A4 B1))
 ·rw[if_neg hc2]at h
  refine O4 (T9 (rs:=[.lit (.pointer none),.i x1.1]) Z Z (A1 (C9 Z) (A1 Z B3)) (B2j hx1 (by simpa using hc2)) Z) Z<|qm Z<|A0 (A8 Z Z) Z<|A0 (A8 Z Z) Z<|qm Z<|qm Z<|es (ra5 Z Z Z Z Z)<|B8<|s0<|qm Z<|A0 (I8 Z Z) Z<|es (ra6 Z Z Z Z Z Z)<|Q4 Z (nef hc2)<|sg 2 Z<|qm Z<|A0 A49 Z<|qm Z<|es (ra2 Z Z)<|C7 ?_
  obtain rfl:=os h
  exact retq trivial (A7 Z (A7 Z B7)) (A5 (A5q Z (Zi _)) (A5 Z B6)) (A3 X7 (A3 A4 B1))
def A8y (a0:pawn_found) (a1:pawn_found):Option Int :=
 (A5d [(w64 (a0.without_-a1.without_)),(w64 (a0.short_-a1.short_))]).bind fun x1 =>
 some x1
theorem C2d {c:Sc} {H:A2} {a0:pawn_found} {a1:pawn_found} {r:Int} (h:A8y a0 a1=some r) :
  F0 tab c H (.fn (.func 76) [] []) [(.agg (C8 a0)),(.agg (C8 a1))] [.i r]:= by
 unfold A8y at h
 refine cE Z Z<|sg 0 Z<|A0 (G0 (cs:=C8 a0) Z Z Z) Z<|A0 (G0 (cs:=C8 a1) Z Z Z) Z<|qm Z<|es (ra2 Z Z)<|s0<|oB h fun x1 hx1 h=>A0 (C1 Z) Z<|A0 (B4 Z Z Z) Z<|A0 (C1 Z) Z<|A0 (B4 Z Z Z) Z<|A0 (W6 Z Z) Z<|A0 (C1 Z) Z<|A0 (B4 Z Z Z) Z<|A0 (C1 Z) Z<|A0 (B4 Z Z Z) Z<|A0 (W6 Z Z) Z<|A0 (J2 (rows:=Ze cI [(w64 (a0.without_-a1.without_)),(w64 (a0.short_-a1.short_))]) Z Z (D8 (fun _=>rfl) _)) Z<|B2 (rs:=[.i x1]) Z Z (A1 Z B3) ((B37 hx1).frz)<|qm Z<|es (ra1 Z)<|C7 ?_
 obtain rfl:=os h
 exact retq trivial (A7 Z B7) (A5 Z B6) (A3 A4 B1)
def A7j (a0:PaShow):Option (Int×Int) :=
 (A3w a0).bind fun x1 =>
 if (x1.1==0)=true then
  (C00 (C0v a0 x1.2) A8y).bind fun x4 =>
  if (((!x4.2)||(decide (x4.1.without_>0)))||(decide (x4.1.short_>10000)))=true then
  some (0,9)
  else
  if (x4.1.short_==0)=true then
   some (0,4)
  else
   some (x4.1.short_,0)
 else
  some (0,x1.1)
theorem B58 {c:Sc} {H:A2} (hscv:T4 c H=true) {a0:PaShow} {r:(Int×Int)} (h:A7j a0=some r) :
  F0 tab c H (.fn (.func 31) [] []) [(.agg (A9 a0))] [.i r.1,.i r.2]:= by
 unfold A7j at h
 refine cE Z Z<|sg 0 Z<|A0 (G0 (cs:=A9 a0) Z Z Z) Z<|qm Z<|qm Z<|es (ra1 Z)<|s0<|oB h fun x1 hx1 h=>A0 (D0 Z Z Z) Z ?_
 by_cases hc2:(x1.1==0)=true
 ·rw[if_pos hc2]at h
  obtain⟨X3,hX3⟩:=A4b hx1 hc2
  refine O4 (A59 hX3 Z Z (A1 (C9 Z) B3) Z) Z<|qm Z<|A0 (A8 Z Z) Z<|A0 (A8 Z Z) Z<|qm Z<|qm Z<|es (ra2 Z Z)<|B8<|s0<|qm Z<|A0 (R8 (v:=(.b false)) Z Z Z) Z<|es (ra3 Z Z Z)<|S9 Z Z<|B9<|sg 4 Z<|qm Z<|A7i (as2:=[(.ptr (H.length+3) 0)]) (H1:=(H++[(.cells (A9 a0)),(.cells (A9 a0)),X3,(.cells [(.seq 8 (Ze C6 a0.Gowns)),(.seq 4 (Ze B5 a0.Figures)),.i a0.Purse,(.seq 2 (Ze D3 a0.Incomes)),(.fn (.func 90) [] []),(.fn (.func 91) [] []),(.fn (.func 92) [] []),(.fn (.func 52) [] []),(.fn (.func 93) [] []),(.fn (.func 94) [] []),(.fn (.func 55) [] []),(.fn (.func 95) [] []),(.fn (.func 96) [] []),(.seq 1 (Ze cI x1.2))]),.dead])) Z Z (A1 Z B3) Z Z Z (B3g Z)<|sg 5 Z<|A0 (G0 (cs:=[(.ptr (H.length+3) 0)]) Z Z Z) Z<|qm Z<|es (ra1 Z)<|s0<|A0 (A5n Z Z) Z<|qm Z<|es (ra1 Z)<|C7<|InlQ.mk trivial ⟨_,_,_,[(.fn (.func 108) [] [(.ptr (H.length+5) 0)])],_,(A7 Z B7),(A5 Z B6),(B3c (X8 (B68 (X8 (A8m Z)))) (B3b Z B7k)),?_⟩
  refine oB h fun x4 hx4 h=>B2 (rs:=[(.agg (C8 x4.1)),.b x4.2]) Z Z (A1 Z (A1 Z B3)) (C6e (D6a (t:=a0) (days:=x1.2) (bS:=H.length+5) (b:=H.length+3)) (fun h=>(C2d h).frz) (ZE (F5 Z) (F5 Z)) (A5z hscv) hx4)<|qm Z<|A0 (A8 Z Z) Z<|A0 (A8 Z Z) Z<|A0 K1 Z<|P5 (G3 (ds:=(C8 x4.1)) Z Z Z Z (F7 Z) Z) Z<|qm Z<|es (ra2 Z Z)<|B8<|C5<|s0<|qm Z<|A0 (M9 Z) Z<|qm Z<|gp 4 29 (.b ((!x4.2)||(decide (x4.1.without_>0)))) 25 Z Z (fun hg5=>?_) (fun hg5=>?_) ?_
  ·exact nF Z hg5 Z<|nF Z hg5 Z<|nF Z hg5 Z<|A0 (C3 Z hg5 Z) Z<|ge 4 (by rw[hg5];rfl) Z Z
  ·exact gF Z hg5<|A0 (C1 Z) Z<|gF Z hg5<|A0 (B4 Z Z Z) Z<|gF Z hg5<|A0 (X6 Z Z) Z<|A0 (C2 Z hg5 Z) Z<|ge 4 (by rw[hg5];rfl) Z Z
  refine qm Z<|gp 4 34 (.b (((!x4.2)||(decide (x4.1.without_>0)))||(decide (x4.1.short_>10000)))) 30 Z Z (fun hg6=>?_) (fun hg6=>?_) ?_
  ·exact nF Z hg6 Z<|nF Z hg6 Z<|nF Z hg6 Z<|A0 (C3 Z hg6 Z) Z<|ge 4 (by rw[hg6];rfl) Z Z
  ·exact gF Z hg6<|A0 (C1 Z) Z<|gF Z hg6<|A0 (B4 Z Z Z) Z<|gF Z hg6<|A0 (X6 Z Z) Z<|A0 (C2 Z hg6 Z) Z<|ge 4 (by rw[hg6];rfl) Z Z
  refine qm Z<|es (ra2 Z Z)<|wi h Z (fun hc7 h=>?_) fun hc7 h=>?_
  ·refine s0<|qm Z<|qm Z<|es (ra2 Z Z)<|C7 ?_
   obtain rfl:=os h
   exact retq trivial (A7 Z (A7 Z B7)) (A5 Z (A5 Z B6)) (A3 A4 (A3 A4 B1))
  ·refine s0<|A0 (C1 Z) Z<|A0 (B4 Z Z Z) Z<|A0 (G2 Z Z) Z<|qm Z<|es (ra2 Z Z)<|wi h Z (fun hc8 h=>?_) fun hc8 h=>?_
   ·refine s0<|qm Z<|qm Z<|es (ra2 Z Z)<|C7 ?_
    obtain rfl:=os h
    exact retq trivial (A7 Z (A7 Z B7)) (A5 Z (A5 Z B6)) (A3 A4 (A3 A4 B1))
   ·refine B9<|s0<|A0 (C1 Z) Z<|A0 (B4 Z Z Z) Z<|qm Z<|qm Z<|es (ra2 Z Z)<|C7 ?_
    obtain rfl:=os h
    exact retq trivial (A7 Z (A7 Z B7)) (A5 Z (A5 Z B6)) (A3 A4 (A3 A4 B1))
 ·rw[if_neg hc2]at h
  refine O4 (T9 (rs:=[.lit (.pointer none),.i x1.1]) Z Z (A1 (C9 Z) B3) (A5e hx1 (by simpa using hc2)) Z) Z<|qm Z<|A0 (A8 Z Z) Z<|A0 (A8 Z Z) Z<|qm Z<|qm Z<|es (ra2 Z Z)<|B8<|s0<|qm Z<|A0 (I8 Z Z) Z<|es (ra3 Z Z Z)<|Q4 Z (nef hc2)<|s0<|qm Z<|qm Z<|qm Z<|es (ra2 Z Z)<|C7 ?_
  obtain rfl:=os h
  exact retq trivial (A7 Z (A7 Z B7)) (A5 Z (A5 Z B6)) (A3 A4 (A3 A4 B1))
def A0u (a0:PaShow) (a1:(List PaUse)) (a2:Int):Option (Int×Int) :=
 (A4y a0 a1).bind fun x1 =>
 if (x1.1==0)=true then
  (G1 0 364 [a2]).bind fun x4 =>
  if x4=true then
  some (0,7)
  else
  (T2 (pawn_show.mk a0 (Ar3.mk (pawn_way.mk ) (pawn_way.mk ) (pawn_way.mk )) x1.2) a1 a2).bind fun x6 =>
  some (x6,0)
 else
  some (0,x1.1)
theorem A27 {c:Sc} {H:A2} {a0:PaShow} {a1:(List PaUse)} {a2:Int} {r:(Int×Int)} (h:A0u a0 a1 a2=some r) :
  F0 tab c H (.fn (.func 20) [] []) [(.agg (A9 a0)),(.seq 3 (Ze A6 a1)),.i a2] [.i r.1,.i r.2]:= by
 unfold A0u at h
 refine cE Z Z<|sg 0 Z<|A0 (G0 (cs:=A9 a0) Z Z Z) Z<|qm Z<|qm Z<|es (ra3 Z Z Z)<|s0<|oB h fun x1 hx1 h=>A0 (D0 Z Z Z) Z<|qm Z ?_
 by_cases hc2:(x1.1==0)=true
 ·rw[if_pos hc2]at h
  obtain⟨X3,hX3⟩:=B2k hx1 hc2
  refine O4 (A59 hX3 Z Z (A1 (C9 Z) (A1 Z B3)) Z) Z<|qm Z<|A0 (A8 Z Z) Z<|A0 (A8 Z Z) Z<|qm Z<|qm Z<|es (ra4 Z Z Z Z)<|B8<|C5<|s0<|qm Z<|A0 (R8 (v:=(.b false)) Z Z Z) Z<|qm Z<|es (ra5 Z Z Z Z Z)<|S9 Z Z<|s0<|oB h fun x4 hx4 h=>qm Z<|A0 (J2 (rows:=Ze cI [a2]) Z Z (D8 (fun _=>rfl) _)) Z<|B2 (rs:=[.b x4]) Z Z (A1 Z (A1 Z (A1 Z B3))) ((H8 hx4).frz)<|qm Z<|es (ra4 Z Z Z Z)<|wi h Z (fun hc5 h=>?_) fun hc5 h=>?_
  ·refine s0<|qm Z<|qm Z<|es (ra2 Z Z)<|C7 ?_
   obtain rfl:=os h
   exact retq trivial (A7 Z (A7 Z B7)) (A5 Z (A5 Z B6)) (A3 A4 (A3 A4 B1))
  ·refine B9<|s0<|oB h fun x6 hx6 h=>qm Z<|qm Z<|qm Z<|O4 (Z2 (rs:=[.i x6]) Z Z ((A8w (F5 Z) hx6).frz)) Z<|qm Z<|qm Z<|es (ra2 Z Z)<|C7 ?_
   obtain rfl:=os h
   exact retq trivial (A7 Z (A7 Z B7)) (A5 Z (A5 Z B6)) (A3 A4 (A3 A4 B1))
 ·rw[if_neg hc2]at h
  refine O4 (T9 (rs:=[.lit (.pointer none),.i x1.1]) Z Z (A1 (C9 Z) (A1 Z B3)) (B2j hx1 (by simpa using hc2)) Z) Z<|qm Z<|A0 (A8 Z Z) Z<|A0 (A8 Z Z) Z<|qm Z<|qm Z<|es (ra4 Z Z Z Z)<|B8<|C5<|s0<|qm Z<|A0 (I8 Z Z) Z<|qm Z<|es (ra5 Z Z Z Z Z)<|Q4 Z (nef hc2)<|s0<|qm Z<|qm Z<|qm Z<|es (ra2 Z Z)<|C7 ?_
  obtain rfl:=os h
  exact retq trivial (A7 Z (A7 Z B7)) (A5 Z (A5 Z B6)) (A3 A4 (A3 A4 B1))
def Z3 (a0:PaShow) (a1:(List PaUse)):Option (Int×Int) :=
 (A4y a0 a1).bind fun x1 =>
 if (x1.1==0)=true then
  (R2 (pawn_show.mk a0 (Ar3.mk (pawn_way.mk ) (pawn_way.mk ) (pawn_way.mk )) x1.2) a1).bind fun x4 =>
  if (x4.1==0)=true then
  some (0,4)
  else
  some (x4.2,0)
 else
  some (0,x1.1)
theorem A28 {c:Sc} {H:A2} {a0:PaShow} {a1:(List PaUse)} {r:(Int×Int)} (h:Z3 a0 a1=some r) :
  F0 tab c H (.fn (.func 22) [] []) [(.agg (A9 a0)),(.seq 3 (Ze A6 a1))] [.i r.1,.i r.2]:= by
 unfold Z3 at h
 refine cE Z Z<|sg 0 Z<|A0 (G0 (cs:=A9 a0) Z Z Z) Z<|qm Z<|qm Z<|es (ra2 Z Z)<|s0<|oB h fun x1 hx1 h=>A0 (D0 Z Z Z) Z<|qm Z ?_
 by_cases hc2:(x1.1==0)=true
 ·rw[if_pos hc2]at h
  obtain⟨X3,hX3⟩:=B2k hx1 hc2
  refine O4 (A59 hX3 Z Z (A1 (C9 Z) (A1 Z B3)) Z) Z<|qm Z<|A0 (A8 Z Z) Z<|A0 (A8 Z Z) Z<|qm Z<|qm Z<|es (ra3 Z Z Z)<|B8<|s0<|qm Z<|A0 (R8 (v:=(.b false)) Z Z Z) Z<|es (ra4 Z Z Z Z)<|S9 Z Z<|B9<|s0<|oB h fun x4 hx4 h=>qm Z<|qm Z<|O4 (Z2 (rs:=[.i x4.1,.i x4.2]) Z Z ((B4z (F5 Z) hx4).frz)) Z<|qm Z<|A0 (A8 Z Z) Z<|A0 (A8 Z Z) Z<|qm Z<|qm Z<|es (ra2 Z Z)<|B8<|s0<|qm Z<|A0 (G2 Z Z) Z<|es (ra2 Z Z)<|wi h Z (fun hc5 h=>?_) fun hc5 h=>?_
  ·refine s0<|qm Z<|qm Z<|es (ra2 Z Z)<|C7 ?_
   obtain rfl:=os h
   exact retq trivial (A7 Z (A7 Z B7)) (A5 Z (A5 Z B6)) (A3 A4 (A3 A4 B1))
  ·refine B9<|s0<|qm Z<|qm Z<|qm Z<|es (ra2 Z Z)<|C7 ?_
   obtain rfl:=os h
   exact retq trivial (A7 Z (A7 Z B7)) (A5 Z (A5 Z B6)) (A3 A4 (A3 A4 B1))
 ·rw[if_neg hc2]at h
  refine O4 (T9 (rs:=[.lit (.pointer none),.i x1.1]) Z Z (A1 (C9 Z) (A1 Z B3)) (B2j hx1 (by simpa using hc2)) Z) Z<|qm Z<|A0 (A8 Z Z) Z<|A0 (A8 Z Z) Z<|qm Z<|qm Z<|es (ra3 Z Z Z)<|B8<|s0<|qm Z<|A0 (I8 Z Z) Z<|es (ra4 Z Z Z Z)<|Q4 Z (nef hc2)<|s0<|qm Z<|qm Z<|qm Z<|es (ra2 Z Z)<|C7 ?_
  obtain rfl:=os h
  exact retq trivial (A7 Z (A7 Z B7)) (A5 Z (A5 Z B6)) (A3 A4 (A3 A4 B1))
def A1d (a0:(List PaUse)) (a1:(List PaUse)) (s2:Int):Option (Int⊕(Bool⊕Unit)) :=
 if (decide (s2<(Zh a0:Int)))=true then
  (idx a0 s2).bind fun x5 =>
  (idx a1 s2).bind fun x6 =>
  if (!((x5.Gown==x6.Gown)&&((x5.How==x6.How)&&((x5.Day==x6.Day)&&true))))=true then
  some (.inr (.inl false))
  else
  some (.inl (w64 (s2+1)))
 else
  some (.inr (.inr ()))
def A5x (a0:(List PaUse)) (a1:(List PaUse)):Option Bool :=
 if ((Zh a0:Int) != (Zh a1:Int))=true then
  some false
 else
  (loop (A1d a0 a1) 0).bind fun (o8:(Bool⊕Unit)) =>
  match o8 with
  | (.inl vo8_0) =>
  some vo8_0
  | (.inr vo8_1) =>
  some true
theorem B4d {c:Sc} {H:A2} {a0:(List PaUse)} {a1:(List PaUse)} {r:Bool} (h:A5x a0 a1=some r) :
  F0 tab c H (.fn (.func 28) [] []) [(.seq 3 (Ze A6 a0)),(.seq 3 (Ze A6 a1))] [.b r]:= by
 unfold A5x at h
 refine cE Z Z<|s0<|qm Z<|es (ra2 Z Z)<|B8<|s0<|qm Z<|A0 (F1 (f:=A6) Z) Z<|qm Z<|A0 (F1 (f:=A6) Z) Z<|A0 (I8 Z Z) Z<|es (ra3 Z Z Z)<|wi h Z (fun hc1 h=>?_) fun hc1 h=>?_
 ·refine s0<|qm Z<|es (ra1 Z)<|C7 ?_
  obtain rfl:=os h
  exact retq trivial (A7 Z B7) (A5 Z B6) (A3 A4 B1)
 ·refine B9<|B8<|s0<|qm Z<|es (ra3 Z Z Z)<|C5<|oB h fun o8 ho8 h=>wl (fun s2=>[(0,(.seq 3 (Ze A6 a0))),(1,(.seq 3 (Ze A6 a1))),(5,.i s2)]) (fun (q3:Unit) s2=>[]) 0 (fun r e s' H'=>(match r with|(.inl v)=>e=.ret∧RetQ H [.tmp 4] [.b v] e s' H' | (.inr v)=>PX 0 [] (H++[]) e s' H':Prop)) () ho8 Z Z (fun _ _=>rfl) (fun _=>rfl) Z (fun s2=>(bdc G6 (bdc G6 (bdc A4 bdn)))) (fun q3 s2 ys2 hs2=>?_) ?_
  ·unfold A1d at hs2
   refine B8<|s0<|qm Z<|qm Z<|A0 (F1 (f:=A6) Z) Z<|A0 (I0 Z Z) Z<|es (ra4 Z Z Z Z)<|wi hs2 Z (fun hc4 hs2=>?_) fun hc4 hs2=>?_
   ·refine B9<|B8<|C5<|s0<|oB hs2 fun x5 hx5 hs2=>oB hs2 fun x6 hx6 hs2=>qm Z<|qm Z<|A0 (D4 (f:=A6) Z Z hx5) Z<|A0 (H9 Z Z) Z<|qm Z<|qm Z<|A0 (D4 (f:=A6) Z Z hx6) Z<|A0 (H9 Z Z) Z<|A0 (D75 (a:=A6 x5) (b:=A6 x6) Z Z Z Z (U6 (U6 (U6 B24)))) Z<|es (ra4 Z Z Z Z)<|wi hs2 Z (fun hc7 hs2=>?_) fun hc7 hs2=>?_
    ·refine s0<|qm Z<|es (ra1 Z)<|C7 ?_
     obtain rfl:=os hs2
     exact lx Z (ZE Z (retq trivial (A7 Z B7) (A5 Z B6) (A3 A4 B1))) (Sub.refl _)
    ·refine B9<|r0<|qm Z<|A0 (D9 Z Z) Z<|qm Z<|en (ra3 Z Z Z) ?_
     cases hs2
     exact lnT () Z (su3 Z Z Z)
   ·refine G5 ?_
    obtain rfl:=os hs2
    exact lx Z px (.nil _)
  ·rcases o8 with vo8_0|vo8_1
   ·rintro e s' H'-⟨rfl,hret⟩
    cases h
    exact hret
   ·rintro e s' H'-⟨rfl,rfl,rfl⟩
    refine s0<|qm Z<|es (ra1 Z)<|C7 ?_
    obtain rfl:=os h
    exact retq trivial (A7 Z B7) (A5 Z B6) (A3 A4 B1)
end Pw
end
section
set_option maxRecDepth 100000
set_option maxHeartbeats 0
namespace Am
open Go
section
variable {T:Tab} {s:C0} {H0 H:A2} {l:List AO} {c:Sc} {n0 k0:Nat}
theorem D79 {x:Opd} {b r:Nat} {es:List (AV×AV)} (hx:ev s x=some (.mp b)) (hm:hmap (H0++l) b=some es):One T c (H0.length+k0) s (H0++l) (.rangeM x r) (.itr (H0.length+(k0+r))) (H0++l.set (k0+r) (.mit b es.length [])) :=
 ⟨0,by simp only[core,prim,hx,hm,Z06,I5]⟩
theorem D48 {H L:A2} {b m n:Nat} {seen:List Nat} {e:AV×AV} {es:List (AV×AV)} (hg:hget H b=some (.mit m n seen)) (hm:hmap H m=some es) (h:B1f H b=some e):B1f (H++L) b=some e:= by
 have h1:hget (H++L) b=some (.mit m n seen):=D4v hg L
 have h2:hmap (H++L) m=some es:= by
  have:m<H.length:= by
   unfold hmap hget at hm
   cases e:H[m]? with
   | none=>rw[e]at hm;cases hm
   | some o=>exact(Zf.1 e).1
  unfold hmap hget at hm ⊢
  rw[List.getElem?_append_left this];exact hm
 unfold B1f at h ⊢
 rw[h1]
 rw[hg]at h
 simp only[h2,hm]at h ⊢
 exact h
theorem E0q {x:Opd} {b:Nat} {e:AV×AV} (hx:ev s x=some (.itr b)) (hm:B1f H b=some e):One T c n0 s H (.entry x) (.tup [e.1,e.2]) H:=⟨0,by simp only[core,prim,hx,hm]⟩
end
end Am
namespace Pw
open Go Am Go.Proofs.YtjpjdglddmhplaaGreat.Cd
abbrev Had:=Ar3 Int
theorem D3e:KeyOk (κ:=Had) true [0,0,0] (fun x=>.agg (C76 cI x)) (fun x=>C76 cI x):=⟨fun _=>rfl,fun _=>rfl,fun a b=>by
 obtain⟨a1,a2,a3⟩:=a
 obtain⟨b1,b2,b3⟩:=b
 show I2 [.lit (.int .i64 a1),.lit (.int .i64 a2),.lit (.int .i64 a3)] [.lit (.int .i64 b1),.lit (.int .i64 b2),.lit (.int .i64 b3)]=_
 simp only[D06,Ar3.mk.injEq]
 by_cases h1:a1=b1 <;> by_cases h2:a2=b2 <;> by_cases h3:a3=b3 <;> simp[h1,h2,h3,I2]⟩
abbrev Met:=List (Had×Int)
def C83 (m:Met):List (AV×AV):=m.map (kE (fun x=>.agg (C76 cI x)) (fun n=>.i n))
def C9n (h:Had) (f:Int):Option Bool :=
 if (!((h.x0==0)&&((h.x1==0)&&((h.x2==0)&&true))))=true then (idx h.l f).bind fun v=>some (decide (v>0)) else some false
def C5s (f:Int):Met→Option (List Bool)
 | []=>some []
 | e::l=>(C9n e.1 f).bind fun b=>(C5s f l).bind fun r=>some (b::r)
def cnt (bs:List Bool) (seen:List Nat):Int:=((seen.filter fun i=>bs.getD i false).length:Int)
def C04 (m:Met) (f:Int):Option Int :=
 if m.length<4611686018427387904 then (C5s f m).bind fun bs=>some ((bs.filter fun b=>b).length:Int) else none
theorem C5t {f:Int}:∀{m:Met} {bs:List Bool},C5s f m=some bs→bs.length=m.length∧∀ (i:Nat) (e:Had×Int),m[i]? = some e→C9n e.1 f=some (bs.getD i false)
 | [],bs,h=>by cases h;exact⟨Z,fun i e he=>by simp at he⟩
 | x::m,bs,h=>by
  unfold C5s at h
  refine oB h fun b hb h=>oB h fun r hr h=>?_
  obtain rfl:=os h
  obtain⟨h1,h2⟩:=C5t hr
  refine⟨by simp[h1],fun i e he=>?_⟩
  cases i with
  | zero=>simp at he;subst he;simpa using hb
  | succ i=>simp at he;simpa using h2 i e he
theorem B5p:∀(bs:List Bool),((Z04 bs.length).filter fun i=>bs.getD i false).length=(bs.filter fun b=>b).length
 | []=>rfl
 | b::bs=>by
  rw[ZU,List.range_succ_eq_map,Z08,List.filter_map,Z08]
  have ih:=B5p bs
  have e:(fun i=>(b::bs).getD i false)∘Nat.succ=fun i=>bs.getD i false:= by funext i;simp
  rw[e]
  cases b <;> simp at ih ⊢ <;> exact ih
theorem D9r {bs:List Bool} {seen:List Nat} (hn:seen.Nodup) (hm:∀j,j∈seen↔j<bs.length):cnt bs seen=((bs.filter fun b=>b).length:Int):= by
 have hp:seen.Perm (Z04 bs.length):=(List.perm_ext_iff_of_nodup hn List.nodup_range).mpr fun j=>by rw[hm,Z1x]
 unfold cnt
 rw[(hp.filter _).length_eq,B5p]
theorem E19 (bs:List Bool) (seen:List Nat):cnt bs seen≤seen.length:= by
 unfold cnt
 have:=Z0a (fun i=>bs.getD i false) seen
 omega
theorem D6n (bs:List Bool) (seen:List Nat) (i:Nat):cnt bs (seen++[i])=cnt bs seen+(if bs.getD i false=true then 1 else 0):= by
 unfold cnt
 rw[Z1q,Zm,Z08]
 by_cases h:bs.getD i false=true
 ·rw[if_pos h,if_pos h];rfl
 ·rw[if_neg h,if_neg h];simp
theorem C5h:∀(n:Nat) (l:List Nat),l.Nodup→(∀ x∈l,x<n)→l.length≤n
 | 0,l,_,h=>by
  cases l with
  | nil=>simp
  | cons x l=>exact absurd (h x (Zv ..)) (Nat.not_lt_zero x)
 | n+1,l,hd,h=>by
  have h1:=C5h n (l.filter fun x=>x != n) (hd.filter _) fun x hx=>by
   have:=Z05.mp hx
   have h2:=h x this.1
   have h3:x≠n:= by simpa using this.2
   omega
  have h2:(l.filter fun x=>!(x != n)).length≤1:= by
   have hn:(l.filter fun x=>!(x != n)).Nodup:=hd.filter _
   cases hl:l.filter fun x=>!(x != n) with
   | nil=>simp
   | cons a t =>
    cases t with
    | nil=>simp
    | cons b t =>
     rw[hl]at hn
     have ha:a∈l.filter fun x=>!(x != n):= by rw[hl];simp
     have hb:b∈l.filter fun x=>!(x != n):= by rw[hl];simp
     have ea:a=n:= by simpa using (Z05.mp ha).2
     have eb:b=n:= by simpa using (Z05.mp hb).2
     subst ea;subst eb
     simp at hn
  have h3:l.length=(l.filter fun x=>x != n).length+(l.filter fun x=>!(x != n)).length:= by
   clear h1 h2 hd h
   induction l with
   | nil=>rfl
   | cons x l ih =>
    rw[Z08,Z08]
    cases x != n <;> simp[ih] <;> omega
  omega
theorem D80 {n:Nat} {seen:List Nat} (hn:seen.Nodup) (hm:∀j∈seen,j<n):seen.length≤n:=C5h n seen hn hm
def D2p:ACode:=(.seq (.cond 69 .skip (.exit 4)) (.block 5 (.s 1 [q 0 70 (.entry 67),EX 1 71 70 0,q 2 14 (.alloc [.lit (.int .i64 0),.lit (.int .i64 0),.lit (.int .i64 0)] [] 0),ST 3 3 14 71] [2,3,8,12,13,14,62,63,67] (.s 0 [LK 0 72 3 14,q 1 73 (.build [.lit (.int .i64 0),.lit (.int .i64 0),.lit (.int .i64 0)] []),q 2 74 (.cmp true [0,0,0] 72 73),M 3 75 74,G 4 76 75 true (.mv 12),G 5 77 75 true (.idxA 1 3 14 76),G 6 78 75 true (.load none 77),G 7 79 75 true (.bin .gtr 78 (.i 0)),q 8 80 (.pick 75 79 (.b false))] [2,3,8,12,13,62,63,67,80] (.cond 80 (.g 0 [M 0 81 13,B 1 82 .add 81 (.i 1),M 2 13 82] [2,3,8,12,13,62,63,67]) .skip)))))
theorem D02 {c:Sc} {Hh:A2} {l m:Nat} {met:Met} {f r:Int} {a2 a3 a8 a62 a63:AV} (hl:hget Hh l=some (.mit m met.length [])) (hm:hmap Hh m=some (C83 met)) (hlm:l≠m) (h:C04 met f=some r)
  (hb2:a2.bd Hh.length=true) (hb3:a3.bd Hh.length=true) (hb8:a8.bd Hh.length=true) (hb62:a62.bd Hh.length=true) (hb63:a63.bd Hh.length=true) :
  WP tab (.loopM 67 68 69 [2,3,8,12,13,62,63,67] [2,3,8,12,13,62,63,67] [2,3,8,12,13,62,63] D2p) [(2,a2),(3,a3),(8,a8),(12,.i f),(13,.i 0),(62,a62),(63,a63),(67,.itr l)] Hh c
   (fun e s' H'=>e=.exit 4∧s'=[(2,a2),(3,a3),(8,a8),(12,.i f),(13,.i r),(62,a62),(63,a63)]∧H'=hset Hh l .dead):= by
 unfold C04 at h
 split at h
 ·next hlen =>
  refine oB h fun bs hbs h=>?_
  obtain rfl:=os h
  obtain⟨hbl,hbg⟩:=C5t hbs
  have hlt:l<Hh.length:= by unfold hget at hl;exact(Zf.1 hl).1
  have hset0:hset Hh l (.mit m met.length [])=Hh:= by
   unfold hset
   unfold hget at hl
   obtain⟨h1,h2⟩:=Zf.1 hl
   rw[← h2];exact List.set_getElem_self h1
  have hmm:∀o,hmap (hset Hh l o) m=some (C83 met):=fun o=>by
   rw[← hm];unfold hmap hget hset;rw[List.getElem?_set_ne hlm]
  have hss:∀o o',hset (hset Hh l o) l o'=hset Hh l o':=fun o o'=>by unfold hset;rw[List.set_set]
  have hgl:∀o,hget (hset Hh l o) l=some o:=fun o=>by unfold hget hset;rw[List.getElem?_set_self hlt]
  have hle:∀o,(hset Hh l o).length=Hh.length:=fun o=>I3 _ _ _
  have key:=D51 (T:=tab) (c:=c) (x:=67) (nx:=68) (ok:=69) (l:=l) (m:=m) (n:=met.length) (live0:=[2,3,8,12,13,62,63,67]) (live:=[2,3,8,12,13,62,63,67]) (liveX:=[2,3,8,12,13,62,63]) (rest:=D2p) (es:=C83 met) (e0:=.exit 4)
   (fun seen=>[(2,a2),(3,a3),(8,a8),(12,.i f),(13,.i (cnt bs seen)),(62,a62),(63,a63),(67,.itr l)]) (fun seen=>hset Hh l (.mit m met.length seen)) [(2,a2),(3,a3),(8,a8),(12,.i f),(13,.i ((bs.filter fun b=>b).length:Int)),(62,a62),(63,a63)] (hset Hh l .dead)
   (fun _=>rfl) (by decide) Z (by decide) (fun _=>rfl) (fun _=>hgl _) (fun _=>hmm _) (by rw[C83,Zi,decide_eq_true Z];rfl) ?_ ?_ ?_
  ·refine A2x (B9n hset0.symm key) ?_
   rintro e s' H' ⟨h1,h2,h3⟩
   exact⟨h1,h2,h3⟩
  ·intro seen i hnd hsl hi hni
   rw[hss,hle]
   obtain⟨e,he⟩:∃e,met[i]? = some e:=⟨_,Zo hi⟩
   have hpo:=hbg i e he
   have hent:B1f (hset Hh l (.mit m met.length (seen++[i]))) l=some (.agg (C76 cI e.1),.i e.2):= by
    unfold B1f
    simp only[hgl,hmm,C83,Zi,if_true,List.getLast?_append,List.getLast?_singleton,Option.some_or,Zd,List.getElem?_map,he,Option.map_some,kE]
   have hw:w64 (cnt bs seen+1)=cnt bs seen+1:= by
    have h1:=E19 bs seen
    have h2:=D80 hnd hsl
    have h3:0≤cnt bs seen:=Z0y _
    unfold w64 IntKind.wrap
    simp[IntKind.bits,IntKind.signed]
    omega
   have hsn:=D6n bs seen i
   have htk:∀Y:List AO,(hset Hh l (.mit m met.length (seen++[i]))++Y).take Hh.length=hset Hh l (.mit m met.length (seen++[i])):=fun Y=>by
    rw[← hle (.mit m met.length (seen++[i]))];exact Z0c
   unfold C9n at hpo
   refine Y8<|B8<|Q4 Z Z<|B9<|C5<|sg 0 Z<|O4 (E0q Z (D48 (hgl _) (hmm _) hent)) Z<|A0 (A8 Z Z) Z<|A0 K1 Z<|P5 (G3 (ds:=C76 cI e.1) Z Z Z Z (F7 Z) Z) Z<|es (ra9 Z Z Z Z Z Z Z Z Z)<|s0<|A0 (D0 Z Z Z) Z<|A0 (R4 (cs:=[.i 0,.i 0,.i 0]) Z Z) Z<|A0 (D75 (a:=C76 cI e.1) (b:=[.i 0,.i 0,.i 0]) Z Z Z Z (U6 (U6 (U6 B24)))) Z<|qm Z<|gp 5 80 (.b (bs.getD i false)) 75 Z Z (fun hc1=>?_) (fun hc1=>?_) ?_
   ·refine oB (bt hpo hc1) fun v hv hpo=>?_
    have hz:=os hpo
    rw[← hz]
    exact gT Z hc1<|qm Z<|gT Z hc1<|A0 (D76 (e:=Ar3.l e.1) Z Z Z hv) Z<|gT Z hc1<|A0 (D78 (f:=cI) (g:=fun n=>.i n) (e:=Ar3.l e.1) (fun _=>rfl) Z (F5 Z) Z hv) Z<|gT Z hc1<|A0 (X6 Z Z) Z<|A0 (C3 Z hc1 Z) Z<|ge 5 Z Z Z
   ·have hz:=os (bf hpo hc1)
    rw[← hz]
    exact nT Z hc1 Z<|nT Z hc1 Z<|nT Z hc1 Z<|nT Z hc1 Z<|A0 (C2 Z hc1 Z) Z<|ge 5 Z Z Z
   ·refine es (ra9 Z Z Z Z Z Z Z Z Z) ?_
    rw[hsn]
    by_cases hbi:bs.getD i false=true
    ·rw[if_pos hbi,← hw]
     refine Q4 Z hbi<|r0<|qm Z<|A0 (D9 Z Z) Z<|qm Z<|en (ra8 Z Z Z Z Z Z Z Z) ?_
     exact⟨Z,su8 Z Z Z Z Z Z Z Z,htk _⟩
    ·rw[if_neg hbi,Z31]
     refine S9 Z (by simpa using hbi)<|B9 ?_
     exact⟨Z,su8 Z Z Z Z Z Z Z Z,htk _⟩
  ·intro seen i
   simp only[hle]
   have hbl':(AV.itr l).bd Hh.length=true:= by simp only[AV.bd];exact Nat.ble_eq_true_of_le hlt
   exact bdc hb2 (bdc hb3 (bdc hb8 (bdc A4 (bdc A4 (bdc hb62 (bdc hb63 (bdc hbl' bdn)))))))
  ·intro seen hnd hall
   refine B8<|S9 Z Z<|G5 ?_
   refine⟨Z,Z,?_,⟨_,_,_,hgl _⟩,hss _ _⟩
   rw[← D9r hnd (by rw[hbl];exact hall)]
   exact su7 Z Z Z Z Z Z Z
 ·cases h
end Pw
end
section
set_option maxRecDepth 100000
set_option maxHeartbeats 0
namespace Pw
open Go Am Go.Proofs.YtjpjdglddmhplaaGreat.Cd
def A8x (a0:pawn_found) (a1:pawn_found):Option Int :=
 some (w64 (a0.without_-a1.without_))
theorem C2b {c:Sc} {H:A2} {a0:pawn_found} {a1:pawn_found} {r:Int} (h:A8x a0 a1=some r) :
  F0 tab c H (.fn (.func 74) [] []) [(.agg (C8 a0)),(.agg (C8 a1))] [.i r]:= by
 unfold A8x at h
 refine cE Z Z<|sg 0 Z<|A0 (G0 (cs:=C8 a0) Z Z Z) Z<|A0 (G0 (cs:=C8 a1) Z Z Z) Z<|qm Z<|es (ra2 Z Z)<|s0<|A0 (C1 Z) Z<|A0 (B4 Z Z Z) Z<|A0 (C1 Z) Z<|A0 (B4 Z Z Z) Z<|A0 (W6 Z Z) Z<|qm Z<|es (ra1 Z)<|C7 ?_
 obtain rfl:=os h
 exact retq trivial (A7 Z B7) (A5 Z B6) (A3 A4 B1)
def D46 (few:pawn_found) (x:pawn_found) (m:Met):Option (Met⊕Unit) :=
 (if (x.without_==few.without_)=true then
  (if (!(kget m x.had_).isSome)=true then some true else some (decide (x.cost_<(kget m x.had_).getD 0))).bind fun w=>some w
 else some false).bind fun g =>
 if g=true then some (.inl (kset m x.had_ x.cost_)) else some (.inl m)
def C0x (figs:List PaFigure) (m:Met) (s:List Int×List Int×Int):Option ((List Int×List Int×Int)⊕(List Int×List Int)) :=
 if (decide (s.2.2<(Zh figs:Int)))=true then
  (C04 m s.2.2).bind fun n =>
  (if (n==0)=true then (app 8 s.1 [s.2.2]).bind fun l=>some l else some s.1).bind fun l1 =>
  (if (decide (n<(Zh m:Int)))=true then (app 8 s.2.1 [s.2.2]).bind fun l=>some l else some s.2.1).bind fun l2 =>
  some (.inl (l1,l2,w64 (s.2.2+1)))
 else some (.inr (s.1,s.2.1))
def A5r (a0:PaShow):Option (List Int×List Int×Int) :=
 (A3w a0).bind fun x1 =>
 if (x1.1==0)=true then
  (C00 (B88 a0 x1.2) A8x).bind fun few =>
  (B88 a0 x1.2 Met Unit (D46 few.1) []).bind fun o =>
  match o with
  | .inl m=>(loop (C0x a0.Figures m) ([],[],0)).bind fun y=>some (y.1,y.2,0)
  | .inr _=>none
 else some ([],[],x1.1)
theorem E4i {H:A2} {l:List AO} {j n:Nat} (h:Nat.ble (j+1) l.length=true):(AV.asl (H.length+j) n).bd (H++l).length=true:= by rw[Zm];exact R3 h
def A6w (H:A2) (t:PaShow) (X:AO) (days:List Int) (few:pawn_found) (l1 l2:List Int) (m:Met):List AO :=
 [.cells (A9 t),.arr 1 false (l1.map cI),.arr 1 false (l2.map cI),.cells (A9 t),X,.cells (A5b t days),.cells (C8 few),.cells [.ptr (H.length+5) 0],.map (C83 m),.cells [.mp (H.length+8)],.cells [.ptr (H.length+5) 0]]
theorem B0z {c:Sc} {H:A2} (hscv:T4 c H=true) {a0:PaShow} {r:List Int×List Int×Int} (h:A5r a0=some r) :
  F0 tab c H (.fn (.func 29) [] []) [.agg (A9 a0)] [.fresh 1 (r.1.map cI),.fresh 1 (r.2.1.map cI),.i r.2.2]:= by
 unfold A5r at h
 refine oB h fun x1 hx1 h=>?_
 refine cE Z Z<|sg 0 Z<|A0 (G0 (cs:=A9 a0) Z Z Z) Z<|A0 A49 Z<|A0 A49 Z<|qm Z<|es (ra3 Z Z Z)<|s0<|A0 (D0 Z Z Z) Z ?_
 by_cases hc2:(x1.1==0)=true
 ·rw[if_pos hc2]at h
  refine oB h fun few hfew h=>oB h fun o ho h=>?_
  obtain⟨X,hX⟩:=A4b hx1 hc2
  refine O4 (A59 hX Z Z (A1 (C9 Z) B3) Z) Z<|qm Z<|A0 (A8 Z Z) Z<|A0 (A8 Z Z) Z<|qm Z<|qm Z<|es (ra5 Z Z Z Z Z)<|B8<|s0<|qm Z<|A0 (I8 Z Z) Z<|es (ra6 Z Z Z Z Z Z)<|S9 Z Z<|B9<|sg 6 Z<|qm Z<|A7i (as2:=[(.ptr (H.length+5) 0)]) (H1:=H++[.cells (A9 a0),.arr 1 false [],.arr 1 false [],.cells (A9 a0),X,.cells (A5b a0 x1.2),.dead]) Z Z (A1 Z B3) Z Z Z (B3g Z)<|sg 7 Z<|A0 (G0 (cs:=[.ptr (H.length+5) 0]) Z Z Z) Z<|qm Z<|es (ra1 Z)<|s0<|A0 (A5n Z Z) Z<|qm Z<|es (ra1 Z)<|C7<|InlQ.mk trivial ⟨_,_,_,[(.fn (.func 106) [] [(.ptr (H.length+7) 0)])],_,(A7 Z B7),(A5 Z B6),(B3c (X8 (B68 (X8 (A8m Z)))) (B3b Z B7k)),?_⟩
  refine B2 (rs:=[(.agg (C8 few.1)),.b few.2]) Z Z (A1 Z (A1 Z B3)) (C6e (D1u (t:=a0) (days:=x1.2) (bS:=H.length+7) (b:=H.length+5)) (fun h=>(C2b h).frz) (ZE (F5 Z) (F5 Z)) (A5z hscv) hfew)<|qm Z<|A0 (A8 Z Z) Z<|A0 (A8 Z Z) Z<|A0 K1 Z<|P5 (G3 (ds:=(C8 few.1)) Z Z Z Z (F7 Z) Z) Z<|qm Z<|es (ra5 Z Z Z Z Z) ?_
  refine sg 8 Z<|A0 E0v Z<|A0 K1 Z<|P5 (G3 (ds:=[.mp (H.length+8)]) Z Z Z Z (A2k (ZM _ _)) Z) Z<|es (ra6 Z Z Z Z Z Z)<|B8<|s0<|qm Z<|A7i (as2:=[(.ptr (H.length+5) 0)]) (H1:=H++[.cells (A9 a0),.arr 1 false [],.arr 1 false [],.cells (A9 a0),X,.cells (A5b a0 x1.2),.cells (C8 few.1),.cells [.ptr (H.length+5) 0],.map [],.cells [.mp (H.length+8)]]) Z Z (A1 Z B3) Z Z Z (B3g Z)<|sg 10 Z<|A0 (G0 (cs:=[.ptr (H.length+5) 0]) Z Z Z) Z<|qm Z<|es (ra1 Z)<|s0<|A0 (A5n Z Z) Z<|qm Z<|es (ra1 Z)<|C7<|InlQ.mk trivial ⟨_,_,_,[(.fn (.func 106) [] [(.ptr (H.length+10) 0)])],_,(A7 Z B7),(A5 Z B6),(B3c (X8 (B68 (X8 (A8m Z)))) (B3b Z B7k)),?_⟩
  refine es (ra6 Z Z Z Z Z Z)<|C5 ?_
  have hl11:∀m,(H++A6w H a0 X x1.2 few.1 [] [] m).length=H.length+11:=fun m=>by rw[Zm];rfl
  refine B60 (it:=B88 a0 x1.2) (sh:=shF) (pre:=B8d a0 x1.2 (H.length+10) (H.length+5)) D1u (K:=H.length+11) [(6,.ptr (H.length+6) 0),(8,.ptr (H.length+9) 0)] (fun m=>H++A6w H a0 X x1.2 few.1 [] [] m) (fun (_:Unit)=>H++A6w H a0 X x1.2 few.1 [] [] []) (fun _=>.ret) ho (fun _=>rfl) Z (fun S hS=>Q8 (live:=[6,8]) Z (by decide) (Sub.trans (su2 Z Z) hS)) Z (fun _=>hl11 _) (fun _=>hl11 _) ⟨fun _ _=>B8d.app ⟨F5 Z,F5 Z⟩,fun _ _=>B8d.app ⟨F5 Z,F5 Z⟩⟩ (A5z hscv) (fun c' x m o' L v hsc hgr hv hbo y0 y1 hy0 hy1=>?_) ?_
  ·obtain rfl:v=.agg (C8 x):=hv
   have hGl:∀m z,(H++A6w H a0 X x1.2 few.1 [] [] m++z::L).length=H.length+11+1+L.length:=fun m z=>by rw[Zm,hl11];simp;omega
   refine Y8<|rg 0 Z<|A0 K1 Z<|P5 (G3 (ds:=C8 x) Z Z Z Z (A2k (by rw[hGl];exact ZM _ _)) Z) Z<|en (ra3 Z Z Z) ⟨Z,L++[.cells (C8 x)],by simp,?_⟩
   refine B9n (show _=H++(A6w H a0 X x1.2 few.1 [] [] m++(y1::(L++[AO.cells (C8 x)]))) by simp) ?_
   rw[show (AV.ptr ((H++A6w H a0 X x1.2 few.1 [] [] m++y0::L).length+(0+0)) 0)=.ptr (H.length+11+1+L.length) 0 by rw[hGl];rfl]
   have q9:∀m,hcells (H++(A6w H a0 X x1.2 few.1 [] [] m++(y1::(L++[AO.cells (C8 x)])))) (H.length+11+1+L.length)=some (C8 x):=fun m=>by
    rw[show H++(A6w H a0 X x1.2 few.1 [] [] m++(y1::(L++[AO.cells (C8 x)])))=(H++A6w H a0 X x1.2 few.1 [] [] m++y1::L)++[AO.cells (C8 x)] by simp,← hGl m y1]
    exact F5 (j:=0) Z
   have htk:∀m,(H++(A6w H a0 X x1.2 few.1 [] [] m++(y1::(L++[AO.cells (C8 x)])))).take (H.length+11+1+L.length)=H++A6w H a0 X x1.2 few.1 [] [] m++y1::L:=fun m=>by
    rw[show H++(A6w H a0 X x1.2 few.1 [] [] m++(y1::(L++[AO.cells (C8 x)])))=(H++A6w H a0 X x1.2 few.1 [] [] m++y1::L)++[AO.cells (C8 x)] by simp,← hGl m y1]
    exact Z0c
   unfold D46 at hbo
   refine oB hbo fun g hg hbo=>?_
   refine C5<|s0<|A0 (B4 (x:=.mp (H.length+8)) Z Z Z) Z<|A0 (C1 Z) Z<|A0 (A92 (ds:=C76 cI x.had_) Z (q9 m) Z Z) Z<|A0 (E0r (k:=x.had_) (es:=m) (gv:=fun n=>.i n) (z:=0) D3e Z (B13 Z) Z Z) Z<|qm Z<|A0 (A8 Z Z) Z<|A0 (A8 Z Z) Z<|qm Z<|qm Z<|es (ra5 Z Z Z Z Z)<|s0<|A0 (C1 Z) Z<|A0 (A63 (x:=.i x.without_) Z (q9 m) Z) Z<|A0 (C1 Z) Z<|A0 (B4 (x:=.i few.1.without_) Z Z Z) Z<|A0 (G2 Z Z) Z<|qm Z<|gp 9 54 (.b g) 45 Z Z (fun hc1=>?_) (fun hc1=>?_) ?_
   ·refine oB (bt hg hc1) fun w hw hg=>?_
    obtain rfl:=os hg
    refine gT Z hc1<|qm Z<|gT Z hc1<|A0 (C9a Z Z) Z<|gT Z hc1<|qm Z<|gq 5 53 (.b w) 48 Z Z (fun hc3=>?_) (fun hc3=>?_) ?_
    ·obtain rfl:=os (bt hw hc3)
     exact nF Z hc3 Z<|nF Z hc3 Z<|nF Z hc3 Z<|nF Z hc3 Z<|gT Z hc1<|A0 (C3 Z hc3 Z) Z<|ge 5 Z Z Z
    ·obtain rfl:=os (bf hw hc3)
     exact gF Z hc3<|A0 (C1 Z) Z<|gF Z hc3<|A0 (A63 (x:=.i x.cost_) Z (q9 m) Z) Z<|gF Z hc3<|qm Z<|gF Z hc3<|A0 (I0 Z Z) Z<|gT Z hc1<|A0 (C2 Z hc3 Z) Z<|ge 5 Z Z Z
    ·exact A0 (C3 Z hc1 Z) Z<|ge 5 Z Z Z
   ·obtain rfl:=os (bf hg hc1)
    exact nT Z hc1 Z<|nT Z hc1 Z<|nT Z hc1 Z<|nX Z Z<|nX Z Z<|nX Z Z<|nX Z Z<|nT Z hc1 Z<|A0 (C2 Z hc1 Z) Z<|ge 9 Z Z Z
   ·refine es (ra3 Z Z Z)<|wi hbo Z (fun hc4 hbo=>?_) fun hc4 hbo=>?_
    ·cases hbo
     refine r0<|A0 (B4 (x:=.mp (H.length+8)) Z Z Z) Z<|A0 (C1 Z) Z<|A0 (A92 (ds:=C76 cI x.had_) Z (q9 m) Z Z) Z<|A0 (C1 Z) Z<|A0 (A63 (x:=.i x.cost_) Z (q9 m) Z) Z<|P5 (E0s (k:=x.had_) (v:=x.cost_) (es:=m) (gv:=fun n=>.i n) D3e Z Z Z Z Z) Z<|en .n ⟨Z,htk _⟩
    ·cases hbo
     exact B9 ⟨Z,htk _⟩
  ·rcases o with m|m
   ·refine oB h fun y hy h=>?_
    obtain rfl:=os h
    refine B9n (show _=H++(A6w H a0 X x1.2 few.1 [] [] m++[.dead]) by simp) ?_
    refine B8<|s0<|A0 (C1 Z) Z<|A0 (B4 Z Z Z) Z<|A0 (F1 (f:=B5) Z) Z<|qm Z<|es (ra5 Z Z Z Z Z)<|C5<|wl (fun s=>[(2,.asl (H.length+1) s.1.length),(3,.asl (H.length+2) s.2.1.length),(8,.ptr (H.length+9) 0),(62,.i a0.Figures.length),(63,.i s.2.2)]) (fun (_:Unit) s=>A6w H a0 X x1.2 few.1 s.1 s.2.1 m++[.dead]) 12 (fun r e s' H'=>PX 2 [(2,.asl (H.length+1) r.1.length),(3,.asl (H.length+2) r.2.length)] (H++(A6w H a0 X x1.2 few.1 r.1 r.2 m++[.dead])) e s' H') () hy Z Z (fun _ _=>rfl) (fun _=>rfl) Z (fun _=>bdc (R3 Z) (bdc (R3 Z) (bdc (J6 Z) (bdc A4 (bdc A4 bdn))))) (fun _ s o hs=>?_) ?_
    ·obtain⟨l1,l2,i⟩:=s
     unfold C0x at hs
     refine s0<|A0 (I0 Z Z) Z<|es (ra6 Z Z Z Z Z Z)<|B8<|wi hs Z (fun hc hs=>?_) fun hc hs=>?_
     ·refine oB hs fun n hn hs=>oB hs fun k1 hl1 hs=>oB hs fun k2 hl2 hs=>?_
      simp only at hn hl1 hl2 hs
      refine B9<|B8<|C5<|s0<|qm Z<|qm Z<|es (ra6 Z Z Z Z Z Z)<|s0<|qm Z<|es (ra7 Z Z Z Z Z Z Z)<|B8<|sg 12 Z<|A0 (B4 (x:=.mp (H.length+8)) Z Z Z) Z<|O4 (D79 Z (B13 Z)) Z<|es (ra8 Z Z Z Z Z Z Z Z)<|C5<|A2x (D02 (l:=H.length+12) (m:=H.length+8) (met:=m) (f:=i) (r:=n) (by rw[V8];show some (AO.mit _ (C83 m).length [])=_;rw[C83,Zi]) (B13 Z) (by omega) hn (E4i Z) (E4i Z) (by rw[Zm];exact J6 Z) A4 A4) ?_
      rintro e s' H' ⟨rfl,rfl,rfl⟩
      rw[I5]
      refine B8<|s0<|qm Z<|A0 (G2 Z Z) Z<|es (ra8 Z Z Z Z Z Z Z Z)<|wi hl1 Z (fun hc5 hl1=>?_) fun hc5 hl1=>?_
      ·refine oB hl1 fun l1' hl1' hl1=>?_
       obtain rfl:=os hl1
       refine r0<|qm Z<|qm Z<|A0 (J2 (rows:=Ze cI [i]) Z Z (D8 (fun _=>rfl) _)) Z<|O4 (A0r (f:=cI) (j:=1) Z Z Z Z X1 (fun _=>rfl) hl1') Z<|qm Z<|en (ra7 Z Z Z Z Z Z Z) ?_
       refine s0<|qm Z<|A0 (B4 (x:=.mp (H.length+8)) Z Z Z) Z<|A0 (D77 (es:=m) Z (B13 Z)) Z<|A0 (I0 Z Z) Z<|es (ra7 Z Z Z Z Z Z Z)<|wi hl2 Z (fun hc6 hl2=>?_) fun hc6 hl2=>?_
       ·refine oB hl2 fun l2' hl2' hl2=>?_
        obtain rfl:=os hl2
        refine r0<|qm Z<|qm Z<|A0 (J2 (rows:=Ze cI [i]) Z Z (D8 (fun _=>rfl) _)) Z<|O4 (A0r (f:=cI) (j:=2) Z Z Z Z X1 (fun _=>rfl) hl2') Z<|qm Z<|en (ra5 Z Z Z Z Z) ?_
        obtain rfl:=os hs
        refine r0<|A0 (D9 Z Z) Z<|qm Z<|en (ra5 Z Z Z Z Z) ?_
        exact lnT () Z (su5 Z Z Z Z Z)
       ·obtain rfl:=os hl2
        obtain rfl:=os hs
        refine B9<|r0<|A0 (D9 Z Z) Z<|qm Z<|en (ra5 Z Z Z Z Z) ?_
        exact lnT () Z (su5 Z Z Z Z Z)
      ·obtain rfl:=os hl1
       refine B9 ?_
       refine s0<|qm Z<|A0 (B4 (x:=.mp (H.length+8)) Z Z Z) Z<|A0 (D77 (es:=m) Z (B13 Z)) Z<|A0 (I0 Z Z) Z<|es (ra7 Z Z Z Z Z Z Z)<|wi hl2 Z (fun hc6 hl2=>?_) fun hc6 hl2=>?_
       ·refine oB hl2 fun l2' hl2' hl2=>?_
        obtain rfl:=os hl2
        refine r0<|qm Z<|qm Z<|A0 (J2 (rows:=Ze cI [i]) Z Z (D8 (fun _=>rfl) _)) Z<|O4 (A0r (f:=cI) (j:=2) Z Z Z Z X1 (fun _=>rfl) hl2') Z<|qm Z<|en (ra5 Z Z Z Z Z) ?_
        obtain rfl:=os hs
        refine r0<|A0 (D9 Z Z) Z<|qm Z<|en (ra5 Z Z Z Z Z) ?_
        exact lnT () Z (su5 Z Z Z Z Z)
       ·obtain rfl:=os hl2
        obtain rfl:=os hs
        refine B9<|r0<|A0 (D9 Z Z) Z<|qm Z<|en (ra5 Z Z Z Z Z) ?_
        exact lnT () Z (su5 Z Z Z Z Z)
     ·refine G5 ?_
      obtain rfl:=os hs
      exact lx Z px (su2 Z Z)
    ·rintro e s' H'-⟨rfl,rfl,rfl⟩
     refine s0<|qm Z<|qm Z<|qm Z<|qm Z<|qm Z<|es (ra3 Z Z Z)<|C7 ?_
     exact retq trivial (A7 Z (A7 Z (A7 Z B7))) (A5 (A5q Z (Zi _)) (A5 (A5q Z (Zi _)) (A5 Z B6))) (A3 X7 (A3 X7 (A3 A4 B1)))
   ·cases h
 ·rw[if_neg hc2]at h
  obtain rfl:=os h
  refine O4 (T9 (rs:=[.lit (.pointer none),.i x1.1]) Z Z (A1 (C9 Z) B3) (A5e hx1 (by simpa using hc2)) Z) Z<|qm Z<|A0 (A8 Z Z) Z<|A0 (A8 Z Z) Z<|qm Z<|qm Z<|es (ra5 Z Z Z Z Z)<|B8<|s0<|qm Z<|A0 (I8 Z Z) Z<|es (ra6 Z Z Z Z Z Z)<|Q4 Z (nef hc2)<|sg 3 Z<|qm Z<|A0 A49 Z<|A0 A49 Z<|qm Z<|es (ra3 Z Z Z)<|C7 ?_
  exact retq trivial (A7 Z (A7 Z (A7 Z B7))) (A5 (A5q Z Z) (A5 (A5q Z Z) (A5 Z B6))) (A3 X7 (A3 X7 (A3 A4 B1)))
def O6 :Option Bool :=
 (B0v false).bind fun x1 =>
 (B0v true).bind fun x2 =>
 (A4f x1 0 10).bind fun x3 =>
 (A10 x1 2 2).bind fun x4 =>
 (A10 x1 2 1).bind fun x5 =>
 (A5s x1 1).bind fun x6 =>
 (A5j).bind fun x7 =>
 (A0u x1 x7 45).bind fun x8 =>
 (A5j).bind fun x9 =>
 (Z3 x1 x9).bind fun x10 =>
 (A5j).bind fun x11 =>
 (Z3 x2 x11).bind fun x12 =>
 (A0f x1).bind fun x13 =>
 (A0f x2).bind fun x14 =>
 (A5r x2).bind fun x15 =>
 (A7j x2).bind fun x16 =>
 (A5j).bind fun x17 =>
 (B8b x1 x17).bind fun x18 =>
 (if ((((((((((((((x3.2==0)&&(x4.2==0))&&(x6.2==0))&&(x8.2==0))&&(x12.2==0))&&(x13.2.2.2==0))&&(x14.2.2.2==0))&&(x15.2.2==0))&&(x16.2==0))&&(x18.2==0))&&(x5.2==9))&&(x10.2==4))&&(x3.1==110))&&(x4.1==48))=true then
  (W3 x6.1 [0,1,2]).bind fun x33 =>
  some x33
 else
  some false).bind fun x34 =>
 (if ((x34&&(x8.1==102))&&(x12.1==0))=true then
  (T7 0 2 0).bind fun x38 =>
  (T7 1 0 0).bind fun x39 =>
  (T7 2 2 0).bind fun x40 =>
  (A5x x13.1 [x38,x39,x40]).bind fun x41 =>
  some x41
 else
  some false).bind fun x42 =>
 (if (((x42&&(x13.2.1==0))&&(x13.2.2.1==78))&&(x14.2.1==2))=true then
  (W3 x15.1 [0,2]).bind fun x47 =>
  some x47
 else
  some false).bind fun x48 =>
 (if x48=true then
  (W3 x15.2.1 [0,2]).bind fun x50 =>
  some x50
 else
  some false).bind fun x51 =>
 (if (x51&&(x16.1==58))=true then
  (W3 x18.1 [2]).bind fun x54 =>
  some x54
 else
  some false).bind fun x55 =>
 some x55
theorem N5 {c:Sc} {H:A2} (hscv:T4 c H=true)  {r:Bool} (h:O6  = some r) :
  F0 tab c H (.fn (.func 19) [] []) [] [.b r]:= by
 unfold O6 at h
 refine cE Z Z<|s0<|qm Z<|es .n<|sg 0 Z<|oB h fun x1 hx1 h=>oB h fun x2 hx2 h=>B2 (rs:=[(.agg (A9 x1))]) Z Z (A1 Z B3) ((B38 hx1).frz)<|B2 (rs:=[(.agg (A9 x2))]) Z Z (A1 Z B3) ((B38 hx2).frz)<|A0 K1 Z<|A0 K1 Z<|P5 (G3 (ds:=(A9 x1)) Z Z Z Z (F7 Z) Z) Z<|P5 (G3 (ds:=(A9 x2)) Z Z Z Z (F7 Z) Z) Z<|es (ra2 Z Z)<|s0<|oB h fun x3 hx3 h=>A0 (D0 Z Z Z) Z<|B2 (rs:=[.i x3.1,.i x3.2]) Z Z (A1 (C9 Z) (A1 Z (A1 Z B3))) ((B2d hx3).frz)<|qm Z<|A0 (A8 Z Z) Z<|A0 (A8 Z Z) Z<|qm Z<|qm Z<|es (ra4 Z Z Z Z)<|s0<|oB h fun x4 hx4 h=>A0 (D0 Z Z Z) Z<|B2 (rs:=[.i x4.1,.i x4.2]) Z Z (A1 (C9 Z) (A1 Z (A1 Z B3))) ((A7y hx4).frz)<|qm Z<|A0 (A8 Z Z) Z<|A0 (A8 Z Z) Z<|qm Z<|qm Z<|es (ra6 Z Z Z Z Z Z)<|s0<|oB h fun x5 hx5 h=>A0 (D0 Z Z Z) Z<|B2 (rs:=[.i x5.1,.i x5.2]) Z Z (A1 (C9 Z) (A1 Z (A1 Z B3))) ((A7y hx5).frz)<|qm Z<|A0 (A8 Z Z) Z<|A0 (A8 Z Z) Z<|qm Z<|qm Z<|es (ra7 Z Z Z Z Z Z Z)<|s0<|oB h fun x6 hx6 h=>A0 (D0 Z Z Z) Z<|B2 (rs:=[(.seq 1 (Ze cI x6.1)),.i x6.2]) Z Z (A1 (C9 Z) (A1 Z B3)) ((B4a hx6).frz)<|qm Z<|A0 (A8 Z Z) Z<|A0 (A8 Z Z) Z<|qm Z<|qm Z<|es (ra9 Z Z Z Z Z Z Z Z Z)<|s0<|oB h fun x7 hx7 h=>oB h fun x8 hx8 h=>A0 (D0 Z Z Z) Z<|T1 (rs:=[(.seq 3 (Ze A6 x7))]) Z Z A0e B3 ((A58 hx7).frz)<|B2 (rs:=[.i x8.1,.i x8.2]) Z Z (A1 (C9 Z) (A1 Z (A1 Z B3))) ((A27 hx8).frz)<|qm Z ?_
 refine A0 (A8 Z Z) Z<|A0 (A8 Z Z) Z<|qm Z<|qm Z<|es (ra11 Z Z Z Z Z Z Z Z Z Z Z)<|s0<|oB h fun x9 hx9 h=>oB h fun x10 hx10 h=>A0 (D0 Z Z Z) Z<|T1 (rs:=[(.seq 3 (Ze A6 x9))]) Z Z A0e B3 ((A58 hx9).frz)<|B2 (rs:=[.i x10.1,.i x10.2]) Z Z (A1 (C9 Z) (A1 Z B3)) ((A28 hx10).frz)<|qm Z<|A0 (A8 Z Z) Z<|A0 (A8 Z Z) Z<|qm Z<|qm Z<|es (ra12 Z Z Z Z Z Z Z Z Z Z Z Z)<|s0<|oB h fun x11 hx11 h=>oB h fun x12 hx12 h=>A0 (D0 Z Z Z) Z<|T1 (rs:=[(.seq 3 (Ze A6 x11))]) Z Z A0e B3 ((A58 hx11).frz)<|B2 (rs:=[.i x12.1,.i x12.2]) Z Z (A1 (C9 Z) (A1 Z B3)) ((A28 hx12).frz)<|qm Z<|A0 (A8 Z Z) Z<|A0 (A8 Z Z) Z<|qm Z<|qm Z<|es (ra14 Z Z Z Z Z Z Z Z Z Z Z Z Z Z)<|s0<|oB h fun x13 hx13 h=>A0 (D0 Z Z Z) Z<|B2 (rs:=[(.seq 3 (Ze A6 x13.1)),.i x13.2.1,.i x13.2.2.1,.i x13.2.2.2]) Z Z (A1 (C9 Z) B3) ((A2l (A5z hscv) hx13).frz)<|qm Z<|A0 (A8 Z Z) Z<|A0 (A8 Z Z) Z<|A0 (A8 Z Z) Z<|A0 (A8 Z Z) Z<|qm Z<|qm Z<|qm Z<|qm Z<|es (.k Z (.k Z (.k Z (.k Z (.k Z (.k Z (.k Z (.k Z (.k Z (.k Z (.k Z (.k Z (.k Z (.k Z (.k Z (.k Z (.k Z (.k Z .n))))))))))))))))))<|s0<|oB h fun x14 hx14 h=>A0 (D0 Z Z Z) Z<|B2 (rs:=[(.seq 3 (Ze A6 x14.1)),.i x14.2.1,.i x14.2.2.1,.i x14.2.2.2]) Z Z (A1 (C9 Z) B3) ((A2l (A5z hscv) hx14).frz)<|qm Z<|A0 (A8 Z Z) Z<|A0 (A8 Z Z) Z<|A0 (A8 Z Z) Z<|A0 (A8 Z Z) Z<|qm Z<|qm Z<|qm Z<|qm Z<|es (.k Z (.k Z (.k Z (.k Z (.k Z (.k Z (.k Z (.k Z (.k Z (.k Z (.k Z (.k Z (.k Z (.k Z (.k Z (.k Z (.k Z (.k Z (.k Z (.k Z .n))))))))))))))))))))<|s0<|oB h fun x15 hx15 h=>A0 (D0 Z Z Z) Z<|B2 (rs:=[(.seq 1 (Ze cI x15.1)),(.seq 1 (Ze cI x15.2.1)),.i x15.2.2]) Z Z (A1 (C9 Z) B3) ((B0z (A5z hscv) hx15).frz) ?_
 refine qm Z<|A0 (A8 Z Z) Z<|A0 (A8 Z Z) Z<|A0 (A8 Z Z) Z<|qm Z<|qm Z<|qm Z<|es (.k Z (.k Z (.k Z (.k Z (.k Z (.k Z (.k Z (.k Z (.k Z (.k Z (.k Z (.k Z (.k Z (.k Z (.k Z (.k Z (.k Z (.k Z (.k Z (.k Z (.k Z (.k Z (.k Z .n)))))))))))))))))))))))<|s0<|oB h fun x16 hx16 h=>A0 (D0 Z Z Z) Z<|B2 (rs:=[.i x16.1,.i x16.2]) Z Z (A1 (C9 Z) B3) ((B58 (A5z hscv) hx16).frz)<|qm Z<|A0 (A8 Z Z) Z<|A0 (A8 Z Z) Z<|qm Z<|qm Z<|es (.k Z (.k Z (.k Z (.k Z (.k Z (.k Z (.k Z (.k Z (.k Z (.k Z (.k Z (.k Z (.k Z (.k Z (.k Z (.k Z (.k Z (.k Z (.k Z (.k Z (.k Z (.k Z (.k Z (.k Z .n))))))))))))))))))))))))<|s0<|oB h fun x17 hx17 h=>oB h fun x18 hx18 h=>A0 (D0 Z Z Z) Z<|T1 (rs:=[(.seq 3 (Ze A6 x17))]) Z Z A0e B3 ((A58 hx17).frz)<|B2 (rs:=[(.seq 1 (Ze cI x18.1)),.i x18.2]) Z Z (A1 (C9 Z) (A1 Z B3)) ((C7b hx18).frz)<|qm Z<|A0 (A8 Z Z) Z<|A0 (A8 Z Z) Z<|qm Z<|qm Z<|es (.k Z (.k Z (.k Z (.k Z (.k Z (.k Z (.k Z (.k Z (.k Z (.k Z (.k Z (.k Z (.k Z (.k Z (.k Z (.k Z (.k Z (.k Z (.k Z (.k Z (.k Z (.k Z (.k Z (.k Z (.k Z .n)))))))))))))))))))))))))<|s0<|oB h fun x34 hx34 h=>oB h fun x42 hx42 h=>oB h fun x48 hx48 h=>oB h fun x51 hx51 h=>oB h fun x55 hx55 h=>qm Z<|A0 (G2 Z Z) Z<|qm Z<|gp 3 108 (.b ((x3.2==0)&&(x4.2==0))) 105 Z Z (fun hg19=>?_) (fun hg19=>?_) ?_
 ·exact gT Z hg19<|qm Z<|gT Z hg19<|A0 (G2 Z Z) Z<|A0 (C3 Z hg19 Z) Z<|ge 3 (by rw[hg19];rfl) Z Z
 ·exact nT Z hg19 Z<|nT Z hg19 Z<|A0 (C2 Z hg19 Z) Z<|ge 3 (by rw[hg19];rfl) Z Z
 refine qm Z<|gp 3 112 (.b (((x3.2==0)&&(x4.2==0))&&(x6.2==0))) 109 Z Z (fun hg20=>?_) (fun hg20=>?_) ?_
 ·exact gT Z hg20<|qm Z<|gT Z hg20<|A0 (G2 Z Z) Z<|A0 (C3 Z hg20 Z) Z<|ge 3 (by rw[hg20];rfl) Z Z
 ·exact nT Z hg20 Z<|nT Z hg20 Z<|A0 (C2 Z hg20 Z) Z<|ge 3 (by rw[hg20];rfl) Z Z
 refine qm Z<|gp 3 116 (.b ((((x3.2==0)&&(x4.2==0))&&(x6.2==0))&&(x8.2==0))) 113 Z Z (fun hg21=>?_) (fun hg21=>?_) ?_
 ·exact gT Z hg21<|qm Z<|gT Z hg21<|A0 (G2 Z Z) Z<|A0 (C3 Z hg21 Z) Z<|ge 3 (by rw[hg21];rfl) Z Z
 ·exact nT Z hg21 Z<|nT Z hg21 Z<|A0 (C2 Z hg21 Z) Z<|ge 3 (by rw[hg21];rfl) Z Z
 refine qm Z<|gp 3 120 (.b (((((x3.2==0)&&(x4.2==0))&&(x6.2==0))&&(x8.2==0))&&(x12.2==0))) 117 Z Z (fun hg22=>?_) (fun hg22=>?_) ?_
 ·exact gT Z hg22<|qm Z<|gT Z hg22<|A0 (G2 Z Z) Z<|A0 (C3 Z hg22 Z) Z<|ge 3 (by rw[hg22];rfl) Z Z
 ·exact nT Z hg22 Z<|nT Z hg22 Z<|A0 (C2 Z hg22 Z) Z<|ge 3 (by rw[hg22];rfl) Z Z
 refine qm Z<|gp 3 124 (.b ((((((x3.2==0)&&(x4.2==0))&&(x6.2==0))&&(x8.2==0))&&(x12.2==0))&&(x13.2.2.2==0))) 121 Z Z (fun hg23=>?_) (fun hg23=>?_) ?_
 ·exact gT Z hg23<|qm Z<|gT Z hg23<|A0 (G2 Z Z) Z<|A0 (C3 Z hg23 Z) Z<|ge 3 (by rw[hg23];rfl) Z Z
 ·exact nT Z hg23 Z<|nT Z hg23 Z<|A0 (C2 Z hg23 Z) Z<|ge 3 (by rw[hg23];rfl) Z Z
 refine qm Z<|gp 3 128 (.b (((((((x3.2==0)&&(x4.2==0))&&(x6.2==0))&&(x8.2==0))&&(x12.2==0))&&(x13.2.2.2==0))&&(x14.2.2.2==0))) 125 Z Z (fun hg24=>?_) (fun hg24=>?_) ?_
 ·exact gT Z hg24<|qm Z<|gT Z hg24<|A0 (G2 Z Z) Z<|A0 (C3 Z hg24 Z) Z<|ge 3 (by rw[hg24];rfl) Z Z
 ·exact nT Z hg24 Z<|nT Z hg24 Z<|A0 (C2 Z hg24 Z) Z<|ge 3 (by rw[hg24];rfl) Z Z
 refine qm Z<|gp 3 132 (.b ((((((((x3.2==0)&&(x4.2==0))&&(x6.2==0))&&(x8.2==0))&&(x12.2==0))&&(x13.2.2.2==0))&&(x14.2.2.2==0))&&(x15.2.2==0))) 129 Z Z (fun hg25=>?_) (fun hg25=>?_) ?_
 ·exact gT Z hg25<|qm Z<|gT Z hg25<|A0 (G2 Z Z) Z<|A0 (C3 Z hg25 Z) Z<|ge 3 (by rw[hg25];rfl) Z Z
 ·exact nT Z hg25 Z<|nT Z hg25 Z<|A0 (C2 Z hg25 Z) Z<|ge 3 (by rw[hg25];rfl) Z Z
 refine qm Z<|gp 3 136 (.b (((((((((x3.2==0)&&(x4.2==0))&&(x6.2==0))&&(x8.2==0))&&(x12.2==0))&&(x13.2.2.2==0))&&(x14.2.2.2==0))&&(x15.2.2==0))&&(x16.2==0))) 133 Z Z (fun hg26=>?_) (fun hg26=>?_) ?_
 ·exact gT Z hg26<|qm Z<|gT Z hg26<|A0 (G2 Z Z) Z<|A0 (C3 Z hg26 Z) Z<|ge 3 (by rw[hg26];rfl) Z Z
 ·exact nT Z hg26 Z<|nT Z hg26 Z<|A0 (C2 Z hg26 Z) Z<|ge 3 (by rw[hg26];rfl) Z Z
 refine qm Z<|gp 3 140 (.b ((((((((((x3.2==0)&&(x4.2==0))&&(x6.2==0))&&(x8.2==0))&&(x12.2==0))&&(x13.2.2.2==0))&&(x14.2.2.2==0))&&(x15.2.2==0))&&(x16.2==0))&&(x18.2==0))) 137 Z Z (fun hg27=>?_) (fun hg27=>?_) ?_
 ·exact gT Z hg27<|qm Z<|gT Z hg27<|A0 (G2 Z Z) Z<|A0 (C3 Z hg27 Z) Z<|ge 3 (by rw[hg27];rfl) Z Z
 ·exact nT Z hg27 Z<|nT Z hg27 Z<|A0 (C2 Z hg27 Z) Z<|ge 3 (by rw[hg27];rfl) Z Z
 refine qm Z<|gp 3 144 (.b (((((((((((x3.2==0)&&(x4.2==0))&&(x6.2==0))&&(x8.2==0))&&(x12.2==0))&&(x13.2.2.2==0))&&(x14.2.2.2==0))&&(x15.2.2==0))&&(x16.2==0))&&(x18.2==0))&&(x5.2==9))) 141 Z Z (fun hg28=>?_) (fun hg28=>?_) ?_
 ·exact gT Z hg28<|qm Z<|gT Z hg28<|A0 (G2 Z Z) Z<|A0 (C3 Z hg28 Z) Z<|ge 3 (by rw[hg28];rfl) Z Z
 ·exact nT Z hg28 Z<|nT Z hg28 Z<|A0 (C2 Z hg28 Z) Z<|ge 3 (by rw[hg28];rfl) Z Z
 refine qm Z<|gp 3 148 (.b ((((((((((((x3.2==0)&&(x4.2==0))&&(x6.2==0))&&(x8.2==0))&&(x12.2==0))&&(x13.2.2.2==0))&&(x14.2.2.2==0))&&(x15.2.2==0))&&(x16.2==0))&&(x18.2==0))&&(x5.2==9))&&(x10.2==4))) 145 Z Z (fun hg29=>?_) (fun hg29=>?_) ?_
 ·exact gT Z hg29<|qm Z<|gT Z hg29<|A0 (G2 Z Z) Z<|A0 (C3 Z hg29 Z) Z<|ge 3 (by rw[hg29];rfl) Z Z
 ·exact nT Z hg29 Z<|nT Z hg29 Z<|A0 (C2 Z hg29 Z) Z<|ge 3 (by rw[hg29];rfl) Z Z
 refine qm Z<|gp 3 152 (.b (((((((((((((x3.2==0)&&(x4.2==0))&&(x6.2==0))&&(x8.2==0))&&(x12.2==0))&&(x13.2.2.2==0))&&(x14.2.2.2==0))&&(x15.2.2==0))&&(x16.2==0))&&(x18.2==0))&&(x5.2==9))&&(x10.2==4))&&(x3.1==110))) 149 Z Z (fun hg30=>?_) (fun hg30=>?_) ?_
 ·exact gT Z hg30<|qm Z<|gT Z hg30<|A0 (G2 Z Z) Z<|A0 (C3 Z hg30 Z) Z<|ge 3 (by rw[hg30];rfl) Z Z
 ·exact nT Z hg30 Z<|nT Z hg30 Z<|A0 (C2 Z hg30 Z) Z<|ge 3 (by rw[hg30];rfl) Z Z
 refine qm Z<|gp 3 156 (.b ((((((((((((((x3.2==0)&&(x4.2==0))&&(x6.2==0))&&(x8.2==0))&&(x12.2==0))&&(x13.2.2.2==0))&&(x14.2.2.2==0))&&(x15.2.2==0))&&(x16.2==0))&&(x18.2==0))&&(x5.2==9))&&(x10.2==4))&&(x3.1==110))&&(x4.1==48))) 153 Z Z (fun hg31=>?_) (fun hg31=>?_) ?_
 ·exact gT Z hg31<|qm Z<|gT Z hg31<|A0 (G2 Z Z) Z<|A0 (C3 Z hg31 Z) Z<|ge 3 (by rw[hg31];rfl) Z Z
 ·exact nT Z hg31 Z<|nT Z hg31 Z<|A0 (C2 Z hg31 Z) Z<|ge 3 (by rw[hg31];rfl) Z Z
 refine qm Z<|gp 4 161 (.b x34) 157 Z Z (fun hg32=>?_) (fun hg32=>?_) ?_
 ·refine oB (bt hx34 hg32) fun x33 hx33 hx34=>?_
  obtain rfl:=os hx34
  exact gT Z hg32<|qm Z<|gT Z hg32<|A0 (J2 (rows:=Ze cI [0,1,2]) Z Z (D8 (fun _=>rfl) _)) Z<|gT Z hg32<|B2 (rs:=[.b x33]) Z Z (A1 Z (A1 Z B3)) ((Z1 hx33).frz)<|A0 (C3 Z hg32 Z) Z<|ge 4 Z Z Z
 ·obtain rfl:=os (bf hx34 hg32)
  exact nT Z hg32 Z<|nT Z hg32 Z<|G4 (D2 Z (by rw[hg32];rfl)) Z<|A0 (C2 Z hg32 Z) Z<|ge 4 Z Z Z
 refine qm Z<|gp 3 165 (.b (x34&&(x8.1==102))) 162 Z Z (fun hg35=>?_) (fun hg35=>?_) ?_
 ·exact gT Z hg35<|qm Z<|gT Z hg35<|A0 (G2 Z Z) Z<|A0 (C3 Z hg35 Z) Z<|ge 3 (by rw[hg35];rfl) Z Z
 ·exact nT Z hg35 Z<|nT Z hg35 Z<|A0 (C2 Z hg35 Z) Z<|ge 3 (by rw[hg35];rfl) Z Z
 refine qm Z<|gp 3 169 (.b ((x34&&(x8.1==102))&&(x12.1==0))) 166 Z Z (fun hg36=>?_) (fun hg36=>?_) ?_
 ·exact gT Z hg36<|qm Z<|gT Z hg36<|A0 (G2 Z Z) Z<|A0 (C3 Z hg36 Z) Z<|ge 3 (by rw[hg36];rfl) Z Z
 ·exact nT Z hg36 Z<|nT Z hg36 Z<|A0 (C2 Z hg36 Z) Z<|ge 3 (by rw[hg36];rfl) Z Z
 refine qm Z<|gp 7 177 (.b x42) 170 Z Z (fun hg37=>?_) (fun hg37=>?_) ?_
 ·refine oB (bt hx42 hg37) fun x38 hx38 hx42=>oB hx42 fun x39 hx39 hx42=>oB hx42 fun x40 hx40 hx42=>oB hx42 fun x41 hx41 hx42=>?_
  obtain rfl:=os hx42
  exact gT Z hg37<|qm Z<|gT Z hg37<|B2 (rs:=[(.agg (A6 x38))]) Z Z (A1 Z (A1 Z (A1 Z B3))) ((Y3 hx38).frz)<|gT Z hg37<|B2 (rs:=[(.agg (A6 x39))]) Z Z (A1 Z (A1 Z (A1 Z B3))) ((Y3 hx39).frz)<|gT Z hg37<|B2 (rs:=[(.agg (A6 x40))]) Z Z (A1 Z (A1 Z (A1 Z B3))) ((Y3 hx40).frz)<|gT Z hg37<|A0 (J2 (rows:=Ze A6 [x38,x39,x40]) Z Z (D8 (fun _=>rfl) _)) Z<|gT Z hg37<|B2 (rs:=[.b x41]) Z Z (A1 Z (A1 Z B3)) ((B4d hx41).frz)<|A0 (C3 Z hg37 Z) Z<|ge 7 Z Z Z
 ·obtain rfl:=os (bf hx42 hg37)
  exact nT Z hg37 Z<|G4 (D2 Z (by rw[hg37];rfl)) Z<|G4 (D2 Z (by rw[hg37];rfl)) Z<|G4 (D2 Z (by rw[hg37];rfl)) Z<|nT Z hg37 Z<|G4 (D2 Z (by rw[hg37];rfl)) Z<|A0 (C2 Z hg37 Z) Z<|ge 7 Z Z Z
 refine qm Z<|gp 3 181 (.b (x42&&(x13.2.1==0))) 178 Z Z (fun hg43=>?_) (fun hg43=>?_) ?_
 ·exact gT Z hg43<|qm Z<|gT Z hg43<|A0 (G2 Z Z) Z<|A0 (C3 Z hg43 Z) Z<|ge 3 (by rw[hg43];rfl) Z Z
 ·exact nT Z hg43 Z<|nT Z hg43 Z<|A0 (C2 Z hg43 Z) Z<|ge 3 (by rw[hg43];rfl) Z Z
 refine qm Z<|gp 3 185 (.b ((x42&&(x13.2.1==0))&&(x13.2.2.1==78))) 182 Z Z (fun hg44=>?_) (fun hg44=>?_) ?_
 ·exact gT Z hg44<|qm Z<|gT Z hg44<|A0 (G2 Z Z) Z<|A0 (C3 Z hg44 Z) Z<|ge 3 (by rw[hg44];rfl) Z Z
 ·exact nT Z hg44 Z<|nT Z hg44 Z<|A0 (C2 Z hg44 Z) Z<|ge 3 (by rw[hg44];rfl) Z Z
 refine qm Z<|gp 3 189 (.b (((x42&&(x13.2.1==0))&&(x13.2.2.1==78))&&(x14.2.1==2))) 186 Z Z (fun hg45=>?_) (fun hg45=>?_) ?_
 ·exact gT Z hg45<|qm Z<|gT Z hg45<|A0 (G2 Z Z) Z<|A0 (C3 Z hg45 Z) Z<|ge 3 (by rw[hg45];rfl) Z Z
 ·exact nT Z hg45 Z<|nT Z hg45 Z<|A0 (C2 Z hg45 Z) Z<|ge 3 (by rw[hg45];rfl) Z Z
 refine qm Z<|gp 4 194 (.b x48) 190 Z Z (fun hg46=>?_) (fun hg46=>?_) ?_
 ·refine oB (bt hx48 hg46) fun x47 hx47 hx48=>?_
  obtain rfl:=os hx48
  exact gT Z hg46<|qm Z<|gT Z hg46<|A0 (J2 (rows:=Ze cI [0,2]) Z Z (D8 (fun _=>rfl) _)) Z<|gT Z hg46<|B2 (rs:=[.b x47]) Z Z (A1 Z (A1 Z B3)) ((Z1 hx47).frz)<|A0 (C3 Z hg46 Z) Z<|ge 4 Z Z Z
 ·obtain rfl:=os (bf hx48 hg46)
  exact nT Z hg46 Z<|nT Z hg46 Z<|G4 (D2 Z (by rw[hg46];rfl)) Z<|A0 (C2 Z hg46 Z) Z<|ge 4 Z Z Z
 refine qm Z<|gp 4 199 (.b x51) 195 Z Z (fun hg49=>?_) (fun hg49=>?_) ?_
 ·refine oB (bt hx51 hg49) fun x50 hx50 hx51=>?_
  obtain rfl:=os hx51
  exact gT Z hg49<|qm Z<|gT Z hg49<|A0 (J2 (rows:=Ze cI [0,2]) Z Z (D8 (fun _=>rfl) _)) Z<|gT Z hg49<|B2 (rs:=[.b x50]) Z Z (A1 Z (A1 Z B3)) ((Z1 hx50).frz)<|A0 (C3 Z hg49 Z) Z<|ge 4 Z Z Z
 ·obtain rfl:=os (bf hx51 hg49)
  exact nT Z hg49 Z<|nT Z hg49 Z<|G4 (D2 Z (by rw[hg49];rfl)) Z<|A0 (C2 Z hg49 Z) Z<|ge 4 Z Z Z
 refine qm Z<|gp 3 203 (.b (x51&&(x16.1==58))) 200 Z Z (fun hg52=>?_) (fun hg52=>?_) ?_
 ·exact gT Z hg52<|qm Z<|gT Z hg52<|A0 (G2 Z Z) Z<|A0 (C3 Z hg52 Z) Z<|ge 3 (by rw[hg52];rfl) Z Z
 ·exact nT Z hg52 Z<|nT Z hg52 Z<|A0 (C2 Z hg52 Z) Z<|ge 3 (by rw[hg52];rfl) Z Z
 refine qm Z<|gp 4 208 (.b x55) 204 Z Z (fun hg53=>?_) (fun hg53=>?_) ?_
 ·refine oB (bt hx55 hg53) fun x54 hx54 hx55=>?_
  obtain rfl:=os hx55
  exact gT Z hg53<|qm Z<|gT Z hg53<|A0 (J2 (rows:=Ze cI [2]) Z Z (D8 (fun _=>rfl) _)) Z<|gT Z hg53<|B2 (rs:=[.b x54]) Z Z (A1 Z (A1 Z B3)) ((Z1 hx54).frz)<|A0 (C3 Z hg53 Z) Z<|ge 4 Z Z Z
 ·obtain rfl:=os (bf hx55 hg53)
  exact nT Z hg53 Z<|nT Z hg53 Z<|G4 (D2 Z (by rw[hg53];rfl)) Z<|A0 (C2 Z hg53 Z) Z<|ge 4 Z Z Z
 refine qm Z<|es (ra1 Z)<|C7 ?_
 obtain rfl:=os h
 exact retq trivial (A7 Z B7) (A5 Z B6) (A3 A4 B1)
end Pw
end
section
set_option maxRecDepth 100000
namespace Pw
theorem awake:O6=some true:= by decide +kernel
end Pw
end
section
set_option maxRecDepth 10000
namespace Pw
open Go Am
theorem D44:∀l n:Fin 16,A6k ⟨ByteArray.empty,(l.val:Int),false,0,0,0,0,0⟩ ⟨ByteArray.empty,0,0,(n.val:Int)⟩=some (A2f (n.val:Int) (l.val:Int)==0):= by decide +kernel
theorem C7g {g:PaGown} (hg:GwOk g) {y:PaFigure} (hy:FgOk y):A6k g y=some (B54 g y):= by
 have h1:=hg.looks
 have h2:=hy.needs
 have:=D44 ⟨g.Looks.toNat,by omega⟩ ⟨y.Needs.toNat,by omega⟩
 simp only at this
 rw[Z55 h1.1,Z55 h2.1]at this
 exact this
theorem C9w (g:PaGown) (x:PaUse):A79 g x=some (A9v g x):= by
 unfold A79 A9v
 cases g.Pawn
 ·simp
 ·simp only[A5h,Zd]
  generalize out 0 364 x.Day=b
  cases b <;> cases x.How==2&&x.Day==0 <;> cases x.How==1 <;> rfl
theorem B08 {s:PaShow} (hs:ShOk s) {f:Int} (hf:0≤f∧f<s.Figures.length) (x:PaUse):A2r s f x=some (T5 s.Gowns s.Figures[f.toNat]! x):= by
 have hG:=hs.gowns
 unfold A2r T5
 by_cases hx:x.Gown = -1
 ·rw[if_pos (by simp[hx]),if_pos hx]
  by_cases hb:x.How=0∧x.Day=0
  ·rw[if_pos hb,if_neg (by simp[hb.1,hb.2])]
  ·rw[if_neg hb,if_pos (by simp;omega)]
 ·rw[if_neg (by simp[hx]),if_neg hx,D7 (by omega),A5h]
  simp only[Zd,Bool.not_not]
  cases ho:out 0 ((s.Gowns.length:Int)-1) x.Gown with
  | true=>rfl
  | false =>
   have hg:=P4.mp ho
   simp only[Zj,if_false]
   rw[A0o (l:=s.Gowns) hg.1 (by omega),A0o (l:=s.Figures) hf.1 hf.2]
   have hok:=hs.gown _ (J1 (l:=s.Gowns) (i:=x.Gown.toNat) (by omega))
   have hok2:=hs.figure _ (J1 (l:=s.Figures) (i:=f.toNat) (by omega))
   generalize s.Gowns[x.Gown.toNat]! = g at hok
   generalize s.Figures[f.toNat]! = y at hok2
   simp only[Zd]
   rw[C9w,C7g hok hok2]
   simp only[Zd]
   unfold B32
   cases A9v g x
   ·rfl
   ·cases ((x.How==1&&(decide (x.Day>g.Last)||decide (x.Day>y.Day)))||(x.How==2&&decide (y.Until>g.Last)))
    ·cases B54 g y <;> rfl
    ·rfl
theorem B6o {g:PaGown} (h:GwOk g) {day:Int} (hd:0≤day∧day≤364):A4g g day=some (price g day):= by
 have:=B4u h ⟨ByteArray.empty,0,0,0⟩ hd
 rw[← this]
 unfold A4g A0v
 rw[Int.add_comm (w64 (Int.tdiv (w64 (g.Ago+day)) 30)) 1]
theorem C2w {g:PaGown} (h:GwOk g) {f:PaFigure} (hf:FgOk f):A97 g f=some (C1d g f):=C06 h hf 0
theorem B3d (l:List Int) (hl:l.length<9223372036854775807):W3 l l=some true:= by
 unfold W3
 rw[show ((l.length:Int)==(l.length:Int))=true by simp]
 rw[show ((true,0):Bool×Int)=(true,((0:Nat):Int)) from Z,N4 (b:=A3d l l) (fun i=>(true,(i:Int))) l.length (r:=true) (by omega) (fun i hi=>by
  unfold A3d
  simp only[]
  rw[if_pos (by simpa using hi),G9 hi,D7 (by omega)]
  simp) (by
  unfold A3d
  rw[if_neg (by simp)])]
 rfl
end Pw
end
section
set_option maxRecDepth 100000
set_option maxHeartbeats 0
namespace Pw
open Go Am Go.Proofs.YtjpjdglddmhplaaGreat.Cd
def A2d (a0:(List PaUse)) (a1:Int) (s1:Int):Option (Int⊕(Bool⊕Unit)) :=
 if (decide (s1<a1))=true then
  (idx a0 a1).bind fun x4 =>
  (if (x4.Gown != (-1))=true then
  (idx a0 s1).bind fun x6 =>
  (idx a0 a1).bind fun x7 =>
  some (x6.Gown==x7.Gown)
  else
  some false).bind fun x8 =>
  if x8=true then
  some (.inr (.inl true))
  else
  some (.inl (w64 (s1+1)))
 else
  some (.inr (.inr ()))
def A2c (a0:(List PaUse)) (a1:Int):Option Bool :=
 (loop (A2d a0 a1) 0).bind fun (o10:(Bool⊕Unit)) =>
 match o10 with
 | (.inl vo10_0) =>
  some vo10_0
 | (.inr vo10_1) =>
  some false
theorem B2g {c:Sc} {H:A2} {a0:(List PaUse)} {a1:Int} {r:Bool} (h:A2c a0 a1=some r) :
  F0 tab c H (.fn (.func 77) [] []) [(.seq 3 (Ze A6 a0)),.i a1] [.b r]:= by
 unfold A2c at h
 refine cE Z Z<|s0<|qm Z<|es (ra2 Z Z)<|B8<|s0<|qm Z<|es (ra3 Z Z Z)<|C5<|oB h fun o10 ho10 h=>wl (fun s1=>[(0,(.seq 3 (Ze A6 a0))),(1,.i a1),(5,.i s1)]) (fun (q2:Unit) s1=>[]) 0 (fun r e s' H'=>(match r with|(.inl v)=>e=.ret∧RetQ H [.tmp 4] [.b v] e s' H' | (.inr v)=>PX 0 [] (H++[]) e s' H':Prop)) () ho10 Z Z (fun _ _=>rfl) (fun _=>rfl) Z (fun s1=>(bdc G6 (bdc A4 (bdc A4 bdn)))) (fun q2 s1 ys1 hs1=>?_) ?_
 ·unfold A2d at hs1
  refine B8<|s0<|qm Z<|qm Z<|A0 (I0 Z Z) Z<|es (ra4 Z Z Z Z)<|wi hs1 Z (fun hc3 hs1=>?_) fun hc3 hs1=>?_
  ·refine B9<|B8<|C5<|s0<|oB hs1 fun x4 hx4 hs1=>oB hs1 fun x8 hx8 hs1=>qm Z<|qm Z<|A0 (D4 (f:=A6) Z Z hx4) Z<|A0 (R1 (ds:=(A6 x4)) Z Z) Z<|A0 (F9 Z Z) Z<|A0 (I8 Z Z) Z<|qm Z<|gp 12 29 (.b x8) 17 Z Z (fun hg5=>?_) (fun hg5=>?_) ?_
   ·refine oB (bt hx8 hg5) fun x6 hx6 hx8=>oB hx8 fun x7 hx7 hx8=>?_
    obtain rfl:=os hx8
    exact gT Z hg5<|qm Z<|gT Z hg5<|qm Z<|gT Z hg5<|A0 (D4 (f:=A6) Z Z hx6) Z<|gT Z hg5<|A0 (R1 (ds:=(A6 x6)) Z Z) Z<|gT Z hg5<|A0 (F9 Z Z) Z<|gT Z hg5<|qm Z<|gT Z hg5<|qm Z<|gT Z hg5<|A0 (D4 (f:=A6) Z Z hx7) Z<|gT Z hg5<|A0 (R1 (ds:=(A6 x7)) Z Z) Z<|gT Z hg5<|A0 (F9 Z Z) Z<|gT Z hg5<|A0 (G2 Z Z) Z<|A0 (C3 Z hg5 Z) Z<|ge 12 Z Z Z
   ·obtain rfl:=os (bf hx8 hg5)
    exact nT Z hg5 Z<|nT Z hg5 Z<|nT Z hg5 Z<|nT Z hg5 Z<|nT Z hg5 Z<|nT Z hg5 Z<|nT Z hg5 Z<|nT Z hg5 Z<|nT Z hg5 Z<|nT Z hg5 Z<|nT Z hg5 Z<|A0 (C2 Z hg5 Z) Z<|ge 12 Z Z Z
   refine es (ra4 Z Z Z Z)<|wi hs1 Z (fun hc9 hs1=>?_) fun hc9 hs1=>?_
   ·refine s0<|qm Z<|es (ra1 Z)<|C7 ?_
    obtain rfl:=os hs1
    exact lx Z (ZE Z (retq trivial (A7 Z B7) (A5 Z B6) (A3 A4 B1))) (Sub.refl _)
   ·refine B9<|r0<|qm Z<|A0 (D9 Z Z) Z<|qm Z<|en (ra3 Z Z Z) ?_
    cases hs1
    exact lnT () Z (su3 Z Z Z)
  ·refine G5 ?_
   obtain rfl:=os hs1
   exact lx Z px (.nil _)
 ·rcases o10 with vo10_0|vo10_1
  ·rintro e s' H'-⟨rfl,hret⟩
   cases h
   exact hret
  ·rintro e s' H'-⟨rfl,rfl,rfl⟩
   refine s0<|qm Z<|es (ra1 Z)<|C7 ?_
   obtain rfl:=os h
   exact retq trivial (A7 Z B7) (A5 Z B6) (A3 A4 B1)
def A34 (a0:PaShow) (a1:Int) (a2:PaUse):Option (Int×Int) :=
 if (a2.Gown==(-1))=true then
  some (0,0)
 else
  if (a2.How==1)=true then
  (idx a0.Gowns a2.Gown).bind fun x3 =>
  (A4g x3 a2.Day).bind fun x4 =>
  some (x4,a2.Day)
  else
  if (a2.How==2)=true then
   (idx a0.Gowns a2.Gown).bind fun x6 =>
   (idx a0.Figures a1).bind fun x7 =>
   (A97 x6 x7).bind fun x8 =>
   (idx a0.Figures a1).bind fun x9 =>
   some (x8,x9.Day)
  else
   some (0,0)
theorem A9j {c:Sc} {H:A2} {a0:PaShow} {a1:Int} {a2:PaUse} {r:(Int×Int)} (h:A34 a0 a1 a2=some r) :
  F0 tab c H (.fn (.func 78) [] []) [(.agg (A9 a0)),.i a1,(.agg (A6 a2))] [.i r.1,.i r.2]:= by
 unfold A34 at h
 refine cE Z Z<|sg 0 Z<|A0 (G0 (cs:=A9 a0) Z Z Z) Z<|A0 (G0 (cs:=A6 a2) Z Z Z) Z<|qm Z<|qm Z<|es (ra3 Z Z Z)<|B8<|C5<|s0<|A0 (C1 Z) Z<|A0 (B4 Z Z Z) Z<|A0 (G2 Z Z) Z<|qm Z<|es (ra4 Z Z Z Z)<|wi h Z (fun hc1 h=>?_) fun hc1 h=>?_
 ·refine s0<|qm Z<|qm Z<|es (ra2 Z Z)<|C7 ?_
  obtain rfl:=os h
  exact retq trivial (A7 Z (A7 Z B7)) (A5 Z (A5 Z B6)) (A3 A4 (A3 A4 B1))
 ·refine s0<|A0 (C1 Z) Z<|A0 (B4 Z Z Z) Z<|A0 (G2 Z Z) Z<|qm Z<|es (ra4 Z Z Z Z)<|wi h Z (fun hc2 h=>?_) fun hc2 h=>?_
  ·refine s0<|oB h fun x3 hx3 h=>oB h fun x4 hx4 h=>A0 (C1 Z) Z<|A0 (B4 Z Z Z) Z<|A0 (C1 Z) Z<|A0 (B4 Z Z Z) Z<|A0 (D4 (f:=C6) Z Z hx3) Z<|A0 (H9 Z Z) Z<|A0 (C1 Z) Z<|A0 (B4 Z Z Z) Z<|T1 (rs:=[.i x4]) Z Z (R5 Z (R5 Z A0e)) (A1 (C9 Z) (A1 Z B3)) ((B2f hx4).frz)<|A0 (C1 Z) Z<|A0 (B4 Z Z Z) Z<|qm Z<|qm Z<|es (ra2 Z Z)<|C7 ?_
   obtain rfl:=os h
   exact retq trivial (A7 Z (A7 Z B7)) (A5 Z (A5 Z B6)) (A3 A4 (A3 A4 B1))
  ·refine s0<|A0 (C1 Z) Z<|A0 (B4 Z Z Z) Z<|A0 (G2 Z Z) Z<|qm Z<|es (ra4 Z Z Z Z)<|wi h Z (fun hc5 h=>?_) fun hc5 h=>?_
   ·refine s0<|oB h fun x6 hx6 h=>oB h fun x7 hx7 h=>oB h fun x8 hx8 h=>oB h fun x9 hx9 h=>A0 (C1 Z) Z<|A0 (B4 Z Z Z) Z<|A0 (C1 Z) Z<|A0 (B4 Z Z Z) Z<|A0 (D4 (f:=C6) Z Z hx6) Z<|A0 (H9 Z Z) Z<|A0 (C1 Z) Z<|A0 (B4 Z Z Z) Z<|qm Z<|A0 (D4 (f:=B5) Z Z hx7) Z<|A0 (H9 Z Z) Z<|T1 (rs:=[.i x8]) Z Z (R5 Z (R5 Z A0e)) (A1 (C9 Z) (A1 (C9 Z) B3)) ((B6b hx8).frz)<|A0 (C1 Z) Z<|A0 (B4 Z Z Z) Z<|qm Z<|A0 (D4 (f:=B5) Z Z hx9) Z<|A0 (R1 (ds:=(List.drop 1 (B5 x9))) Z Z) Z<|A0 (F9 Z Z) Z<|qm Z<|qm Z<|es (ra2 Z Z)<|C7 ?_
    obtain rfl:=os h
    exact retq trivial (A7 Z (A7 Z B7)) (A5 Z (A5 Z B6)) (A3 A4 (A3 A4 B1))
   ·refine B9<|s0<|qm Z<|qm Z<|es (ra2 Z Z)<|C7 ?_
    obtain rfl:=os h
    exact retq trivial (A7 Z (A7 Z B7)) (A5 Z (A5 Z B6)) (A3 A4 (A3 A4 B1))
def A3i (a0:PaShow) (a2:Int) (s1:(Int×Int)):Option ((Int×Int)⊕Int) :=
 if (decide (s1.2<(Zh a0.Incomes:Int)))=true then
  (idx a0.Incomes s1.2).bind fun x4 =>
  if (decide (x4.Day≤a2))=true then
  (idx a0.Incomes s1.2).bind fun x6 =>
  some (.inl ((w64 (s1.1+x6.Pence)),(w64 (s1.2+1))))
  else
  some (.inl (s1.1,(w64 (s1.2+1))))
 else
  some (.inr s1.1)
def A3j (a0:PaShow) (a1:(List PaUse)) (a2:Int) (s8:(Int×Int)):Option ((Int×Int)⊕Int) :=
 if (decide (s8.2<(Zh a1:Int)))=true then
  (idx a1 s8.2).bind fun x11 =>
  (A34 a0 s8.2 x11).bind fun x12 =>
  if (decide (x12.2≤a2))=true then
  some (.inl ((w64 (s8.1-x12.1)),(w64 (s8.2+1))))
  else
  some (.inl (s8.1,(w64 (s8.2+1))))
 else
  some (.inr s8.1)
def A33 (a0:PaShow) (a1:(List PaUse)) (a2:Int):Option Int :=
 (loop (A3i a0 a2) (a0.Purse,0)).bind fun (o7:Int) =>
 (loop (A3j a0 a1 a2) (o7,0)).bind fun (o14:Int) =>
 some o14
theorem A9i {c:Sc} {H:A2} {a0:PaShow} {a1:(List PaUse)} {a2:Int} {r:Int} (h:A33 a0 a1 a2=some r) :
  F0 tab c H (.fn (.func 65) [] []) [(.agg (A9 a0)),(.seq 3 (Ze A6 a1)),.i a2] [.i r]:= by
 unfold A33 at h
 refine cE Z Z<|sg 0 Z<|A0 (G0 (cs:=A9 a0) Z Z Z) Z<|qm Z<|es (ra3 Z Z Z)<|s0<|A0 (C1 Z) Z<|A0 (B4 Z Z Z) Z<|qm Z<|es (ra4 Z Z Z Z)<|B8<|s0<|qm Z<|es (ra5 Z Z Z Z Z)<|C5<|oB h fun o7 ho7 h=>wl (fun s1=>[(1,(.seq 3 (Ze A6 a1))),(2,.i a2),(3,(.ptr (H.length+0) 0)),(7,.i s1.1),(8,.i s1.2)]) (fun (q2:Unit) s1=>[(.cells (A9 a0))]) 1 (fun r e s' H'=>PX 0 [(1,(.seq 3 (Ze A6 a1))),(2,.i a2),(3,(.ptr (H.length+0) 0)),(7,.i r)] (H++[(.cells (A9 a0))]) e s' H') () ho7 Z Z (fun _ _=>rfl) (fun _=>rfl) Z (fun s1=>(bdc G6 (bdc A4 (bdc (J6 Z) (bdc A4 (bdc A4 bdn)))))) (fun q2 s1 ys1 hs1=>?_) ?_
 ·unfold A3i at hs1
  refine B8<|s0<|qm Z<|A0 (C1 Z) Z<|A0 (B4 Z Z Z) Z<|A0 (F1 (f:=D3) Z) Z<|A0 (I0 Z Z) Z<|es (ra6 Z Z Z Z Z Z)<|wi hs1 Z (fun hc3 hs1=>?_) fun hc3 hs1=>?_
  ·refine B9<|B8<|C5<|s0<|oB hs1 fun x4 hx4 hs1=>A0 (C1 Z) Z<|A0 (B4 Z Z Z) Z<|qm Z<|A0 (D4 (f:=D3) Z Z hx4) Z<|A0 (R1 (ds:=(D3 x4)) Z Z) Z<|A0 (F9 Z Z) Z<|qm Z<|A0 (A4k Z Z) Z<|es (ra6 Z Z Z Z Z Z)<|wi hs1 Z (fun hc5 hs1=>?_) fun hc5 hs1=>?_
   ·refine r0<|oB hs1 fun x6 hx6 hs1=>qm Z<|A0 (C1 Z) Z<|A0 (B4 Z Z Z) Z<|qm Z<|A0 (D4 (f:=D3) Z Z hx6) Z<|A0 (R1 (ds:=(List.drop 1 (D3 x6))) Z Z) Z<|A0 (F9 Z Z) Z<|A0 (D9 Z Z) Z<|qm Z<|en (ra5 Z Z Z Z Z)<|r0<|qm Z<|A0 (D9 Z Z) Z<|qm Z<|en (ra5 Z Z Z Z Z) ?_
    cases hs1
    exact lnT () Z (su5 Z Z Z Z Z)
   ·refine B9<|r0<|qm Z<|A0 (D9 Z Z) Z<|qm Z<|en (ra5 Z Z Z Z Z) ?_
    cases hs1
    exact lnT () Z (su5 Z Z Z Z Z)
  ·refine G5 ?_
   obtain rfl:=os hs1
   exact lx Z px (su4 Z Z Z Z)
 ·rintro e s' H'-⟨rfl,rfl,rfl⟩
  refine B8<|s0<|qm Z<|es (ra5 Z Z Z Z Z)<|C5<|oB h fun o14 ho14 h=>wl (fun s8=>[(1,(.seq 3 (Ze A6 a1))),(2,.i a2),(3,(.ptr (H.length+0) 0)),(7,.i s8.1),(9,.i s8.2)]) (fun (q9:Unit) s8=>[(.cells (A9 a0))]) 1 (fun r e s' H'=>PX 2 [(7,.i r)] (H++[(.cells (A9 a0))]) e s' H') () ho14 Z Z (fun _ _=>rfl) (fun _=>rfl) Z (fun s8=>(bdc G6 (bdc A4 (bdc (J6 Z) (bdc A4 (bdc A4 bdn)))))) (fun q9 s8 ys8 hs8=>?_) ?_
  ·unfold A3j at hs8
   refine B8<|s0<|qm Z<|qm Z<|A0 (F1 (f:=A6) Z) Z<|A0 (I0 Z Z) Z<|es (ra6 Z Z Z Z Z Z)<|wi hs8 Z (fun hc10 hs8=>?_) fun hc10 hs8=>?_
   ·refine B9<|B8<|C5<|s0<|oB hs8 fun x11 hx11 hs8=>oB hs8 fun x12 hx12 hs8=>A0 (D0 Z Z Z) Z<|qm Z<|qm Z<|qm Z<|A0 (D4 (f:=A6) Z Z hx11) Z<|A0 (H9 Z Z) Z<|B2 (rs:=[.i x12.1,.i x12.2]) Z Z (A1 (C9 Z) (A1 Z (A1 (C9 Z) B3))) ((A9j hx12).frz)<|qm Z<|A0 (A8 Z Z) Z<|A0 (A8 Z Z) Z<|qm Z<|qm Z<|es (ra7 Z Z Z Z Z Z Z)<|s0<|qm Z<|qm Z<|A0 (A4k Z Z) Z<|es (ra7 Z Z Z Z Z Z Z)<|wi hs8 Z (fun hc13 hs8=>?_) fun hc13 hs8=>?_
    ·refine r0<|qm Z<|qm Z<|A0 (W6 Z Z) Z<|qm Z<|en (ra5 Z Z Z Z Z)<|r0<|qm Z<|A0 (D9 Z Z) Z<|qm Z<|en (ra5 Z Z Z Z Z) ?_
     cases hs8
     exact lnT () Z (su5 Z Z Z Z Z)
    ·refine B9<|r0<|qm Z<|A0 (D9 Z Z) Z<|qm Z<|en (ra5 Z Z Z Z Z) ?_
     cases hs8
     exact lnT () Z (su5 Z Z Z Z Z)
   ·refine G5 ?_
    obtain rfl:=os hs8
    exact lx Z px (su1 Z)
  ·rintro e s' H'-⟨rfl,rfl,rfl⟩
   refine s0<|qm Z<|qm Z<|es (ra1 Z)<|C7 ?_
   obtain rfl:=os h
   exact retq trivial (A7 Z B7) (A5 Z B6) (A3 A4 B1)
def A17 (a0:PaShow) (a1:(List PaUse)) (s4:(Int×Int×Int)):Option ((Int×Int×Int)⊕(Int×Int)) :=
 if (decide (s4.2.2<(Zh a1:Int)))=true then
  (idx a1 s4.2.2).bind fun x7 =>
  (A34 a0 s4.2.2 x7).bind fun x8 =>
  (A33 a0 a1 x8.2).bind fun x9 =>
  if ((decide (x9<0))&&((decide (s4.2.1<0))||(decide (x8.2<s4.2.1))))=true then
  some (.inl ((A47 s4.1 x9),x8.2,(w64 (s4.2.2+1))))
  else
  some (.inl ((A47 s4.1 x9),s4.2.1,(w64 (s4.2.2+1))))
 else
  some (.inr (s4.1,s4.2.1))
def A16 (a0:PaShow) (a1:(List PaUse)):Option (Int×Int) :=
 (A33 a0 a1 0).bind fun x1 =>
 (if (decide (x1<0))=true then
  some 0
  else
  some (-1)).bind fun (p2:Int) =>
 (loop (A17 a0 a1) (x1,p2,0)).bind fun (o13:(Int×Int)) =>
 some (o13.1,o13.2)
theorem A71 {c:Sc} {H:A2} {a0:PaShow} {a1:(List PaUse)} {r:(Int×Int)} (h:A16 a0 a1=some r) :
  F0 tab c H (.fn (.func 67) [] []) [(.agg (A9 a0)),(.seq 3 (Ze A6 a1))] [.i r.1,.i r.2]:= by
 unfold A16 at h
 refine cE Z Z<|sg 0 Z<|A0 (G0 (cs:=A9 a0) Z Z Z) Z<|qm Z<|qm Z<|es (ra2 Z Z)<|s0<|oB h fun x1 hx1 h=>A0 (D0 Z Z Z) Z<|qm Z<|B2 (rs:=[.i x1]) Z Z (A1 (C9 Z) (A1 Z (A1 Z B3))) ((A9i hx1).frz)<|qm Z<|qm Z<|es (ra4 Z Z Z Z)<|B8<|s0<|qm Z<|A0 (I0 Z Z) Z<|es (ra5 Z Z Z Z Z)<|oB h fun p2 hp2 h=>A6v (Q1:=fun e s' H'=>e=.normal∧s'=[(1,(.seq 3 (Ze A6 a1))),(2,(.ptr (H.length+0) 0)),(6,.i x1),(7,.i p2)]∧H'=(H++[(.cells (A9 a0))])) ?_ ?_
 ·refine wi hp2 Z (fun hc3 hp2=>?_) fun hc3 hp2=>?_
  ·refine r0<|qm Z<|en (ra4 Z Z Z Z) ?_
   obtain rfl:=os hp2
   exact me (ZE Z (ZE Z Z)) (su4 Z Z Z Z)
  ·refine B9 ?_
   obtain rfl:=os hp2
   exact me (ZE Z (ZE Z Z)) (su4 Z Z Z Z)
 ·rintro e s' H' ⟨rfl,rfl,rfl⟩
  refine B8<|s0<|qm Z<|es (ra5 Z Z Z Z Z)<|C5<|oB h fun o13 ho13 h=>wl (fun s4=>[(1,(.seq 3 (Ze A6 a1))),(2,(.ptr (H.length+0) 0)),(6,.i s4.1),(7,.i s4.2.1),(8,.i s4.2.2)]) (fun (q5:Unit) s4=>[(.cells (A9 a0))]) 1 (fun r e s' H'=>PX 0 [(6,.i r.1),(7,.i r.2)] (H++[(.cells (A9 a0))]) e s' H') () ho13 Z Z (fun _ _=>rfl) (fun _=>rfl) Z (fun s4=>(bdc G6 (bdc (J6 Z) (bdc A4 (bdc A4 (bdc A4 bdn)))))) (fun q5 s4 ys4 hs4=>?_) ?_
  ·unfold A17 at hs4
   refine B8<|s0<|qm Z<|qm Z<|A0 (F1 (f:=A6) Z) Z<|A0 (I0 Z Z) Z<|es (ra6 Z Z Z Z Z Z)<|wi hs4 Z (fun hc6 hs4=>?_) fun hc6 hs4=>?_
   ·refine B9<|B8<|C5<|s0<|oB hs4 fun x7 hx7 hs4=>oB hs4 fun x8 hx8 hs4=>A0 (D0 Z Z Z) Z<|qm Z<|qm Z<|qm Z<|A0 (D4 (f:=A6) Z Z hx7) Z<|A0 (H9 Z Z) Z<|B2 (rs:=[.i x8.1,.i x8.2]) Z Z (A1 (C9 Z) (A1 Z (A1 (C9 Z) B3))) ((A9j hx8).frz)<|qm Z<|A0 (A8 Z Z) Z<|A0 (A8 Z Z) Z<|qm Z<|qm Z<|es (ra6 Z Z Z Z Z Z)<|s0<|oB hs4 fun x9 hx9 hs4=>A0 (D0 Z Z Z) Z<|qm Z<|qm Z<|B2 (rs:=[.i x9]) Z Z (A1 (C9 Z) (A1 Z (A1 Z B3))) ((A9i hx9).frz)<|qm Z<|es (ra7 Z Z Z Z Z Z Z)<|s0<|qm Z<|qm Z<|A0 (C88 Z Z) Z<|qm Z<|es (ra7 Z Z Z Z Z Z Z)<|s0<|qm Z<|A0 (I0 Z Z) Z<|qm Z<|gp 8 50 (.b ((decide (x9<0))&&((decide (s4.2.1<0))||(decide (x8.2<s4.2.1))))) 42 Z Z (fun hg10=>?_) (fun hg10=>?_) ?_
    ·refine gT Z hg10<|qm Z<|gT Z hg10<|A0 (I0 Z Z) Z<|gT Z hg10<|qm Z<|gq 4 49 (.b ((decide (s4.2.1<0))||(decide (x8.2<s4.2.1)))) 45 Z Z (fun hg11=>?_) (fun hg11=>?_) ?_
     ·exact nF Z hg11 Z<|nF Z hg11 Z<|nF Z hg11 Z<|gT Z hg10<|A0 (C3 Z hg11 Z) Z<|ge 4 (by rw[hg11];rfl) Z Z
     ·exact gF Z hg11<|qm Z<|gF Z hg11<|qm Z<|gF Z hg11<|A0 (I0 Z Z) Z<|gT Z hg10<|A0 (C2 Z hg11 Z) Z<|ge 4 (by rw[hg11];rfl) Z Z
     exact A0 (C3 Z hg10 Z) Z<|ge 5 (by rw[hg10];rfl) Z Z
    ·exact nT Z hg10 Z<|nT Z hg10 Z<|nT Z hg10 Z<|nX Z Z<|nX Z Z<|nX Z Z<|nT Z hg10 Z<|A0 (C2 Z hg10 Z) Z<|ge 8 (by rw[hg10];rfl) Z Z
    refine es (ra7 Z Z Z Z Z Z Z)<|wi hs4 Z (fun hc12 hs4=>?_) fun hc12 hs4=>?_
    ·refine r0<|qm Z<|qm Z<|en (ra5 Z Z Z Z Z)<|r0<|qm Z<|A0 (D9 Z Z) Z<|qm Z<|en (ra5 Z Z Z Z Z) ?_
     cases hs4
     exact lnT () Z (su5 Z Z Z Z Z)
    ·refine B9<|r0<|qm Z<|A0 (D9 Z Z) Z<|qm Z<|en (ra5 Z Z Z Z Z) ?_
     cases hs4
     exact lnT () Z (su5 Z Z Z Z Z)
   ·refine G5 ?_
    obtain rfl:=os hs4
    exact lx Z px (su2 Z Z)
  ·rintro e s' H'-⟨rfl,rfl,rfl⟩
   refine s0<|qm Z<|qm Z<|qm Z<|qm Z<|es (ra2 Z Z)<|C7 ?_
   obtain rfl:=os h
   exact retq trivial (A7 Z (A7 Z B7)) (A5 Z (A5 Z B6)) (A3 A4 (A3 A4 B1))
end Pw
end
section
namespace Pw
open Go Am
theorem C72 {α:Type} [Inhabited α] (l:List α) (p:α→Bool) {b:Int→Option (Int⊕(Bool⊕Unit))} (hl:l.length<9223372036854775808)
  (hb:∀i:Nat,i<l.length→b i=some (if p l[i]! then .inr (.inl true) else .inl (w64 ((i:Int)+1)))) (he:b l.length=some (.inr (.inr ()))) :
  ∃ o,loop b 0=some o∧(match o with|.inl v=>v=true∧l.any p=true|.inr _=>l.any p=false):= by
 have h:=A8u (b:=b) l.length (fun i=>if p l[i]! then some (.inl true) else none) (.inr ()) hl (fun i hi _=>by
  rw[hb i hi];cases p l[i]! <;> rfl) he
 refine⟨_,h,?_⟩
 have ha:=C4f l p
 cases hf:first (fun i=>if p l[i]! then some (Sum.inl true:Bool⊕Unit) else none) l.length with
 | none =>
  have h0:=L5.mp hf
  rw[L5.mpr fun i hi=>by
   have:=h0 i hi
   cases hp:p l[i]! with
   | false=>rfl
   | true=>rw[hp]at this;exact absurd this (by simp)]at ha
  simpa using ha.symm
 | some r =>
  obtain⟨i,hi,h1,h2⟩:=V7 hf
  cases hp:p l[i]! with
  | false=>rw[hp]at h1;exact absurd h1 (by simp)
  | true =>
   rw[hp]at h1
   have h1:some (Sum.inl true)=some r:=h1
   obtain rfl:=Z0e h1
   refine⟨Z,?_⟩
   rw[A9t (r:=(i:Int)) hi (by rw[hp];rfl) fun j hj=>by
    have:=h2 j hj
    cases hq:p l[j]! with
    | false=>rfl
    | true=>rw[hq]at this;exact absurd this (by simp)]at ha
   exact ha.symm
theorem B6p {p:List PaUse} {i:Nat} (hi:i<p.length) (hl:p.length≤100):A2c p (i:Int)=some (twP p i):= by
 unfold A2c twP
 have hlen:(p.take i).length=i:= by rw[ZC];omega
 obtain⟨o,ho,hc⟩:=C72 (p.take i) (fun x=>(p[i]!.Gown != -1)&&(x.Gown==p[i]!.Gown)) (b:=A2d p (i:Int)) (by omega) (fun k hk=>by
  rw[hlen]at hk
  have hkp:k<p.length:= by omega
  have e:(p.take i)[k]! = p[k]!:= by
   rw[getElem!_pos (p.take i) k (by rw[hlen];exact hk),getElem!_pos p k hkp,List.getElem_take]
  unfold A2d
  rw[if_pos (by simpa using hk),G9 hi,G9 hkp,e]
  simp only[Zd]
  cases p[i]!.Gown != -1
  ·rfl
  ·cases p[k]!.Gown==p[i]!.Gown <;> rfl) (by
  rw[hlen]
  unfold A2d
  rw[if_neg (by simp)])
 rw[ho]
 have hany:(p.take i).any (fun x=>(p[i]!.Gown != -1)&&(x.Gown==p[i]!.Gown))=((p[i]!.Gown != -1)&&(p.take i).any fun x=>x.Gown==p[i]!.Gown):= by
  cases p[i]!.Gown != -1
  ·simp
  ·simp
 rw[hany]at hc
 rcases o with v|u
 ·rw[hc.2,hc.1];rfl
 ·rw[hc];rfl
theorem B2p {s:PaShow} (hs:ShOk s) {f:Int} (hf:0≤f∧f<s.Figures.length) {x:PaUse} (h:T5 s.Gowns s.Figures[f.toNat]! x=0):A34 s f x=some (A1s s.Gowns s.Figures[f.toNat]! x):= by
 have hy:=hs.figure _ (J1 (l:=s.Figures) (i:=f.toNat) (by omega))
 unfold A34
 rcases W4.mp h with rfl|h
 ·rfl
 ·have h1:=h.lo
  have h2:=h.hi
  have hg:=hs.gown _ (J1 (l:=s.Gowns) (i:=x.Gown.toNat) (by omega))
  have hfm:=h.form
  rw[if_neg (by simp;omega),A0o (l:=s.Gowns) h1 h2,A0o (l:=s.Figures) hf.1 hf.2]
  unfold A1s
  have hne:¬ x.Gown = -1:= by omega
  simp only[hne,if_false]
  generalize s.Figures[f.toNat]! = y at hy
  generalize s.Gowns[x.Gown.toNat]! = g at hg hfm
  rcases form1 hfm with⟨_,hh,hd⟩|⟨_,⟨hh,hd⟩|⟨hh,hd⟩⟩
  ·rw[hh];rfl
  ·rw[hh]
   simp only[Zd]
   rw[C2w hg hy]
   rfl
  ·rw[hh]
   simp only[Zd]
   rw[B6o hg hd]
   rfl
theorem C1h:∀(l:List (Int×Int)) (d t:Int),l.foldl (fun a (x:Int×Int)=>a-if x.2≤d then x.1 else 0) t=t-P0 l d
 | [],d,t=>by simp[P0,sm]
 | x::l,d,t=>by rw[Z0b,C1h l];simp only[P0,Zw,sm];omega
theorem D39 {s:PaShow} (hs:ShOk s) (d:Int) (i:Nat):0≤P0 ((incs s).take i) d∧P0 ((incs s).take i) d≤300000:= by
 have:=A2w (l:=(incs s).take i) (fun x hx=>(Y0 hs x (Z01 hx)).1) d
 rw[ZC,R7]at this
 have:=hs.incomes
 omega
theorem E1i {s:PaShow} (hs:ShOk s) {p:List PaUse} (h:PlU s p) (d:Int) (i:Nat):0≤P0 ((pays s p).take i) d∧P0 ((pays s p).take i) d≤300000:= by
 have:=A2w (l:=(pays s p).take i) (fun x hx=>(U8 hs h x (Z01 hx)).1) d
 rw[ZC,K9 h]at this
 have:=hs.figures
 have:=h.len
 omega
theorem B2o {s:PaShow} (hs:ShOk s) {p:List PaUse} (h:PlU s p) (d:Int):A33 s p d=some (I1 s p d):= by
 have hin:=hs.incomes
 have hfl:=hs.figures
 have hlen:=h.len
 have hpu:=hs.purse
 unfold A33
 have e1:loop (A3i s d) (s.Purse,0)=some (s.Purse+P0 (incs s) d):= by
  refine X2 (incs s) (fun a (x:Int×Int)=>a+if x.2≤d then x.1 else 0) s.Purse (fun i t=>(t,(i:Int))) (by rw[R7];omega) (fun i hi=>?_) ?_
  ·rw[R7]at hi
   have hx:=(Y0 hs _ (J1 (l:=incs s) (i:=i) (by rw[R7];exact hi))).1
   rw[C1t hi]at hx ⊢
   rw[C50]
   have:=D39 hs d i
   unfold A3i
   rw[if_pos (by simpa using hi),G9 hi]
   simp only[Zd]
   rw[D7 (n:=(i:Int)+1) (by omega)]
   by_cases hd:s.Incomes[i]!.Day≤d
   ·rw[if_pos (decide_eq_true hd),if_pos hd,D7 (by omega)];rfl
   ·rw[if_neg (by simpa using hd),if_neg hd,Z31];rfl
  ·rw[A22,R7]
   unfold A3i
   rw[if_neg (by simp)]
   rfl
 rw[e1]
 simp only[Zd]
 have hI:=D39 hs d (incs s).length
 rw[Z0g]at hI
 have e2:loop (A3j s p d) (s.Purse+P0 (incs s) d,0)=some (I1 s p d):= by
  refine X2 (pays s p) (fun a (x:Int×Int)=>a-if x.2≤d then x.1 else 0) (s.Purse+P0 (incs s) d) (fun i t=>(t,(i:Int))) (by rw[K9 h];omega) (fun i hi=>?_) ?_
  ·rw[K9 h]at hi
   have hx:=(U8 hs h _ (J1 (l:=pays s p) (i:=i) (by rw[K9 h];exact hi))).1
   rw[C1h,A4x h hi]at *
   have:=E1i hs h d i
   unfold A3j
   simp only[]
   rw[if_pos (by simpa using hi),G9 hi]
   simp only[Zd]
   rw[B2p hs (f:=(i:Int)) (by omega) (by rw[ZG];exact h.use i hi),ZG]
   simp only[Zd]
   rw[D7 (n:=(i:Int)+1) (by omega)]
   generalize A1s s.Gowns s.Figures[i]! p[i]! = z at hx
   by_cases hd:z.2≤d
   ·rw[if_pos (decide_eq_true hd),if_pos hd,D7 (by omega)];rfl
   ·rw[if_neg (by simpa using hd),if_neg hd,Int.sub_zero];rfl
  ·unfold A3j
   simp only[]
   rw[K9 h,if_neg (by simp),C1h];rfl
 rw[e2];rfl
abbrev lsF (F:Int→Int) (a:Int×Int) (x:Int×Int):Int×Int:=(A47 a.1 (F x.2),if F x.2<0∧(a.2<0∨x.2<a.2) then x.2 else a.2)
theorem C60 (F:Int→Int):∀(l:List (Int×Int)) (t:Int×Int),(∀ x∈l,0≤x.2)→∀ r,r=l.foldl (lsF F) t →
  r.1≤t.1∧(∀ x∈l,r.1≤F x.2)∧(r.1=t.1∨∃ x∈l,F x.2=r.1) ∧
  ((r.2<0∧t.2<0∧∀ x∈l,0≤F x.2)∨(0≤r.2∧(r.2=t.2∨∃ x∈l,F x.2<0∧x.2=r.2)∧(∀ x∈l,F x.2<0→r.2≤x.2)∧(t.2<0∨r.2≤t.2)))
 | [],t,_,r,h=>by
  rw[List.foldl_nil]at h
  rw[h]
  refine⟨ZY _,by simp,.inl Z,?_⟩
  by_cases ht:t.2<0
  ·exact .inl ⟨ht,ht,by simp⟩
  ·exact .inr ⟨by omega,.inl Z,by simp,.inr (ZY _)⟩
 | x::l,t,hd,r,h=>by
  rw[Z0b]at h
  obtain⟨h1,h2,h3,h4⟩:=C60 F l _ (fun y hy=>hd y (Zp _ hy)) r h
  have hx0:=hd x (Zv ..)
  simp only[lsF]at h1 h3 h4
  have m1:A47 t.1 (F x.2)≤t.1∧A47 t.1 (F x.2)≤F x.2∧(A47 t.1 (F x.2)=t.1∨A47 t.1 (F x.2)=F x.2):= by unfold A47;split <;> omega
  refine⟨by omega,?_,?_,?_⟩
  ·intro y hy
   rcases Zs.mp hy with rfl|hy
   ·omega
   ·exact h2 y hy
  ·rcases h3 with h3|⟨y,hy,e⟩
   ·rcases m1.2.2 with e|e
    ·left;omega
    ·exact .inr ⟨x,Zv ..,by omega⟩
   ·exact .inr ⟨y,Zp _ hy,e⟩
  ·by_cases hc:F x.2<0∧(t.2<0∨x.2<t.2)
   ·rw[if_pos hc]at h4
    rcases h4 with⟨_,h5,_⟩|⟨h5,h6,h7,h8⟩
    ·omega
    ·refine .inr ⟨h5,?_,?_,by omega⟩
     ·rcases h6 with e|⟨y,hy,hf,e⟩
      ·exact .inr ⟨x,Zv ..,hc.1,e.symm⟩
      ·exact .inr ⟨y,Zp _ hy,hf,e⟩
     ·intro y hy hf
      rcases Zs.mp hy with rfl|hy
      ·omega
      ·exact h7 y hy hf
   ·rw[if_neg hc]at h4
    rcases h4 with⟨h5,h6,h7⟩|⟨h5,h6,h7,h8⟩
    ·refine .inl ⟨h5,h6,fun y hy=>?_⟩
     rcases Zs.mp hy with rfl|hy
     ·omega
     ·exact h7 y hy
    ·refine .inr ⟨h5,?_,?_,h8⟩
     ·rcases h6 with e|⟨y,hy,hf,e⟩
      ·exact .inl e
      ·exact .inr ⟨y,Zp _ hy,hf,e⟩
     ·intro y hy hf
      rcases Zs.mp hy with rfl|hy
      ·by_cases ht:t.2<0
       ·exact absurd ⟨hf,.inl ht⟩ hc
       ·have:t.2≤y.2:= by
         by_cases hlt:y.2<t.2
         ·exact absurd ⟨hf,.inr hlt⟩ hc
         ·omega
        exact Z61 (h8.resolve_left ht) this
      ·exact h7 y hy hf
def U3 (s:PaShow) (p:List PaUse):Int×Int:=(pays s p).foldl (lsF (I1 s p)) (I1 s p 0,if I1 s p 0<0 then 0 else -1)
theorem B06 {s:PaShow} (hs:ShOk s) {p:List PaUse} (h:PlU s p):A16 s p=some (U3 s p):= by
 have hfl:=hs.figures
 have hlen:=h.len
 unfold A16
 rw[B2o hs h]
 simp only[Zd]
 have e0:(if decide (I1 s p 0<0)=true then some 0 else some (-1):Option Int)=some (if I1 s p 0<0 then 0 else -1):= by
  by_cases hc:I1 s p 0<0
  ·rw[if_pos (decide_eq_true hc),if_pos hc]
  ·rw[if_neg (by simpa using hc),if_neg hc]
 rw[e0]
 simp only[Zd]
 have e1:loop (A17 s p) (I1 s p 0,(if I1 s p 0<0 then 0 else -1),0)=some (U3 s p):= by
  refine X2 (pays s p) (lsF (I1 s p)) (I1 s p 0,if I1 s p 0<0 then 0 else -1) (fun i t=>(t.1,t.2,(i:Int))) (by rw[K9 h];omega) (fun i hi=>?_) ?_
  ·rw[K9 h]at hi
   rw[A4x h hi]
   generalize ((pays s p).take i).foldl (lsF (I1 s p)) (I1 s p 0,if I1 s p 0<0 then 0 else -1)=t
   unfold A17
   simp only[]
   rw[if_pos (by simpa using hi),G9 hi]
   simp only[Zd]
   rw[B2p hs (f:=(i:Int)) (by omega) (by rw[ZG];exact h.use i hi),ZG]
   simp only[Zd]
   rw[B2o hs h]
   simp only[Zd]
   rw[D7 (n:=(i:Int)+1) (by omega)]
   generalize A1s s.Gowns s.Figures[i]! p[i]! = z
   by_cases hd:I1 s p z.2<0∧(t.2<0∨z.2<t.2)
   ·rw[if_pos (by simpa using hd),if_pos hd];rfl
   ·rw[if_neg (by simpa using hd),if_neg hd];rfl
  ·rw[K9 h]
   unfold A17
   simp only[]
   rw[if_neg (by simp)]
   rfl
 rw[e1];rfl
theorem left0 {s:PaShow} (hs:ShOk s) {p:List PaUse} (h:PlU s p) (hl:I1 s p 0<0):∃x∈pays s p,x.2=0:= by
 refine Z47 fun hn=>?_
 have h0:P0 (pays s p) 0=0:= by
  unfold P0
  refine C0p fun x hx=>?_
  have h1:=(U8 hs h x hx).2
  have h2:¬ x.2≤0:=fun hc=>hn ⟨x,hx,by omega⟩
  rw[if_neg h2]
 have h1:=A2w (fun x hx=>(Y0 hs x hx).1) 0
 have h2:=hs.purse
 unfold I1 at hl
 omega
theorem A84 {s:PaShow} (hs:ShOk s) {p:List PaUse} (h:PlU s p):((I7 s p).1=0↔(U3 s p).2<0)∧((U3 s p).2<0∨(I7 s p).2=(U3 s p).2)∧((I7 s p).1=0↔0≤(U3 s p).1)∧((U3 s p).1<0→(I7 s p).1 = -(U3 s p).1):= by
 obtain⟨a1,a2,a3,a4,a5,a6⟩:=A37 s p
 obtain⟨b1,b2,b3,b4⟩:=C60 (I1 s p) (pays s p) _ (fun x hx=>(U8 hs h x hx).2.1) _ Z
 rw[show (pays s p).foldl (lsF (I1 s p)) (I1 s p 0,if I1 s p 0<0 then 0 else -1)=U3 s p from Z]at b1 b2 b3 b4
 simp only at b1 b3 b4
 rcases b4 with⟨c1,c2,c3⟩|⟨c1,c2,c3,c4⟩
 ·have hz:(I7 s p).1=0:= by
   rcases a3 with e|⟨x,hx,hf,_⟩
   ·exact e
   ·have:=c3 x hx;omega
  have hl0:0≤I1 s p 0:= by
   by_cases hc:I1 s p 0<0
   ·rw[if_pos hc]at c2;omega
   ·omega
  have hm:0≤(U3 s p).1:= by
   rcases b3 with e|⟨x,hx,e⟩
   ·omega
   ·have:=c3 x hx;omega
  exact⟨⟨fun _=>c1,fun _=>hz⟩,.inl c1,⟨fun _=>hm,fun _=>hz⟩,fun hc=>by omega⟩
 ·have hx:∃x∈pays s p,I1 s p x.2<0∧x.2=(U3 s p).2:= by
   rcases c2 with e|hx
   ·by_cases hc:I1 s p 0<0
    ·rw[if_pos hc]at e
     obtain⟨x,hx,hx0⟩:=left0 hs h hc
     exact⟨x,hx,by rw[hx0];exact hc,by omega⟩
    ·rw[if_neg hc]at e;omega
   ·exact hx
  obtain⟨x,hx,hf,e⟩:=hx
  have g1:=a2 x hx hf
  have g2:=a5 x hx hf
  have g3:=(U8 hs h x hx).2
  have hm:=b2 x hx
  have hday:(I7 s p).2=(U3 s p).2:= by
   rcases a6 with e6|⟨y,hy,hfy,ey⟩
   ·omega
   ·have:=c3 y hy hfy;omega
  refine⟨⟨fun _=>by omega,fun _=>by omega⟩,.inr hday,⟨fun _=>by omega,fun _=>by omega⟩,fun hneg=>?_⟩
  have hle:-(U3 s p).1≤(I7 s p).1:= by
   rcases b3 with eb|⟨y,hy,eb⟩
   ·have hc:I1 s p 0<0:= by omega
    obtain⟨z,hz,hz0⟩:=left0 hs h hc
    have:=a2 z hz (by rw[hz0];exact hc)
    rw[hz0]at this;omega
   ·have:=a2 y hy (by omega);omega
  rcases a3 with e3|⟨y,hy,hfy,ey⟩
  ·omega
  ·have:=b2 y hy;omega
section
variable {α β σ ρ:Type}
def W7 (f:α→σ→Option (σ⊕ρ)):List α→σ→Option (σ⊕ρ)
 | [],s=>some (.inl s)
 | a::l,s=>(f a s).bind fun x=>match x with
  | .inl s'=>W7 f l s'
  | .inr r=>some (.inr r)
theorem B0p (f:α→σ→Option (σ⊕ρ)) (m:List α):∀(l:List α) (s:σ),W7 f (l++m) s=(W7 f l s).bind fun x=>match x with
  | .inl s'=>W7 f m s'
  | .inr r=>some (.inr r)
 | [],s=>rfl
 | a::l,s=>by
  show (f a s).bind _=((f a s).bind _).bind _
  cases f a s with
  | none=>rfl
  | some x=>cases x with
   | inl s'=>exact B0p f m l s'
   | inr r=>rfl
theorem C1g (f:α→σ→Option (σ⊕ρ)) (h:β→List α):∀(l:List β) (s:σ),W7 f (l.flatMap h) s=W7 (fun b s=>W7 f (h b) s) l s
 | [],s=>rfl
 | b::l,s=>by
  rw[Z0n,B0p]
  show _=(W7 f (h b) s).bind _
  cases W7 f (h b) s with
  | none=>rfl
  | some x=>cases x with
   | inl s'=>exact C1g f h l s'
   | inr r=>rfl
theorem A60 (f:α→σ→Option (σ⊕ρ)) (p:α→Bool):∀(l:List α) (s:σ),W7 f (l.filter p) s=W7 (fun a s=>if p a then f a s else some (.inl s)) l s
 | [],s=>rfl
 | a::l,s=>by
  rw[Z08]
  cases h:p a with
  | false =>
   rw[if_neg (by decide),A60 f p l s]
   show _=(if p a then f a s else some (.inl s)).bind _
   rw[h];rfl
  | true =>
   rw[if_pos Z]
   show (f a s).bind _=(if p a then f a s else some (.inl s)).bind _
   rw[h,if_pos Z]
   cases f a s with
   | none=>rfl
   | some x=>cases x with
    | inl s'=>exact A60 f p l s'
    | inr r=>rfl
theorem B1x {f g:α→σ→Option (σ⊕ρ)}:∀{l:List α} {s:σ},(∀ a∈l,∀ s,f a s=g a s)→W7 f l s=W7 g l s
 | [],s,_=>rfl
 | a::l,s,h=>by
  show (f a s).bind _=(g a s).bind _
  rw[h a (Zv ..) s]
  cases g a s with
  | none=>rfl
  | some x=>cases x with
   | inl s'=>exact B1x fun b hb s=>h b (Zp _ hb) s
   | inr r=>rfl
end
theorem C4u {α β σ ρ:Type} (f:α→σ→Option (σ⊕ρ)) (g:β→α):∀(l:List β) (s:σ),W7 f (l.map g) s=W7 (fun b s=>f (g b) s) l s
 | [],s=>rfl
 | b::l,s=>by
  show (f (g b) s).bind _=(f (g b) s).bind _
  cases f (g b) s with
  | none=>rfl
  | some x=>cases x with
   | inl s'=>exact C4u f g l s'
   | inr r=>rfl
def Q9 (D:List Int) (n:Nat):PaUse:=⟨((n / D.length / 3:Nat):Int),((n / D.length % 3:Nat):Int),D[n % D.length]!⟩
def A9c (q:List PaUse) (u:PaUse):Bool:=(u.Gown != -1)&&q.any fun x=>x.Gown==u.Gown
def okU (s:PaShow) (q:List PaUse) (u:PaUse):Bool:=T5 s.Gowns s.Figures[q.length]! u==0&&!A9c q u
def nU (s:PaShow) (D:List Int):Nat:=s.Gowns.length*3*D.length
def cand (s:PaShow) (D:List Int) (q:List PaUse):List PaUse:=((Z04 (nU s D)).map (Q9 D)).filter (okU s q)
def PL (s:PaShow) (D:List Int):Nat→List PaUse→List (List PaUse)
 | 0,q=>[q]
 | d+1,q=>(cand s D q).flatMap (fun u=>PL s D d (q++[u]))++PL s D d (q++[bare0])
theorem E3k (s:PaShow) {D:List Int} (h0:0<D.length) (hD:D.length≤365) {n:Nat} (hn:n<100000):plx s D (n:Int)=some (Q9 D n):= by
 have hD0:(0:Int)≤n:=Z0y n
 have e1:C34 (n:Int) (D.length:Int)=some ((n / D.length:Nat):Int):= by
  unfold C34
  rw[if_neg (by omega),Z2v hD0,← Int.natCast_ediv]
  have:n / D.length≤n:=Z5p _ _
  generalize n / D.length=k at this
  rw[D7 (by omega)]
 have e2:C34 ((n / D.length:Nat):Int) 3=some ((n / D.length / 3:Nat):Int):= by
  have:n / D.length≤n:=Z5p _ _
  generalize n / D.length=k at this
  unfold C34
  rw[if_neg (by omega),Z2v (Z0y _),D7 (by omega)]
  rfl
 have e3:B1n ((n / D.length:Nat):Int) 3=some ((n / D.length % 3:Nat):Int):= by
  unfold B1n
  rw[if_neg (by omega),Z41 (Z0y _)]
  rfl
 have e4:B1n (n:Int) (D.length:Int)=some ((n % D.length:Nat):Int):= by
  unfold B1n
  rw[if_neg (by omega),Z41 hD0,← Int.natCast_emod]
 unfold plx
 rw[e1]
 simp only[Zd]
 rw[e2,e3,e4]
 simp only[Zd]
 rw[G9 (Z24 _ h0)]
 rfl
theorem C25 {p:List PaUse} {k:Nat} (hk:k<p.length) (u:PaUse):(T3 p (k:Int) u).take (k+1)=p.take k++[u]∧(T3 p (k:Int) u).length=p.length∧(T3 p (k:Int) u)[k]! = u∧(T3 p (k:Int) u).take k=p.take k:= by
 unfold T3
 rw[ZG]
 refine⟨?_,Z0w,?_,?_⟩
 ·rw[ZI (by rw[Z0w];exact hk),Z4w]
  congr 1
  rw[Z36]
  exact Z1u (by rw[ZC];omega)
 ·rw[getElem!_pos _ k (by rw[Z0w];exact hk),Z4w]
 ·rw[Z36]
  exact Z1u (by rw[ZC];omega)
section
variable {σ ρ:Type}
theorem D87 {s:PaShow} (hs:ShOk s) {D:List Int} (h0:0<D.length) (hD:D.length≤365) {q p:List PaUse} (hp:p.length=s.Figures.length) (hq:p.take q.length=q) (hk:q.length<p.length) (rec:Int→List PaUse→σ→Option (List PaUse×(σ⊕ρ))) {n:Nat} (hn:n<nU s D) (st:σ) :
  B5b s D (q.length:Int) rec ((n:Int),p,st)=if okU s q (Q9 D n) then (rec ((q.length+1:Nat):Int) (T3 p (q.length:Int) (Q9 D n)) st).bind fun y=>match y with
    | (p,.inl s')=>some (.inl (((n+1:Nat):Int),p,s'))
    | (p,.inr r)=>some (.inr (.inl (p,r)))
   else some (.inl (((n+1:Nat):Int),T3 p (q.length:Int) (Q9 D n),st)):= by
 have hG:=hs.gowns
 have hF:=hs.figures
 have hN:nU s D≤6000:= by
  unfold nU
  have:s.Gowns.length*3*D.length≤15*365:=Z1p (by omega) hD
  omega
 have hw:w64 (w64 ((s.Gowns.length:Int)*3)*(D.length:Int))=(nU s D:Int):= by
  rw[D7 (n:=(s.Gowns.length:Int)*3) (by omega)]
  have e:(s.Gowns.length:Int)*3*(D.length:Int)=(nU s D:Int):= by unfold nU;simp
  rw[e,D7 (by omega)]
 obtain⟨g1,g2,g3,g4⟩:=C25 hk (Q9 D n)
 unfold B5b
 simp only[]
 rw[hw,if_pos (by simpa using hn),E3k s h0 hD (by omega)]
 simp only[Zd]
 rw[G9 hk,D2b hs D (f:=(q.length:Int)) (by omega),D2a,ZG]
 simp only[Zd]
 rw[D0h (by rw[g2];exact hk) (by rw[g2];omega),D7 (n:=(n:Int)+1) (by omega),D7 (n:=(q.length:Int)+1) (by omega)]
 have ht:twP (T3 p (q.length:Int) (Q9 D n)) q.length=A9c q (Q9 D n):= by
  unfold twP A9c
  rw[g3,g4,hq]
 rw[ht]
 unfold okU
 by_cases hu:T5 s.Gowns s.Figures[q.length]! (Q9 D n)=0
 ·have e1:(T5 s.Gowns s.Figures[q.length]! (Q9 D n) != 0)=false:= by rw[hu];rfl
  have e2:(T5 s.Gowns s.Figures[q.length]! (Q9 D n)==0)=true:= by rw[hu];rfl
  rw[e1,e2]
  cases A9c q (Q9 D n) <;> rfl
 ·have e1:(T5 s.Gowns s.Figures[q.length]! (Q9 D n) != 0)=true:=bne_iff_ne.mpr hu
  have e2:(T5 s.Gowns s.Figures[q.length]! (Q9 D n)==0)=false:=beq_eq_false_iff_ne.mpr hu
  rw[e1,e2];rfl
def E4q (p:List PaUse):σ⊕ρ→(List PaUse×ρ)⊕(List PaUse×σ)
 | .inl s=>.inr (p,s)
 | .inr r=>.inl (p,r)
theorem D7v {s:PaShow} (hs:ShOk s) {D:List Int} (h0:0<D.length) (hD:D.length≤365) (body:List PaUse→σ→Option (σ⊕ρ)) :
  ∀ (d:Nat) (q p:List PaUse) (st:σ) (X:σ⊕ρ) (m:Nat),p.length=s.Figures.length→p.take q.length=q→q.length+d=p.length→d<m →
   W7 body (PL s D d q) st=some X→∃ p',B36 s D body m (q.length:Int) p st=some (p',X)∧p'.length=p.length∧p'.take q.length=q:= by
 have hG:=hs.gowns
 have hF:=hs.figures
 have hN:nU s D≤6000:= by
  unfold nU
  have:s.Gowns.length*3*D.length≤15*365:=Z1p (by omega) hD
  omega
 intro d
 induction d with
 | zero =>
  intro q p st X m hp hq hd hm hf
  obtain⟨m',rfl⟩:∃m',m=m'+1:=⟨m-1,by omega⟩
  have hpq:p=q:= by rw[← hq,ZO (by omega)]
  subst hpq
  refine⟨p,?_,Z,hq⟩
  unfold B36
  rw[if_pos (by simp)]
  unfold PL W7 at hf
  cases hb:body p st with
  | none=>rw[hb]at hf;cases hf
  | some x=>rw[hb]at hf;cases x <;> cases hf <;> rfl
 | succ d ih =>
  intro q p st X m hp hq hd hm hf
  obtain⟨m',rfl⟩:∃m',m=m'+1:=⟨m-1,by omega⟩
  unfold PL cand at hf
  rw[B0p,C1g,A60,C4u]at hf
  have key:∀(j i m2:Nat) (p:List PaUse) (st:σ) (Y:σ⊕ρ),p.length=s.Figures.length→p.take q.length=q→q.length+(d+1)=p.length→i+j=nU s D→j<m2 →
    W7 (fun n st=>if okU s q (Q9 D n) then W7 body (PL s D d (q++[Q9 D n])) st else some (.inl st)) ((Z04 (nU s D)).drop i) st=some Y →
    ∃ p',A7t (B5b s D (q.length:Int) (B36 s D body m')) m2 ((i:Int),p,st)=some (E4q p' Y)∧p'.length=p.length∧p'.take q.length=q:= by
   intro j
   induction j with
   | zero =>
    intro i m2 p st Y hp hq hd hi hm2 h
    obtain⟨m3,rfl⟩:∃m3,m2=m3+1:=⟨m2-1,by omega⟩
    rw[Z2k (by simp;omega)]at h
    cases h
    refine⟨p,?_,Z,hq⟩
    rw[L6]
    unfold B5b
    simp only[]
    have hw:w64 (w64 ((s.Gowns.length:Int)*3)*(D.length:Int))=(nU s D:Int):= by
     rw[D7 (n:=(s.Gowns.length:Int)*3) (by omega)]
     have e:(s.Gowns.length:Int)*3*(D.length:Int)=(nU s D:Int):= by unfold nU;simp
     rw[e,D7 (by omega)]
    rw[hw,if_neg (by simp;omega)];rfl
   | succ j ihj =>
    intro i m2 p st Y hp hq hd hi hm2 h
    obtain⟨m3,rfl⟩:∃m3,m2=m3+1:=⟨m2-1,by omega⟩
    have hi2:i<(Z04 (nU s D)).length:= by simp;omega
    rw[Z1r hi2,Z3x]at h
    unfold W7 at h
    obtain⟨g1,g2,g3,g4⟩:=C25 (p:=p) (k:=q.length) (by omega) (Q9 D i)
    rw[L6,D87 hs h0 hD hp hq (by omega) _ (by omega) st]
    cases hc:okU s q (Q9 D i) with
    | false =>
     rw[hc]at h
     obtain⟨p',e1,e2,e3⟩:=ihj (i+1) m3 (T3 p (q.length:Int) (Q9 D i)) st Y (by rw[g2];exact hp) (by rw[g4];exact hq) (by rw[g2];exact hd) (by omega) (by omega) h
     exact⟨p',e1,by rw[e2,g2],e3⟩
    | true =>
     rw[hc]at h
     simp only[if_true]at h
     cases hX:W7 body (PL s D d (q++[Q9 D i])) st with
     | none=>rw[hX]at h;cases h
     | some Zr =>
      rw[hX]at h
      have hql:(q++[Q9 D i]).length=q.length+1:= by simp
      obtain⟨p1,r1,r2,r3⟩:=ih (q++[Q9 D i]) (T3 p (q.length:Int) (Q9 D i)) st Zr m' (by rw[g2];exact hp) (by rw[hql,g1,hq]) (by rw[hql,g2];omega) (by omega) hX
      rw[hql]at r1 r3
      have r4:p1.take q.length=q:= by
       have:=congrArg (List.take q.length) r3
       rwa [Z3t,Z1g (Z64 _),Z0c]at this
      rw[if_pos Z,r1]
      cases Zr with
      | inl s' =>
       obtain⟨p',e1,e2,e3⟩:=ihj (i+1) m3 p1 s' Y (by rw[r2,g2];exact hp) r4 (by rw[r2,g2];exact hd) (by omega) (by omega) h
       exact⟨p',e1,by rw[e2,r2,g2],e3⟩
      | inr x =>
       cases h
       exact⟨p1,Z,by rw[r2,g2],r4⟩
  cases hY:W7 (fun n st=>if okU s q (Q9 D n) then W7 body (PL s D d (q++[Q9 D n])) st else some (.inl st)) (Z04 (nU s D)) st with
  | none=>rw[hY]at hf;cases hf
  | some Y =>
   rw[hY]at hf
   obtain⟨p',e1,e2,e3⟩:=key (nU s D) 0 9223372036854775808 p st Y hp hq hd (by omega) (by omega) hY
   unfold B36
   rw[if_neg (by simp;omega)]
   unfold loop
   rw[show ((0:Int),p,st)=(((0:Nat):Int),p,st) from Z,e1]
   cases Y with
   | inr r=>cases hf;exact⟨p',Z,e2,e3⟩
   | inl s' =>
    simp only[Zd]at hf
    obtain⟨g1,g2,g3,g4⟩:=C25 (p:=p') (k:=q.length) (by omega) bare0
    have hql:(q++[bare0]).length=q.length+1:= by simp
    obtain⟨p1,r1,r2,r3⟩:=ih (q++[bare0]) (T3 p' (q.length:Int) bare0) s' X m' (by rw[g2,e2];exact hp) (by rw[hql,g1,e3]) (by rw[hql,g2,e2];omega) (by omega) hf
    rw[hql]at r1 r3
    refine⟨p1,?_,by rw[r2,g2,e2],?_⟩
    ·unfold E4q A09
     simp only[Zd]
     rw[G9 (by omega),D7 (n:=(q.length:Int)+1) (by omega)]
     exact r1
    ·have:=congrArg (List.take q.length) r3
     rwa [Z3t,Z1g (Z64 _),Z0c]at this
theorem D1w {s:PaShow} (hs:ShOk s) {D:List Int} (h0:0<D.length) (hD:D.length≤365) (body:List PaUse→σ→Option (σ⊕ρ)) {st:σ} {X:σ⊕ρ} (h:W7 body (PL s D s.Figures.length []) st=some X):B3o s D σ ρ body st=some X:= by
 have hF:=hs.figures
 unfold B3o B34
 rw[if_pos ⟨by omega,by omega,by omega⟩]
 simp only[Zd,ZG]
 obtain⟨p',e1,_,_⟩:=D7v hs h0 hD body s.Figures.length [] (Zx s.Figures.length (PaUse.mk 0 0 0)) st X 64 (by simp) Z (by simp) (by omega) h
 rw[show ((([]:List PaUse).length:Nat):Int)=0 from Z]at e1
 rw[e1];rfl
end
theorem B5l {s:PaShow}:0<(F3 s).length∧(F3 s).length≤365:= by
 unfold F3
 have:=Z0a (fun d=>s.Incomes.any fun x=>x.Day==d) ((Z04 364).map fun (i:Nat)=>(i:Int)+1)
 rw[Zi,Z1w]at this
 rw[ZU]
 omega
def O9 (s:PaShow) (p:List PaUse):Int:=sm ((pays s p).map Z3b)
theorem B96 {s:PaShow} (hs:ShOk s) {p:List PaUse} (h:PlU s p) (i:Nat):0≤sm (((pays s p).take i).map Z3b)∧sm (((pays s p).take i).map Z3b)≤300000:= by
 have:=D0a (a:=0) (b:=100000) (l:=((pays s p).take i).map Z3b) (fun z hz=>by
  obtain⟨x,hx,rfl⟩:=ZJ.mp hz
  exact(U8 hs h x (Z01 hx)).1)
 rw[Zi,ZC,K9 h]at this
 have:=hs.figures
 have:=h.len
 omega
theorem D38 {l:List (Int×Int)} (h:∀x∈l,0≤x.1) {d e:Int} (hde:d≤e):P0 l d≤P0 l e:= by
 unfold P0
 refine D0b fun x hx=>?_
 have:=h x hx
 split <;> split <;> omega
theorem C8x {l:List (Int×Int)} {d:Int}:(∃ x∈l,x.2≤d)→∃ x∈l,x.2≤d∧∀ y∈l,y.2≤d→y.2≤x.2:= by
 induction l with
 | nil=>rintro⟨x,hx,_⟩;cases hx
 | cons a l ih =>
  intro hx
  by_cases hl:∃x∈l,x.2≤d
  ·obtain⟨x,hx,hd,hm⟩:=ih hl
   by_cases ha:a.2≤d∧x.2<a.2
   ·refine⟨a,Zv ..,ha.1,fun y hy hyd=>?_⟩
    rcases Zs.mp hy with rfl|hy
    ·exact ZY _
    ·have:=hm y hy hyd;omega
   ·refine⟨x,Zp _ hx,hd,fun y hy hyd=>?_⟩
    rcases Zs.mp hy with rfl|hy
    ·omega
    ·exact hm y hy hyd
  ·obtain⟨x,hx,hd⟩:=hx
   rcases Zs.mp hx with rfl|hx
   ·refine⟨x,Zv ..,hd,fun y hy hyd=>?_⟩
    rcases Zs.mp hy with rfl|hy
    ·exact ZY _
    ·exact absurd ⟨y,hy,hyd⟩ hl
   ·exact absurd ⟨x,hx,hd⟩ hl
theorem C65 {s:PaShow} (hs:ShOk s) {p:List PaUse} (h:PlU s p) {d:Int} (hn:I1 s p d<0):∃x∈pays s p,x.2≤d∧I1 s p x.2<0:= by
 have hi0:∀x∈incs s,0≤x.1:=fun x hx=>(Y0 hs x hx).1.1
 have hpu:=hs.purse
 by_cases he:∃x∈pays s p,x.2≤d
 ·obtain⟨x,hx,hd,hm⟩:=C8x he
  refine⟨x,hx,hd,?_⟩
  have e:P0 (pays s p) d=P0 (pays s p) x.2:= by
   unfold P0
   refine congrArg sm (Z2b fun y hy=>?_)
   by_cases hy2:y.2≤d
   ·rw[if_pos hy2,if_pos (hm y hy hy2)]
   ·rw[if_neg hy2,if_neg (by omega)]
  have:=D38 hi0 hd
  unfold I1 at hn ⊢
  omega
 ·have e:P0 (pays s p) d=0:= by
   unfold P0
   exact C0p fun x hx=>if_neg fun hc=>he ⟨x,hx,hc⟩
  have:=(A2w (fun x hx=>(Y0 hs x hx).1) d).1
  unfold I1 at hn
  omega
def fm {α:Type} (k:α→Int):List α→Option α
 | []=>none
 | x::l=>match fm k l with
  | none=>some x
  | some y=>if k y<k x then some y else some x
section
variable {α:Type} {k:α→Int}
theorem D2w:∀{l:List α},fm k l=none↔l=[]
 | []=>⟨fun _=>rfl,fun _=>rfl⟩
 | x::l=>by
  refine⟨fun h=>?_,fun h=>by cases h⟩
  unfold fm at h
  split at h
  ·cases h
  ·split at h <;> cases h
theorem B99:∀{l:List α} {b:α},fm k l=some b→(∀ y∈l,k b≤k y)∧∃ A B,l=A++b::B∧∀ a∈A,k b<k a
 | [],b,h=>by cases h
 | x::l,b,h=>by
  unfold fm at h
  cases hf:fm k l with
  | none =>
   rw[hf]at h;cases h
   rw[D2w.mp hf]
   exact⟨by simp,[],[],Z,by simp⟩
  | some y =>
   rw[hf]at h
   obtain⟨h1,A,B,rfl,h3⟩:=B99 hf
   simp only at h
   split at h
   ·next c =>
    cases h
    refine⟨fun z hz=>?_,x::A,B,Z,fun a ha=>?_⟩
    ·rcases Zs.mp hz with rfl|hz
     ·omega
     ·exact h1 z hz
    ·rcases Zs.mp ha with rfl|ha
     ·exact c
     ·exact h3 a ha
   ·next c =>
    cases h
    refine⟨fun z hz=>?_,[],A++y::B,Z,by simp⟩
    rcases Zs.mp hz with rfl|hz
    ·exact ZY _
    ·have:=h1 z hz;omega
theorem B4n {l:List α} {b:α} (h:fm k l=some b):b∈l:= by
 obtain⟨_,A,B,rfl,_⟩:=B99 h
 simp
theorem D2v {l:List α} {b:α} (h:fm k l=some b) {y:α} (hy:y∈l):k b≤k y:=(B99 h).1 y hy
theorem C6n {l:List α} {x:α} (h:x∈l):∃b,fm k l=some b:= by
 cases hf:fm k l with
 | none=>rw[D2w.mp hf]at h;cases h
 | some b=>exact⟨b,Z⟩
theorem C6m (y:α):∀(l:List α),fm k (l++[y])=match fm k l with
  | none=>some y
  | some b=>if k y<k b then some y else some b
 | []=>rfl
 | x::l=>by
  show (match fm k (l++[y]) with|none=>some x|some z=>if k z<k x then some z else some x)=match (match fm k l with|none=>some x|some z=>if k z<k x then some z else some x) with|none=>some y|some b=>if k y<k b then some y else some b
  rw[C6m y l]
  cases fm k l with
  | none=>rfl
  | some b =>
   simp only
   by_cases c1:k b<k x <;> by_cases c2:k y<k b <;> by_cases c3:k y<k x <;> simp only[c1,c2,c3,if_true,if_false] <;> omega
end
def F6 (p:List PaUse):Int:=sm (p.map fun x=>if x.Gown = -1 then 1 else 0)
theorem A46 (p:List PaUse):0≤F6 p∧F6 p≤p.length:= by
 have:=D0a (a:=0) (b:=1) (l:=p.map fun x=>if x.Gown = -1 then 1 else 0) (fun z hz=>by
  obtain⟨x,_,rfl⟩:=ZJ.mp hz
  split <;> omega)
 rw[Zi]at this
 unfold F6
 omega
def gv (p:List PaUse) (k:Nat):Int:=if k<p.length then p[k]!.Gown+1 else 0
def A8j (p:List PaUse):Ar3 Int:=⟨gv p 0,gv p 1,gv p 2⟩
def fdP (s:PaShow) (p:List PaUse):pawn_found:=⟨p,F6 p,O9 s p,(I7 s p).1,A8j p⟩
theorem C6s {p:List PaUse} {u:PaUse} (k:Nat):gv (p++[u]) k=if k=p.length then u.Gown+1 else gv p k:= by
 unfold gv
 rw[Zm,Z1n]
 by_cases h:k=p.length
 ·subst h
  rw[if_pos (by omega),if_pos Z,getElem!_pos _ _ (by simp)];simp
 ·rw[if_neg h]
  by_cases h2:k<p.length
  ·rw[if_pos (by omega),if_pos h2,getElem!_pos _ k (by simp;omega),getElem!_pos p k h2,List.getElem_append_left h2]
  ·rw[if_neg (by omega),if_neg h2]
theorem D66 {p:List PaUse} {u:PaUse}:(A8j p).set (p.length:Int) (u.Gown+1)=A8j (p++[u]):= by
 unfold A8j Ar3.set
 rw[C6s,C6s,C6s]
 have e0:((p.length:Int)=0)=(0=p.length):= by rw[eq_iff_iff];omega
 have e1:((p.length:Int)=1)=(1=p.length):= by rw[eq_iff_iff];omega
 have e2:((p.length:Int)=2)=(2=p.length):= by rw[eq_iff_iff];omega
 simp only[e0,e1,e2]
theorem D6x {s:PaShow} (hs:ShOk s) (D:List Int) {p:List PaUse} (h:PlU s p):B5r s D p=some (fdP s p):= by
 have hF:=hs.figures
 have hG:=hs.gowns
 have hlen:=h.len
 unfold B5r B34
 rw[if_pos ⟨by omega,by omega,by omega⟩]
 simp only[Zd]
 have e1:loop (B28 s D p) (⟨0,0,⟨0,0,0⟩⟩,0)=some ⟨F6 p,O9 s p,A8j p⟩:= by
  have hc:∀i,i≤p.length→(pays s p).take i=(pays s p).take i:=fun _ _=>rfl
  have:=N4 (b:=B28 s D p) (fun i=>((⟨F6 (p.take i),sm (((pays s p).take i).map Z3b),A8j (p.take i)⟩:Fd),(i:Int))) p.length (r:=⟨F6 p,O9 s p,A8j p⟩) (by omega) (fun i hi=>by
   have hx:=(U8 hs h _ (J1 (l:=pays s p) (i:=i) (by rw[K9 h];exact hi))).1
   have hcb:=B96 hs h i
   have hwb:=A46 (p.take i)
   have htl:(p.take i).length=i:= by rw[ZC];omega
   rw[A4x h hi]at hx
   have hu:=h.use i hi
   have hgb:-1≤p[i]!.Gown∧p[i]!.Gown≤5:= by
    rcases W4.mp hu with e|e
    ·rw[e];exact⟨by decide,by decide⟩
    ·have:=e.lo;have:=e.hi;omega
   have ec:sm (((pays s p).take (i+1)).map Z3b)=sm (((pays s p).take i).map Z3b)+(A1s s.Gowns s.Figures[i]! p[i]!).1:= by
    rw[ZI (by rw[K9 h];exact hi),ZZ,A53,← A4x h hi,getElem!_pos _ i (by rw[K9 h];exact hi)]
    simp[sm]
   have et:p.take (i+1)=p.take i++[p[i]!]:= by
    rw[ZI hi,getElem!_pos p i hi]
   have ew:F6 (p.take (i+1))=F6 (p.take i)+if p[i]!.Gown = -1 then 1 else 0:= by
    rw[et];unfold F6;rw[ZZ,A53];simp[sm]
   have eh:(A8j (p.take i)).set (i:Int) (p[i]!.Gown+1)=A8j (p.take (i+1)):= by
    rw[et,← D66,htl]
   have hi3:∃v,idx (A8j (p.take i)).l (i:Int)=some v:= by
    unfold Ar3.l
    exact⟨_,G9 (by simp;omega)⟩
   obtain⟨v,hv⟩:=hi3
   unfold B28 A09
   simp only[]
   rw[if_pos (by simpa using hi),G9 hi]
   simp only[Zd]
   rw[C7d hs D (f:=(i:Int)) (by omega) (by rw[ZG];exact hu),ZG,hv]
   simp only[Zd]
   rw[D7 (n:=p[i]!.Gown+1) (by omega),D7 (n:=(i:Int)+1) (by omega),D7 (n:=F6 (p.take i)+1) (by omega),D7 (n:=sm (((pays s p).take i).map Z3b)+_) (by omega),eh,ew,ec]
   by_cases hb:p[i]!.Gown = -1
   ·have:p[i]! = bare0:= by
     rcases W4.mp hu with e|e
     ·exact e
     ·have:=e.lo;omega
    rw[if_pos (by rw[this];rfl),if_pos hb];rfl
   ·rw[if_neg (by simp only[Zc,beq_iff_eq];exact fun q=>hb q.1),if_neg hb,Z31];rfl) (by
   rw[ZO (Zn _),ZO (by rw[K9 h];omega)]
   unfold B28
   simp only[]
   rw[if_neg (by simp)];rfl)
  exact this
 rw[e1]
 simp only[Zd]
 rw[C99 hs D h]
 rfl
section
variable {σ ρ:Type}
theorem C7z {s:PaShow} (hs:ShOk s) (hP:∀p∈PL s (F3 s) s.Figures.length [],PlU s p) (body:pawn_found→σ→Option (σ⊕ρ)) {st:σ} {X:σ⊕ρ} (h:W7 (fun p st=>body (fdP s p) st) (PL s (F3 s) s.Figures.length []) st=some X):C0v s (F3 s) σ ρ body st=some X:= by
 unfold C0v
 refine D1w hs B5l.1 B5l.2 _ ?_
 rw[← h]
 exact B1x fun p hp st=>by rw[D6x hs _ (hP p hp)];rfl
def B6e (s:PaShow) (p:List PaUse):Bool:=!decide ((I7 s p).1>0)
def PA (s:PaShow):List (List PaUse):=(PL s (F3 s) s.Figures.length []).filter (B6e s)
theorem C2o {s:PaShow} (hs:ShOk s) (hP:∀p∈PL s (F3 s) s.Figures.length [],PlU s p) (body:pawn_found→σ→Option (σ⊕ρ)) {st:σ} {X:σ⊕ρ} (h:W7 (fun p st=>body (fdP s p) st) (PA s) st=some X):B88 s (F3 s) σ ρ body st=some X:= by
 unfold B88
 refine C7z hs hP _ ?_
 rw[← h]
 unfold PA
 rw[A60]
 refine B1x fun p hp st=>?_
 show (if decide ((I7 s p).1>0)=true then some (.inl st) else body (fdP s p) st)=_
 unfold B6e
 cases decide ((I7 s p).1>0) <;> rfl
end
section
variable {α:Type} {k:α→Int}
def upd (k:α→Int) (o:Option α) (a:α):Option α:=match o with|none=>some a|some b=>if k a<k b then some a else some b
theorem D2u:∀(m l:List α),m.foldl (upd k) (fm k l)=fm k (l++m)
 | [],l=>by simp
 | a::m,l=>by
  rw[Z0b]
  have:upd k (fm k l) a=fm k (l++[a]):= by rw[C6m];rfl
  rw[this,D2u m,Zz];rfl
def stO (F:α→pawn_found):Option α→pawn_found×Bool
 | none=>(fnd0,false)
 | some b=>(F b,true)
theorem C6d {it:It} {L:List α} {F:α→pawn_found} {g:pawn_found→pawn_found→Option Int} (hit:∀(σ ρ:Type) (body:pawn_found→σ→Option (σ⊕ρ)) (st:σ) (X:σ⊕ρ),W7 (fun a st=>body (F a) st) L st=some X→it σ ρ body st=some X)
  (hg:∀a∈L,∀ b∈L,∃ r,g (F a) (F b)=some r∧(r<0↔k a<k b)):C00 it g=some (stO F (fm k L)):= by
 have key:∀(m:List α) (o:Option α),(∀ a∈m,a∈L)→(∀ b,o=some b→b∈L)→W7 (fun a st=>C4g g (F a) st) m (stO F o)=(some (.inl (stO F (m.foldl (upd k) o))):Option ((pawn_found×Bool)⊕Unit)):= by
  intro m
  induction m with
  | nil=>intro o _ _;rfl
  | cons a m ih =>
   intro o hm ho
   have hb:C4g g (F a) (stO F o)=some (.inl (stO F (upd k o a))):= by
    unfold C4g
    cases o with
    | none=>rfl
    | some b =>
     obtain⟨r,h1,h2⟩:=hg a (hm a (Zv ..)) b (ho b Z)
     show (if (!true)=true then _ else (g (F a) (F b)).bind _:Option Bool).bind _=_
     rw[h1]
     unfold upd
     by_cases c:k a<k b
     ·simp only[if_pos c]
      have:decide (r<0)=true:=decide_eq_true (h2.mpr c)
      simp[this,stO]
     ·simp only[if_neg c]
      have:decide (r<0)=false:=decide_eq_false fun q=>c (h2.mp q)
      simp only[Z0s,Zj,if_false,Zd,this,stO]
   show (C4g g (F a) (stO F o)).bind _=_
   rw[hb]
   refine ih (upd k o a) (fun b hb=>hm b (Zp _ hb)) fun b hb=>?_
   unfold upd at hb
   cases o with
   | none=>cases hb;exact hm a (Zv ..)
   | some c =>
    simp only at hb
    split at hb
    ·cases hb;exact hm a (Zv ..)
    ·cases hb;exact ho _ Z
 unfold C00
 rw[hit _ _ _ (fnd0,false) (.inl (stO F (fm k L))) (by
  have:=key L none (fun _ h=>h) (fun b h=>by cases h)
  rw[show (none:Option α)=fm k ([]:List α) from Z,D2u,Z07]at this
  exact this)]
 rfl
end
def A3x (s:PaShow) (p:List PaUse):Int:=F6 p*1000000+O9 s p
def D41 (s:PaShow) (p:List PaUse):Int:=F6 p*1000000+(I7 s p).1
theorem or2 (a b:Int):A5d [a,b]=some (if a=0 then b else a):= by
 unfold A5d
 rw[A8u (b:=A20 [a,b]) 2 (fun i=>if ([a,b][i]!:Int)=0 then none else some (.inl [a,b][i]!)) (.inr ()) (by omega) (fun i hi _=>by
  unfold A20
  rw[if_pos (by simp;omega),G9 (by simp;omega)]
  simp only[Zd]
  by_cases h:([a,b][i]!:Int)=0
  ·rw[if_neg (by rw[h];decide),if_pos h]
  ·rw[if_pos (bne_iff_ne.mpr h),if_neg h]) (by
  unfold A20
  rw[if_neg (by simp)])]
 simp only[first]
 rw[show ([a,b][0]!:Int)=a from Z,show ([a,b][1]!:Int)=b from Z]
 by_cases ha:a=0
 ·by_cases hb:b=0
  ·simp[ha,hb]
  ·simp[ha,hb]
 ·simp[ha]
end Pw
end
section
set_option maxRecDepth 100000
set_option maxHeartbeats 0
namespace Pw
open Go Am Go.Proofs.YtjpjdglddmhplaaGreat.Cd
def A3h (a0:PaShow) (a1:(List PaUse)) (s1:(Int×Int)):Option ((Int×Int)⊕Int) :=
 if (decide (s1.2<(Zh a1:Int)))=true then
  (idx a1 s1.2).bind fun x4 =>
  (A34 a0 s1.2 x4).bind fun x5 =>
  some (.inl ((w64 (s1.1+x5.1)),(w64 (s1.2+1))))
 else
  some (.inr s1.1)
def Z5 (a0:PaShow) (a1:(List PaUse)):Option Int :=
 (loop (A3h a0 a1) (0,0)).bind fun (o6:Int) =>
 some o6
theorem A08 {c:Sc} {H:A2} {a0:PaShow} {a1:(List PaUse)} {r:Int} (h:Z5 a0 a1=some r) :
  F0 tab c H (.fn (.func 37) [] []) [(.agg (A9 a0)),(.seq 3 (Ze A6 a1))] [.i r]:= by
 unfold Z5 at h
 refine cE Z Z<|sg 0 Z<|A0 (G0 (cs:=A9 a0) Z Z Z) Z<|qm Z<|es (ra2 Z Z)<|s0<|qm Z<|es (ra3 Z Z Z)<|B8<|s0<|qm Z<|es (ra4 Z Z Z Z)<|C5<|oB h fun o6 ho6 h=>wl (fun s1=>[(1,(.seq 3 (Ze A6 a1))),(2,(.ptr (H.length+0) 0)),(5,.i s1.1),(6,.i s1.2)]) (fun (q2:Unit) s1=>[(.cells (A9 a0))]) 1 (fun r e s' H'=>PX 0 [(5,.i r)] (H++[(.cells (A9 a0))]) e s' H') () ho6 Z Z (fun _ _=>rfl) (fun _=>rfl) Z (fun s1=>(bdc G6 (bdc (J6 Z) (bdc A4 (bdc A4 bdn))))) (fun q2 s1 ys1 hs1=>?_) ?_
 ·unfold A3h at hs1
  refine B8<|s0<|qm Z<|qm Z<|A0 (F1 (f:=A6) Z) Z<|A0 (I0 Z Z) Z<|es (ra5 Z Z Z Z Z)<|wi hs1 Z (fun hc3 hs1=>?_) fun hc3 hs1=>?_
  ·refine B9<|B8<|C5<|s0<|oB hs1 fun x4 hx4 hs1=>oB hs1 fun x5 hx5 hs1=>A0 (D0 Z Z Z) Z<|qm Z<|qm Z<|qm Z<|A0 (D4 (f:=A6) Z Z hx4) Z<|A0 (H9 Z Z) Z<|B2 (rs:=[.i x5.1,.i x5.2]) Z Z (A1 (C9 Z) (A1 Z (A1 (C9 Z) B3))) ((A9j hx5).frz)<|qm Z<|A0 (A8 Z Z) Z<|A0 (A8 Z Z) Z<|qm Z<|qm Z<|es (ra5 Z Z Z Z Z)<|r0<|qm Z<|qm Z<|A0 (D9 Z Z) Z<|qm Z<|en (ra4 Z Z Z Z)<|r0<|qm Z<|A0 (D9 Z Z) Z<|qm Z<|en (ra4 Z Z Z Z) ?_
   cases hs1
   exact lnT () Z (su4 Z Z Z Z)
  ·refine G5 ?_
   obtain rfl:=os hs1
   exact lx Z px (su1 Z)
 ·rintro e s' H'-⟨rfl,rfl,rfl⟩
  refine s0<|qm Z<|qm Z<|es (ra1 Z)<|C7 ?_
  obtain rfl:=os h
  exact retq trivial (A7 Z B7) (A5 Z B6) (A3 A4 B1)
end Pw
end
section
namespace Pw
open Go Am
theorem C1n (l:List PaUse) (y:PaUse):(l++[y])[l.length]! = y:= by
 rw[getElem!_pos _ _ (by simp)];simp
theorem A4h {s:PaShow} (hs:ShOk s) {p:List PaUse} (h:PlU s p):Z5 s p=some (O9 s p):= by
 have hfl:=hs.figures
 have hlen:=h.len
 unfold Z5
 have e1:loop (A3h s p) (0,0)=some (O9 s p):= by
  refine X2 (pays s p) (fun a (x:Int×Int)=>a+x.1) 0 (fun i t=>(t,(i:Int))) (by rw[K9 h];omega) (fun i hi=>?_) ?_
  ·rw[K9 h]at hi
   have hx:=(U8 hs h _ (J1 (l:=pays s p) (i:=i) (by rw[K9 h];exact hi))).1
   rw[A22,A4x h hi]at *
   have:=B96 hs h i
   unfold A3h
   simp only[]
   rw[if_pos (by simpa using hi),G9 hi]
   simp only[Zd]
   rw[B2p hs (f:=(i:Int)) (by omega) (by rw[ZG];exact h.use i hi),ZG]
   simp only[Zd]
   rw[D7 (n:=(i:Int)+1) (by omega),D7 (by omega)];rfl
  ·unfold A3h
   simp only[]
   rw[K9 h,if_neg (by simp),A22,Z5b];rfl
 rw[e1];rfl
def ku (u:PaUse):Int:=(if u.Gown = -1 then 100 else u.Gown)*10000+u.How*1000+u.Day
def A1l:List PaUse→List PaUse→Bool
 | [],[]=>false
 | [],_::_=>true
 | _::_,[]=>false
 | a::l,b::m=>if ku a=ku b then A1l l m else decide (ku a<ku b)
theorem C1y:∀l:List PaUse,A1l l l=false
 | []=>rfl
 | a::l=>by unfold A1l;rw[if_pos Z];exact C1y l
theorem B7u:∀q a b:List PaUse,A1l (q++a) (q++b)=A1l a b
 | [],a,b=>rfl
 | x::q,a,b=>by
  show (if ku x=ku x then A1l (q++a) (q++b) else decide (ku x<ku x))=_
  rw[if_pos Z];exact B7u q a b
theorem B8x:∀a b c:List PaUse,a.length=b.length→b.length=c.length→A1l a b=false→A1l b c=false→A1l a c=false
 | [],[],[],_,_,_,_=>rfl
 | x::a,y::b,z::c,h1,h2,h3,h4=>by
  unfold A1l at h3 h4 ⊢
  by_cases e1:ku x=ku y
  ·rw[if_pos e1]at h3
   by_cases e2:ku y=ku z
   ·rw[if_pos e2]at h4
    rw[if_pos (by omega)]
    exact B8x a b c (by simpa using h1) (by simpa using h2) h3 h4
   ·rw[if_neg e2]at h4
    rw[if_neg (by omega)]
    simp at h4 ⊢; omega
  ·rw[if_neg e1]at h3
   simp at h3
   by_cases e2:ku y=ku z
   ·rw[if_neg (by omega)];simp;omega
   ·rw[if_neg e2]at h4
    simp at h4
    rw[if_neg (by omega)];simp;omega
theorem C5d (f:PaUse→PaUse):∀l:List PaUse,(∀ x∈l,ku (f x)≤ku x)→A1l l (l.map f)=false
 | [],_=>rfl
 | x::l,h=>by
  rw[Zw]
  unfold A1l
  have:=h x (Zv ..)
  split
  ·exact C5d f l fun y hy=>h y (Zp _ hy)
  ·simp;omega
structure DyOk (D:List Int):Prop where
 pos:0<D.length
 len:D.length≤365
 str:Str D
 bd:∀x∈D,0≤x∧x≤364
 zero:(0:Int)∈D
theorem A3p {s:PaShow} (hs:ShOk s):DyOk (F3 s):=⟨B5l.1,B5l.2,B7a s,fun x hx=>by
  rcases (B23 hs x).mp hx with rfl|⟨y,hy,rfl⟩
  ·exact⟨by decide,by decide⟩
  ·exact(hs.income y hy).day,(B23 hs 0).mpr (.inl Z)⟩
theorem E44 {s:PaShow} (hs:ShOk s) {D:List Int} (hD:DyOk D) {n:Nat} (h:n<nU s D):n / D.length / 3<s.Gowns.length∧n<6000:= by
 have hG:=hs.gowns
 constructor
 ·rw[Nat.div_div_eq_div_mul]
  refine Nat.div_lt_of_lt_mul ?_
  unfold nU at h
  have:s.Gowns.length*3*D.length=D.length*3*s.Gowns.length:= by
   rw[Nat.mul_assoc,Z1k s.Gowns.length,Z1k 3]
  omega
 ·have:s.Gowns.length*3*D.length≤15*365:=Z1p (by omega) hD.len
  unfold nU at h
  omega
theorem E0a {D:List Int} (hD:DyOk D) {n m:Nat} (h:n<m):ku (Q9 D n)<ku (Q9 D m):= by
 have hp:=hD.pos
 have b1:=hD.bd _ (J1 (l:=D) (Z24 n hp))
 have b2:=hD.bd _ (J1 (l:=D) (Z24 m hp))
 have hn:=Z4g n D.length
 have hm:=Z4g m D.length
 have r1:=Z24 n hp
 have r2:=Z24 m hp
 have hle:n / D.length≤m / D.length:=Nat.div_le_div_right (Nat.le_of_lt h)
 have hc:n / D.length=m / D.length→D[n % D.length]! < D[m % D.length]!:=fun e=>by
  rw[e]at hn
  have hr:n % D.length<m % D.length:= by omega
  have:=List.pairwise_iff_getElem.mp hD.str _ _ r1 r2 hr
  rwa [getElem!_pos D _ r1,getElem!_pos D _ r2]
 unfold ku Q9
 simp only
 clear hn hm
 generalize D[n % D.length]! = x at *
 generalize D[m % D.length]! = y at *
 generalize n / D.length=a at *
 generalize m / D.length=c at *
 rw[if_neg (by omega),if_neg (by omega)]
 by_cases e:a=c
 ·have:=hc e
  subst e
  omega
 ·omega
theorem C14 {s:PaShow} {D:List Int} {q:List PaUse} {u:PaUse}:u∈cand s D q↔(∃ n,n<nU s D∧Q9 D n=u)∧okU s q u=true:= by
 unfold cand
 rw[Z05,ZJ]
 constructor
 ·rintro⟨⟨n,hn,e⟩,h⟩;exact⟨⟨n,by simpa using hn,e⟩,h⟩
 ·rintro⟨⟨n,hn,e⟩,h⟩;exact⟨⟨n,by simpa using hn,e⟩,h⟩
def Ext (s:PaShow) (D:List Int):List PaUse→List PaUse→Prop
 | _,[]=>True
 | q,u::r=>(u=bare0∨u∈cand s D q)∧Ext s D (q++[u]) r
theorem B0w {s:PaShow} {D:List Int}:∀{d:Nat} {q p:List PaUse},p∈PL s D d q↔∃ r,p=q++r∧r.length=d∧Ext s D q r
 | 0,q,p=>by
  unfold PL
  rw[Z0d]
  constructor
  ·intro h;exact⟨[],by simp[h],Z,trivial⟩
  ·rintro⟨r,rfl,hr,_⟩
   rw[Z0o.mp hr,ZV]
 | d+1,q,p=>by
  unfold PL
  rw[ZB,Z2r]
  constructor
  ·rintro (⟨u,hu,hp⟩|hp)
   ·obtain⟨r,rfl,hr,he⟩:=B0w.mp hp
    exact⟨u::r,by simp,by simp[hr],.inr hu,he⟩
   ·obtain⟨r,rfl,hr,he⟩:=B0w.mp hp
    exact⟨bare0::r,by simp,by simp[hr],.inl Z,he⟩
  ·rintro⟨r,rfl,hr,he⟩
   cases r with
   | nil=>cases hr
   | cons u r =>
    obtain⟨hu,he⟩:=he
    have hmem:q++u::r∈PL s D d (q++[u]):=B0w.mpr ⟨r,by simp,by simpa using hr,he⟩
    rcases hu with rfl|hu
    ·exact .inr hmem
    ·exact .inl ⟨u,hu,hmem⟩
theorem C57 {s:PaShow} (hs:ShOk s) {D:List Int} (hD:DyOk D):∀(d:Nat) (q:List PaUse),(PL s D d q).Pairwise fun a b=>A1l b a=false
 | 0,q=>by unfold PL;simp
 | d+1,q=>by
  have hG:=hs.gowns
  unfold PL
  rw[Z0z]
  refine⟨?_,C57 hs hD d _,?_⟩
  ·rw[List.pairwise_flatMap]
   refine⟨fun u _=>C57 hs hD d _,?_⟩
   have hp:(cand s D q).Pairwise fun a b=>ku a<ku b:= by
    unfold cand
    refine List.Pairwise.filter _ ?_
    rw[Z45]
    exact Z34.imp fun h=>E0a hD h
   refine hp.imp fun {f g} hfg x hx y hy=>?_
   obtain⟨s',rfl,-⟩:=B0w.mp hx
   obtain⟨t,rfl,-⟩:=B0w.mp hy
   rw[Zz,Zz,B7u]
   show A1l (g::t) (f::s')=false
   unfold A1l
   rw[if_neg (by omega),decide_eq_false (by omega)]
  ·intro a ha b hb
   obtain⟨u,hu,hx⟩:=Z2r.mp ha
   obtain⟨s',rfl,-⟩:=B0w.mp hx
   obtain⟨t,rfl,-⟩:=B0w.mp hb
   rw[Zz,Zz,B7u]
   show A1l (bare0::t) (u::s')=false
   obtain⟨⟨n,hn,rfl⟩,_⟩:=C14.mp hu
   have h1:=E44 hs hD hn
   have b1:=hD.bd _ (J1 (l:=D) (Z24 n hD.pos))
   have hk:ku (Q9 D n)<ku bare0:= by
    have e:ku bare0=1000000:=rfl
    rw[e]
    unfold ku Q9
    simp only
    generalize D[n % D.length]! = x at *
    generalize n / D.length=a at *
    rw[if_neg (by omega)]
    omega
   unfold A1l
   rw[if_neg (by omega),decide_eq_false (by omega)]
def C7q (s:PaShow) (D:List Int) (q:List PaUse) (u:PaUse):Prop:=T5 s.Gowns s.Figures[q.length]! u=0∧A9c q u=false∧(u.Gown = -1∨u.Day∈D)
theorem D63 {s:PaShow} (hs:ShOk s) {D:List Int} (hD:DyOk D) {q:List PaUse} {u:PaUse}:(u=bare0∨u∈cand s D q)↔C7q s D q u:= by
 unfold C7q
 constructor
 ·rintro (rfl|h)
  ·exact⟨W4.mpr (.inl Z),Z,.inl Z⟩
  ·obtain⟨⟨n,hn,rfl⟩,h2⟩:=C14.mp h
   unfold okU at h2
   rw[Zc,beq_iff_eq,Bool.not_eq_true']at h2
   exact⟨h2.1,h2.2,.inr (J1 (Z24 n hD.pos))⟩
 ·rintro⟨h1,h2,h3⟩
  rcases W4.mp h1 with e|e
  ·exact .inl e
  ·right
   have hlo:=e.lo
   have hhi:=e.hi
   obtain⟨k,hk,hkd⟩:=A4v (h3.resolve_left (by omega))
   have hh:0≤u.How∧u.How≤2:= by
    rcases form1 e.form with h|⟨_,h|h⟩ <;> omega
   refine C14.mpr ⟨⟨(u.Gown.toNat*3+u.How.toNat)*D.length+k,?_,?_⟩,?_⟩
   ·unfold nU
    have:(u.Gown.toNat*3+u.How.toNat)*D.length+D.length≤s.Gowns.length*3*D.length:= by
     rw[← Z1t]
     exact ZR _ (by omega)
    omega
   ·have d1:((u.Gown.toNat*3+u.How.toNat)*D.length+k) / D.length=u.Gown.toNat*3+u.How.toNat:= by
     rw[Z1k,Z4h hD.pos,Z49 hk,Z19]
    have d2:((u.Gown.toNat*3+u.How.toNat)*D.length+k) % D.length=k:= by
     rw[Z1k,Z5q,Z38 hk]
    unfold Q9
    rw[d1,d2,hkd]
    obtain⟨g,h,d⟩:=u
    simp only at hlo hhi hh ⊢
    congr 1
    ·omega
    ·omega
   ·unfold okU
    rw[h1,h2];rfl
theorem C6l {s:PaShow} (hs:ShOk s) {D:List Int} (hD:DyOk D):∀(r q:List PaUse),Ext s D q r↔∀ i,i<r.length→C7q s D (q++r.take i) r[i]!
 | [],q=>by unfold Ext;simp
 | u::r,q=>by
  unfold Ext
  rw[C6l hs hD r (q++[u]),D63 hs hD]
  constructor
  ·rintro⟨h1,h2⟩ i hi
   cases i with
   | zero=>simpa using h1
   | succ i =>
    have:=h2 i (by simpa using hi)
    rw[Z2a,show q++u::r.take i=q++[u]++r.take i by simp]
    exact this
  ·intro h
   refine⟨by simpa using h 0 (by simp),fun i hi=>?_⟩
   have:=h (i+1) (by simpa using hi)
   rw[Z2a,show q++u::r.take i=q++[u]++r.take i by simp]at this
   exact this
theorem B3j {s:PaShow} (hs:ShOk s) {D:List Int} (hD:DyOk D) {p:List PaUse}:p∈PL s D s.Figures.length []↔PlOk s p∧∀ x∈p,x.Gown = -1∨x.Day∈D:= by
 rw[B0w]
 constructor
 ·rintro⟨r,e,hr,he⟩
  rw[Z07]at e
  rw[e]
  have h:=(C6l hs hD r []).mp he
  have h':∀i,i<r.length→T5 s.Gowns s.Figures[i]! r[i]! = 0∧twP r i=false∧(r[i]!.Gown = -1∨r[i]!.Day∈D):=fun i hi=>by
   have:=h i hi
   unfold C7q at this
   rw[Z07,ZC,Z1g (by omega)]at this
   exact this
  refine⟨⟨⟨hr,fun i hi=>(h' i hi).1⟩,fun i hi=>(h' i hi).2.1⟩,fun x hx=>?_⟩
  obtain⟨i,hi,rfl⟩:=A4v hx
  exact(h' i hi).2.2
 ·rintro⟨h1,h2⟩
  refine⟨p,Z,h1.u.len,(C6l hs hD p []).mpr fun i hi=>?_⟩
  unfold C7q
  rw[Z07,ZC,Z1g (by omega)]
  exact⟨h1.u.use i hi,h1.tw i hi,h2 _ (J1 hi)⟩
theorem C58 {s:PaShow} (hs:ShOk s):∀p∈PL s (F3 s) s.Figures.length [],PlU s p:=fun _ hp=>((B3j hs (A3p hs)).mp hp).1.u
structure Pay (s:PaShow) (p:List PaUse):Prop where
 ok:PlOk s p
 left:∀d,0≤d→0≤I1 s p d
theorem A51 {s:PaShow} (hs:ShOk s) {p:List PaUse} (h:PlU s p):(I7 s p).1=0↔∀ d,0≤d→0≤I1 s p d:= by
 obtain⟨a1,a2,a3,_⟩:=A37 s p
 constructor
 ·intro hz d hd
  refine Int.not_lt.mp fun hc=>?_
  obtain⟨y,hy,hyd,hyn⟩:=C65 hs h hc
  have:=a2 y hy hyn
  omega
 ·intro hp
  rcases a3 with e|⟨y,hy,hyn,_⟩
  ·exact e
  ·have:=hp y.2 (U8 hs h y hy).2.1
   omega
theorem A7u {s:PaShow} (hs:ShOk s) {p:List PaUse}:p∈PA s↔Pay s p∧∀ x∈p,x.Gown = -1∨x.Day∈F3 s:= by
 unfold PA B6e
 rw[Z05,B3j hs (A3p hs)]
 have key:PlOk s p→((!decide ((I7 s p).1>0))=true↔∀ d,0≤d→0≤I1 s p d):=fun h=>by
  rw[← A51 hs h.u]
  have:=(A37 s p).1
  simp;omega
 constructor
 ·rintro⟨⟨h1,h2⟩,h3⟩;exact⟨⟨h1,(key h1).mp h3⟩,h2⟩
 ·rintro⟨⟨h1,h3⟩,h2⟩;exact⟨⟨h1,h2⟩,(key h1).mpr h3⟩
def C1w (d:Int) (a z:Int):Int:=if z≤d∧a<z then z else a
def A90 (D:List Int) (d:Int):Int:=D.foldl (C1w d) 0
theorem C6z (d:Int):∀(D:List Int) (a:Int),a≤d→a≤D.foldl (C1w d) a∧D.foldl (C1w d) a≤d∧(D.foldl (C1w d) a=a∨D.foldl (C1w d) a∈D)∧∀ z∈D,z≤d→z≤D.foldl (C1w d) a
 | [],a,h=>⟨ZY _,h,.inl Z,by simp⟩
 | x::D,a,h=>by
  rw[Z0b]
  have hs:C1w d a x=if x≤d∧a<x then x else a:=rfl
  by_cases c:x≤d∧a<x
  ·rw[hs,if_pos c]
   obtain⟨h1,h2,h3,h4⟩:=C6z d D x c.1
   refine⟨by omega,h2,?_,fun z hz hzd=>?_⟩
   ·rcases h3 with e|e
    ·rw[e];exact .inr (Zv ..)
    ·exact .inr (Zp _ e)
   ·rcases Zs.mp hz with rfl|hz
    ·exact h1
    ·exact h4 z hz hzd
  ·rw[hs,if_neg c]
   obtain⟨h1,h2,h3,h4⟩:=C6z d D a h
   refine⟨h1,h2,?_,fun z hz hzd=>?_⟩
   ·rcases h3 with e|e
    ·exact .inl e
    ·exact .inr (Zp _ e)
   ·rcases Zs.mp hz with rfl|hz
    ·have:z≤a:= by
      by_cases hc:a<z
      ·exact absurd ⟨hzd,hc⟩ c
      ·omega
     omega
    ·exact h4 z hz hzd
theorem B7t {D:List Int} (h0:(0:Int)∈D) {d:Int} (hd:0≤d):0≤A90 D d∧A90 D d≤d∧A90 D d∈D∧∀ z∈D,z≤d→z≤A90 D d:= by
 obtain⟨h1,h2,h3,h4⟩:=C6z d D 0 hd
 refine⟨h1,h2,?_,h4⟩
 rcases h3 with e|e
 ·unfold A90;rw[e];exact h0
 ·exact e
def nuU (D:List Int) (x:PaUse):PaUse:=if x.Gown ≠ -1∧x.How=1 then ⟨x.Gown,x.How,A90 D x.Day⟩ else x
theorem B3l (D:List Int) (x:PaUse):(nuU D x).Gown=x.Gown:= by unfold nuU;split <;> rfl
theorem D1x {g:PaGown} (h:GwOk g) {a b:Int} (ha:a≤b):price g a≤price g b:= by
 unfold price
 have:=Int.mul_le_mul_of_nonneg_left (show 1+(g.Ago+a) / 30≤1+(g.Ago+b) / 30 by omega) h.rate.1
 omega
theorem B7x {G:List PaGown} (hG:∀g∈G,GwOk g) {y:PaFigure} (hy:FgOk y) {D:List Int} (hD:(0:Int)∈D) {x:PaUse} (h:T5 G y x=0) :
  T5 G y (nuU D x)=0∧((nuU D x).Gown = -1∨(nuU D x).Day∈D)∧ku (nuU D x)≤ku x∧(A1s G y (nuU D x)).1≤(A1s G y x).1 ∧
   ∀ e E,(x.How=1→A90 D x.Day≤e→x.Day≤E)→e≤E→(A1s G y (nuU D x)).2≤e→(A1s G y x).2≤E:= by
 by_cases c:x.Gown ≠ -1∧x.How=1
 ·have e:nuU D x=⟨x.Gown,x.How,A90 D x.Day⟩:=if_pos c
  rcases W4.mp h with h' | h'
  ·rw[h']at c;exact absurd Z c.1
  ·have hd:0≤x.Day∧x.Day≤364:= by
    rcases form1 h'.form with q|⟨_,q|q⟩ <;> omega
   obtain⟨l1,l2,l3,l4⟩:=B7t hD hd.1
   have hpw:G[x.Gown.toNat]!.Pawn=true:= by
    rcases form1 h'.form with q|q
    ·omega
    ·exact q.1
   have hlate:=h'.late
   unfold B32 at hlate
   rw[c.2]at hlate
   simp at hlate
   have hlo:=h'.lo
   have hhi:=h'.hi
   have hgw:=hG _ (J1 (l:=G) (i:=x.Gown.toNat) (by omega))
   have hpay:A1s G y x=(price G[x.Gown.toNat]! x.Day,x.Day):= by
    unfold A1s;rw[if_neg c.1,if_pos c.2]
   have hpay2:A1s G y (nuU D x)=(price G[x.Gown.toNat]! (A90 D x.Day),A90 D x.Day):= by
    rw[e];unfold A1s;simp only;rw[if_neg c.1,if_pos c.2]
   refine⟨W4.mpr (.inr ?_),.inr (by rw[e];exact l3),?_,?_,?_⟩
   ·rw[e]
    refine⟨hlo,hhi,?_,?_,h'.look⟩
    ·unfold A9v
     simp only
     rw[hpw,c.2,P4.mpr ⟨l1,by omega⟩];rfl
    ·unfold B32
     simp only
     rw[c.2]
     simp
     omega
   ·rw[e];unfold ku;simp only;split <;> omega
   ·rw[hpay,hpay2];exact D1x hgw l2
   ·intro e' E h1 h2 h3
    rw[hpay2]at h3
    rw[hpay]
    exact h1 c.2 h3
 ·have e:nuU D x=x:=if_neg c
  rw[e]
  refine⟨h,?_,ZY _,ZY _,?_⟩
  ·rcases W4.mp h with h' | h'
   ·left;rw[h'];rfl
   ·right
    have hlo:=h'.lo
    have:x.Day=0:= by
     rcases form1 h'.form with q|⟨_,q|q⟩
     ·exact q.2.2
     ·exact q.2
     ·exact absurd ⟨by omega,q.1⟩ c
    rw[this];exact hD
  ·intro e' E _ h2 h3;omega
theorem D4c {s:PaShow} (hs:ShOk s) {p:List PaUse} (h:PlU s p):∀z∈s.Figures.zip p,FgOk z.1∧T5 s.Gowns z.1 z.2=0∧z.2∈p:= by
 intro z hz
 obtain⟨i,hi,e⟩:=List.mem_iff_getElem.mp hz
 rw[List.getElem_zip]at e
 rw[List.length_zip]at hi
 subst e
 have hip:i<p.length:= by omega
 have hif:i<s.Figures.length:= by omega
 refine⟨hs.figure _ (Z28 hif),?_,Z28 hip⟩
 have:=h.use i hip
 rwa [getElem!_pos s.Figures i hif,getElem!_pos p i hip]at this
theorem B9o {α β γ:Type} (f:α→β→γ):∀(l:List α) (m:List β),List.zipWith f l m=(l.zip m).map fun z=>f z.1 z.2
 | [],_=>by simp
 | _::_,[]=>by simp
 | a::l,b::m=>by simp[B9o f l m]
theorem D4b {α β:Type} (g:β→β):∀(l:List α) (m:List β),l.zip (m.map g)=(l.zip m).map fun z=>(z.1,g z.2)
 | [],_=>by simp
 | _::_,[]=>by simp
 | a::l,b::m=>by simp[D4b g l m]
theorem C2p (s:PaShow) (p:List PaUse):pays s p=(s.Figures.zip p).map fun z=>A1s s.Gowns z.1 z.2:=B9o _ _ _
theorem D3y (s:PaShow) (D:List Int) (p:List PaUse):pays s (p.map (nuU D))=(s.Figures.zip p).map fun z=>A1s s.Gowns z.1 (nuU D z.2):= by
 rw[C2p,D4b,Z1j];rfl
theorem C1x (D:List Int) (e:Int) (he:0≤e) (h0:(0:Int)∈D):∀q:List PaUse,∃ E,e≤E∧A90 D E≤e∧∀ x∈q,A90 D x.Day≤e→x.Day≤E
 | []=>⟨e,ZY _,(B7t h0 he).2.1,by simp⟩
 | x::q=>by
  obtain⟨E,h1,h2,h3⟩:=C1x D e he h0 q
  by_cases c:A90 D x.Day≤e∧E<x.Day
  ·refine⟨x.Day,by omega,c.1,fun z hz hzd=>?_⟩
   rcases Zs.mp hz with rfl|hz
   ·exact ZY _
   ·have:=h3 z hz hzd;omega
  ·refine⟨E,h1,h2,fun z hz hzd=>?_⟩
   rcases Zs.mp hz with rfl|hz
   ·by_cases hc:E<z.Day
    ·exact absurd ⟨hzd,hc⟩ c
    ·omega
   ·exact h3 z hz hzd
theorem D89 {f:PaUse→PaUse} (hf:∀x,(f x).Gown=x.Gown) {p:List PaUse} {i:Nat} (hi:i<p.length):twP (p.map f) i=twP p i:= by
 unfold twP
 rw[getElem!_pos (p.map f) i (by simpa using hi),Z3a,hf,← List.map_take,List.any_map,getElem!_pos p i hi]
 congr 2
 funext x
 show ((f x).Gown==_)=_
 rw[hf]
theorem E2u {s:PaShow} (hs:ShOk s) {q:List PaUse} (h:PlU s q):PlU s (q.map (nuU (F3 s))):= by
 refine⟨by rw[Zi];exact h.len,fun i hi=>?_⟩
 rw[Zi]at hi
 have:=h.len
 rw[getElem!_pos (q.map _) i (by simpa using hi),Z3a,← getElem!_pos q i hi]
 exact(B7x hs.gown (hs.figure _ (J1 (by omega))) (A3p hs).zero (h.use i hi)).1
theorem D3p {s:PaShow} (hs:ShOk s) {q:List PaUse} (h:PlU s q) {e:Int} (he:0≤e):∃E,e≤E∧I1 s q E≤I1 s (q.map (nuU (F3 s))) e:= by
 have h0:=(A3p hs).zero
 obtain⟨E,h1,h2,h3⟩:=C1x (F3 s) e he h0 q
 refine⟨E,h1,?_⟩
 have hinc:P0 (incs s) E=P0 (incs s) e:= by
  unfold P0
  refine congrArg sm (Z2b fun z hz=>?_)
  have hzD:z.2∈F3 s:= by
   obtain⟨x,hx,rfl⟩:=ZJ.mp hz
   exact(B23 hs _).mpr (.inr ⟨x,hx,Z⟩)
  by_cases c:z.2≤E
  ·have:=(B7t h0 (by omega:0≤E)).2.2.2 z.2 hzD c
   rw[if_pos c,if_pos (by omega)]
  ·rw[if_neg c,if_neg (by omega)]
 have hpay:P0 (pays s (q.map (nuU (F3 s)))) e≤P0 (pays s q) E:= by
  rw[D3y,C2p]
  unfold P0
  rw[Z1j,Z1j]
  refine D0b fun z hz=>?_
  obtain⟨hy,hu,hm⟩:=D4c hs h z hz
  obtain⟨_,_,_,n4,n5⟩:=B7x hs.gown hy h0 hu
  have hb:=(D1t hs.gown hy hu).1.1
  simp only[Function.comp]
  by_cases c:(A1s s.Gowns z.1 (nuU (F3 s) z.2)).2≤e
  ·rw[if_pos c,if_pos (n5 e E (fun _=>h3 z.2 hm) h1 c)]
   exact n4
  ·rw[if_neg c];split <;> omega
 unfold I1
 omega
theorem C17 {s:PaShow} (hs:ShOk s) {q:List PaUse} (h:Pay s q):q.map (nuU (F3 s))∈PA s∧F6 (q.map (nuU (F3 s)))=F6 q∧O9 s (q.map (nuU (F3 s)))≤O9 s q∧A1l q (q.map (nuU (F3 s)))=false:= by
 have h0:=(A3p hs).zero
 have hall:∀x∈q,∃ y,FgOk y∧T5 s.Gowns y x=0:=fun x hx=>by
  obtain⟨i,hi,rfl⟩:=A4v hx
  have:=h.ok.u.len
  exact⟨_,hs.figure _ (J1 (by omega)),h.ok.u.use i hi⟩
 refine⟨(A7u hs).mpr ⟨⟨⟨E2u hs h.ok.u,fun i hi=>?_⟩,fun d hd=>?_⟩,fun x hx=>?_⟩,?_,?_,?_⟩
 ·rw[Zi]at hi
  rw[D89 (B3l _) hi];exact h.ok.tw i hi
 ·obtain⟨E,h1,h2⟩:=D3p hs h.ok.u hd
  have:=h.left E (by omega)
  omega
 ·obtain⟨z,hz,e⟩:=ZJ.mp hx
  obtain⟨y,hy,hu⟩:=hall z hz
  rw[← e]
  exact(B7x hs.gown hy h0 hu).2.1
 ·unfold F6
  rw[Z1j]
  refine congrArg sm (Z2b fun x _=>?_)
  simp only[Function.comp,B3l]
 ·unfold O9
  rw[D3y,C2p,Z1j,Z1j]
  refine D0b fun z hz=>?_
  obtain⟨hy,hu,_⟩:=D4c hs h.ok.u z hz
  exact(B7x hs.gown hy h0 hu).2.2.2.1
 ·refine C5d _ _ fun x hx=>?_
  obtain⟨y,hy,hu⟩:=hall x hx
  exact(B7x hs.gown hy h0 hu).2.2.1
theorem C0y {s:PaShow} (hs:ShOk s):Pay s (Zx s.Figures.length bare0)∧∀ x∈Zx s.Figures.length bare0,x.Gown = -1∨x.Day∈F3 s:= by
 have hget:∀i,i<s.Figures.length→(Zx s.Figures.length bare0)[i]! = bare0:=fun i hi=>by
  rw[getElem!_pos _ i (by simpa using hi),List.getElem_replicate]
 have hu:PlU s (Zx s.Figures.length bare0):=⟨by simp,fun i hi=>by
  rw[Z21]at hi
  rw[hget i hi];exact W4.mpr (.inl Z)⟩
 refine⟨⟨⟨hu,fun i hi=>?_⟩,fun d hd=>?_⟩,fun x hx=>?_⟩
 ·rw[Z21]at hi
  unfold twP
  rw[hget i hi];rfl
 ·have h1:P0 (pays s (Zx s.Figures.length bare0)) d=0:= by
   unfold P0
   refine C0p fun x hx=>?_
   obtain⟨i,hi,rfl⟩:=A4v hx
   rw[K9 hu]at hi
   rw[A4x hu hi,hget i (by simpa using hi)]
   show (if (0:Int)≤d then (0:Int) else 0)=0
   split <;> rfl
  have h2:=(A2w (fun x hx=>(Y0 hs x hx).1) d).1
  have h3:=hs.purse
  unfold I1
  omega
 ·rw[(List.mem_replicate.mp hx).2];exact .inl Z
theorem A6e {s:PaShow} (hs:ShOk s) {p:List PaUse} (h:PlU s p):0≤O9 s p∧O9 s p≤300000:= by
 have:=B96 hs h (pays s p).length
 rwa [Z0g]at this
theorem A7d {s:PaShow} (hs:ShOk s):∃b,fm (A3x s) (PA s)=some b∧Pay s b∧(∀ q,Pay s q→A3x s b≤A3x s q)∧∀ q,Pay s q→A3x s q=A3x s b→A1l q b=false:= by
 obtain⟨b,hb⟩:=C6n (k:=A3x s) ((A7u hs).mpr (C0y hs))
 have hbp:=((A7u hs).mp (B4n hb)).1
 have hkey:∀q,Pay s q→A3x s (q.map (nuU (F3 s)))≤A3x s q:=fun q hq=>by
  obtain⟨_,h2,h3,_⟩:=C17 hs hq
  unfold A3x
  omega
 refine⟨b,hb,hbp,fun q hq=>Z61 (D2v hb (C17 hs hq).1) (hkey q hq),fun q hq he=>?_⟩
 obtain⟨h1,h2,h3,h4⟩:=C17 hs hq
 have hle:=D2v hb h1
 have hle2:=hkey q hq
 have e:A3x s (q.map (nuU (F3 s)))=A3x s b:= by omega
 have hb2:A1l (q.map (nuU (F3 s))) b=false:= by
  obtain⟨-,A,B,hAL,h5⟩:=B99 hb
  have hp:(PA s).Pairwise fun a b=>A1l b a=false:=(C57 hs (A3p hs) _ _).filter _
  rw[hAL]at hp h1
  rcases ZB.mp h1 with h1|h1
  ·have:=h5 _ h1;omega
  ·rcases Zs.mp h1 with h1|h1
   ·rw[h1];exact C1y _
   ·exact(Z1o.mp (Z0z.mp hp).2.1).1 _ h1
 have l1:=hq.ok.u.len
 have l2:=hbp.ok.u.len
 exact B8x _ _ _ (by simp) (by simp;omega) h4 hb2
theorem D7f {s:PaShow} (hs:ShOk s) {p q:List PaUse} (hp:PlU s p) (hq:PlU s q):A3x s p<A3x s q↔F6 p<F6 q∨(F6 p=F6 q∧O9 s p<O9 s q):= by
 have h1:=A6e hs hp
 have h2:=A6e hs hq
 unfold A3x
 omega
theorem D6g {s:PaShow} (hs:ShOk s):∀p∈PA s,∀ q∈PA s,∃ r,A6i (fdP s p) (fdP s q)=some r∧(r<0↔A3x s p<A3x s q):= by
 intro p hp q hq
 have hp':=((A7u hs).mp hp).1.ok.u
 have hq':=((A7u hs).mp hq).1.ok.u
 have h1:=A6e hs hp'
 have h2:=A6e hs hq'
 have h3:=A46 p
 have h4:=A46 q
 have h5:=hp'.len
 have h6:=hq'.len
 have h7:=hs.figures
 refine⟨if F6 p-F6 q=0 then O9 s p-O9 s q else F6 p-F6 q,?_,?_⟩
 ·unfold A6i fdP
  simp only
  rw[D7 (by omega),D7 (by omega),or2]
  rfl
 ·rw[D7f hs hp' hq']
  split <;> omega
theorem B5c (s:PaShow) (hb:NB s):A0f s=some (if (chk s).2.2=0 then (match fm (A3x s) (PA s) with|some b=>(b,F6 b,O9 s b,0)|none=>([],0,0,0)) else ([],0,0,(chk s).2.2)):= by
 unfold A0f
 rw[A7o s hb]
 simp only[Zd]
 by_cases h:(chk s).2.2=0
 ·have hs:=(Q5 s).mp h
  simp only[h,if_true,BEq.rfl]
  rw[C6d (k:=A3x s) (L:=PA s) (F:=fdP s) (fun σ ρ body st X hX=>C2o hs (C58 hs) body hX) (D6g hs)]
  cases fm (A3x s) (PA s) <;> rfl
 ·rw[if_neg h,if_neg (by simpa using h),if_neg h]
end Pw
end
section
set_option maxRecDepth 100000
set_option maxHeartbeats 0
namespace Pw
open Go Am Go.Proofs.YtjpjdglddmhplaaGreat.Cd
def A2q (a0:PaShow) (a1:(List PaUse)):Option Bool :=
 (A16 a0 a1).bind fun x1 =>
 some (decide (x1.1≥0))
theorem A65 {c:Sc} {H:A2} {a0:PaShow} {a1:(List PaUse)} {r:Bool} (h:A2q a0 a1=some r) :
  F0 tab c H (.fn (.func 35) [] []) [(.agg (A9 a0)),(.seq 3 (Ze A6 a1))] [.b r]:= by
 unfold A2q at h
 refine cE Z Z<|sg 0 Z<|A0 (G0 (cs:=A9 a0) Z Z Z) Z<|qm Z<|es (ra2 Z Z)<|s0<|oB h fun x1 hx1 h=>A0 (D0 Z Z Z) Z<|qm Z<|B2 (rs:=[.i x1.1,.i x1.2]) Z Z (A1 (C9 Z) (A1 Z B3)) ((A71 hx1).frz)<|qm Z<|A0 (A8 Z Z) Z<|A0 (A8 Z Z) Z<|qm Z<|qm Z<|es (ra1 Z)<|s0<|qm Z<|A0 (A8k Z Z) Z<|qm Z<|es (ra1 Z)<|C7 ?_
 obtain rfl:=os h
 exact retq trivial (A7 Z B7) (A5 Z B6) (A3 A4 B1)
def A0i (a0:(List PaUse)) (s1:(Int×Int)):Option ((Int×Int)⊕Int) :=
 if (decide (s1.2<(Zh a0:Int)))=true then
  (idx a0 s1.2).bind fun x4 =>
  if (x4.Gown==(-1))=true then
  some (.inl ((w64 (s1.1+1)),(w64 (s1.2+1))))
  else
  some (.inl (s1.1,(w64 (s1.2+1))))
 else
  some (.inr s1.1)
def O0 (a0:(List PaUse)):Option Int :=
 (loop (A0i a0) (0,0)).bind fun (o6:Int) =>
 some o6
theorem P9 {c:Sc} {H:A2} {a0:(List PaUse)} {r:Int} (h:O0 a0=some r) :
  F0 tab c H (.fn (.func 36) [] []) [(.seq 3 (Ze A6 a0))] [.i r]:= by
 unfold O0 at h
 refine cE Z Z<|s0<|qm Z<|es (ra1 Z)<|s0<|qm Z<|es (ra2 Z Z)<|B8<|s0<|qm Z<|es (ra3 Z Z Z)<|C5<|oB h fun o6 ho6 h=>wl (fun s1=>[(0,(.seq 3 (Ze A6 a0))),(3,.i s1.1),(4,.i s1.2)]) (fun (q2:Unit) s1=>[]) 0 (fun r e s' H'=>PX 0 [(3,.i r)] (H++[]) e s' H') () ho6 Z Z (fun _ _=>rfl) (fun _=>rfl) Z (fun s1=>(bdc G6 (bdc A4 (bdc A4 bdn)))) (fun q2 s1 ys1 hs1=>?_) ?_
 ·unfold A0i at hs1
  refine B8<|s0<|qm Z<|qm Z<|A0 (F1 (f:=A6) Z) Z<|A0 (I0 Z Z) Z<|es (ra4 Z Z Z Z)<|wi hs1 Z (fun hc3 hs1=>?_) fun hc3 hs1=>?_
  ·refine B9<|B8<|C5<|s0<|oB hs1 fun x4 hx4 hs1=>qm Z<|qm Z<|A0 (D4 (f:=A6) Z Z hx4) Z<|A0 (R1 (ds:=(A6 x4)) Z Z) Z<|A0 (F9 Z Z) Z<|A0 (G2 Z Z) Z<|es (ra4 Z Z Z Z)<|wi hs1 Z (fun hc5 hs1=>?_) fun hc5 hs1=>?_
   ·refine r0<|qm Z<|A0 (D9 Z Z) Z<|qm Z<|en (ra3 Z Z Z)<|r0<|qm Z<|A0 (D9 Z Z) Z<|qm Z<|en (ra3 Z Z Z) ?_
    cases hs1
    exact lnT () Z (su3 Z Z Z)
   ·refine B9<|r0<|qm Z<|A0 (D9 Z Z) Z<|qm Z<|en (ra3 Z Z Z) ?_
    cases hs1
    exact lnT () Z (su3 Z Z Z)
  ·refine G5 ?_
   obtain rfl:=os hs1
   exact lx Z px (su1 Z)
 ·rintro e s' H'-⟨rfl,rfl,rfl⟩
  refine s0<|qm Z<|qm Z<|es (ra1 Z)<|C7 ?_
  obtain rfl:=os h
  exact retq trivial (A7 Z B7) (A5 Z B6) (A3 A4 B1)
end Pw
end
section
namespace Pw
open Go Am
theorem B05 {s:PaShow} (hs:ShOk s) {p:List PaUse} (h:PlU s p):A2q s p=some (decide ((I7 s p).1=0)):= by
 unfold A2q
 rw[B06 hs h]
 simp only[Zd]
 have:=(A84 hs h).2.2.1
 rw[Option.some_inj,Z00,decide_eq_true_eq,decide_eq_true_eq,this]
theorem Q7 {p:List PaUse} (hl:p.length≤100):O0 p=some (F6 p):= by
 unfold O0
 have e1:loop (A0i p) (0,0)=some (F6 p):= by
  refine X2 p (fun a (x:PaUse)=>a+if x.Gown = -1 then 1 else 0) 0 (fun i t=>(t,(i:Int))) (by omega) (fun i hi=>?_) ?_
  ·have hb:=A46 (p.take i)
   rw[ZC]at hb
   rw[A22,show sm ((p.take i).map fun x=>if x.Gown = -1 then 1 else 0)=F6 (p.take i) from Z,Z5b]
   unfold A0i
   simp only[]
   rw[if_pos (by simpa using hi),G9 hi]
   simp only[Zd]
   rw[D7 (n:=(i:Int)+1) (by omega),D7 (by omega)]
   by_cases h:p[i]!.Gown = -1
   ·rw[if_pos (by rw[h];rfl),if_pos h];rfl
   ·rw[if_neg (by rw[beq_iff_eq];exact h),if_neg h,Z31];rfl
  ·unfold A0i
   simp only[]
   rw[if_neg (by simp),A22,Z5b];rfl
 rw[e1];rfl
section
variable {α σ ρ:Type}
theorem C4t {f:α→σ→Option (σ⊕ρ)} (I:List α→σ→Prop):∀(l pre:List α) (s:σ),I pre s→(∀ pre a s,a∈l→I pre s→∃ s',f a s=some (.inl s')∧I (pre++[a]) s')→∃ s',W7 f l s=some (.inl s')∧I (pre++l) s'
 | [],pre,s,h,_=>⟨s,Z,by rwa [ZV]⟩
 | a::l,pre,s,h,hs=>by
  obtain⟨s',h1,h2⟩:=hs pre a s (Zv ..) h
  obtain⟨s'',h3,h4⟩:=C4t I l (pre++[a]) s' h2 fun pre b s hb=>hs pre b s (Zp _ hb)
  refine⟨s'',?_,by rwa [Zz]at h4⟩
  show (f a s).bind _=_
  rw[h1];exact h3
end
theorem A9u {α β:Type} {f:α→List β} {k:Nat}:∀{l:List α},(∀ x∈l,(f x).length≤k)→(l.flatMap f).length≤l.length*k
 | [],_=>by simp
 | x::l,h=>by
  have h1:=h x (Zv ..)
  have h2:=A9u (l:=l) fun y hy=>h y (Zp _ hy)
  rw[Z0n,Zm,ZU,Z1t]
  omega
theorem C56 (s:PaShow) (D:List Int):∀(d:Nat) (q:List PaUse),(PL s D d q).length≤(nU s D+1) ^ d
 | 0,q=>by unfold PL;simp
 | d+1,q=>by
  unfold PL
  have hc:(cand s D q).length≤nU s D:= by
   unfold cand
   refine Z03 (Z0a _ _) ?_
   rw[Zi,Z1w]
   exact Zn _
  have h1:=A9u (f:=fun u=>PL s D d (q++[u])) (k:=(nU s D+1) ^ d) (l:=cand s D q) fun u _=>C56 s D d _
  have h2:=C56 s D d (q++[bare0])
  have h3:=ZR ((nU s D+1) ^ d) hc
  rw[Zm,Nat.pow_succ,Z1k,Z1t]
  generalize (nU s D+1) ^ d=k at *
  omega
theorem E11 {s:PaShow} (hs:ShOk s):(PA s).length≤216000000000:= by
 have h1:=Z0a (B6e s) (PL s (F3 s) s.Figures.length [])
 have h2:=C56 s (F3 s) s.Figures.length []
 have h4:s.Gowns.length*3*(F3 s).length≤15*365:=Z1p (by have:=hs.gowns;omega) (A3p hs).len
 have h5:(nU s (F3 s)+1) ^ s.Figures.length≤6000 ^ s.Figures.length:=Z56 (by unfold nU;omega) _
 have h3:6000 ^ s.Figures.length≤6000 ^ 3:=Z50 (by decide) hs.figures
 unfold PA
 omega
section
theorem C8w {k:Had} {v:Int}:∀{m:Met},(∀ e∈kset m k v,e.1=k∨e∈m)∧(∃ e∈kset m k v,e.1=k)∧∀ e∈m,∃ e' ∈ kset m k v,e'.1=e.1
 | []=>by
  have:kset ([]:Met) k v=[(k,v)]:=rfl
  rw[this]
  exact⟨fun e he=>.inl (by rw[Z0d.mp he]),⟨_,Z0d.mpr Z,Z⟩,by simp⟩
 | x::m=>by
  rw[B7s]
  by_cases h:k=x.1
  ·rw[if_pos h]
   refine⟨fun e he=>?_,⟨_,Zv ..,Z⟩,fun e he=>?_⟩
   ·rcases Zs.mp he with rfl|he
    ·exact .inl Z
    ·exact .inr (Zp _ he)
   ·rcases Zs.mp he with rfl|he
    ·exact⟨_,Zv ..,h⟩
    ·exact⟨e,Zp _ he,Z⟩
  ·rw[if_neg h]
   obtain⟨h1,⟨e0,h2,h2'⟩,h3⟩:=C8w (k:=k) (v:=v) (m:=m)
   refine⟨fun e he=>?_,⟨e0,Zp _ h2,h2'⟩,fun e he=>?_⟩
   ·rcases Zs.mp he with rfl|he
    ·exact .inr (Zv ..)
    ·exact(h1 e he).imp id (Zp _)
   ·rcases Zs.mp he with rfl|he
    ·exact⟨_,Zv ..,Z⟩
    ·obtain⟨e',g1,g2⟩:=h3 e he
     exact⟨e',Zp _ g1,g2⟩
theorem C8v {k:Had} {v:Int}:∀{m:Met},(kset m k v).length≤m.length+1
 | []=>by
  have:kset ([]:Met) k v=[(k,v)]:=rfl
  rw[this];simp
 | x::m=>by
  rw[B7s]
  have:=C8v (k:=k) (v:=v) (m:=m)
  split <;> simp <;> omega
theorem C5c {k:Had}:∀{m:Met},(kget m k).isSome=true→∃ e∈m,e.1=k
 | [],h=>by cases h
 | x::m,h=>by
  rw[A7f]at h
  by_cases c:k=x.1
  ·exact⟨x,Zv ..,c.symm⟩
  ·rw[if_neg c]at h
   obtain⟨e,h1,h2⟩:=C5c h
   exact⟨e,Zp _ h1,h2⟩
end
structure MetI (w:Int) (l:List (List PaUse)) (m:Met):Prop where
 len:m.length≤l.length
 of:∀e∈m,∃ p∈l,F6 p=w∧A8j p=e.1
 all:∀p∈l,F6 p=w→∃ e∈m,e.1=A8j p
theorem D7t {s:PaShow} {few:pawn_found} {l:List (List PaUse)} {p:List PaUse} {m:Met} (h:MetI few.without_ l m):∃m',D46 few (fdP s p) m=some (.inl m')∧MetI few.without_ (l++[p]) m':= by
 obtain⟨h1,h2,h3⟩:=h
 unfold D46 fdP
 simp only
 have hof:∀e∈m,∃ q∈l++[p],F6 q=few.without_∧A8j q=e.1:=fun e he=>by
  obtain⟨q,g1,g2⟩:=h2 e he
  exact⟨q,List.mem_append_left _ g1,g2⟩
 have hset:F6 p=few.without_→MetI few.without_ (l++[p]) (kset m (A8j p) (O9 s p)):=fun hw=>by
  obtain⟨k1,k2,k3⟩:=C8w (k:=A8j p) (v:=O9 s p) (m:=m)
  refine⟨?_,fun e he=>?_,fun q hq hqw=>?_⟩
  ·have:=C8v (k:=A8j p) (v:=O9 s p) (m:=m)
   rw[Zm,Z1n];omega
  ·rcases k1 e he with e1|e1
   ·exact⟨p,by simp,hw,e1.symm⟩
   ·exact hof e e1
  ·rcases ZB.mp hq with hq|hq
   ·obtain⟨e,g1,g2⟩:=h3 q hq hqw
    obtain⟨e',g3,g4⟩:=k3 e g1
    exact⟨e',g3,by rw[g4,g2]⟩
   ·rw[Z0d.mp hq];exact k2
 have hkeep:(F6 p=few.without_→∃ e∈m,e.1=A8j p)→MetI few.without_ (l++[p]) m:=fun hw=>by
  refine⟨by rw[Zm];omega,hof,fun q hq hqw=>?_⟩
  rcases ZB.mp hq with hq|hq
  ·exact h3 q hq hqw
  ·rw[Z0d.mp hq]at hqw ⊢; exact hw hqw
 by_cases hw:F6 p=few.without_
 ·rw[if_pos (beq_iff_eq.mpr hw)]
  cases hk:(kget m (A8j p)).isSome with
  | false=>exact⟨_,Z,hset hw⟩
  | true =>
   simp only[Z0s,Zj,if_false,Zd]
   by_cases hc:O9 s p<(kget m (A8j p)).getD 0
   ·rw[if_pos (decide_eq_true hc)];exact⟨_,Z,hset hw⟩
   ·rw[if_neg (by simpa using hc)];exact⟨_,Z,hkeep fun _=>C5c hk⟩
 ·rw[if_neg (by rw[beq_iff_eq];exact hw)]
  exact⟨_,Z,hkeep fun c=>absurd c hw⟩
def B1m (h:Had) (f:Nat):Bool:=decide (h.l[f]! > 0)
theorem E08 (h:Had) {f:Nat} (hf:f<3):C9n h (f:Int)=some (B1m h f):= by
 unfold C9n B1m
 have hi:idx h.l (f:Int)=some h.l[f]!:=G9 (by unfold Ar3.l;simpa using hf)
 by_cases hz:h.x0=0∧h.x1=0∧h.x2=0
 ·rw[if_neg (by simp[hz])]
  have:h.l[f]! = 0:= by
   unfold Ar3.l
   rw[hz.1,hz.2.1,hz.2.2]
   rcases (by omega:f=0∨f=1∨f=2) with rfl|rfl|rfl <;> rfl
  rw[this];rfl
 ·rw[if_pos (by simp;omega),hi];rfl
theorem C9m {f:Nat} (hf:f<3):∀m:Met,C5s (f:Int) m=some (m.map fun e=>B1m e.1 f)
 | []=>rfl
 | e::m=>by
  unfold C5s
  rw[E08 e.1 hf,C9m hf m];rfl
theorem D6p {m:Met} (hm:m.length<4611686018427387904) {f:Nat} (hf:f<3):C04 m (f:Int)=some (((m.map fun e=>B1m e.1 f).filter fun b=>b).length:Int):= by
 unfold C04
 rw[if_pos hm,C9m hf];rfl
theorem C6r {s:PaShow} {p:List PaUse} (h:PlU s p) {f:Nat} (hf:f<p.length) (h3:f<3):B1m (A8j p) f = !(p[f]!.Gown == -1):= by
 have hg:-1≤p[f]!.Gown:= by
  rcases W4.mp (h.use f hf) with e|e
  ·rw[e];exact ZY _
  ·have:=e.lo;omega
 have e:(A8j p).l[f]! = p[f]!.Gown+1:= by
  unfold A8j Ar3.l gv
  rcases (by omega:f=0∨f=1∨f=2) with rfl|rfl|rfl
  ·show (if 0<p.length then p[0]!.Gown+1 else 0)=_;rw[if_pos hf]
  ·show (if 1<p.length then p[1]!.Gown+1 else 0)=_;rw[if_pos hf]
  ·show (if 2<p.length then p[2]!.Gown+1 else 0)=_;rw[if_pos hf]
 unfold B1m
 rw[e,Z00]
 clear e
 generalize p[f]!.Gown=g at hg ⊢
 simp;omega
def A0m (s:PaShow):Int:=match fm (A3x s) (PA s) with|some b=>F6 b|none=>0
theorem A4o {s:PaShow} (hs:ShOk s):(∀ q,Pay s q→A0m s≤F6 q)∧∃ b,fm (A3x s) (PA s)=some b∧Pay s b∧F6 b=A0m s:= by
 obtain⟨b,e,hb,hmin,_⟩:=A7d hs
 have hf:A0m s=F6 b:= by unfold A0m;rw[e]
 refine⟨fun q hq=>?_,b,e,hb,hf.symm⟩
 have h1:=hmin q hq
 have h2:=A6e hs hb.ok.u
 have h3:=A6e hs hq.ok.u
 unfold A3x at h1
 omega
def A1z (s:PaShow) (f:Nat):Bool:=(PA s).all fun p=>!(F6 p==A0m s)||p[f]!.Gown == -1
def A62 (s:PaShow) (f:Nat):Bool:=(PA s).any fun p=>F6 p==A0m s&&p[f]!.Gown == -1
def fsL (q:Nat→Bool) (n:Nat):List Int:=((Z04 n).filter q).map fun (i:Nat)=>(i:Int)
theorem A9x (q:Nat→Bool) (n:Nat):fsL q (n+1)=if q n then fsL q n++[(n:Int)] else fsL q n:= by
 unfold fsL
 rw[Z4l,Z1q,ZZ]
 cases h:q n <;> simp[h]
theorem A8p (q:Nat→Bool) (n:Nat):(fsL q n).length≤n:= by
 unfold fsL
 rw[Zi]
 exact Z03 (Z0a _ _) (by simp)
theorem D2h (s:PaShow) (hb:NB s):A5r s=some (if (chk s).2.2=0 then (fsL (A1z s) s.Figures.length,fsL (A62 s) s.Figures.length,0) else ([],[],(chk s).2.2)):= by
 unfold A5r
 rw[A7o s hb]
 simp only[Zd]
 by_cases h:(chk s).2.2=0
 ·have hs:=(Q5 s).mp h
  have hF:=hs.figures
  simp only[h,if_true,BEq.rfl]
  rw[C6d (k:=F6) (L:=PA s) (F:=fdP s) (fun σ ρ body st X hX=>C2o hs (C58 hs) body hX) (fun p hp q hq=>by
   have h3:=A46 p
   have h4:=A46 q
   have h5:=((A7u hs).mp hp).1.ok.u.len
   have h6:=((A7u hs).mp hq).1.ok.u.len
   refine⟨F6 p-F6 q,?_,by omega⟩
   unfold A8x fdP
   simp only
   rw[D7 (by omega)])]
  obtain⟨hmin,b,he,hbp,hbw⟩:=A4o hs
  obtain⟨c,hc⟩:=C6n (k:=F6) (B4n he)
  have hcw:F6 c=A0m s:= by
   have h1:=D2v hc (B4n he)
   have h2:=hmin c ((A7u hs).mp (B4n hc)).1
   omega
  rw[hc]
  simp only[Zd,stO]
  obtain⟨m,h1,h2⟩:=C4t (f:=fun p st=>D46 (fdP s c) (fdP s p) st) (ρ:=Unit) (MetI (fdP s c).without_) (PA s) [] [] ⟨Zn _,by simp,by simp⟩ fun pre p st _ hI=>D7t hI
  rw[C2o hs (C58 hs) (D46 (fdP s c)) h1]
  simp only[Zd]
  rw[Z07]at h2
  have hw:(fdP s c).without_=A0m s:=hcw
  rw[hw]at h2
  have hmlen:m.length<4611686018427387904:= by
   have:=E11 hs
   have:=h2.len
   omega
  have hpu:∀p∈PA s,PlU s p:=fun p hp=>((A7u hs).mp hp).1.ok.u
  have hmust:∀f,f<s.Figures.length→((((m.map fun e=>B1m e.1 f).filter fun b=>b).length:Int)==0)=A1z s f:=fun f hf=>by
   rw[Z00,beq_iff_eq]
   unfold A1z
   rw[Zt]
   constructor
   ·intro h0 p hp
    by_cases hw:F6 p=A0m s
    ·obtain⟨e,g1,g2⟩:=h2.all p hp hw
     have hnil:((m.map fun e=>B1m e.1 f).filter fun b=>b)=[]:=Z0o.mp (by omega)
     have:=(Z2j.mp hnil) _ (Z14 (f:=fun e=>B1m e.1 f) g1)
     rw[g2,C6r (hpu p hp) (by have:=(hpu p hp).len;omega) (by omega)]at this
     have:(p[f]!.Gown == -1)=true:= by simpa using this
     rw[this,Z1l]
    ·have:(F6 p==A0m s)=false:=beq_eq_false_iff_ne.mpr hw
     rw[this];rfl
   ·intro hall
    have:((m.map fun e=>B1m e.1 f).filter fun b=>b)=[]:=Z2j.mpr fun x hx=>by
     obtain⟨e,he,rfl⟩:=ZJ.mp hx
     obtain⟨p,hp,hw,g2⟩:=h2.of e he
     have:=hall p hp
     rw[beq_iff_eq.mpr hw]at this
     rw[← g2,C6r (hpu p hp) (by have:=(hpu p hp).len;omega) (by omega)]
     simpa using this
    rw[this];rfl
  have hmay:∀f,f<s.Figures.length→decide ((((m.map fun e=>B1m e.1 f).filter fun b=>b).length:Int)<(m.length:Int))=A62 s f:=fun f hf=>by
   have hlt:((((m.map fun e=>B1m e.1 f).filter fun b=>b).length:Int)<(m.length:Int))↔∃ e∈m,B1m e.1 f=false:= by
    have hle:=Z0a (fun b=>b) (m.map fun e=>B1m e.1 f)
    have hiff:=Z3c (p:=fun b=>b) (l:=m.map fun e=>B1m e.1 f)
    rw[Zi]at hle hiff
    constructor
    ·intro hlt
     refine Z47 fun hn=>?_
     have:=hiff.mpr fun x hx=>by
      obtain⟨e,he,rfl⟩:=ZJ.mp hx
      cases hh:B1m e.1 f
      ·exact absurd ⟨e,he,hh⟩ hn
      ·rfl
     omega
    ·rintro⟨e,he,hh⟩
     have:((m.map fun e=>B1m e.1 f).filter fun b=>b).length≠m.length:=fun heq=>by
      have:=hiff.mp heq _ (Z14 (f:=fun e=>B1m e.1 f) he)
      rw[hh]at this;cases this
     omega
   rw[Z00,decide_eq_true_eq,hlt]
   unfold A62
   rw[Z1y]
   constructor
   ·rintro⟨e,he,hh⟩
    obtain⟨p,hp,hw,g2⟩:=h2.of e he
    refine⟨p,hp,?_⟩
    rw[← g2,C6r (hpu p hp) (by have:=(hpu p hp).len;omega) (by omega)]at hh
    rw[beq_iff_eq.mpr hw]
    simpa using hh
   ·rintro⟨p,hp,hq⟩
    rw[Zc,beq_iff_eq]at hq
    obtain⟨e,g1,g2⟩:=h2.all p hp hq.1
    refine⟨e,g1,?_⟩
    rw[g2,C6r (hpu p hp) (by have:=(hpu p hp).len;omega) (by omega),hq.2];rfl
  rw[show (([]:List Int),([]:List Int),(0:Int))=(fsL (A1z s) 0,fsL (A62 s) 0,((0:Nat):Int)) from Z]
  rw[N4 (b:=C0x s.Figures m) (fun i=>(fsL (A1z s) i,fsL (A62 s) i,(i:Int))) s.Figures.length (r:=(fsL (A1z s) s.Figures.length,fsL (A62 s) s.Figures.length)) (by omega) (fun i hi=>by
   have l1:=A8p (A1z s) i
   have l2:=A8p (A62 s) i
   unfold C0x
   simp only[]
   rw[if_pos (by simpa using hi),D6p hmlen (by omega)]
   simp only[Zd]
   rw[hmust i hi,hmay i hi,A0l (by omega) (by simp;omega),A0l (by omega) (by simp;omega),A9x,A9x,D7 (by omega)]
   cases A1z s i <;> cases A62 s i <;> rfl) (by
   unfold C0x
   simp only[]
   rw[if_neg (by simp)])]
  rfl
 ·rw[if_neg h,if_neg (by simpa using h),if_neg h]
def NT (a b:PaUse):Prop:=a.Gown = -1∨b.Gown = -1∨a.Gown≠b.Gown
theorem NT.symm {a b:PaUse} (h:NT a b):NT b a:= by
 rcases h with h|h|h
 ·exact .inr (.inl h)
 ·exact .inl h
 ·exact .inr (.inr (Ne.symm h))
end Pw
end
section
set_option maxRecDepth 100000
set_option maxHeartbeats 0
namespace Pw
open Go Am Go.Proofs.YtjpjdglddmhplaaGreat.Cd
def A4z (a0:(List Int)) (a1:Int) (s1:Int):Option (Int⊕(Bool⊕Unit)) :=
 if (decide (s1<(Zh a0:Int)))=true then
  (idx a0 s1).bind fun x4 =>
  if (x4==a1)=true then
  some (.inr (.inl true))
  else
  some (.inl (w64 (s1+1)))
 else
  some (.inr (.inr ()))
def A2p (a0:(List Int)) (a1:Int):Option Bool :=
 (loop (A4z a0 a1) 0).bind fun (o6:(Bool⊕Unit)) =>
 match o6 with
 | (.inl vo6_0) =>
  some vo6_0
 | (.inr vo6_1) =>
  some false
theorem A4w {c:Sc} {H:A2} {a0:(List Int)} {a1:Int} {r:Bool} (h:A2p a0 a1=some r) :
  F0 tab c H (.fn (.func 40) [] []) [(.seq 1 (Ze cI a0)),.i a1] [.b r]:= by
 unfold A2p at h
 refine cE Z Z<|s0<|qm Z<|es (ra2 Z Z)<|B8<|s0<|qm Z<|es (ra3 Z Z Z)<|C5<|oB h fun o6 ho6 h=>wl (fun s1=>[(0,(.seq 1 (Ze cI a0))),(1,.i a1),(5,.i s1)]) (fun (q2:Unit) s1=>[]) 0 (fun r e s' H'=>(match r with|(.inl v)=>e=.ret∧RetQ H [.tmp 4] [.b v] e s' H' | (.inr v)=>PX 0 [] (H++[]) e s' H':Prop)) () ho6 Z Z (fun _ _=>rfl) (fun _=>rfl) Z (fun s1=>(bdc G6 (bdc A4 (bdc A4 bdn)))) (fun q2 s1 ys1 hs1=>?_) ?_
 ·unfold A4z at hs1
  refine B8<|s0<|qm Z<|qm Z<|A0 (F1 (f:=cI) Z) Z<|A0 (I0 Z Z) Z<|es (ra4 Z Z Z Z)<|wi hs1 Z (fun hc3 hs1=>?_) fun hc3 hs1=>?_
  ·refine B9<|B8<|C5<|s0<|oB hs1 fun x4 hx4 hs1=>qm Z<|qm Z<|A0 (D4 (f:=cI) Z Z hx4) Z<|A0 (F9 Z Z) Z<|qm Z<|A0 (G2 Z Z) Z<|es (ra4 Z Z Z Z)<|wi hs1 Z (fun hc5 hs1=>?_) fun hc5 hs1=>?_
   ·refine s0<|qm Z<|es (ra1 Z)<|C7 ?_
    obtain rfl:=os hs1
    exact lx Z (ZE Z (retq trivial (A7 Z B7) (A5 Z B6) (A3 A4 B1))) (Sub.refl _)
   ·refine B9<|r0<|qm Z<|A0 (D9 Z Z) Z<|qm Z<|en (ra3 Z Z Z) ?_
    cases hs1
    exact lnT () Z (su3 Z Z Z)
  ·refine G5 ?_
   obtain rfl:=os hs1
   exact lx Z px (.nil _)
 ·rcases o6 with vo6_0|vo6_1
  ·rintro e s' H'-⟨rfl,hret⟩
   cases h
   exact hret
  ·rintro e s' H'-⟨rfl,rfl,rfl⟩
   refine s0<|qm Z<|es (ra1 Z)<|C7 ?_
   obtain rfl:=os h
   exact retq trivial (A7 Z B7) (A5 Z B6) (A3 A4 B1)
end Pw
end
section
namespace Pw
open Go Am
theorem B61 {l:List Int} (hl:l.length<9223372036854775808) (x:Int):A2p l x=some (decide (x∈l)):= by
 unfold A2p
 obtain⟨o,ho,hc⟩:=C72 l (fun y=>y==x) (b:=A4z l x) hl (fun i hi=>by
  unfold A4z
  rw[if_pos (by simpa using hi),G9 hi]
  simp only[Zd]
  cases l[i]! == x <;> rfl) (by
  unfold A4z
  rw[if_neg (by simp)])
 have e:l.any (fun y=>y==x)=decide (x∈l):= by
  rw[Z00,Z1y,decide_eq_true_eq]
  constructor
  ·rintro⟨y,h1,h2⟩;rw[beq_iff_eq]at h2;rwa [← h2]
  ·intro h;exact⟨x,h,by simp⟩
 rw[e]at hc
 rw[ho]
 rcases o with v|u
 ·rw[hc.2,hc.1];rfl
 ·rw[hc];rfl
section
variable {s:PaShow} {A B:List PaFigure} {y:PaFigure} {P1 P2:List PaUse} {u:PaUse}
end
theorem E0c {s:PaShow} (hs:ShOk s) {p:List PaUse} (h:PlU s p) {d:Int} (hn:I1 s p d<0):∃x∈pays s p,I1 s p x.2≤I1 s p d:= by
 have hi0:∀x∈incs s,0≤x.1:=fun x hx=>(Y0 hs x hx).1.1
 have hpu:=hs.purse
 by_cases he:∃x∈pays s p,x.2≤d
 ·obtain⟨x,hx,hd,hm⟩:=C8x he
  refine⟨x,hx,?_⟩
  have e:P0 (pays s p) d=P0 (pays s p) x.2:= by
   unfold P0
   refine congrArg sm (Z2b fun y hy=>?_)
   by_cases hy2:y.2≤d
   ·rw[if_pos hy2,if_pos (hm y hy hy2)]
   ·rw[if_neg hy2,if_neg (by omega)]
  have:=D38 hi0 hd
  unfold I1
  omega
 ·have e:P0 (pays s p) d=0:= by
   unfold P0
   exact C0p fun x hx=>if_neg fun hc=>he ⟨x,hx,hc⟩
  have:=(A2w (fun x hx=>(Y0 hs x hx).1) d).1
  unfold I1 at hn
  omega
theorem B2w {s:PaShow} (hs:ShOk s) {p:List PaUse} (h:PlU s p) {n:Int}:(I7 s p).1≤n↔0≤n∧∀ d,0≤d→-I1 s p d≤n:= by
 obtain⟨a1,a2,a3,_⟩:=A37 s p
 constructor
 ·intro hn
  refine⟨by omega,fun d hd=>?_⟩
  by_cases hc:I1 s p d<0
  ·obtain⟨y,hy,hyn⟩:=E0c hs h hc
   have:=a2 y hy (by omega)
   omega
  ·omega
 ·rintro⟨hn,hp⟩
  rcases a3 with e|⟨y,hy,hyn,e⟩
  ·omega
  ·have:=hp y.2 (U8 hs h y hy).2.1
   omega
theorem D71 {s:PaShow} (hs:ShOk s) {q:List PaUse} (h:PlU s q):(I7 s (q.map (nuU (F3 s)))).1≤(I7 s q).1:= by
 obtain⟨h1,h2⟩:=(B2w hs h).mp (ZY _)
 refine(B2w hs (E2u hs h)).mpr ⟨h1,fun d hd=>?_⟩
 obtain⟨E,g1,g2⟩:=D3p hs h hd
 have:=h2 E (by omega)
 omega
theorem E45 {s:PaShow} (hs:ShOk s) {q:List PaUse} (h:PlOk s q):q.map (nuU (F3 s))∈PL s (F3 s) s.Figures.length []∧F6 (q.map (nuU (F3 s)))=F6 q:= by
 refine⟨(B3j hs (A3p hs)).mpr ⟨⟨E2u hs h.u,fun i hi=>?_⟩,fun x hx=>?_⟩,?_⟩
 ·rw[Zi]at hi
  rw[D89 (B3l _) hi];exact h.tw i hi
 ·obtain⟨z,hz,e⟩:=ZJ.mp hx
  obtain⟨i,hi,e2⟩:=A4v hz
  have:=h.u.len
  rw[← e,← e2]
  exact(B7x hs.gown (hs.figure _ (J1 (by omega))) (A3p hs).zero (h.u.use i hi)).2.1
 ·unfold F6
  rw[Z1j]
  refine congrArg sm (Z2b fun x _=>?_)
  simp only[Function.comp,B3l]
theorem B0c {s:PaShow} (hs:ShOk s) {p:List PaUse} (h:PlU s p):0≤(I7 s p).1∧(I7 s p).1≤300000:=⟨(A37 s p).1,(B2w hs h).mpr ⟨by decide,fun d _=>by have:=B3f hs h d;omega⟩⟩
def B1g (s:PaShow):Int×Int:=match fm (D41 s) (PL s (F3 s) s.Figures.length []) with|some b=>(F6 b,(I7 s b).1)|none=>(1,0)
theorem B3k {s:PaShow} (hs:ShOk s):∃b,PlOk s b∧fm (D41 s) (PL s (F3 s) s.Figures.length [])=some b∧B1g s=(F6 b,(I7 s b).1)∧∀ q,PlOk s q→F6 b<F6 q∨(F6 b=F6 q∧(I7 s b).1≤(I7 s q).1):= by
 obtain⟨b,hb⟩:=C6n (k:=D41 s) ((B3j hs (A3p hs)).mpr ⟨(C0y hs).1.ok,(C0y hs).2⟩)
 have hbp:=((B3j hs (A3p hs)).mp (B4n hb)).1
 refine⟨b,hbp,hb,by unfold B1g;rw[hb],fun q hq=>?_⟩
 obtain⟨h1,h2⟩:=E45 hs hq
 have h3:=D71 hs hq.u
 have h4:=D2v hb h1
 have h5:=B0c hs hbp.u
 have h6:=B0c hs hq.u
 unfold D41 at h4
 omega
def D3n (s:PaShow):Int×Int:=if (B1g s).1>0∨(B1g s).2>10000 then (0,9) else if (B1g s).2=0 then (0,4) else ((B1g s).2,0)
theorem D9k (s:PaShow) (hb:NB s):A7j s=some (if (chk s).2.2=0 then D3n s else (0,(chk s).2.2)):= by
 unfold A7j
 rw[A7o s hb]
 simp only[Zd]
 by_cases h:(chk s).2.2=0
 ·have hs:=(Q5 s).mp h
  simp only[h,if_true,BEq.rfl]
  rw[C6d (k:=D41 s) (L:=PL s (F3 s) s.Figures.length []) (F:=fdP s) (fun σ ρ body st X hX=>C7z hs (C58 hs) body hX) (fun p hp q hq=>by
   have h1:=C58 hs p hp
   have h2:=C58 hs q hq
   have h3:=A46 p
   have h4:=A46 q
   have h5:=h1.len
   have h6:=h2.len
   have h7:=B0c hs h1
   have h8:=B0c hs h2
   have h9:=hs.figures
   refine⟨if F6 p-F6 q=0 then (I7 s p).1-(I7 s q).1 else F6 p-F6 q,?_,?_⟩
   ·unfold A8y fdP
    simp only
    rw[D7 (by omega),D7 (by omega),or2]
    rfl
   ·unfold D41
    split <;> omega)]
  obtain⟨b,_,e,hn,_⟩:=B3k hs
  rw[e]
  unfold D3n
  rw[hn]
  simp only[Zd,stO,fdP]
  by_cases c:F6 b>0∨(I7 s b).1>10000
  ·rw[if_pos c,if_pos (by simpa using c)]
  ·rw[if_neg c,if_neg (by simpa using c)]
   by_cases hz:(I7 s b).1=0
   ·rw[if_pos hz,if_pos (by simpa using hz)]
   ·rw[if_neg hz,if_neg (by simpa using hz)]
 ·rw[if_neg h,if_neg (by simpa using h),if_neg h]
end Pw
end
section
set_option maxRecDepth 100000
set_option maxHeartbeats 0
namespace Pw
open Go Am Go.Proofs.YtjpjdglddmhplaaGreat.Cd
def A3m (a0:PaShow) (s1:(Int×(List Int))) (s4:(Int×(List Int))):Option ((Int×(List Int))⊕(List Int)) :=
 if (decide (s4.1<(Zh a0.Incomes:Int)))=true then
  (idx a0.Incomes s4.1).bind fun x7 =>
  (if (x7.Day==s1.1)=true then
  (A2p s4.2 s1.1).bind fun x9 =>
  some (!x9)
  else
  some false).bind fun x10 =>
  if x10=true then
  (app 8 s4.2 [s1.1]).bind fun x12 =>
  some (.inl ((w64 (s4.1+1)),x12))
  else
  some (.inl ((w64 (s4.1+1)),s4.2))
 else
  some (.inr s4.2)
def A3n (a0:PaShow) (s1:(Int×(List Int))):Option ((Int×(List Int))⊕(List Int)) :=
 if (decide (s1.1≤364))=true then
  (loop (A3m a0 s1) (0,s1.2)).bind fun (o13:(List Int)) =>
  some (.inl ((w64 (s1.1+1)),o13))
 else
  some (.inr s1.2)
def A78 (a0:PaShow):Option (List Int) :=
 (loop (A3n a0) (1,([0]:List Int))).bind fun (o15:(List Int)) =>
 some o15
theorem C3z {c:Sc} {H:A2} {a0:PaShow} {r:(List Int)} (h:A78 a0=some r) :
  F0 tab c H (.fn (.func 118) [] []) [(.agg (A9 a0))] [(.seq 1 (Ze cI r))]:= by
 unfold A78 at h
 refine cE Z Z<|sg 0 Z<|A0 (G0 (cs:=A9 a0) Z Z Z) Z<|qm Z<|es (ra1 Z)<|sg 1 Z<|A0 (C0j (rows:=Ze cI [0]) Z Z (D8 (fun _=>rfl) _)) Z<|qm Z<|es (ra2 Z Z)<|B8<|s0<|qm Z<|es (ra3 Z Z Z)<|C5<|oB h fun o15 ho15 h=>wl (fun s1=>[(1,(.ptr (H.length+0) 0)),(3,(.asl (H.length+1) (Zh s1.2))),(4,.i s1.1)]) (fun (q2:Bool) s1=>[(.cells (A9 a0)),(.arr 1 q2 (Ze cI s1.2))]) 2 (fun r e s' H'=>e=(.exit 0)∧s'=[(3,(.asl (H.length+1) (Zh r)))]∧∃ (q0q:Bool),H'=(H++[(.cells (A9 a0)),(.arr 1 q0q (Ze cI r))])) false ho15 Z Z (fun _ _=>rfl) (fun _=>rfl) Z (fun s1=>(bdc (J6 Z) (bdc (R3 Z) (bdc A4 bdn)))) (fun q2 s1 ys1 hs1=>?_) ?_
 ·unfold A3n at hs1
  refine B8<|s0<|qm Z<|A0 (A4k Z Z) Z<|es (ra4 Z Z Z Z)<|wi hs1 Z (fun hc3 hs1=>?_) fun hc3 hs1=>?_
  ·refine B9<|B8<|C5<|s0<|qm Z<|es (ra4 Z Z Z Z)<|C5<|oB hs1 fun o13 ho13 hs1=>wl (fun s4=>[(1,(.ptr (H.length+0) 0)),(3,(.asl (H.length+1) (Zh s4.2))),(4,.i s1.1),(5,.i s4.1)]) (fun (q5:Bool) s4=>[(.cells (A9 a0)),(.arr 1 q5 (Ze cI s4.2))]) 2 (fun r e s' H'=>e=(.exit 2)∧s'=[(1,(.ptr (H.length+0) 0)),(3,(.asl (H.length+1) (Zh r))),(4,.i s1.1)]∧∃ (q0q:Bool),H'=(H++[(.cells (A9 a0)),(.arr 1 q0q (Ze cI r))])) q2 ho13 Z Z (fun _ _=>rfl) (fun _=>rfl) Z (fun s4=>(bdc (J6 Z) (bdc (R3 Z) (bdc A4 (bdc A4 bdn))))) (fun q5 s4 ys4 hs4=>?_) ?_
   ·unfold A3m at hs4
    refine B8<|s0<|qm Z<|A0 (C1 Z) Z<|A0 (B4 Z Z Z) Z<|A0 (F1 (f:=D3) Z) Z<|A0 (I0 Z Z) Z<|es (ra5 Z Z Z Z Z)<|wi hs4 Z (fun hc6 hs4=>?_) fun hc6 hs4=>?_
    ·refine B9<|B8<|C5<|B8<|E10 (D30 Z (B4l Z (Zi _)))<|r0<|oB hs4 fun x7 hx7 hs4=>oB hs4 fun x10 hx10 hs4=>A0 (C1 Z) Z<|A0 (B4 Z Z Z) Z<|qm Z<|A0 (D4 (f:=D3) Z Z hx7) Z<|A0 (R1 (ds:=(D3 x7)) Z Z) Z<|A0 (F9 Z Z) Z<|qm Z<|A0 (G2 Z Z) Z<|qm Z<|gp 5 31 (.b x10) 26 Z Z (fun hg8=>?_) (fun hg8=>?_) ?_
     ·refine oB (bt hx10 hg8) fun x9 hx9 hx10=>?_
      obtain rfl:=os hx10
      exact gT Z hg8<|qm Z<|gT Z hg8<|qm Z<|gT Z hg8<|B2 (rs:=[.b x9]) Z Z (A1 (B4l Z (Zi _)) (A1 Z B3)) ((A4w hx9).frz)<|gT Z hg8<|A0 (M9 Z) Z<|A0 (C3 Z hg8 Z) Z<|ge 5 Z Z Z
     ·obtain rfl:=os (bf hx10 hg8)
      exact nT Z hg8 Z<|nT Z hg8 Z<|G4 (D2 Z (by rw[hg8];rfl)) Z<|nT Z hg8 Z<|A0 (C2 Z hg8 Z) Z<|ge 5 Z Z Z
     refine es (ra5 Z Z Z Z Z)<|wi hs4 Z (fun hc11 hs4=>?_) fun hc11 hs4=>?_
     ·refine r0<|oB hs4 fun x12 hx12 hs4=>qm Z<|qm Z<|A0 (J2 (rows:=Ze cI [s1.1]) Z Z (D8 (fun _=>rfl) _)) Z<|O4 (A0r (f:=cI) Z Z Z Z X1 (fun _=>rfl) hx12) Z<|qm Z<|en (ra4 Z Z Z Z)<|r0<|qm Z<|A0 (D9 Z Z) Z<|qm Z<|en (ra4 Z Z Z Z) ?_
      cases hs4
      exact lnT true Z (su4 Z Z Z Z)
     ·refine B9<|r0<|qm Z<|A0 (D9 Z Z) Z<|qm Z<|en (ra4 Z Z Z Z) ?_
      cases hs4
      exact lnT true Z (su4 Z Z Z Z)
    ·refine G5 ?_
     obtain rfl:=os hs4
     exact lx Z (ZE Z (ZE Z ⟨q5,Z⟩)) (su3 Z Z Z)
   ·rintro e s' H'-⟨rfl,rfl,q14,rfl⟩
    refine r0<|qm Z<|A0 (D9 Z Z) Z<|qm Z<|en (ra3 Z Z Z) ?_
    cases hs1
    exact lnT q14 Z (su3 Z Z Z)
  ·refine G5 ?_
   obtain rfl:=os hs1
   exact lx Z (ZE Z (ZE Z ⟨q2,Z⟩)) (su1 Z)
 ·rintro e s' H'-⟨rfl,rfl,q16,rfl⟩
  refine B8<|E10 (D30 Z (B4l Z (Zi _)))<|r0<|qm Z<|qm Z<|es (ra1 Z)<|C7 ?_
  obtain rfl:=os h
  exact retq trivial (A7 Z B7) (A5 (E29 Z (Zi _)) B6) (A3 G6 B1)
def A1f (a0:PaShow) (a1:Int) (x1:(List Int)) (s2:(Int×(List PaUse))) (s5:(Int×(List PaUse))) (s8:(Int×(List PaUse))):Option ((Int×(List PaUse))⊕(List PaUse)) :=
 if (decide (s8.1<(Zh x1:Int)))=true then
  (idx x1 s8.1).bind fun x11 =>
  (A2r a0 a1 (PaUse.mk s2.1 s5.1 x11)).bind fun x12 =>
  if (x12==0)=true then
  (app 24 s8.2 [(PaUse.mk s2.1 s5.1 x11)]).bind fun x14 =>
  some (.inl ((w64 (s8.1+1)),x14))
  else
  some (.inl ((w64 (s8.1+1)),s8.2))
 else
  some (.inr s8.2)
def A1g (a0:PaShow) (a1:Int) (x1:(List Int)) (s2:(Int×(List PaUse))) (s5:(Int×(List PaUse))):Option ((Int×(List PaUse))⊕(List PaUse)) :=
 if (decide (s5.1≤2))=true then
  (loop (A1f a0 a1 x1 s2 s5) (0,s5.2)).bind fun (o15:(List PaUse)) =>
  some (.inl ((w64 (s5.1+1)),o15))
 else
  some (.inr s5.2)
def A1h (a0:PaShow) (a1:Int) (x1:(List Int)) (s2:(Int×(List PaUse))):Option ((Int×(List PaUse))⊕(List PaUse)) :=
 if (decide (s2.1<(Zh a0.Gowns:Int)))=true then
  (loop (A1g a0 a1 x1 s2) (0,s2.2)).bind fun (o16:(List PaUse)) =>
  some (.inl ((w64 (s2.1+1)),o16))
 else
  some (.inr s2.2)
def A8b (a0:PaShow) (a1:Int):Option (List PaUse) :=
 (A78 a0).bind fun x1 =>
 (loop (A1h a0 a1 x1) (0,([]:List PaUse))).bind fun (o17:(List PaUse)) =>
 (app 24 o17 [(PaUse.mk (-1) 0 0)]).bind fun x18 =>
 some x18
theorem C32 {c:Sc} {H:A2} {a0:PaShow} {a1:Int} {r:(List PaUse)} (h:A8b a0 a1=some r) :
  F0 tab c H (.fn (.func 107) [] []) [(.agg (A9 a0)),.i a1] [(.seq 3 (Ze A6 r))]:= by
 unfold A8b at h
 refine cE Z Z<|sg 0 Z<|A0 (G0 (cs:=A9 a0) Z Z Z) Z<|qm Z<|es (ra2 Z Z)<|s0<|oB h fun x1 hx1 h=>A0 (D0 Z Z Z) Z<|B2 (rs:=[(.seq 1 (Ze cI x1))]) Z Z (A1 (C9 Z) B3) ((C3z hx1).frz)<|qm Z<|es (ra3 Z Z Z)<|sg 1 Z<|A0 A49 Z<|es (ra4 Z Z Z Z)<|B8<|s0<|qm Z<|es (ra5 Z Z Z Z Z)<|C5<|oB h fun o17 ho17 h=>wl (fun s2=>[(1,.i a1),(2,(.ptr (H.length+0) 0)),(5,(.seq 1 (Ze cI x1))),(6,(.asl (H.length+1) (Zh s2.2))),(7,.i s2.1)]) (fun (q3:Unit) s2=>[(.cells (A9 a0)),(.arr 3 false (Ze A6 s2.2))]) 2 (fun r e s' H'=>PX 0 [(6,(.asl (H.length+1) (Zh r)))] (H++[(.cells (A9 a0)),(.arr 3 false (Ze A6 r))]) e s' H') () ho17 Z Z (fun _ _=>rfl) (fun _=>rfl) Z (fun s2=>(bdc A4 (bdc (J6 Z) (bdc G6 (bdc (R3 Z) (bdc A4 bdn)))))) (fun q3 s2 ys2 hs2=>?_) ?_
 ·unfold A1h at hs2
  refine B8<|s0<|qm Z<|A0 (C1 Z) Z<|A0 (B4 Z Z Z) Z<|A0 (F1 (f:=C6) Z) Z<|A0 (I0 Z Z) Z<|es (ra6 Z Z Z Z Z Z)<|wi hs2 Z (fun hc4 hs2=>?_) fun hc4 hs2=>?_
  ·refine B9<|B8<|C5<|s0<|qm Z<|es (ra6 Z Z Z Z Z Z)<|C5<|oB hs2 fun o16 ho16 hs2=>wl (fun s5=>[(1,.i a1),(2,(.ptr (H.length+0) 0)),(5,(.seq 1 (Ze cI x1))),(6,(.asl (H.length+1) (Zh s5.2))),(7,.i s2.1),(8,.i s5.1)]) (fun (q6:Unit) s5=>[(.cells (A9 a0)),(.arr 3 false (Ze A6 s5.2))]) 2 (fun r e s' H'=>PX 2 [(1,.i a1),(2,(.ptr (H.length+0) 0)),(5,(.seq 1 (Ze cI x1))),(6,(.asl (H.length+1) (Zh r))),(7,.i s2.1)] (H++[(.cells (A9 a0)),(.arr 3 false (Ze A6 r))]) e s' H') () ho16 Z Z (fun _ _=>rfl) (fun _=>rfl) Z (fun s5=>(bdc A4 (bdc (J6 Z) (bdc G6 (bdc (R3 Z) (bdc A4 (bdc A4 bdn))))))) (fun q6 s5 ys5 hs5=>?_) ?_
   ·unfold A1g at hs5
    refine B8<|s0<|qm Z<|A0 (A4k Z Z) Z<|es (ra7 Z Z Z Z Z Z Z)<|wi hs5 Z (fun hc7 hs5=>?_) fun hc7 hs5=>?_
    ·refine B9<|B8<|C5<|s0<|qm Z<|es (ra7 Z Z Z Z Z Z Z)<|C5<|oB hs5 fun o15 ho15 hs5=>wl (fun s8=>[(1,.i a1),(2,(.ptr (H.length+0) 0)),(5,(.seq 1 (Ze cI x1))),(6,(.asl (H.length+1) (Zh s8.2))),(7,.i s2.1),(8,.i s5.1),(9,.i s8.1)]) (fun (q9:Unit) s8=>[(.cells (A9 a0)),(.arr 3 false (Ze A6 s8.2))]) 2 (fun r e s' H'=>PX 4 [(1,.i a1),(2,(.ptr (H.length+0) 0)),(5,(.seq 1 (Ze cI x1))),(6,(.asl (H.length+1) (Zh r))),(7,.i s2.1),(8,.i s5.1)] (H++[(.cells (A9 a0)),(.arr 3 false (Ze A6 r))]) e s' H') () ho15 Z Z (fun _ _=>rfl) (fun _=>rfl) Z (fun s8=>(bdc A4 (bdc (J6 Z) (bdc G6 (bdc (R3 Z) (bdc A4 (bdc A4 (bdc A4 bdn)))))))) (fun q9 s8 ys8 hs8=>?_) ?_
     ·unfold A1f at hs8
      refine B8<|s0<|qm Z<|qm Z<|A0 (F1 (f:=cI) Z) Z<|A0 (I0 Z Z) Z<|es (ra8 Z Z Z Z Z Z Z Z)<|wi hs8 Z (fun hc10 hs8=>?_) fun hc10 hs8=>?_
      ·refine B9<|B8<|C5<|sg 2 Z<|oB hs8 fun x11 hx11 hs8=>qm Z<|qm Z<|qm Z<|qm Z<|A0 (D4 (f:=cI) Z Z hx11) Z<|A0 (F9 Z Z) Z<|A0 (R4 (cs:=A6 (PaUse.mk s2.1 s5.1 x11)) Z Z) Z<|A0 K1 Z<|P5 (G3 (ds:=(A6 (PaUse.mk s2.1 s5.1 x11))) Z Z Z Z (F7 Z) Z) Z<|es (ra8 Z Z Z Z Z Z Z Z)<|s0<|oB hs8 fun x12 hx12 hs8=>A0 (D0 Z Z Z) Z<|qm Z<|A0 (D0 Z Z Z) Z<|B2 (rs:=[.i x12]) Z Z (A1 (C9 Z) (A1 Z (A1 (C9 Z) B3))) ((A66 hx12).frz)<|A0 (G2 Z Z) Z<|es (ra9 Z Z Z Z Z Z Z Z Z)<|wi hs8 Z (fun hc13 hs8=>?_) fun hc13 hs8=>?_
       ·refine r0<|oB hs8 fun x14 hx14 hs8=>qm Z<|A0 (D0 Z Z Z) Z<|A0 (J2 (rows:=Ze A6 [(PaUse.mk s2.1 s5.1 x11)]) Z Z (D8 (fun _=>rfl) _)) Z<|O4 (A0r (f:=A6) Z Z Z Z X1 (fun _=>rfl) hx14) Z<|qm Z<|en (ra7 Z Z Z Z Z Z Z)<|r0<|qm Z<|A0 (D9 Z Z) Z<|qm Z<|en (ra7 Z Z Z Z Z Z Z) ?_
        cases hs8
        exact lnT () Z (su7 Z Z Z Z Z Z Z)
       ·refine B9<|r0<|qm Z<|A0 (D9 Z Z) Z<|qm Z<|en (ra7 Z Z Z Z Z Z Z) ?_
        cases hs8
        exact lnT () Z (su7 Z Z Z Z Z Z Z)
      ·refine G5 ?_
       obtain rfl:=os hs8
       exact lx Z px (su6 Z Z Z Z Z Z)
     ·rintro e s' H'-⟨rfl,rfl,rfl⟩
      refine r0<|qm Z<|A0 (D9 Z Z) Z<|qm Z<|en (ra6 Z Z Z Z Z Z) ?_
      cases hs5
      exact lnT () Z (su6 Z Z Z Z Z Z)
    ·refine G5 ?_
     obtain rfl:=os hs5
     exact lx Z px (su5 Z Z Z Z Z)
   ·rintro e s' H'-⟨rfl,rfl,rfl⟩
    refine r0<|qm Z<|A0 (D9 Z Z) Z<|qm Z<|en (ra5 Z Z Z Z Z) ?_
    cases hs2
    exact lnT () Z (su5 Z Z Z Z Z)
  ·refine G5 ?_
   obtain rfl:=os hs2
   exact lx Z px (su1 Z)
 ·rintro e s' H'-⟨rfl,rfl,rfl⟩
  refine s0<|oB h fun x18 hx18 h=>qm Z<|A0 (R4 (cs:=A6 (PaUse.mk (-1) 0 0)) Z Z) Z<|A0 (J2 (rows:=Ze A6 [(PaUse.mk (-1) 0 0)]) Z Z (D8 (fun _=>rfl) _)) Z<|O4 (C66 (f:=A6) Z Z Z Z X1 (fun _=>rfl) hx18) Z<|qm Z<|es (ra1 Z)<|C7 ?_
  obtain rfl:=os h
  exact retq trivial (A7 Z B7) (A5 Z B6) (A3 G6 B1)
def A19 (s1:((List (List PaUse))×Int)) (x4:(List PaUse)) (s5:(Int×(List (List PaUse)))) (s8:(Int×(List (List PaUse)))):Option ((Int×(List (List PaUse)))⊕(List (List PaUse))) :=
 if (decide (s8.1<(Zh x4:Int)))=true then
  (idx s1.1 s5.1).bind fun x11 =>
  (app 24 ([]:List PaUse) x11).bind fun x12 =>
  (idx x4 s8.1).bind fun x13 =>
  (app 24 x12 [x13]).bind fun x14 =>
  (A2c x14 s1.2).bind fun x15 =>
  if (!x15)=true then
  (app 24 s8.2 [x14]).bind fun x17 =>
  some (.inl ((w64 (s8.1+1)),x17))
  else
  some (.inl ((w64 (s8.1+1)),s8.2))
 else
  some (.inr s8.2)
def A0h (s1:((List (List PaUse))×Int)) (x4:(List PaUse)) (s5:(Int×(List (List PaUse)))):Option ((Int×(List (List PaUse)))⊕(List (List PaUse))) :=
 if (decide (s5.1<(Zh s1.1:Int)))=true then
  (loop (A19 s1 x4 s5) (0,s5.2)).bind fun (o18:(List (List PaUse))) =>
  some (.inl ((w64 (s5.1+1)),o18))
 else
  some (.inr s5.2)
def A2a (a0:PaShow) (s1:((List (List PaUse))×Int)):Option (((List (List PaUse))×Int)⊕(List (List PaUse))) :=
 if (decide (s1.2<(Zh a0.Figures:Int)))=true then
  (A8b a0 s1.2).bind fun x4 =>
  (loop (A0h s1 x4) (0,([]:List (List PaUse)))).bind fun (o19:(List (List PaUse))) =>
  some (.inl (o19,(w64 (s1.2+1))))
 else
  some (.inr s1.1)
def A18 (a0:PaShow):Option (List (List PaUse)) :=
 (loop (A2a a0) ([([]:List PaUse)],0)).bind fun (o20:(List (List PaUse))) =>
 some o20
theorem A72 {c:Sc} {H:A2} {a0:PaShow} {r:(List (List PaUse))} (h:A18 a0=some r) :
  F0 tab c H (.fn (.func 73) [] []) [(.agg (A9 a0))] [(.seq 1 (Ze (cL 3 A6) r))]:= by
 unfold A18 at h
 refine cE Z Z<|sg 0 Z<|A0 (G0 (cs:=A9 a0) Z Z Z) Z<|qm Z<|es (ra1 Z)<|s0<|A0 (J2 (rows:=Ze (cL 3 A6) [([]:List PaUse)]) Z Z (D8 (fun _=>rfl) _)) Z<|qm Z<|es (ra2 Z Z)<|B8<|s0<|qm Z<|es (ra3 Z Z Z)<|C5<|oB h fun o20 ho20 h=>wl (fun s1=>[(1,(.ptr (H.length+0) 0)),(3,(.seq 1 (Ze (cL 3 A6) s1.1))),(4,.i s1.2)]) (fun (q2:Unit) s1=>[(.cells (A9 a0))]) 1 (fun r e s' H'=>PX 0 [(3,(.seq 1 (Ze (cL 3 A6) r)))] (H++[(.cells (A9 a0))]) e s' H') () ho20 Z Z (fun _ _=>rfl) (fun _=>rfl) Z (fun s1=>(bdc (J6 Z) (bdc G6 (bdc A4 bdn)))) (fun q2 s1 ys1 hs1=>?_) ?_
 ·unfold A2a at hs1
  refine B8<|s0<|qm Z<|A0 (C1 Z) Z<|A0 (B4 Z Z Z) Z<|A0 (F1 (f:=B5) Z) Z<|A0 (I0 Z Z) Z<|es (ra4 Z Z Z Z)<|wi hs1 Z (fun hc3 hs1=>?_) fun hc3 hs1=>?_
  ·refine B9<|B8<|C5<|s0<|oB hs1 fun x4 hx4 hs1=>A0 (D0 Z Z Z) Z<|qm Z<|B2 (rs:=[(.seq 3 (Ze A6 x4))]) Z Z (A1 (C9 Z) (A1 Z B3)) ((C32 hx4).frz)<|qm Z<|es (ra4 Z Z Z Z)<|sg 1 Z<|A0 A49 Z<|es (ra5 Z Z Z Z Z)<|B8<|s0<|qm Z<|es (ra6 Z Z Z Z Z Z)<|C5<|oB hs1 fun o19 ho19 hs1=>wl (fun s5=>[(1,(.ptr (H.length+0) 0)),(3,(.seq 1 (Ze (cL 3 A6) s1.1))),(4,.i s1.2),(5,(.seq 3 (Ze A6 x4))),(6,(.asl (H.length+1) (Zh s5.2))),(7,.i s5.1)]) (fun (q6:Unit) s5=>[(.cells (A9 a0)),(.arr 1 false (Ze (cL 3 A6) s5.2))]) 2 (fun r e s' H'=>PX 2 [(1,(.ptr (H.length+0) 0)),(4,.i s1.2),(6,(.asl (H.length+1) (Zh r)))] (H++[(.cells (A9 a0)),(.arr 1 false (Ze (cL 3 A6) r))]) e s' H') () ho19 Z Z (fun _ _=>rfl) (fun _=>rfl) Z (fun s5=>(bdc (J6 Z) (bdc G6 (bdc A4 (bdc G6 (bdc (R3 Z) (bdc A4 bdn))))))) (fun q6 s5 ys5 hs5=>?_) ?_
   ·unfold A0h at hs5
    refine B8<|s0<|qm Z<|qm Z<|A0 (F1 (f:=(cL 3 A6)) Z) Z<|A0 (I0 Z Z) Z<|es (ra7 Z Z Z Z Z Z Z)<|wi hs5 Z (fun hc7 hs5=>?_) fun hc7 hs5=>?_
    ·refine B9<|B8<|C5<|s0<|qm Z<|es (ra7 Z Z Z Z Z Z Z)<|C5<|oB hs5 fun o18 ho18 hs5=>wl (fun s8=>[(1,(.ptr (H.length+0) 0)),(3,(.seq 1 (Ze (cL 3 A6) s1.1))),(4,.i s1.2),(5,(.seq 3 (Ze A6 x4))),(6,(.asl (H.length+1) (Zh s8.2))),(7,.i s5.1),(8,.i s8.1)]) (fun (q9:Unit) s8=>[(.cells (A9 a0)),(.arr 1 false (Ze (cL 3 A6) s8.2))]) 2 (fun r e s' H'=>PX 4 [(1,(.ptr (H.length+0) 0)),(3,(.seq 1 (Ze (cL 3 A6) s1.1))),(4,.i s1.2),(5,(.seq 3 (Ze A6 x4))),(6,(.asl (H.length+1) (Zh r))),(7,.i s5.1)] (H++[(.cells (A9 a0)),(.arr 1 false (Ze (cL 3 A6) r))]) e s' H') () ho18 Z Z (fun _ _=>rfl) (fun _=>rfl) Z (fun s8=>(bdc (J6 Z) (bdc G6 (bdc A4 (bdc G6 (bdc (R3 Z) (bdc A4 (bdc A4 bdn)))))))) (fun q9 s8 ys8 hs8=>?_) ?_
     ·unfold A19 at hs8
      refine B8<|s0<|qm Z<|qm Z<|A0 (F1 (f:=A6) Z) Z<|A0 (I0 Z Z) Z<|es (ra8 Z Z Z Z Z Z Z Z)<|wi hs8 Z (fun hc10 hs8=>?_) fun hc10 hs8=>?_
      ·refine B9<|B8<|C5<|sg 2 Z<|oB hs8 fun x11 hx11 hs8=>oB hs8 fun x12 hx12 hs8=>oB hs8 fun x13 hx13 hs8=>oB hs8 fun x14 hx14 hs8=>A0 (C0j (rows:=Ze A6 []) Z Z (D8 (fun _=>rfl) _)) Z<|qm Z<|qm Z<|J3 [2] (O1 [2] rfl H7 Z Z) (seen0 Z) (D4 (f:=(cL 3 A6)) Z Z hx11) Z<|J3 [2] (O1 [2] rfl H7 Z Z) (seen0 Z) (F9 Z Z) Z<|O4 (A0r (f:=A6) Z Z Z Z X1 (fun _=>rfl) hx12) Z<|qm Z<|qm Z<|J3 [2] (O1 [2] rfl H7 Z Z) (A50 Z) (D4 (f:=A6) Z Z hx13) Z<|J3 [2] (O1 [2] rfl H7 Z Z) (A50 Z) (H9 Z Z) Z<|A0 (J2 (rows:=Ze A6 [x13]) Z Z (D8 (fun _=>rfl) _)) Z<|O4 (C66 (f:=A6) Z Z Z Z X1 (fun _=>rfl) hx14) Z<|qm Z<|es (ra8 Z Z Z Z Z Z Z Z)<|s0<|oB hs8 fun x15 hx15 hs8=>qm Z<|qm Z<|B2 (rs:=[.b x15]) Z Z (A1 Z (A1 Z B3)) ((B2g hx15).frz)<|A0 (M9 Z) Z<|es (ra9 Z Z Z Z Z Z Z Z Z)<|wi hs8 Z (fun hc16 hs8=>?_) fun hc16 hs8=>?_
       ·refine r0<|oB hs8 fun x17 hx17 hs8=>qm Z<|qm Z<|A0 (J2 (rows:=Ze (cL 3 A6) [x14]) Z Z (D8 (fun _=>rfl) _)) Z<|O4 (A0r (f:=(cL 3 A6)) Z Z Z Z X1 (fun _=>rfl) hx17) Z<|qm Z<|en (ra7 Z Z Z Z Z Z Z)<|r0<|qm Z<|A0 (D9 Z Z) Z<|qm Z<|en (ra7 Z Z Z Z Z Z Z) ?_
        cases hs8
        exact lnT () Z (su7 Z Z Z Z Z Z Z)
       ·refine B9<|r0<|qm Z<|A0 (D9 Z Z) Z<|qm Z<|en (ra7 Z Z Z Z Z Z Z) ?_
        cases hs8
        exact lnT () Z (su7 Z Z Z Z Z Z Z)
      ·refine G5 ?_
       obtain rfl:=os hs8
       exact lx Z px (su6 Z Z Z Z Z Z)
     ·rintro e s' H'-⟨rfl,rfl,rfl⟩
      refine r0<|qm Z<|A0 (D9 Z Z) Z<|qm Z<|en (ra6 Z Z Z Z Z Z) ?_
      cases hs5
      exact lnT () Z (su6 Z Z Z Z Z Z)
    ·refine G5 ?_
     obtain rfl:=os hs5
     exact lx Z px (su3 Z Z Z)
   ·rintro e s' H'-⟨rfl,rfl,rfl⟩
    refine r0<|qm Z<|O4 (E20 Z Z (Zi _)) Z<|en (ra3 Z Z Z)<|r0<|qm Z<|A0 (D9 Z Z) Z<|qm Z<|en (ra3 Z Z Z) ?_
    cases hs1
    exact lnT () Z (su3 Z Z Z)
  ·refine G5 ?_
   obtain rfl:=os hs1
   exact lx Z px (su1 Z)
 ·rintro e s' H'-⟨rfl,rfl,rfl⟩
  refine s0<|qm Z<|qm Z<|es (ra1 Z)<|C7 ?_
  obtain rfl:=os h
  exact retq trivial (A7 Z B7) (A5 Z B6) (A3 G6 B1)
end Pw
end
section
namespace Pw
open Go Am
def D6q (s:PaShow) (d:Int):Bool:=s.Incomes.any fun x=>x.Day==d
def B1r (s:PaShow) (k:Nat):List Int:=0::((Z04 k).map fun (i:Nat)=>(i:Int)+1).filter (D6q s)
theorem D03 (s:PaShow) (k:Nat):B1r s (k+1)=if D6q s ((k:Int)+1) then B1r s k++[(k:Int)+1] else B1r s k:= by
 unfold B1r
 rw[Z4l,ZZ,Z1q]
 cases h:D6q s ((k:Int)+1) <;> simp[h]
theorem D4m (s:PaShow) (k:Nat):(B1r s k).length≤k+1:= by
 unfold B1r
 have:=Z0a (D6q s) ((Z04 k).map fun (i:Nat)=>(i:Int)+1)
 rw[Zi,Z1w]at this
 rw[ZU];omega
theorem D6r {s:PaShow} {k:Nat} {x:Int} (h:x∈B1r s k):x<(k:Int)+1:= by
 unfold B1r at h
 rcases Zs.mp h with rfl|h
 ·omega
 ·obtain⟨i,hi,rfl⟩:=ZJ.mp (Z05.mp h).1
  have:=Z1x.mp hi
  omega
theorem D9w {s:PaShow} (hI:s.Incomes.length≤3) {l:List Int} {d:Int} (hl:l.length≤1000) (hd:d ∉ l):loop (A3m s (d,l)) (0,l)=some (if D6q s d then l++[d] else l):= by
 have hs:∀i:Nat,i≤s.Incomes.length→s.Incomes.take i=s.Incomes.take i:=fun _ _=>rfl
 rw[show ((0:Int),l)=(((0:Nat):Int),if (s.Incomes.take 0).any (fun x=>x.Day==d) then l++[d] else l) from Z]
 refine N4 (fun i=>((i:Int),if (s.Incomes.take i).any (fun x=>x.Day==d) then l++[d] else l)) s.Incomes.length (by omega) (fun i hi=>?_) ?_
 ·have e:s.Incomes.take (i+1)=s.Incomes.take i++[s.Incomes[i]!]:= by
   rw[ZI hi,getElem!_pos s.Incomes i hi]
  unfold A3m
  simp only[]
  rw[if_pos (by simpa using hi),G9 hi,e,List.any_append,D7 (n:=(i:Int)+1) (by omega)]
  simp only[Zd,Z51,List.any_nil,Bool.or_false]
  cases h1:(s.Incomes.take i).any fun x=>x.Day==d
  ·simp only[Zj,if_false,Z35]
   rw[B61 (by omega),decide_eq_false hd,A0l (by omega) (by simp;omega)]
   cases s.Incomes[i]!.Day==d <;> rfl
  ·simp only[if_true,Bool.true_or]
   rw[B61 (by simp;omega),decide_eq_true (by simp)]
   cases s.Incomes[i]!.Day==d <;> rfl
 ·unfold A3m
  simp only[]
  rw[if_neg (by simp),Z0g]
  rfl
theorem C9v {s:PaShow} (hs:ShOk s):A78 s=some (F3 s):= by
 have hI:=hs.incomes
 unfold A78
 rw[show ((1:Int),([0]:List Int))=(((0:Nat):Int)+1,B1r s 0) from Z]
 rw[N4 (b:=A3n s) (fun k=>((k:Int)+1,B1r s k)) 364 (r:=B1r s 364) (by omega) (fun k hk=>by
  have hl:=D4m s k
  unfold A3n
  simp only[]
  rw[if_pos (by simp;omega),D9w hI (by omega) (fun c=>by have:=D6r c;omega),D03,D7 (by omega)]
  rfl) (by
  unfold A3n
  rw[if_neg (by simp)])]
 rfl
theorem D08 {l:List Int} (h:Str l) (c:Int):(l.filter fun d=>c==d).length≤1:= by
 induction l with
 | nil=>simp
 | cons x l ih =>
  obtain⟨h1,h2⟩:=Z1o.mp h
  rw[Z08]
  by_cases e:c=x
  ·have:(l.filter fun d=>c==d)=[]:=Z2j.mpr fun y hy=>by
    have:=h1 y hy
    simp;omega
   rw[this]
   split <;> simp
  ·rw[if_neg (by simpa using e)]
   exact ih h2
theorem C4q (p q:Int→Bool):∀l:List Int,(l.filter fun d=>p d||q d).length≤(l.filter p).length+(l.filter q).length
 | []=>by simp
 | x::l=>by
  have:=C4q p q l
  rw[Z08,Z08,Z08]
  cases p x <;> cases q x <;> simp <;> omega
theorem D2m {l:List Int} (h:Str l):∀m:List PaIncome,(l.filter fun d=>m.any fun x=>x.Day==d).length≤m.length
 | []=>by simp
 | x::m=>by
  have h1:=D2m h m
  have h2:=D08 h x.Day
  have h3:=C4q (fun d=>x.Day==d) (fun d=>m.any fun x=>x.Day==d) l
  simp only[Z51,ZU]
  omega
theorem B7b {s:PaShow} (hs:ShOk s):(F3 s).length≤4:= by
 have h:=hs.incomes
 have h1:=(Z1o.mp (B7a s)).2
 unfold F3 at h1 ⊢
 have hr:Str ((Z04 364).map fun (i:Nat)=>(i:Int)+1):= by
  show List.Pairwise _ _
  rw[Z45]
  exact Z34.imp (fun h=>by omega)
 have:=D2m hr s.Incomes
 rw[ZU]
 omega
theorem B5d {s:PaShow} (hs:ShOk s) {d:Nat} (hd:d≤3) (q:List PaUse):(PL s (F3 s) d q).length≤226981:= by
 have h1:=C56 s (F3 s) d q
 have h4:s.Gowns.length*3*(F3 s).length≤15*4:=Z1p (by have:=hs.gowns;omega) (B7b hs)
 have h5:(nU s (F3 s)+1) ^ d≤61 ^ d:=Z56 (by unfold nU;omega) _
 have h3:61 ^ d≤61 ^ 3:=Z50 (by decide) hd
 omega
def A2y (s:PaShow) (f n:Nat):List PaUse:=((Z04 n).map (Q9 (F3 s))).filter fun u=>T5 s.Gowns s.Figures[f]! u==0
theorem D2c (s:PaShow) (f n:Nat):A2y s f (n+1)=if T5 s.Gowns s.Figures[f]! (Q9 (F3 s) n)==0 then A2y s f n++[Q9 (F3 s) n] else A2y s f n:= by
 unfold A2y
 rw[Z4l,ZZ,Z1q,Zw,List.map_nil,Z08,Z4m]
 cases T5 s.Gowns s.Figures[f]! (Q9 (F3 s) n)==0 <;> simp
theorem B8n (s:PaShow) (f n:Nat):(A2y s f n).length≤n:= by
 unfold A2y
 have:=Z0a (fun u=>T5 s.Gowns s.Figures[f]! u==0) ((Z04 n).map (Q9 (F3 s)))
 rw[Zi,Z1w]at this
 exact this
theorem D9a {D:List Int} {g h k:Nat} (hh:h<3) (hk:k<D.length):Q9 D ((g*3+h)*D.length+k)=⟨(g:Int),(h:Int),D[k]!⟩:= by
 have d1:((g*3+h)*D.length+k) / D.length=g*3+h:= by
  rw[Z1k,Z4h (by omega),Z49 hk,Z19]
 have d2:((g*3+h)*D.length+k) % D.length=k:= by
  rw[Z1k,Z5q,Z38 hk]
 unfold Q9
 rw[d1,d2]
 congr 1
 ·omega
 ·omega
theorem C9y {s:PaShow} (hs:ShOk s) {f:Nat} (hf:f<s.Figures.length):A8b s (f:Int)=some (A2y s f (nU s (F3 s))++[bare0]):= by
 have hG:=hs.gowns
 have hF:=hs.figures
 have hD:=B7b hs
 have hb:∀g h k:Nat,g<s.Gowns.length→h<3→k≤(F3 s).length→(A2y s f ((g*3+h)*(F3 s).length+k)).length≤100:=fun g h k hg hh hk=>by
  refine Z03 (B8n _ _ _) ?_
  have:(g*3+h)*(F3 s).length≤14*4:=Z1p (by omega) hD
  omega
 unfold A8b
 rw[C9v hs]
 simp only[Zd]
 have i1:∀g h:Nat,g<s.Gowns.length→h<3→∀ acc acc2,loop (A1f s (f:Int) (F3 s) ((g:Int),acc) ((h:Int),acc2)) (0,A2y s f ((g*3+h)*(F3 s).length))=some (A2y s f ((g*3+(h+1))*(F3 s).length)):=fun g h hg hh acc acc2=>by
  have e2:(g*3+(h+1))*(F3 s).length=(g*3+h)*(F3 s).length+(F3 s).length:= by
   rw[← Z06,Z1t]
  rw[e2]
  refine N4 (b:=A1f s (f:Int) (F3 s) ((g:Int),acc) ((h:Int),acc2)) (fun k=>((k:Int),A2y s f ((g*3+h)*(F3 s).length+k))) (F3 s).length (by omega) (fun k hk=>?_) ?_
  ·have hbl:=hb g h k hg hh (by omega)
   unfold A1f
   simp only[]
   rw[if_pos (by simpa using hk),G9 hk]
   simp only[Zd]
   rw[B08 hs (f:=(f:Int)) (by omega),ZG,A0l (by omega) (by simp;omega),D7 (by omega),← Z06,D2c,D9a hh hk]
   simp only[Zd]
   cases T5 s.Gowns s.Figures[f]! ⟨(g:Int),(h:Int),(F3 s)[k]!⟩==0 <;> rfl
  ·unfold A1f
   simp only[]
   rw[if_neg (by simp)]
 have i2:∀g:Nat,g<s.Gowns.length→∀ acc,loop (A1g s (f:Int) (F3 s) ((g:Int),acc)) (0,A2y s f (g*3*(F3 s).length))=some (A2y s f ((g+1)*3*(F3 s).length)):=fun g hg acc=>by
  have e2:(g+1)*3=g*3+3:= by omega
  rw[e2]
  refine N4 (b:=A1g s (f:Int) (F3 s) ((g:Int),acc)) (fun h=>((h:Int),A2y s f ((g*3+h)*(F3 s).length))) 3 (by omega) (fun h hh=>?_) ?_
  ·unfold A1g
   simp only[]
   rw[if_pos (by simp;omega),i1 g h hg hh,D7 (by omega)]
   rfl
  ·unfold A1g
   rw[if_neg (by simp)]
 have i3:loop (A1h s (f:Int) (F3 s)) (0,([]:List PaUse))=some (A2y s f (nU s (F3 s))):= by
  have e0:([]:List PaUse)=A2y s f (0*3*(F3 s).length):= by simp only[Nat.zero_mul];rfl
  rw[e0]
  refine N4 (b:=A1h s (f:Int) (F3 s)) (fun g=>((g:Int),A2y s f (g*3*(F3 s).length))) s.Gowns.length (by omega) (fun g hg=>?_) ?_
  ·unfold A1h
   simp only[]
   rw[if_pos (by simpa using hg),i2 g hg,D7 (by omega)]
   rfl
  ·unfold A1h
   simp only[]
   rw[if_neg (by simp)]
   rfl
 rw[i3]
 simp only[Zd]
 have hl:(A2y s f (nU s (F3 s))).length≤100:= by
  refine Z03 (B8n _ _ _) ?_
  have h4:s.Gowns.length*3*(F3 s).length≤15*4:=Z1p (by omega) hD
  unfold nU;omega
 rw[A0l (by omega) (by simp;omega)]
 rfl
def A8v (s:PaShow) (D:List Int) (r:List PaUse):List (List PaUse):=(cand s D r++[bare0]).map fun u=>r++[u]
theorem C4s {α β γ:Type} (f:α→List β) (g:β→List γ):∀l:List α,(l.flatMap f).flatMap g=l.flatMap fun x=>(f x).flatMap g
 | []=>rfl
 | x::l=>by rw[Z0n,Z15,Z0n,C4s f g l]
theorem B93 (s:PaShow) (D:List Int):∀(d:Nat) (q:List PaUse),PL s D (d+1) q=(PL s D d q).flatMap (A8v s D)
 | 0,q=>by
  have e:∀l:List PaUse,l.flatMap (fun u=>PL s D 0 (q++[u]))=l.map fun u=>q++[u]:=fun l=>by
   induction l with
   | nil=>rfl
   | cons u l ih=>rw[Z0n,ih];rfl
  show (cand s D q).flatMap (fun u=>PL s D 0 (q++[u]))++PL s D 0 (q++[bare0])=[q].flatMap (A8v s D)
  rw[e,Z0n,Z5m,ZV]
  unfold A8v
  rw[ZZ];rfl
 | d+1,q=>by
  show (cand s D q).flatMap (fun u=>PL s D (d+1) (q++[u]))++PL s D (d+1) (q++[bare0])=((cand s D q).flatMap (fun u=>PL s D d (q++[u]))++PL s D d (q++[bare0])).flatMap (A8v s D)
  rw[Z15,C4s,B93 s D d (q++[bare0])]
  congr 1
  congr 1
  funext u
  exact B93 s D d (q++[u])
theorem E0n {s:PaShow} {q:List PaUse} {f:Nat} (hq:q.length=f):A8v s (F3 s) q=((A2y s f (nU s (F3 s))++[bare0]).filter fun u=>!A9c q u).map fun u=>q++[u]:= by
 unfold A8v cand A2y
 rw[Z1q,List.filter_filter]
 have e:(List.filter (fun u=>!A9c q u) [bare0])=[bare0]:=rfl
 rw[e]
 congr 2
 refine List.filter_congr fun u _=>?_
 unfold okU
 rw[hq,Bool.and_comm]
theorem B07 {s:PaShow} (hs:ShOk s):A18 s=some (PL s (F3 s) s.Figures.length []):= by
 have hF:=hs.figures
 unfold A18
 rw[show (([([]:List PaUse)],0):List (List PaUse)×Int)=(PL s (F3 s) 0 [],((0:Nat):Int)) from Z]
 rw[N4 (b:=A2a s) (fun f=>(PL s (F3 s) f [],(f:Int))) s.Figures.length (r:=PL s (F3 s) s.Figures.length []) (by omega) (fun f hf=>by
  have hlen:=B5d hs (d:=f) (by omega) []
  have hlen2:=B5d hs (d:=f+1) (by omega) []
  have hpl:∀q∈PL s (F3 s) f [],q.length=f:=fun q hq=>by
   obtain⟨r,rfl,hr,_⟩:=B0w.mp hq
   simpa using hr
  have hul:(A2y s f (nU s (F3 s))++[bare0]).length≤101:= by
   have:=B8n s f (nU s (F3 s))
   have h4:s.Gowns.length*3*(F3 s).length≤15*4:=Z1p (by have:=hs.gowns;omega) (B7b hs)
   rw[Zm,Z1n]
   unfold nU at this ⊢; omega
  unfold A2a
  simp only[]
  rw[if_pos (by simpa using hf),C9y hs hf]
  simp only[Zd]
  generalize hU:A2y s f (nU s (F3 s))++[bare0]=U at hul
  generalize hL:PL s (F3 s) f []=L at hlen hpl
  have hsub:∀i,i≤L.length→((L.take i).flatMap (A8v s (F3 s))).length≤226981:=fun i hi=>by
   have e:PL s (F3 s) (f+1) []=(L.take i).flatMap (A8v s (F3 s))++(L.drop i).flatMap (A8v s (F3 s)):= by
    rw[B93,hL,← Z15,List.take_append_drop]
   rw[e,Zm]at hlen2
   omega
  have j1:∀i,i<L.length→∀ acc acc2,acc2=(L.take i).flatMap (A8v s (F3 s))→loop (A19 (L,(f:Int)) U ((i:Int),acc)) (0,acc2)=some ((L.take (i+1)).flatMap (A8v s (F3 s))):=fun i hi acc acc2 h2=>by
   have hq:=hpl _ (J1 hi)
   have et:L.take (i+1)=L.take i++[L[i]!]:= by rw[ZI hi,getElem!_pos L i hi]
   have hidx:=G9 hi
   rw[et,Z15,← h2,Z0n,Z5m,ZV,E0n hq,hU]
   have hs2:=hsub i (by omega)
   rw[← h2]at hs2
   clear et
   generalize L[i]! = R at *
   refine X2 U (fun a u=>if !A9c R u then a++[R++[u]] else a) acc2 (fun k t=>((k:Int),t)) (by omega) (fun k hk=>?_) ?_
   ·have hfl:∀m:List PaUse,m.foldl (fun a u=>if !A9c R u then a++[R++[u]] else a) acc2=acc2++(m.filter fun u=>!A9c R u).map fun u=>R++[u]:=fun m=>by
     induction m generalizing acc2 with
     | nil=>simp
     | cons u m ih =>
      have gen:∀(m:List PaUse) (a:List (List PaUse)),m.foldl (fun a u=>if !A9c R u then a++[R++[u]] else a) a=a++(m.filter fun u=>!A9c R u).map fun u=>R++[u]:= by
       intro m
       induction m with
       | nil=>intro a;simp
       | cons v m ihm =>
        intro a
        rw[Z0b,ihm,Z08]
        cases A9c R v <;> simp
      exact gen (u::m) acc2
    rw[hfl]
    have hml:((U.take k).filter fun u=>!A9c R u).length≤101:= by
     have:=Z0a (fun u=>!A9c R u) (U.take k)
     rw[ZC]at this
     omega
    unfold A19
    simp only[]
    rw[if_pos (by simpa using hk),hidx,G9 hk]
    simp only[Zd]
    rw[A0l (by omega) (by simp;omega)]
    simp only[Zd]
    rw[Z07,A0l (by omega) (by simp;omega)]
    simp only[Zd]
    have htw:A2c (R++[U[k]!]) (f:Int)=some (A9c R U[k]!):= by
     rw[B6p (by simp;omega) (by simp;omega)]
     unfold twP A9c
     have e1:(R++[U[k]!])[f]! = U[k]!:= by rw[← hq];exact C1n _ _
     have e2:(R++[U[k]!]).take f=R:= by rw[← hq,Z0c]
     rw[e1,e2]
    rw[htw,A0l (by omega) (by simp;omega),D7 (by omega)]
    simp only[Zd]
    cases A9c R U[k]! <;> rfl
   ·have gen:∀(m:List PaUse) (a:List (List PaUse)),m.foldl (fun a u=>if !A9c R u then a++[R++[u]] else a) a=a++(m.filter fun u=>!A9c R u).map fun u=>R++[u]:= by
     intro m
     induction m with
     | nil=>intro a;simp
     | cons v m ihm =>
      intro a
      rw[Z0b,ihm,Z08]
      cases A9c R v <;> simp
    unfold A19
    simp only[]
    rw[if_neg (by simp),gen]
  have j2:loop (A0h (L,(f:Int)) U) (0,([]:List (List PaUse)))=some (L.flatMap (A8v s (F3 s))):= by
   have:=N4 (b:=A0h (L,(f:Int)) U) (fun i=>((i:Int),(L.take i).flatMap (A8v s (F3 s)))) L.length (r:=L.flatMap (A8v s (F3 s))) (by omega) (fun i hi=>by
    unfold A0h
    simp only[]
    rw[if_pos (by simpa using hi),j1 i hi _ _ Z,D7 (by omega)]
    rfl) (by
    unfold A0h
    simp only[]
    rw[if_neg (by simp),Z0g])
   exact this
  rw[j2,B93,hL,D7 (by omega)]
  rfl) (by
  unfold A2a
  rw[if_neg (by simp)])]
 rfl
end Pw
end
section
set_option maxRecDepth 100000
set_option maxHeartbeats 0
namespace Pw
open Go Am Go.Proofs.YtjpjdglddmhplaaGreat.Cd
def A1c (a0:PaShow) (x3:(List (List PaUse))) (s4:((List PaUse)×Bool×Int)):Option (((List PaUse)×Bool×Int)⊕(List PaUse)) :=
 if (decide (s4.2.2<(Zh x3:Int)))=true then
  (idx x3 s4.2.2).bind fun x7 =>
  (A2q a0 x7).bind fun x8 =>
  if (!x8)=true then
  some (.inl (s4.1,s4.2.1,(w64 (s4.2.2+1))))
  else
  (idx x3 s4.2.2).bind fun x10 =>
  (O0 x10).bind fun x11 =>
  (O0 s4.1).bind fun x12 =>
  (if ((!s4.2.1)||(decide (x11<x12)))=true then
   some true
  else
   (if (x11==x12)=true then
   (idx x3 s4.2.2).bind fun x16 =>
   (Z5 a0 x16).bind fun x17 =>
   (Z5 a0 s4.1).bind fun x18 =>
   some (decide (x17<x18))
   else
   some false).bind fun x19 =>
   some x19).bind fun x20 =>
  if x20=true then
   (idx x3 s4.2.2).bind fun x22 =>
   some (.inl (x22,true,(w64 (s4.2.2+1))))
  else
   some (.inl (s4.1,s4.2.1,(w64 (s4.2.2+1))))
 else
  some (.inr s4.1)
def A32 (a0:PaShow):Option ((List PaUse)×Int×Int×Int) :=
 (V3 a0).bind fun x1 =>
 if (x1.2.2 != 0)=true then
  some (([]:List PaUse),0,0,x1.2.2)
 else
  (A18 a0).bind fun x3 =>
  (loop (A1c a0 x3) (([]:List PaUse),false,0)).bind fun (o23:(List PaUse)) =>
  (O0 o23).bind fun x24 =>
  (Z5 a0 o23).bind fun x25 =>
  some (o23,x24,x25,0)
theorem A9h {c:Sc} {H:A2} {a0:PaShow} {r:((List PaUse)×Int×Int×Int)} (h:A32 a0=some r) :
  F0 tab c H (.fn (.func 27) [] []) [(.agg (A9 a0))] [(.seq 3 (Ze A6 r.1)),.i r.2.1,.i r.2.2.1,.i r.2.2.2]:= by
 unfold A32 at h
 refine cE Z Z<|sg 0 Z<|A0 (G0 (cs:=A9 a0) Z Z Z) Z<|qm Z<|qm Z<|qm Z<|qm Z<|es (ra1 Z)<|s0<|oB h fun x1 hx1 h=>A0 (D0 Z Z Z) Z<|B2 (rs:=[.i x1.1,.i x1.2.1,.i x1.2.2]) Z Z (A1 (C9 Z) B3) ((A0c hx1).frz)<|qm Z<|A0 (A8 Z Z) Z<|A0 (A8 Z Z) Z<|A0 (A8 Z Z) Z<|qm Z<|qm Z<|qm Z<|es (ra2 Z Z)<|B8<|s0<|qm Z<|A0 (I8 Z Z) Z<|es (ra3 Z Z Z)<|wi h Z (fun hc2 h=>?_) fun hc2 h=>?_
 ·refine s0<|qm Z<|qm Z<|qm Z<|qm Z<|qm Z<|es (ra4 Z Z Z Z)<|C7 ?_
  obtain rfl:=os h
  exact retq trivial (A7 Z (A7 Z (A7 Z (A7 Z B7)))) (A5 Z (A5 Z (A5 Z (A5 Z B6)))) (A3 G6 (A3 A4 (A3 A4 (A3 A4 B1))))
 ·refine B9<|s0<|oB h fun x3 hx3 h=>A0 (D0 Z Z Z) Z<|B2 (rs:=[(.seq 1 (Ze (cL 3 A6) x3))]) Z Z (A1 (C9 Z) B3) ((A72 hx3).frz)<|qm Z<|es (ra2 Z Z)<|s0<|qm Z<|es (ra3 Z Z Z)<|s0<|qm Z<|es (ra4 Z Z Z Z)<|B8<|s0<|qm Z<|es (ra5 Z Z Z Z Z)<|C5<|oB h fun o23 ho23 h=>wl (fun s4=>[(1,(.ptr (H.length+0) 0)),(9,(.seq 1 (Ze (cL 3 A6) x3))),(10,(.seq 3 (Ze A6 s4.1))),(11,.b s4.2.1),(12,.i s4.2.2)]) (fun (q5:Unit) s4=>[(.cells (A9 a0))]) 1 (fun r e s' H'=>PX 0 [(1,(.ptr (H.length+0) 0)),(10,(.seq 3 (Ze A6 r)))] (H++[(.cells (A9 a0))]) e s' H') () ho23 Z Z (fun _ _=>rfl) (fun _=>rfl) Z (fun s4=>(bdc (J6 Z) (bdc G6 (bdc G6 (bdc A4 (bdc A4 bdn)))))) (fun q5 s4 ys4 hs4=>?_) ?_
  ·unfold A1c at hs4
   refine B8<|s0<|qm Z<|qm Z<|A0 (F1 (f:=(cL 3 A6)) Z) Z<|A0 (I0 Z Z) Z<|es (ra6 Z Z Z Z Z Z)<|wi hs4 Z (fun hc6 hs4=>?_) fun hc6 hs4=>?_
   ·refine B9<|B8<|C5<|B8<|s0<|oB hs4 fun x7 hx7 hs4=>oB hs4 fun x8 hx8 hs4=>A0 (D0 Z Z Z) Z<|qm Z<|qm Z<|A0 (D4 (f:=(cL 3 A6)) Z Z hx7) Z<|A0 (F9 Z Z) Z<|B2 (rs:=[.b x8]) Z Z (A1 (C9 Z) (A1 Z B3)) ((A65 hx8).frz)<|A0 (M9 Z) Z<|es (ra6 Z Z Z Z Z Z)<|wi hs4 Z (fun hc9 hs4=>?_) fun hc9 hs4=>?_
    ·refine G5<|r0<|qm Z<|A0 (D9 Z Z) Z<|qm Z<|en (ra5 Z Z Z Z Z) ?_
     cases hs4
     exact lnT () Z (su5 Z Z Z Z Z)
    ·refine B9<|s0<|oB hs4 fun x10 hx10 hs4=>oB hs4 fun x11 hx11 hs4=>oB hs4 fun x12 hx12 hs4=>qm Z<|qm Z<|A0 (D4 (f:=(cL 3 A6)) Z Z hx10) Z<|A0 (F9 Z Z) Z<|B2 (rs:=[.i x11]) Z Z (A1 Z B3) ((P9 hx11).frz)<|qm Z<|B2 (rs:=[.i x12]) Z Z (A1 Z B3) ((P9 hx12).frz)<|qm Z<|qm Z<|es (ra7 Z Z Z Z Z Z Z)<|s0<|oB hs4 fun x20 hx20 hs4=>qm Z<|A0 (M9 Z) Z<|qm Z<|gp 4 52 (.b ((!s4.2.1)||(decide (x11<x12)))) 48 Z Z (fun hg13=>?_) (fun hg13=>?_) ?_
     ·exact nF Z hg13 Z<|nF Z hg13 Z<|nF Z hg13 Z<|A0 (C3 Z hg13 Z) Z<|ge 4 (by rw[hg13];rfl) Z Z
     ·exact gF Z hg13<|qm Z<|gF Z hg13<|qm Z<|gF Z hg13<|A0 (I0 Z Z) Z<|A0 (C2 Z hg13 Z) Z<|ge 4 (by rw[hg13];rfl) Z Z
     refine qm Z<|gp 16 69 (.b x20) 53 Z Z (fun hg14=>?_) (fun hg14=>?_) ?_
     ·obtain rfl:=os (bt hx20 hg14)
      exact nF Z hg14 Z<|nF Z hg14 Z<|nF Z hg14 Z<|nF Z hg14 Z<|nX Z Z<|nX Z Z<|nX Z Z<|nX Z Z<|nX Z Z<|nX Z Z<|nX Z Z<|nX Z Z<|G4 (A38 Z) Z<|nX Z Z<|nF Z hg14 Z<|A0 (C3 Z hg14 Z) Z<|ge 16 Z Z Z
     ·refine oB (bf hx20 hg14) fun x19 hx19 hx20=>?_
      obtain rfl:=os hx20
      refine gF Z hg14<|qm Z<|gF Z hg14<|qm Z<|gF Z hg14<|A0 (G2 Z Z) Z<|gF Z hg14<|qm Z<|gq 11 68 (.b x19) 57 Z Z (fun hg15=>?_) (fun hg15=>?_) ?_
      ·refine oB (bt hx19 hg15) fun x16 hx16 hx19=>oB hx19 fun x17 hx17 hx19=>oB hx19 fun x18 hx18 hx19=>?_
       obtain rfl:=os hx19
       exact gT Z hg15<|A0 (D0 Z Z Z) Z<|gT Z hg15<|qm Z<|gT Z hg15<|qm Z<|gT Z hg15<|A0 (D4 (f:=(cL 3 A6)) Z Z hx16) Z<|gT Z hg15<|A0 (F9 Z Z) Z<|gT Z hg15<|T1 (rs:=[.i x17]) Z Z (R5 Z (R5 Z A0e)) (A1 (C9 Z) (A1 Z B3)) ((A08 hx17).frz)<|gT Z hg15<|A0 (D0 Z Z Z) Z<|gT Z hg15<|qm Z<|gT Z hg15<|B2 (rs:=[.i x18]) Z Z (A1 (C9 Z) (A1 Z B3)) ((A08 hx18).frz)<|gT Z hg15<|A0 (I0 Z Z) Z<|gF Z hg14<|A0 (C3 Z hg15 Z) Z<|ge 11 Z Z Z
      ·obtain rfl:=os (bf hx19 hg15)
       exact nT Z hg15 Z<|nT Z hg15 Z<|nT Z hg15 Z<|nT Z hg15 Z<|nT Z hg15 Z<|nT Z hg15 Z<|nT Z hg15 Z<|nT Z hg15 Z<|G4 (D2 Z (by rw[hg15];rfl)) Z<|nT Z hg15 Z<|gF Z hg14<|A0 (C2 Z hg15 Z) Z<|ge 11 Z Z Z
      exact A0 (C2 Z hg14 Z) Z<|ge 6 Z Z Z
     refine es (ra6 Z Z Z Z Z Z)<|wi hs4 Z (fun hc21 hs4=>?_) fun hc21 hs4=>?_
     ·refine r0<|oB hs4 fun x22 hx22 hs4=>qm Z<|qm Z<|A0 (D4 (f:=(cL 3 A6)) Z Z hx22) Z<|A0 (F9 Z Z) Z<|qm Z<|qm Z<|en (ra5 Z Z Z Z Z)<|r0<|qm Z<|A0 (D9 Z Z) Z<|qm Z<|en (ra5 Z Z Z Z Z) ?_
      cases hs4
      exact lnT () Z (su5 Z Z Z Z Z)
     ·refine B9<|r0<|qm Z<|A0 (D9 Z Z) Z<|qm Z<|en (ra5 Z Z Z Z Z) ?_
      cases hs4
      exact lnT () Z (su5 Z Z Z Z Z)
   ·refine G5 ?_
    obtain rfl:=os hs4
    exact lx Z px (su2 Z Z)
  ·rintro e s' H'-⟨rfl,rfl,rfl⟩
   refine s0<|oB h fun x24 hx24 h=>oB h fun x25 hx25 h=>qm Z<|T1 (rs:=[.i x24]) Z Z (R5 Z A0e) (A1 Z B3) ((P9 hx24).frz)<|A0 (D0 Z Z Z) Z<|qm Z<|B2 (rs:=[.i x25]) Z Z (A1 (C9 Z) (A1 Z B3)) ((A08 hx25).frz)<|qm Z<|qm Z<|qm Z<|qm Z<|qm Z<|es (ra4 Z Z Z Z)<|C7 ?_
   obtain rfl:=os h
   exact retq trivial (A7 Z (A7 Z (A7 Z (A7 Z B7)))) (A5 Z (A5 Z (A5 Z (A5 Z B6)))) (A3 G6 (A3 A4 (A3 A4 (A3 A4 B1))))
def A1a (x3:(List (List PaUse))) (s5:(Int×Int×(List Int))) (s15:(Int×(List Int))):Option ((Int×(List Int))⊕(List Int)) :=
 if (decide (s15.1<(Zh s15.2:Int)))=true then
  (idx x3 s5.2.1).bind fun x18 =>
  (idx x18 s15.1).bind fun x19 =>
  if (x19.Gown==(-1))=true then
  (idx s15.2 s15.1).bind fun x21 =>
  (idx s15.2 s15.1).bind fun x22 =>
  some (.inl ((w64 (s15.1+1)),(T3 s15.2 s15.1 (w64 (x21+1)))))
  else
  some (.inl ((w64 (s15.1+1)),s15.2))
 else
  some (.inr s15.2)
def A1b (a0:PaShow) (x1:((List PaUse)×Int×Int×Int)) (x3:(List (List PaUse))) (s5:(Int×Int×(List Int))):Option ((Int×Int×(List Int))⊕(Int×(List Int))) :=
 if (decide (s5.2.1<(Zh x3:Int)))=true then
  (idx x3 s5.2.1).bind fun x8 =>
  (O0 x8).bind fun x9 =>
  (if (x9 != x1.2.1)=true then
  some true
  else
  (idx x3 s5.2.1).bind fun x11 =>
  (A2q a0 x11).bind fun x12 =>
  some (!x12)).bind fun x13 =>
  if x13=true then
  some (.inl (s5.1,(w64 (s5.2.1+1)),s5.2.2))
  else
  (loop (A1a x3 s5) (0,s5.2.2)).bind fun (o23:(List Int)) =>
  some (.inl ((w64 (s5.1+1)),(w64 (s5.2.1+1)),o23))
 else
  some (.inr (s5.1,s5.2.2))
def A3g (o24:(Int×(List Int))) (s25:(Int×(List Int)×(List Int))):Option ((Int×(List Int)×(List Int))⊕((List Int)×(List Int))) :=
 if (decide (s25.1<(Zh o24.2:Int)))=true then
  (idx o24.2 s25.1).bind fun x28 =>
  if (x28==o24.1)=true then
  (app 8 s25.2.1 [s25.1]).bind fun x30 =>
  (idx o24.2 s25.1).bind fun x31 =>
  if (decide (x31>0))=true then
   (app 8 s25.2.2 [s25.1]).bind fun x33 =>
   some (.inl ((w64 (s25.1+1)),x30,x33))
  else
   some (.inl ((w64 (s25.1+1)),x30,s25.2.2))
  else
  (idx o24.2 s25.1).bind fun x34 =>
  if (decide (x34>0))=true then
   (app 8 s25.2.2 [s25.1]).bind fun x36 =>
   some (.inl ((w64 (s25.1+1)),s25.2.1,x36))
  else
   some (.inl ((w64 (s25.1+1)),s25.2.1,s25.2.2))
 else
  some (.inr (s25.2.1,s25.2.2))
def A76 (a0:PaShow):Option ((List Int)×(List Int)×Int) :=
 (A32 a0).bind fun x1 =>
 if (x1.2.2.2 != 0)=true then
  some (([]:List Int),([]:List Int),x1.2.2.2)
 else
  (A18 a0).bind fun x3 =>
  (B34 8 (Zh a0.Figures:Int) 0).bind fun x4 =>
  (loop (A1b a0 x1 x3) (0,0,x4)).bind fun (o24:(Int×(List Int))) =>
  (loop (A3g o24) (0,([]:List Int),([]:List Int))).bind fun (o37:((List Int)×(List Int))) =>
  some (o37.1,o37.2,0)
theorem C3x {c:Sc} {H:A2} {a0:PaShow} {r:((List Int)×(List Int)×Int)} (h:A76 a0=some r) :
  A0a tab c H (.fn (.func 30) [] []) [(.agg (A9 a0))] [(.seq 1 (Ze cI r.1)),(.seq 1 (Ze cI r.2.1)),.i r.2.2]:= by
 unfold A76 at h
 refine cF Z Z<|sg 0 Z<|A0 (G0 (cs:=A9 a0) Z Z Z) Z<|qm Z<|qm Z<|qm Z<|es (ra1 Z)<|s0<|oB h fun x1 hx1 h=>A0 (D0 Z Z Z) Z<|B2 (rs:=[(.seq 3 (Ze A6 x1.1)),.i x1.2.1,.i x1.2.2.1,.i x1.2.2.2]) Z Z (A1 (C9 Z) B3) ((A9h hx1).frz)<|qm Z<|A0 (A8 Z Z) Z<|A0 (A8 Z Z) Z<|A0 (A8 Z Z) Z<|A0 (A8 Z Z) Z<|qm Z<|qm Z<|qm Z<|qm Z<|es (ra3 Z Z Z)<|B8<|s0<|qm Z<|A0 (I8 Z Z) Z<|es (ra4 Z Z Z Z)<|wi h Z (fun hc2 h=>?_) fun hc2 h=>?_
 ·refine s0<|qm Z<|qm Z<|qm Z<|qm Z<|es (ra3 Z Z Z)<|C7 ?_
  obtain rfl:=os h
  refine Exists.intro [(.seq 1 (Ze cI ([]:List Int))),(.seq 1 (Ze cI ([]:List Int))),.i x1.2.2.2] (ZE ?_ Z)
  exact retq trivial (A7 Z (A7 Z (A7 Z B7))) (A5 Z (A5 Z (A5 Z B6))) (A3 G6 (A3 G6 (A3 A4 B1)))
 ·refine B9<|s0<|oB h fun x3 hx3 h=>A0 (D0 Z Z Z) Z<|B2 (rs:=[(.seq 1 (Ze (cL 3 A6) x3))]) Z Z (A1 (C9 Z) B3) ((A72 hx3).frz)<|qm Z<|es (ra3 Z Z Z)<|sg 1 Z<|oB h fun x4 hx4 h=>A0 (C1 Z) Z<|A0 (B4 Z Z Z) Z<|A0 (F1 (f:=B5) Z) Z<|A0 (B71 (f:=cI) Z Z Z hx4) Z<|qm Z<|es (ra4 Z Z Z Z)<|s0<|qm Z<|es (ra5 Z Z Z Z Z)<|B8<|s0<|qm Z<|es (ra6 Z Z Z Z Z Z)<|C5<|oB h fun o24 ho24 h=>wl (fun s5=>[(1,(.ptr (H.length+0) 0)),(6,.i x1.2.1),(9,(.seq 1 (Ze (cL 3 A6) x3))),(10,(.asl (H.length+1) (Zh s5.2.2))),(11,.i s5.1),(12,.i s5.2.1)]) (fun (q6:Unit) s5=>[(.cells (A9 a0)),(.arr 1 false (Ze cI s5.2.2))]) 2 (fun r e s' H'=>PX 0 [(10,(.asl (H.length+1) (Zh r.2))),(11,.i r.1)] (H++[(.cells (A9 a0)),(.arr 1 false (Ze cI r.2))]) e s' H') () ho24 Z Z (fun _ _=>rfl) (fun _=>rfl) Z (fun s5=>(bdc (J6 Z) (bdc A4 (bdc G6 (bdc (R3 Z) (bdc A4 (bdc A4 bdn))))))) (fun q6 s5 ys5 hs5=>?_) ?_
  ·unfold A1b at hs5
   refine B8<|s0<|qm Z<|qm Z<|A0 (F1 (f:=(cL 3 A6)) Z) Z<|A0 (I0 Z Z) Z<|es (ra7 Z Z Z Z Z Z Z)<|wi hs5 Z (fun hc7 hs5=>?_) fun hc7 hs5=>?_
   ·refine B9<|B8<|C5<|B8<|s0<|oB hs5 fun x8 hx8 hs5=>oB hs5 fun x9 hx9 hs5=>oB hs5 fun x13 hx13 hs5=>qm Z<|qm Z<|A0 (D4 (f:=(cL 3 A6)) Z Z hx8) Z<|A0 (F9 Z Z) Z<|B2 (rs:=[.i x9]) Z Z (A1 Z B3) ((P9 hx9).frz)<|qm Z<|A0 (I8 Z Z) Z<|qm Z<|gp 8 54 (.b x13) 46 Z Z (fun hg10=>?_) (fun hg10=>?_) ?_
    ·obtain rfl:=os (bt hx13 hg10)
     exact nF Z hg10 Z<|nF Z hg10 Z<|nF Z hg10 Z<|nF Z hg10 Z<|nF Z hg10 Z<|G4 (D2 Z (by rw[hg10];rfl)) Z<|nF Z hg10 Z<|A0 (C3 Z hg10 Z) Z<|ge 8 Z Z Z
    ·refine oB (bf hx13 hg10) fun x11 hx11 hx13=>oB hx13 fun x12 hx12 hx13=>?_
     obtain rfl:=os hx13
     exact gF Z hg10<|A0 (D0 Z Z Z) Z<|gF Z hg10<|qm Z<|gF Z hg10<|qm Z<|gF Z hg10<|A0 (D4 (f:=(cL 3 A6)) Z Z hx11) Z<|gF Z hg10<|A0 (F9 Z Z) Z<|gF Z hg10<|B2 (rs:=[.b x12]) Z Z (A1 (C9 Z) (A1 Z B3)) ((A65 hx12).frz)<|gF Z hg10<|A0 (M9 Z) Z<|A0 (C2 Z hg10 Z) Z<|ge 8 Z Z Z
    refine es (ra7 Z Z Z Z Z Z Z)<|wi hs5 Z (fun hc14 hs5=>?_) fun hc14 hs5=>?_
    ·refine G5<|r0<|qm Z<|A0 (D9 Z Z) Z<|qm Z<|en (ra6 Z Z Z Z Z Z) ?_
     cases hs5
     exact lnT () Z (su6 Z Z Z Z Z Z)
    ·refine B9<|s0<|qm Z<|A0 (D9 Z Z) Z<|qm Z<|es (ra6 Z Z Z Z Z Z)<|s0<|qm Z<|es (ra7 Z Z Z Z Z Z Z)<|C5<|oB hs5 fun o23 ho23 hs5=>wl (fun s15=>[(1,(.ptr (H.length+0) 0)),(6,.i x1.2.1),(9,(.seq 1 (Ze (cL 3 A6) x3))),(10,(.asl (H.length+1) (Zh s15.2))),(11,(.i (w64 (s5.1+1)))),(12,.i s5.2.1),(13,.i s15.1)]) (fun (q16:Unit) s15=>[(.cells (A9 a0)),(.arr 1 false (Ze cI s15.2))]) 2 (fun r e s' H'=>PX 2 [(1,(.ptr (H.length+0) 0)),(6,.i x1.2.1),(9,(.seq 1 (Ze (cL 3 A6) x3))),(10,(.asl (H.length+1) (Zh r))),(11,(.i (w64 (s5.1+1)))),(12,.i s5.2.1)] (H++[(.cells (A9 a0)),(.arr 1 false (Ze cI r))]) e s' H') () ho23 Z Z (fun _ _=>rfl) (fun _=>rfl) Z (fun s15=>(bdc (J6 Z) (bdc A4 (bdc G6 (bdc (R3 Z) (bdc A4 (bdc A4 (bdc A4 bdn)))))))) (fun q16 s15 ys15 hs15=>?_) ?_
     ·unfold A1a at hs15
      refine B8<|s0<|qm Z<|qm Z<|A0 (B7z (f:=cI) Z Z Z) Z<|A0 (I0 Z Z) Z<|es (ra8 Z Z Z Z Z Z Z Z)<|wi hs15 Z (fun hc17 hs15=>?_) fun hc17 hs15=>?_
      ·refine B9<|B8<|C5<|s0<|oB hs15 fun x18 hx18 hs15=>oB hs15 fun x19 hx19 hs15=>qm Z<|qm Z<|A0 (D4 (f:=(cL 3 A6)) Z Z hx18) Z<|A0 (F9 Z Z) Z<|qm Z<|A0 (D4 (f:=A6) Z Z hx19) Z<|A0 (R1 (ds:=(A6 x19)) Z Z) Z<|A0 (F9 Z Z) Z<|A0 (G2 Z Z) Z<|es (ra8 Z Z Z Z Z Z Z Z)<|wi hs15 Z (fun hc20 hs15=>?_) fun hc20 hs15=>?_
       ·refine r0<|oB hs15 fun x21 hx21 hs15=>oB hs15 fun x22 hx22 hs15=>qm Z<|qm Z<|qm Z<|qm Z<|A0 (A2z (f:=cI) Z Z Z Z hx21) Z<|A0 (A1m (x:=(.i x21)) Z Z (Zi _) (A2e hx21) Z) Z<|A0 (D9 Z Z) Z<|A0 (A2z (f:=cI) Z Z Z Z hx22) Z<|P5 (B2c (ds:=cI (w64 (x21+1))) Z Z Z Z Z (Zi _) (A2e hx22) Z Z) Z ?_
        rw[B18]
        rw[show Zh s15.2=Zh (T3 s15.2 s15.1 (w64 (x21+1))) from (Y7 _ _ _).symm]
        refine en (ra7 Z Z Z Z Z Z Z)<|r0<|qm Z<|A0 (D9 Z Z) Z<|qm Z<|en (ra7 Z Z Z Z Z Z Z) ?_
        cases hs15
        exact lnT () Z (su7 Z Z Z Z Z Z Z)
       ·refine B9<|r0<|qm Z<|A0 (D9 Z Z) Z<|qm Z<|en (ra7 Z Z Z Z Z Z Z) ?_
        cases hs15
        exact lnT () Z (su7 Z Z Z Z Z Z Z)
      ·refine G5 ?_
       obtain rfl:=os hs15
       exact lx Z px (su6 Z Z Z Z Z Z)
     ·rintro e s' H'-⟨rfl,rfl,rfl⟩
      refine r0<|qm Z<|A0 (D9 Z Z) Z<|qm Z<|en (ra6 Z Z Z Z Z Z) ?_
      cases hs5
      exact lnT () Z (su6 Z Z Z Z Z Z)
   ·refine G5 ?_
    obtain rfl:=os hs5
    exact lx Z px (su2 Z Z)
  ·rintro e s' H'-⟨rfl,rfl,rfl⟩
   refine sg 2 Z<|A0 A49 Z<|A0 A49 Z<|es (ra4 Z Z Z Z)<|B8<|s0<|qm Z<|es (ra5 Z Z Z Z Z)<|C5<|oB h fun o37 ho37 h=>wl (fun s25=>[(10,(.asl (H.length+1) (Zh o24.2))),(11,.i o24.1),(14,(.asl (H.length+2) (Zh s25.2.1))),(15,(.asl (H.length+3) (Zh s25.2.2))),(16,.i s25.1)]) (fun (q26:Unit) s25=>[(.cells (A9 a0)),(.arr 1 false (Ze cI o24.2)),(.arr 1 false (Ze cI s25.2.1)),(.arr 1 false (Ze cI s25.2.2))]) 4 (fun r e s' H'=>PX 4 [(14,(.asl (H.length+2) (Zh r.1))),(15,(.asl (H.length+3) (Zh r.2)))] (H++[(.cells (A9 a0)),(.arr 1 false (Ze cI o24.2)),(.arr 1 false (Ze cI r.1)),(.arr 1 false (Ze cI r.2))]) e s' H') () ho37 Z Z (fun _ _=>rfl) (fun _=>rfl) Z (fun s25=>(bdc (R3 Z) (bdc A4 (bdc (R3 Z) (bdc (R3 Z) (bdc A4 bdn)))))) (fun q26 s25 ys25 hs25=>?_) ?_
   ·unfold A3g at hs25
    refine B8<|s0<|qm Z<|qm Z<|A0 (B7z (f:=cI) Z Z Z) Z<|A0 (I0 Z Z) Z<|es (ra6 Z Z Z Z Z Z)<|wi hs25 Z (fun hc27 hs25=>?_) fun hc27 hs25=>?_
    ·refine B9<|B8<|C5<|B8<|s0<|oB hs25 fun x28 hx28 hs25=>qm Z<|qm Z<|A0 (A2z (f:=cI) Z Z Z Z hx28) Z<|A0 (A1m (x:=(.i x28)) Z Z (Zi _) (A2e hx28) Z) Z<|qm Z<|A0 (G2 Z Z) Z<|es (ra6 Z Z Z Z Z Z)<|wi hs25 Z (fun hc29 hs25=>?_) fun hc29 hs25=>?_
     ·refine r0<|oB hs25 fun x30 hx30 hs25=>qm Z<|qm Z<|A0 (J2 (rows:=Ze cI [s25.1]) Z Z (D8 (fun _=>rfl) _)) Z<|O4 (A0r (f:=cI) Z Z Z Z X1 (fun _=>rfl) hx30) Z<|qm Z<|en (ra5 Z Z Z Z Z)<|s0<|oB hs25 fun x31 hx31 hs25=>qm Z<|qm Z<|A0 (A2z (f:=cI) Z Z Z Z hx31) Z<|A0 (A1m (x:=(.i x31)) Z Z (Zi _) (A2e hx31) Z) Z<|A0 (X6 Z Z) Z<|es (ra6 Z Z Z Z Z Z)<|wi hs25 Z (fun hc32 hs25=>?_) fun hc32 hs25=>?_
      ·refine r0<|oB hs25 fun x33 hx33 hs25=>qm Z<|qm Z<|A0 (J2 (rows:=Ze cI [s25.1]) Z Z (D8 (fun _=>rfl) _)) Z<|O4 (A0r (f:=cI) Z Z Z Z X1 (fun _=>rfl) hx33) Z<|qm Z<|en (ra5 Z Z Z Z Z)<|r0<|qm Z<|A0 (D9 Z Z) Z<|qm Z<|en (ra5 Z Z Z Z Z) ?_
       cases hs25
       exact lnT () Z (su5 Z Z Z Z Z)
      ·refine B9<|r0<|qm Z<|A0 (D9 Z Z) Z<|qm Z<|en (ra5 Z Z Z Z Z) ?_
       cases hs25
       exact lnT () Z (su5 Z Z Z Z Z)
     ·refine B9<|s0<|oB hs25 fun x34 hx34 hs25=>qm Z<|qm Z<|A0 (A2z (f:=cI) Z Z Z Z hx34) Z<|A0 (A1m (x:=(.i x34)) Z Z (Zi _) (A2e hx34) Z) Z<|A0 (X6 Z Z) Z<|es (ra6 Z Z Z Z Z Z)<|wi hs25 Z (fun hc35 hs25=>?_) fun hc35 hs25=>?_
      ·refine r0<|oB hs25 fun x36 hx36 hs25=>qm Z<|qm Z<|A0 (J2 (rows:=Ze cI [s25.1]) Z Z (D8 (fun _=>rfl) _)) Z<|O4 (A0r (f:=cI) Z Z Z Z X1 (fun _=>rfl) hx36) Z<|qm Z<|en (ra5 Z Z Z Z Z)<|r0<|qm Z<|A0 (D9 Z Z) Z<|qm Z<|en (ra5 Z Z Z Z Z) ?_
       cases hs25
       exact lnT () Z (su5 Z Z Z Z Z)
      ·refine B9<|r0<|qm Z<|A0 (D9 Z Z) Z<|qm Z<|en (ra5 Z Z Z Z Z) ?_
       cases hs25
       exact lnT () Z (su5 Z Z Z Z Z)
    ·refine G5 ?_
     obtain rfl:=os hs25
     exact lx Z px (su2 Z Z)
   ·rintro e s' H'-⟨rfl,rfl,rfl⟩
    refine s0<|qm Z<|qm Z<|qm Z<|qm Z<|qm Z<|es (ra3 Z Z Z)<|C7 ?_
    obtain rfl:=os h
    refine Exists.intro [(.fresh 1 (Ze cI o37.1)),(.fresh 1 (Ze cI o37.2)),.i 0] (ZE ?_ Z)
    exact retq trivial (A7 Z (A7 Z (A7 Z B7))) (A5 (A5q Z (Zi _)) (A5 (A5q Z (Zi _)) (A5 Z B6))) (A3 X7 (A3 X7 (A3 A4 B1)))
def A3k (a0:PaShow) (x6:(List (List PaUse))) (s7:(Int×Int)):Option ((Int×Int)⊕Int) :=
 if (decide (s7.2<(Zh x6:Int)))=true then
  (idx x6 s7.2).bind fun x10 =>
  (A16 a0 x10).bind fun x11 =>
  (idx x6 s7.2).bind fun x12 =>
  (O0 x12).bind fun x13 =>
  if (x13==0)=true then
  some (.inl ((A47 s7.1 (w64 (0-x11.1))),(w64 (s7.2+1))))
  else
  some (.inl (s7.1,(w64 (s7.2+1))))
 else
  some (.inr s7.1)
def A77 (a0:PaShow):Option (Int×Int) :=
 (A32 a0).bind fun x1 =>
 (if ((x1.2.2.2==0)&&(x1.2.1==0))=true then
  some 4
  else
  some x1.2.2.2).bind fun (p3:Int) =>
 if (p3 != 0)=true then
  some (0,p3)
 else
  (A18 a0).bind fun x6 =>
  (loop (A3k a0 x6) (10001,0)).bind fun (o15:Int) =>
  if (decide (o15>10000))=true then
  some (0,9)
  else
  some (o15,0)
theorem C3y {c:Sc} {H:A2} {a0:PaShow} {r:(Int×Int)} (h:A77 a0=some r) :
  F0 tab c H (.fn (.func 32) [] []) [(.agg (A9 a0))] [.i r.1,.i r.2]:= by
 unfold A77 at h
 refine cE Z Z<|sg 0 Z<|A0 (G0 (cs:=A9 a0) Z Z Z) Z<|qm Z<|qm Z<|es (ra1 Z)<|s0<|oB h fun x1 hx1 h=>A0 (D0 Z Z Z) Z<|B2 (rs:=[(.seq 3 (Ze A6 x1.1)),.i x1.2.1,.i x1.2.2.1,.i x1.2.2.2]) Z Z (A1 (C9 Z) B3) ((A9h hx1).frz)<|qm Z<|A0 (A8 Z Z) Z<|A0 (A8 Z Z) Z<|A0 (A8 Z Z) Z<|A0 (A8 Z Z) Z<|qm Z<|qm Z<|qm Z<|qm Z<|es (ra3 Z Z Z)<|B8<|s0<|qm Z<|A0 (G2 Z Z) Z<|qm Z<|gp 3 25 (.b ((x1.2.2.2==0)&&(x1.2.1==0))) 22 Z Z (fun hg2=>?_) (fun hg2=>?_) ?_
 ·exact gT Z hg2<|qm Z<|gT Z hg2<|A0 (G2 Z Z) Z<|A0 (C3 Z hg2 Z) Z<|ge 3 (by rw[hg2];rfl) Z Z
 ·exact nT Z hg2 Z<|nT Z hg2 Z<|A0 (C2 Z hg2 Z) Z<|ge 3 (by rw[hg2];rfl) Z Z
 refine es (ra3 Z Z Z)<|oB h fun p3 hp3 h=>A6v (Q1:=fun e s' H'=>e=.normal∧s'=[(1,(.ptr (H.length+0) 0)),(7,.i p3)]∧H'=(H++[(.cells (A9 a0))])) ?_ ?_
 ·refine wi hp3 Z (fun hc4 hp3=>?_) fun hc4 hp3=>?_
  ·refine r0<|qm Z<|en (ra2 Z Z) ?_
   obtain rfl:=os hp3
   exact me (ZE Z (ZE Z Z)) (su2 Z Z)
  ·refine B9 ?_
   obtain rfl:=os hp3
   exact me (ZE Z (ZE Z Z)) (su2 Z Z)
 ·rintro e s' H' ⟨rfl,rfl,rfl⟩
  refine B8<|s0<|qm Z<|A0 (I8 Z Z) Z<|es (ra3 Z Z Z)<|wi h Z (fun hc5 h=>?_) fun hc5 h=>?_
  ·refine s0<|qm Z<|qm Z<|qm Z<|es (ra2 Z Z)<|C7 ?_
   obtain rfl:=os h
   exact retq trivial (A7 Z (A7 Z B7)) (A5 Z (A5 Z B6)) (A3 A4 (A3 A4 B1))
  ·refine B9<|s0<|oB h fun x6 hx6 h=>A0 (D0 Z Z Z) Z<|B2 (rs:=[(.seq 1 (Ze (cL 3 A6) x6))]) Z Z (A1 (C9 Z) B3) ((A72 hx6).frz)<|qm Z<|es (ra2 Z Z)<|s0<|qm Z<|es (ra3 Z Z Z)<|B8<|s0<|qm Z<|es (ra4 Z Z Z Z)<|C5<|oB h fun o15 ho15 h=>wl (fun s7=>[(1,(.ptr (H.length+0) 0)),(8,(.seq 1 (Ze (cL 3 A6) x6))),(9,.i s7.1),(10,.i s7.2)]) (fun (q8:Unit) s7=>[(.cells (A9 a0))]) 1 (fun r e s' H'=>PX 0 [(9,.i r)] (H++[(.cells (A9 a0))]) e s' H') () ho15 Z Z (fun _ _=>rfl) (fun _=>rfl) Z (fun s7=>(bdc (J6 Z) (bdc G6 (bdc A4 (bdc A4 bdn))))) (fun q8 s7 ys7 hs7=>?_) ?_
   ·unfold A3k at hs7
    refine B8<|s0<|qm Z<|qm Z<|A0 (F1 (f:=(cL 3 A6)) Z) Z<|A0 (I0 Z Z) Z<|es (ra5 Z Z Z Z Z)<|wi hs7 Z (fun hc9 hs7=>?_) fun hc9 hs7=>?_
    ·refine B9<|B8<|C5<|s0<|oB hs7 fun x10 hx10 hs7=>oB hs7 fun x11 hx11 hs7=>A0 (D0 Z Z Z) Z<|qm Z<|qm Z<|A0 (D4 (f:=(cL 3 A6)) Z Z hx10) Z<|A0 (F9 Z Z) Z<|B2 (rs:=[.i x11.1,.i x11.2]) Z Z (A1 (C9 Z) (A1 Z B3)) ((A71 hx11).frz)<|qm Z<|A0 (A8 Z Z) Z<|A0 (A8 Z Z) Z<|qm Z<|qm Z<|es (ra5 Z Z Z Z Z)<|s0<|oB hs7 fun x12 hx12 hs7=>oB hs7 fun x13 hx13 hs7=>qm Z<|qm Z<|A0 (D4 (f:=(cL 3 A6)) Z Z hx12) Z<|A0 (F9 Z Z) Z<|B2 (rs:=[.i x13]) Z Z (A1 Z B3) ((P9 hx13).frz)<|A0 (G2 Z Z) Z<|es (ra6 Z Z Z Z Z Z)<|wi hs7 Z (fun hc14 hs7=>?_) fun hc14 hs7=>?_
     ·refine r0<|qm Z<|qm Z<|A0 (W6 Z Z) Z<|A0 (C88 Z Z) Z<|qm Z<|en (ra4 Z Z Z Z)<|r0<|qm Z<|A0 (D9 Z Z) Z<|qm Z<|en (ra4 Z Z Z Z) ?_
      cases hs7
      exact lnT () Z (su4 Z Z Z Z)
     ·refine B9<|r0<|qm Z<|A0 (D9 Z Z) Z<|qm Z<|en (ra4 Z Z Z Z) ?_
      cases hs7
      exact lnT () Z (su4 Z Z Z Z)
    ·refine G5 ?_
     obtain rfl:=os hs7
     exact lx Z px (su1 Z)
   ·rintro e s' H'-⟨rfl,rfl,rfl⟩
    refine B8<|s0<|qm Z<|A0 (X6 Z Z) Z<|es (ra2 Z Z)<|wi h Z (fun hc16 h=>?_) fun hc16 h=>?_
    ·refine s0<|qm Z<|qm Z<|es (ra2 Z Z)<|C7 ?_
     obtain rfl:=os h
     exact retq trivial (A7 Z (A7 Z B7)) (A5 Z (A5 Z B6)) (A3 A4 (A3 A4 B1))
    ·refine B9<|s0<|qm Z<|qm Z<|qm Z<|es (ra2 Z Z)<|C7 ?_
     obtain rfl:=os h
     exact retq trivial (A7 Z (A7 Z B7)) (A5 Z (A5 Z B6)) (A3 A4 (A3 A4 B1))
def A3s (a0:PaShow):Option Bool :=
 (A0f a0).bind fun x1 =>
 (A32 a0).bind fun x2 =>
 (A5x x1.1 x2.1).bind fun x3 =>
 if ((((!x3)||(x1.2.1 != x2.2.1))||(x1.2.2.1 != x2.2.2.1))||(x1.2.2.2 != x2.2.2.2))=true then
  some false
 else
  (A5r a0).bind fun x8 =>
  (A76 a0).bind fun x9 =>
  (W3 x8.1 x9.1).bind fun x10 =>
  (if (!x10)=true then
  some true
  else
  (W3 x8.2.1 x9.2.1).bind fun x12 =>
  some (!x12)).bind fun x13 =>
  if (x13||(x8.2.2 != x9.2.2))=true then
  some false
  else
  (A7j a0).bind fun x16 =>
  (A77 a0).bind fun x17 =>
  (if ((x16.1==x17.1)&&(x16.2==x17.2))=true then
   (O6).bind fun x20 =>
   some x20
  else
   some false).bind fun x21 =>
  some x21
theorem B4w {c:Sc} {H:A2} (hscv:T4 c H=true) {a0:PaShow} {r:Bool} (h:A3s a0=some r) :
  F0 tab c H (.fn (.func 5) [] []) [(.agg (A9 a0))] [.b r]:= by
 unfold A3s at h
 refine cE Z Z<|sg 0 Z<|A0 (G0 (cs:=A9 a0) Z Z Z) Z<|qm Z<|es (ra1 Z)<|s0<|oB h fun x1 hx1 h=>A0 (D0 Z Z Z) Z<|B2 (rs:=[(.seq 3 (Ze A6 x1.1)),.i x1.2.1,.i x1.2.2.1,.i x1.2.2.2]) Z Z (A1 (C9 Z) B3) ((A2l (A5z hscv) hx1).frz)<|qm Z<|A0 (A8 Z Z) Z<|A0 (A8 Z Z) Z<|A0 (A8 Z Z) Z<|A0 (A8 Z Z) Z<|qm Z<|qm Z<|qm Z<|qm Z<|es (ra5 Z Z Z Z Z)<|s0<|oB h fun x2 hx2 h=>A0 (D0 Z Z Z) Z<|B2 (rs:=[(.seq 3 (Ze A6 x2.1)),.i x2.2.1,.i x2.2.2.1,.i x2.2.2.2]) Z Z (A1 (C9 Z) B3) ((A9h hx2).frz)<|qm Z<|A0 (A8 Z Z) Z<|A0 (A8 Z Z) Z<|A0 (A8 Z Z) Z<|A0 (A8 Z Z) Z<|qm Z<|qm Z<|qm Z<|qm Z<|es (ra9 Z Z Z Z Z Z Z Z Z)<|B8<|s0<|oB h fun x3 hx3 h=>qm Z<|qm Z<|B2 (rs:=[.b x3]) Z Z (A1 Z (A1 Z B3)) ((B4d hx3).frz)<|A0 (M9 Z) Z<|qm Z<|gp 4 37 (.b ((!x3)||(x1.2.1 != x2.2.1))) 33 Z Z (fun hg4=>?_) (fun hg4=>?_) ?_
 ·exact nF Z hg4 Z<|nF Z hg4 Z<|nF Z hg4 Z<|A0 (C3 Z hg4 Z) Z<|ge 4 (by rw[hg4];rfl) Z Z
 ·exact gF Z hg4<|qm Z<|gF Z hg4<|qm Z<|gF Z hg4<|A0 (I8 Z Z) Z<|A0 (C2 Z hg4 Z) Z<|ge 4 (by rw[hg4];rfl) Z Z
 refine qm Z<|gp 4 42 (.b (((!x3)||(x1.2.1 != x2.2.1))||(x1.2.2.1 != x2.2.2.1))) 38 Z Z (fun hg5=>?_) (fun hg5=>?_) ?_
 ·exact nF Z hg5 Z<|nF Z hg5 Z<|nF Z hg5 Z<|A0 (C3 Z hg5 Z) Z<|ge 4 (by rw[hg5];rfl) Z Z
 ·exact gF Z hg5<|qm Z<|gF Z hg5<|qm Z<|gF Z hg5<|A0 (I8 Z Z) Z<|A0 (C2 Z hg5 Z) Z<|ge 4 (by rw[hg5];rfl) Z Z
 refine qm Z<|gp 4 47 (.b ((((!x3)||(x1.2.1 != x2.2.1))||(x1.2.2.1 != x2.2.2.1))||(x1.2.2.2 != x2.2.2.2))) 43 Z Z (fun hg6=>?_) (fun hg6=>?_) ?_
 ·exact nF Z hg6 Z<|nF Z hg6 Z<|nF Z hg6 Z<|A0 (C3 Z hg6 Z) Z<|ge 4 (by rw[hg6];rfl) Z Z
 ·exact gF Z hg6<|qm Z<|gF Z hg6<|qm Z<|gF Z hg6<|A0 (I8 Z Z) Z<|A0 (C2 Z hg6 Z) Z<|ge 4 (by rw[hg6];rfl) Z Z
 refine es (ra2 Z Z)<|wi h Z (fun hc7 h=>?_) fun hc7 h=>?_
 ·refine s0<|qm Z<|es (ra1 Z)<|C7 ?_
  obtain rfl:=os h
  exact retq trivial (A7 Z B7) (A5 Z B6) (A3 A4 B1)
 ·refine B9<|s0<|oB h fun x8 hx8 h=>A0 (D0 Z Z Z) Z<|B2 (rs:=[(.seq 1 (Ze cI x8.1)),(.seq 1 (Ze cI x8.2.1)),.i x8.2.2]) Z Z (A1 (C9 Z) B3) ((B0z (A5z hscv) hx8).frz)<|qm Z<|A0 (A8 Z Z) Z<|A0 (A8 Z Z) Z<|A0 (A8 Z Z) Z<|qm Z<|qm Z<|qm Z<|es (ra4 Z Z Z Z)<|s0<|oB h fun x9 hx9 h=>A0 (D0 Z Z Z) Z<|B2 (rs:=[(.seq 1 (Ze cI x9.1)),(.seq 1 (Ze cI x9.2.1)),.i x9.2.2]) Z Z (A1 (C9 Z) B3) (C3x hx9)<|qm Z<|A0 (A8 Z Z) Z<|A0 (A8 Z Z) Z<|A0 (A8 Z Z) Z<|qm Z<|qm Z<|qm Z<|es (ra7 Z Z Z Z Z Z Z)<|B8<|s0<|oB h fun x10 hx10 h=>oB h fun x13 hx13 h=>qm Z<|qm Z<|B2 (rs:=[.b x10]) Z Z (A1 Z (A1 Z B3)) ((Z1 hx10).frz)<|A0 (M9 Z) Z<|qm Z<|gp 5 69 (.b x13) 64 Z Z (fun hg11=>?_) (fun hg11=>?_) ?_
  ·obtain rfl:=os (bt hx13 hg11)
   exact nF Z hg11 Z<|nF Z hg11 Z<|G4 (D2 Z (by rw[hg11];rfl)) Z<|nF Z hg11 Z<|A0 (C3 Z hg11 Z) Z<|ge 5 Z Z Z
  ·refine oB (bf hx13 hg11) fun x12 hx12 hx13=>?_
   obtain rfl:=os hx13
   exact gF Z hg11<|qm Z<|gF Z hg11<|qm Z<|gF Z hg11<|B2 (rs:=[.b x12]) Z Z (A1 Z (A1 Z B3)) ((Z1 hx12).frz)<|gF Z hg11<|A0 (M9 Z) Z<|A0 (C2 Z hg11 Z) Z<|ge 5 Z Z Z
  refine qm Z<|gp 4 74 (.b (x13||(x8.2.2 != x9.2.2))) 70 Z Z (fun hg14=>?_) (fun hg14=>?_) ?_
  ·exact nF Z hg14 Z<|nF Z hg14 Z<|nF Z hg14 Z<|A0 (C3 Z hg14 Z) Z<|ge 4 (by rw[hg14];rfl) Z Z
  ·exact gF Z hg14<|qm Z<|gF Z hg14<|qm Z<|gF Z hg14<|A0 (I8 Z Z) Z<|A0 (C2 Z hg14 Z) Z<|ge 4 (by rw[hg14];rfl) Z Z
  refine es (ra2 Z Z)<|wi h Z (fun hc15 h=>?_) fun hc15 h=>?_
  ·refine s0<|qm Z<|es (ra1 Z)<|C7 ?_
   obtain rfl:=os h
   exact retq trivial (A7 Z B7) (A5 Z B6) (A3 A4 B1)
  ·refine B9<|s0<|oB h fun x16 hx16 h=>A0 (D0 Z Z Z) Z<|B2 (rs:=[.i x16.1,.i x16.2]) Z Z (A1 (C9 Z) B3) ((B58 (A5z hscv) hx16).frz)<|qm Z<|A0 (A8 Z Z) Z<|A0 (A8 Z Z) Z<|qm Z<|qm Z<|es (ra3 Z Z Z)<|s0<|oB h fun x17 hx17 h=>A0 (D0 Z Z Z) Z<|B2 (rs:=[.i x17.1,.i x17.2]) Z Z (A1 (C9 Z) B3) ((C3y hx17).frz)<|qm Z<|A0 (A8 Z Z) Z<|A0 (A8 Z Z) Z<|qm Z<|qm Z<|es (ra4 Z Z Z Z)<|s0<|oB h fun x21 hx21 h=>qm Z<|qm Z<|A0 (G2 Z Z) Z<|qm Z<|gp 4 92 (.b ((x16.1==x17.1)&&(x16.2==x17.2))) 88 Z Z (fun hg18=>?_) (fun hg18=>?_) ?_
   ·exact gT Z hg18<|qm Z<|gT Z hg18<|qm Z<|gT Z hg18<|A0 (G2 Z Z) Z<|A0 (C3 Z hg18 Z) Z<|ge 4 (by rw[hg18];rfl) Z Z
   ·exact nT Z hg18 Z<|nT Z hg18 Z<|nT Z hg18 Z<|A0 (C2 Z hg18 Z) Z<|ge 4 (by rw[hg18];rfl) Z Z
   refine qm Z<|gp 2 95 (.b x21) 93 Z Z (fun hg19=>?_) (fun hg19=>?_) ?_
   ·refine oB (bt hx21 hg19) fun x20 hx20 hx21=>?_
    obtain rfl:=os hx21
    exact gT Z hg19<|B2 (rs:=[.b x20]) Z Z B3 ((N5 (A5z hscv) hx20).frz)<|A0 (C3 Z hg19 Z) Z<|ge 2 Z Z Z
   ·obtain rfl:=os (bf hx21 hg19)
    exact G4 (D2 Z (by rw[hg19];rfl)) Z<|A0 (C2 Z hg19 Z) Z<|ge 2 Z Z Z
   refine qm Z<|es (ra1 Z)<|C7 ?_
   obtain rfl:=os h
   exact retq trivial (A7 Z B7) (A5 Z B6) (A3 A4 B1)
end Pw
end
section
namespace Pw
open Go Am
theorem D3x (s:PaShow) (p:List PaUse):decide ((I7 s p).1=0)=B6e s p:= by
 have:=(A37 s p).1
 unfold B6e
 rw[Z00]
 simp;omega
def D9p (o:Option (List PaUse)):List PaUse×Bool:=match o with|none=>([],false)|some b=>(b,true)
theorem B9j {α:Type} [Inhabited α] (q:α→Bool) {l:List α} {i:Nat} (hi:i<l.length):(l.take (i+1)).filter q=if q l[i]! then (l.take i).filter q++[l[i]!] else (l.take i).filter q:= by
 rw[ZI hi,Z1q,← getElem!_pos l i hi,Z08,Z4m]
 cases q l[i]! <;> simp
theorem B2n (s:PaShow):A32 s=some (if (chk s).2.2=0 then (match fm (A3x s) (PA s) with|some b=>(b,F6 b,O9 s b,0)|none=>([],0,0,0)) else ([],0,0,(chk s).2.2)):= by
 unfold A32
 rw[A0y]
 simp only[Zd]
 by_cases h:(chk s).2.2=0
 ·have hs:=(Q5 s).mp h
  have hF:=hs.figures
  have hlen:=B5d hs hF []
  have hPU:=C58 hs
  rw[if_neg (by rw[h];decide),B07 hs,if_pos h]
  simp only[Zd]
  unfold PA
  generalize hL:PL s (F3 s) s.Figures.length []=L at hlen hPU
  obtain⟨b,hb,hbp,_⟩:=A7d hs
  unfold PA at hb
  rw[hL]at hb
  have hloop:loop (A1c s L) (([]:List PaUse),false,0)=some b:= by
   have:=N4 (b:=A1c s L) (fun i=>((D9p (fm (A3x s) ((L.take i).filter (B6e s)))).1,(D9p (fm (A3x s) ((L.take i).filter (B6e s)))).2,(i:Int))) L.length (r:=b) (by omega) (fun i hi=>by
    have hp:=hPU _ (J1 hi)
    have hpl:=hp.len
    have hidx:=G9 hi
    have htf:=B9j (B6e s) hi
    generalize L[i]! = p at *
    rw[htf]
    unfold A1c
    simp only[]
    rw[if_pos (by simpa using hi),hidx]
    simp only[Zd]
    rw[B05 hs hp,D3x,D7 (by omega)]
    simp only[Zd]
    cases hc:B6e s p
    ·rfl
    ·simp only[Z0s,Zj,if_false,if_true]
     rw[Q7 (by omega),C6m,A4h hs hp]
     cases ho:fm (A3x s) ((L.take i).filter (B6e s)) with
     | none =>
      simp only[D9p]
      rw[Q7 (by simp)]
      rfl
     | some c =>
      have hcm:=B4n ho
      have hcu:=hPU c (Z01 (Z05.mp hcm).1)
      have hcl:=hcu.len
      simp only[D9p]
      rw[Q7 (by omega),A4h hs hcu]
      simp only[Zd,Z0s,Z35]
      have hk:=D7f hs hp hcu
      by_cases k:A3x s p<A3x s c
      ·rw[if_pos k]
       rcases hk.mp k with k1|⟨k1,k2⟩
       ·rw[if_pos (decide_eq_true k1)];rfl
       ·rw[if_neg (by simp;omega),if_pos (by rw[beq_iff_eq];exact k1)]
        simp only[Zd]
        rw[if_pos (decide_eq_true k2)];rfl
      ·rw[if_neg k]
       have k1:¬ F6 p<F6 c:=fun q=>k (hk.mpr (.inl q))
       rw[if_neg (by simpa using k1)]
       by_cases k2:F6 p=F6 c
       ·have k3:¬ O9 s p<O9 s c:=fun q=>k (hk.mpr (.inr ⟨k2,q⟩))
        rw[if_pos (by rw[beq_iff_eq];exact k2)]
        simp only[Zd]
        rw[if_neg (by simpa using k3)];rfl
       ·rw[if_neg (by rw[beq_iff_eq];exact k2)];rfl) (by
    rw[Z0g,hb]
    unfold A1c
    simp only[]
    rw[if_neg (by simp)];rfl)
   exact this
  have hbl:=hbp.ok.u.len
  rw[hloop]
  simp only[Zd]
  rw[Q7 (by omega),A4h hs hbp.ok.u,hb]
  rfl
 ·rw[if_pos (bne_iff_ne.mpr h),if_neg h]
theorem C5w (p:List PaUse) (hl:p.length≤1000):A5x p p=some true:= by
 unfold A5x
 rw[if_neg (by simp)]
 have e:=N4 (b:=A1d p p) (fun i=>(i:Int)) p.length (r:=.inr ()) (by omega) (fun i hi=>by
  unfold A1d
  rw[if_pos (by simpa using hi),G9 hi,D7 (by omega)]
  simp) (by
  unfold A1d
  rw[if_neg (by simp)])
 have e:loop (A1d p p) 0=some (.inr ()):=e
 rw[e];rfl
def B5o (s:PaShow) (p:List PaUse):Bool:=F6 p==A0m s&&B6e s p
def A9b (M:List (List PaUse)) (f:Nat):Int:=((M.filter fun p=>p[f]!.Gown == -1).length:Int)
def A6r (n:Nat) (M:List (List PaUse)):List Int:=(Z04 n).map (A9b M)
theorem A0b (n:Nat) (M:List (List PaUse)):(A6r n M).length=n:= by unfold A6r;simp
theorem B2a {n:Nat} {M:List (List PaUse)} {f:Nat} (h:f<n):(A6r n M)[f]! = A9b M f:= by
 rw[getElem!_pos _ f (by rw[A0b];exact h)]
 unfold A6r
 rw[Z3a,Z3x]
theorem D47 (M:List (List PaUse)) (p:List PaUse) (f:Nat):A9b (M++[p]) f=A9b M f+if p[f]!.Gown = -1 then 1 else 0:= by
 unfold A9b
 rw[Z1q,Z08,Z4m,Zm]
 by_cases h:p[f]!.Gown = -1
 ·rw[if_pos (beq_iff_eq.mpr h),if_pos h];rfl
 ·rw[if_neg (by rw[beq_iff_eq];exact h),if_neg h];rfl
theorem E0l {S T:List Int} {f:Nat} (h:S.length=T.length) (hf:f<S.length):idx (T.take f++S.drop f) (f:Int)=some S[f]!:= by
 refine A6g ?_
 rw[List.getElem?_append_right (by rw[ZC];omega),ZC,Z1g (by omega),Z2n,List.getElem?_drop,Z19,Zo hf,getElem!_pos S f hf]
theorem E0m {S T:List Int} {f:Nat} (h:S.length=T.length) (hf:f<S.length):T3 (T.take f++S.drop f) (f:Int) T[f]! = T.take (f+1)++S.drop (f+1):= by
 unfold T3
 rw[ZG,Z1r hf,List.set_append_right _ _ (by rw[ZC];omega),ZC,Z1g (by omega),Z2n,List.set_cons_zero,ZI (by omega),getElem!_pos T f (by omega),Zz]
 rfl
theorem D7u {S T:List Int} {f:Nat} (h:S.length=T.length) (hf:f<S.length) (e:T[f]! = S[f]!):T.take f++S.drop f=T.take (f+1)++S.drop (f+1):= by
 rw[getElem!_pos T f (by omega),getElem!_pos S f hf]at e
 rw[Z1r hf,ZI (by omega),e,Zz]
 rfl
theorem B7i {q r:Nat→Bool}:∀{n:Nat},(∀ f,f<n→q f=r f)→fsL q n=fsL r n
 | 0,_=>rfl
 | n+1,h=>by rw[A9x,A9x,h n (Nat.lt_succ_self n),B7i fun f hf=>h f (Nat.lt_succ_of_lt hf)]
theorem D9o {L:List (List PaUse)} {n i:Nat} (hi:i<L.length) (hp:(L[i]!).length=n) (hn:n≤100) {M:List (List PaUse)} (hM:M.length≤1000000) (m:Int) (l:List Int):loop (A1a L (m,(i:Int),l)) (0,A6r n M)=some (A6r n (M++[L[i]!])):= by
 have hidx:=G9 hi
 generalize L[i]! = p at *
 have hl:(A6r n M).length=(A6r n (M++[p])).length:= by rw[A0b,A0b]
 have e0:A6r n M=(A6r n (M++[p])).take 0++(A6r n M).drop 0:=rfl
 have:=N4 (b:=A1a L (m,(i:Int),l)) (fun f=>((f:Int),(A6r n (M++[p])).take f++(A6r n M).drop f)) n (r:=A6r n (M++[p])) (by omega) (fun f hf=>by
  have hfl:f<(A6r n M).length:= by rw[A0b];exact hf
  have hlen:((A6r n (M++[p])).take f++(A6r n M).drop f).length=n:= by
   rw[Zm,ZC,List.length_drop,A0b,A0b];omega
  have hmb:0≤A9b M f∧A9b M f≤1000000:= by
   unfold A9b
   have:=Z0a (fun p:List PaUse=>p[f]!.Gown == -1) M
   omega
  have hsn:=D47 M p f
  unfold A1a
  simp only[]
  rw[if_pos (by rw[hlen];simpa using hf),hidx]
  simp only[Zd]
  rw[G9 (by omega),E0l hl hfl,B2a hf,D7 (n:=(f:Int)+1) (by omega)]
  simp only[Zd]
  rw[D7 (n:=A9b M f+1) (by omega)]
  by_cases hg:p[f]!.Gown = -1
  ·rw[if_pos (by rw[beq_iff_eq];exact hg)]
   rw[if_pos hg]at hsn
   rw[← hsn,← B2a (M:=M++[p]) hf,E0m hl hfl]
   rfl
  ·rw[if_neg (by rw[beq_iff_eq];exact hg)]
   rw[if_neg hg,Z31]at hsn
   rw[D7u hl hfl (by rw[B2a hf,B2a hf,hsn])]
   rfl) (by
  rw[ZO (by rw[A0b];exact Zn _),Z2k (by rw[A0b];exact Zn _),ZV]
  unfold A1a
  simp only[]
  rw[A0b,if_neg (by simp)])
 exact this
theorem C9t (s:PaShow):A76 s=some (if (chk s).2.2=0 then (fsL (A1z s) s.Figures.length,fsL (A62 s) s.Figures.length,0) else ([],[],(chk s).2.2)):= by
 unfold A76
 rw[B2n]
 simp only[Zd]
 by_cases h:(chk s).2.2=0
 ·have hs:=(Q5 s).mp h
  have hF:=hs.figures
  have hlen:=B5d hs hF []
  have hPU:=C58 hs
  obtain⟨_,b,hb,_,hbw⟩:=A4o hs
  simp only[h,if_true,hb]
  rw[if_neg (by decide),B07 hs]
  simp only[Zd]
  generalize hL:PL s (F3 s) s.Figures.length []=L at hlen hPU
  have hmk:B34 8 (s.Figures.length:Int) (0:Int)=some (A6r s.Figures.length []):= by
   have e:A6r s.Figures.length []=Zx s.Figures.length 0:=List.eq_replicate_iff.mpr ⟨A0b _ _,fun x hx=>by
    unfold A6r at hx
    obtain⟨f,_,rfl⟩:=ZJ.mp hx
    rfl⟩
   unfold B34
   rw[if_pos ⟨by omega,by omega,by omega⟩,ZG,e]
  rw[hmk]
  simp only[Zd]
  have hMl:∀i,((L.take i).filter (B5o s)).length≤226981:=fun i=>by
   have:=Z0a (B5o s) (L.take i)
   rw[ZC]at this
   omega
  have h2:loop (A1b s (b,F6 b,O9 s b,0) L) (0,0,A6r s.Figures.length [])=some (((L.filter (B5o s)).length:Int),A6r s.Figures.length (L.filter (B5o s))):= by
   have:=N4 (b:=A1b s (b,F6 b,O9 s b,0) L) (fun i=>((((L.take i).filter (B5o s)).length:Int),(i:Int),A6r s.Figures.length ((L.take i).filter (B5o s)))) L.length (r:=(((L.filter (B5o s)).length:Int),A6r s.Figures.length (L.filter (B5o s)))) (by omega) (fun i hi=>by
    have hp:=hPU _ (J1 hi)
    have hpl:=hp.len
    have hM:=hMl i
    have htf:=B9j (B5o s) hi
    have hin:=D9o hi (n:=s.Figures.length) (by rw[hpl]) (by omega) (M:=(L.take i).filter (B5o s)) (by omega)
    have hidx:=G9 hi
    rw[htf]
    unfold A1b
    simp only[]
    rw[if_pos (by simpa using hi),hidx]
    simp only[Zd]
    rw[hin]
    generalize L[i]! = p at *
    rw[Q7 (by omega),B05 hs hp,D3x,hbw,D7 (n:=(i:Int)+1) (by omega),D7 (by omega)]
    simp only[Zd]
    unfold B5o
    have hne:(F6 p != A0m s) = !(F6 p==A0m s):=rfl
    rw[hne]
    cases F6 p==A0m s
    ·rfl
    ·cases B6e s p
     ·rfl
     ·simp) (by
    rw[Z0g]
    unfold A1b
    simp only[]
    rw[if_neg (by simp)])
   exact this
  rw[h2]
  simp only[Zd]
  have hM:=hMl L.length
  rw[Z0g]at hM
  have hPA:PA s=L.filter (B6e s):= by unfold PA;rw[hL]
  have hmem:∀p,p∈L.filter (B5o s)↔p∈PA s∧F6 p=A0m s:=fun p=>by
   rw[hPA,Z05,Z05]
   unfold B5o
   rw[Zc,beq_iff_eq]
   exact⟨fun q=>⟨⟨q.1,q.2.2⟩,q.2.1⟩,fun q=>⟨q.1.1,q.2,q.1.2⟩⟩
  generalize hMd:L.filter (B5o s)=M at hM hmem
  have hmust:∀f,f<s.Figures.length→(A9b M f==(M.length:Int))=A1z s f:=fun f _=>by
   have hiff:=Z3c (p:=fun p:List PaUse=>p[f]!.Gown == -1) (l:=M)
   rw[Z00,beq_iff_eq]
   unfold A9b A1z
   rw[Zt]
   constructor
   ·intro e p hp
    by_cases hw:F6 p=A0m s
    ·have:=hiff.mp (by omega) p ((hmem p).mpr ⟨hp,hw⟩)
     rw[this,Z1l]
    ·rw[beq_eq_false_iff_ne.mpr hw];rfl
   ·intro hall
    have:=hiff.mpr fun p hp=>by
     obtain⟨h1,h2⟩:=(hmem p).mp hp
     have:=hall p h1
     rw[beq_iff_eq.mpr h2]at this
     simpa using this
    omega
  have hmay:∀f,f<s.Figures.length→decide (A9b M f>0)=A62 s f:=fun f _=>by
   rw[Z00,decide_eq_true_eq]
   unfold A9b A62
   rw[Z1y]
   constructor
   ·intro hpos
    obtain⟨p,hp⟩:=List.exists_mem_of_length_pos (l:=M.filter fun p=>p[f]!.Gown == -1) (by omega)
    obtain⟨h1,h2⟩:=Z05.mp hp
    obtain⟨h3,h4⟩:=(hmem p).mp h1
    exact⟨p,h3,by rw[beq_iff_eq.mpr h4,h2];rfl⟩
   ·rintro⟨p,hp,h1⟩
    rw[Zc,beq_iff_eq]at h1
    have:=List.length_pos_of_mem (Z05.mpr ⟨(hmem p).mpr ⟨hp,h1.1⟩,h1.2⟩:p∈M.filter fun p=>p[f]!.Gown == -1)
    omega
  have h3:loop (A3g ((M.length:Int),A6r s.Figures.length M)) (0,([]:List Int),([]:List Int))=some (fsL (A1z s) s.Figures.length,fsL (A62 s) s.Figures.length):= by
   rw[← B7i hmust,← B7i hmay]
   rw[show ((0:Int),([]:List Int),([]:List Int))=(((0:Nat):Int),fsL (fun f=>A9b M f==(M.length:Int)) 0,fsL (fun f=>decide (A9b M f>0)) 0) from Z]
   refine N4 (fun f=>((f:Int),fsL (fun f=>A9b M f==(M.length:Int)) f,fsL (fun f=>decide (A9b M f>0)) f)) s.Figures.length (by omega) (fun f hf=>?_) ?_
   ·have l1:=A8p (fun f=>A9b M f==(M.length:Int)) f
    have l2:=A8p (fun f=>decide (A9b M f>0)) f
    unfold A3g
    simp only[]
    rw[if_pos (by rw[A0b];simpa using hf),G9 (by rw[A0b];exact hf),B2a hf,A0l (by omega) (by rw[Z1n];omega),A0l (by omega) (by rw[Z1n];omega),A9x,A9x,D7 (by omega)]
    simp only[Zd]
    cases A9b M f==(M.length:Int) <;> cases decide (A9b M f>0) <;> rfl
   ·unfold A3g
    simp only[]
    rw[A0b,if_neg (by simp)]
  rw[h3]
  rfl
 ·simp only[h,if_false]
  rw[if_pos (bne_iff_ne.mpr h)]
theorem D7i {s:PaShow} (hs:ShOk s) {p:List PaUse} (h:PlU s p):-300000≤(U3 s p).1∧(U3 s p).1≤310000:= by
 obtain⟨_,_,b3,_⟩:=C60 (I1 s p) (pays s p) _ (fun x hx=>(U8 hs h x hx).2.1) _ Z
 rw[show (pays s p).foldl (lsF (I1 s p)) (I1 s p 0,if I1 s p 0<0 then 0 else -1)=U3 s p from Z]at b3
 rcases b3 with e|⟨x,_,e⟩
 ·have:=B3f hs h 0
  rw[e];exact this
 ·rw[← e];exact B3f hs h x.2
def ndF (s:PaShow) (a:Int) (p:List PaUse):Int:=if F6 p=0 then A47 a (0-(U3 s p).1) else a
theorem D3m (s:PaShow):∀(l:List (List PaUse)) (a:Int),l.foldl (ndF s) a≤a∧(∀ p∈l,F6 p=0→l.foldl (ndF s) a≤0-(U3 s p).1)∧(l.foldl (ndF s) a=a∨∃ p∈l,F6 p=0∧l.foldl (ndF s) a=0-(U3 s p).1)
 | [],a=>⟨ZY _,by simp,.inl Z⟩
 | p::l,a=>by
  rw[Z0b]
  obtain⟨h1,h2,h3⟩:=D3m s l (ndF s a p)
  have hf:ndF s a p=if F6 p=0 then A47 a (0-(U3 s p).1) else a:=rfl
  by_cases hw:F6 p=0
  ·rw[if_pos hw]at hf
   have m:ndF s a p≤a∧ndF s a p≤0-(U3 s p).1∧(ndF s a p=a∨ndF s a p=0-(U3 s p).1):= by rw[hf];unfold A47;split <;> omega
   refine⟨by omega,fun q hq hq0=>?_,?_⟩
   ·rcases Zs.mp hq with rfl|hq
    ·omega
    ·exact h2 q hq hq0
   ·rcases h3 with e|⟨q,hq,hq0,e⟩
    ·rcases m.2.2 with e2|e2
     ·exact .inl (by omega)
     ·exact .inr ⟨p,Zv ..,hw,by omega⟩
    ·exact .inr ⟨q,Zp _ hq,hq0,e⟩
  ·rw[if_neg hw]at hf
   rw[hf]at h1 h2 h3 ⊢
   refine⟨h1,fun q hq hq0=>?_,?_⟩
   ·rcases Zs.mp hq with rfl|hq
    ·exact absurd hq0 hw
    ·exact h2 q hq hq0
   ·rcases h3 with e|⟨q,hq,hq0,e⟩
    ·exact .inl e
    ·exact .inr ⟨q,Zp _ hq,hq0,e⟩
theorem E2c (s:PaShow):0≤A0m s:= by
 unfold A0m
 split
 ·exact(A46 _).1
 ·exact ZY _
theorem C9u (s:PaShow):A77 s=some (if (chk s).2.2=0 then D3n s else (0,(chk s).2.2)):= by
 unfold A77
 rw[B2n]
 simp only[Zd]
 by_cases h:(chk s).2.2=0
 ·have hs:=(Q5 s).mp h
  have hF:=hs.figures
  have hlen:=B5d hs hF []
  have hPU:=C58 hs
  obtain⟨hmin,b,hb,hbp,hbw⟩:=A4o hs
  obtain⟨c,hc,hcf,hn,hcm⟩:=B3k hs
  have hcL:=B4n hcf
  have hcs:=A84 hs hc.u
  have hc0:=A46 c
  have hcb:=B0c hs hc.u
  simp only[h,if_true,hb,hbw]
  unfold D3n
  rw[hn]
  simp only
  by_cases hz:A0m s=0
  ·have h0:=hcm b hbp.ok
   have h1:=(A51 hs hbp.ok.u).mpr hbp.left
   have e1:F6 c=0:= by omega
   have e2:(I7 s c).1=0:= by omega
   rw[if_pos (by rw[hz];rfl)]
   simp only[Zd]
   rw[if_pos (by decide),if_neg (by omega),if_pos e2]
  ·rw[if_neg (by simpa using hz)]
   simp only[Zd]
   rw[if_neg (by decide),B07 hs]
   simp only[Zd]
   have hun:∀p,PlOk s p→F6 p=0→(I7 s p).1=0-(U3 s p).1∧0<(I7 s p).1:=fun p hp hw=>by
    have hsl:=A84 hs hp.u
    have hne:(I7 s p).1≠0:=fun e=>by
     have:=hmin p ⟨hp,(A51 hs hp.u).mp e⟩
     have:=E2c s
     omega
    have hneg:(U3 s p).1<0:=Int.not_le.mp fun q=>hne (hsl.2.2.1.mpr q)
    have:=hsl.2.2.2 hneg
    have:=(B0c hs hp.u).1
    omega
   have hok:∀p∈PL s (F3 s) s.Figures.length [],PlOk s p:=fun p hp=>((B3j hs (A3p hs)).mp hp).1
   obtain⟨n1,n2,n3⟩:=D3m s (PL s (F3 s) s.Figures.length []) 10001
   have hloop:loop (A3k s (PL s (F3 s) s.Figures.length [])) (10001,0)=some ((PL s (F3 s) s.Figures.length []).foldl (ndF s) 10001):= by
    refine X2 (PL s (F3 s) s.Figures.length []) (ndF s) 10001 (fun i t=>(t,(i:Int))) (by omega) (fun i hi=>?_) ?_
    ·have hp:=hPU _ (J1 hi)
     have hpl:=hp.len
     have hlb:=D7i hs hp
     have hidx:=G9 hi
     generalize (PL s (F3 s) s.Figures.length [])[i]! = p at *
     unfold A3k
     simp only[]
     rw[if_pos (by simpa using hi),hidx]
     simp only[Zd]
     rw[B06 hs hp,Q7 (by omega)]
     simp only[Zd]
     rw[D7 (n:=(i:Int)+1) (by omega),D7 (by omega)]
     unfold ndF
     by_cases hw:F6 p=0
     ·rw[if_pos (by rw[hw];rfl),if_pos hw];rfl
     ·rw[if_neg (by rw[beq_iff_eq];exact hw),if_neg hw];rfl
    ·unfold A3k
     simp only[]
     rw[if_neg (by simp)]
   rw[hloop]
   simp only[Zd]
   generalize (PL s (F3 s) s.Figures.length []).foldl (ndF s) 10001=r at *
   by_cases hw:F6 c=0
   ·obtain⟨k1,k2⟩:=hun c hc hw
    have k3:=n2 c hcL hw
    have k4:r=10001∨(I7 s c).1≤r:= by
     rcases n3 with e|⟨p,hp,hp0,e⟩
     ·exact .inl e
     ·obtain⟨j1,j2⟩:=hun p (hok p hp) hp0
      have:=hcm p (hok p hp)
      exact .inr (by omega)
    by_cases hbig:(I7 s c).1>10000
    ·rw[if_pos (by simp;omega),if_pos (.inr hbig)]
    ·rw[if_neg (by simp;omega),if_neg (by omega),if_neg (by omega)]
     have:r=(I7 s c).1:= by omega
     rw[this]
   ·have k4:r=10001:= by
     rcases n3 with e|⟨p,hp,hp0,e⟩
     ·exact e
     ·have:=hcm p (hok p hp)
      omega
    rw[k4,if_pos (by decide),if_pos (.inl (by omega))]
 ·simp only[h,if_false]
  rw[if_neg (by simp[h])]
  simp only[Zd]
  rw[if_pos (bne_iff_ne.mpr h)]
theorem C2n {s:PaShow} (hb:NB s):A3s s=some true:= by
 unfold A3s
 rw[B5c s hb,B2n,D2h s hb,C9t,D9k s hb,C9u,awake]
 simp only[Zd]
 by_cases h:(chk s).2.2=0
 ·have hs:=(Q5 s).mp h
  have hF:=hs.figures
  obtain⟨b,e,hbp,_⟩:=A7d hs
  have hbl:=hbp.ok.u.len
  have l1:=A8p (A1z s) s.Figures.length
  have l2:=A8p (A62 s) s.Figures.length
  simp only[h,if_true,e]
  rw[C5w b (by omega),B3d _ (by omega),B3d _ (by omega)]
  simp
 ·simp only[h,if_false]
  rw[C5w _ (by simp),B3d _ (by simp)]
  simp
end Pw
end
