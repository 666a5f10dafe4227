/- Texts that the claim stands on, one behind another. -/
import Derived.Test.YtjpjdglddmhplaaGreatA6
set_option linter.unusedVariables false
set_option linter.unusedSimpArgs false
set_option linter.unnecessarySimpa false
open And renaming intro→ZE
open Bool renaming and_eq_true→Zc,eq_iff_iff→Z03,false_eq_true→Zj,not_true→Z16,true_and→Z1e
open Classical renaming byContradiction→Z42
open Int renaming add_zero→Z2x,emod_lt_of_pos→Z58,emod_nonneg→Z4i,le_refl→Z04,le_trans→Z5y,natCast_nonneg→Z0w,tdiv_eq_ediv_of_nonneg→Z2p,tmod_eq_emod_of_nonneg→Z1u,tmod→Z3t,toNat_natCast→ZH,toNat_of_nonneg→Z3o,zero_add→Z5z
open List renaming all_eq_true→Zs,any_eq_false→Z40,any_eq_true→Z1o,append_assoc→ZB,append_nil→ZY,drop_eq_getElem_cons→Z1w,drop→Z3d,filter_append→Z57,filter_cons→Z27,filter_eq_nil_iff→Z31,flatMap_cons→Z1v,foldl_cons→Z0h,getElem?_eq_some_iff→Ze,getElem_append_left→Z49,getElem_map→Z37,getElem_mem→Z24,getElem_set_self→Z4s,getElem_zip→Z4a,length_append→Zm,length_cons→ZV,length_eq_zero_iff→Z0m,length_filter_le→Z1h,length_map→Zi,length_range→Z2i,length_replicate→Z1s,length_set→Z0u,length_singleton→Z39,length_take→ZD,length_zip→Z4j,length→Zh,map_append→ZZ,map_congr_left→Z3p,map_cons→Zv,map_map→Z1k,map→Zg,mem_append_left→Z0o,mem_append_right→Z08,mem_append→Zz,mem_cons_of_mem→Zp,mem_cons_self→Zw,mem_cons→Zt,mem_filter→Z09,mem_flatMap→Z2m,mem_iff_getElem→ZW,mem_map_of_mem→Z10,mem_map→ZI,mem_of_mem_take→Z00,mem_singleton→Z0b,mem_take_iff_getElem→Z0g,nil_append→Z05,pairwise_append→Z0e,pairwise_cons→Z1g,pairwise_iff_getElem→Z0f,range→Z0c,replicate→Zx,set_eq_of_length_le→Z1m,take_append_drop→Z1t,take_left→Z0a,take_length→Z15,take_of_length_le→ZQ,take_set→Z33,take_succ_cons→Z28,take_succ_eq_append_getElem→ZX,take_take→Z3s,zipWith_append→Z4z,zipWith→Z56,zip_append→Z2u
open Nat renaming div_add_mod→Z4e,div_le_self→Z5n,le_add_right→ZL,le_refl→Zo,le_succ→Z62,le_trans→Z02,min_eq_left→Z1r,mod_lt→Z1x,mul_comm→Z23,mul_le_mul_right→ZP,mul_le_mul→Z2z,succ_mul→Z25
open Option renaming bind_some→Zd
open Option.some renaming inj→Z01
open Prod renaming fst→Z38
open Sum renaming inl→Z3e
section
set_option maxRecDepth 100000
set_option maxHeartbeats 0
namespace Pw
open Go Am Go.Proofs.YtjpjdglddmhplaaGreat.Cd
def A5o (a0:pawn_show) (a1:(List PaUse)) (a2:Int):Option Bool :=
 (G1 a1 (fun (y:PaUse)=>A0y y a2)).bind fun x1 =>
 some x1
theorem B3c {c:Sc} {H:A1} {a0:pawn_show} {b0:Nat} (hb0:hcells H b0=some [(.seq 8 (Zg C5 a0.PaShow.Gowns)),(.seq 4 (Zg B3 a0.PaShow.Figures)),.i a0.PaShow.Purse,(.seq 2 (Zg D2 a0.PaShow.Incomes)),(.fn (.func 90) [] []),(.fn (.func 91) [] []),(.fn (.func 92) [] []),(.fn (.func 52) [] []),(.fn (.func 93) [] []),(.fn (.func 94) [] []),(.fn (.func 55) [] []),(.fn (.func 95) [] []),(.fn (.func 96) [] []),(.seq 1 (Zg cI a0.days_))]) {a1:(List PaUse)} {a2:Int} {r:Bool} (h:A5o a0 a1 a2=some r) :
  F0 tab c H (.fn (.func 68) [] []) [.ptr b0 0,(.seq 3 (Zg A6 a1)),.i a2] [.b r]:= by
 unfold A5o at h
 refine cE Z Z<|sg 0 Z<|A0 (F8 (cs:=cI a2) Z Z Z) Z<|qm Z<|es (ra2 Z Z)<|s0<|oB h fun x1 hx1 h=>qm Z<|A0 (A4h Z Z) Z<|B4 (rs:=[.b x1]) Z Z (A2 Z (A2 Z B5)) ((Z9 (show Impl _ _ 105 [] [(.ptr (H.length+0) 0)] (fun (y:PaUse)=>A0y y a2) (fun (y:PaUse)=>[(.agg (A6 y))]) (fun (y:Bool)=>[.b y]) from ⟨⟨A8,(by rw[Zm];exact(A3 (L8 Z) A8))⟩,fun H' hle hag c y r hr=>(A36 (B01 (hag _ _ (E0 Z)) hr)).frz⟩) hx1).frz)<|qm Z<|es (ra1 Z)<|C6 ?_
 obtain rfl:=os h
 exact retq trivial (A7 Z B7) (A5 Z B6) (A3 A4 A8)
def B4u (a0:PaShow) (a1:(List PaUse)) (x1:(Int×(List Int))) (s4:(Int×(List Int))):Option ((Int×(List Int))⊕(List Int)) :=
 if (decide (s4.1<(Zh a0.Gowns:Int)))=true then
  (idx a0.Gowns s4.1).bind fun x7 =>
  (if (x7.Pawn&&(decide (x7.Last<364)))=true then
  (A5o (pawn_show.mk a0 (Ar3.mk (pawn_way.mk ) (pawn_way.mk ) (pawn_way.mk )) x1.2) a1 s4.1).bind fun x10 =>
  some (!x10)
  else
  some false).bind fun x11 =>
  if x11=true then
  (app 8 s4.2 [s4.1]).bind fun x13 =>
  some (.inl ((w64 (s4.1+1)),x13))
  else
  some (.inl ((w64 (s4.1+1)),s4.2))
 else
  some (.inr s4.2)
def B6k (a0:PaShow) (a1:(List PaUse)):Option ((List Int)×Int) :=
 (A3t a0 a1).bind fun x1 =>
 if (x1.1==0)=true then
  (loop (B4u a0 a1 x1) (0,([]:List Int))).bind fun (o14:(List Int)) =>
  some (o14,0)
 else
  some (([]:List Int),x1.1)
theorem C5f {c:Sc} {H:A1} {a0:PaShow} {a1:(List PaUse)} {r:((List Int)×Int)} (h:B6k a0 a1=some r) :
  F0 tab c H (.fn (.func 24) [] []) [(.agg (B1 a0)),(.seq 3 (Zg A6 a1))] [(.fresh 1 (Zg cI r.1)),.i r.2]:= by
 unfold B6k at h
 refine cE Z Z<|sg 0 Z<|A0 (F8 (cs:=B1 a0) Z Z Z) Z<|A0 A7n Z<|qm Z<|es (ra3 Z Z Z)<|s0<|oB h fun x1 hx1 h=>A0 (D1 Z Z Z) Z<|qm Z ?_
 by_cases hc2:(x1.1==0)=true
 ·rw[if_pos hc2]at h
  obtain⟨X3,hX3⟩:=B08 hx1 hc2
  refine Q3 (A43 hX3 Z Z (A2 (C9 Z) (A2 Z B5)) Z) Z<|qm Z<|A0 (A9 Z Z) Z<|A0 (A9 Z Z) Z<|qm Z<|qm Z<|es (ra5 Z Z Z Z Z)<|C1<|s0<|qm Z<|A0 (Q7 (v:=(.b false)) Z Z Z) Z<|es (ra6 Z Z Z Z Z Z)<|R7 Z Z<|C0<|s0<|qm Z<|A0 (A4h Z Z) Z<|qm Z<|es (ra4 Z Z Z Z)<|C1<|s0<|A0 (B9 Z) Z<|A0 (B2 Z Z Z) Z<|A0 (F4 (f:=C5) Z) Z<|qm Z<|es (ra6 Z Z Z Z Z Z)<|C8<|oB h fun o14 ho14 h=>wl (fun s4=>[(1,(.seq 3 (Zg A6 a1))),(4,(.asl (H.length+1) (Zh s4.2))),(7,(.fn (.func 68) [(.ptr (H.length+5) 0)] [])),(22,(.seq 8 (Zg C5 a0.Gowns))),(23,(.i (Zh a0.Gowns:Int))),(24,.i s4.1)]) (fun (q5:Unit) s4=>[(.cells (B1 a0)),(.arr 1 false (Zg cI s4.2)),(.cells (B1 a0)),(.cells (B1 a0)),X3,(.cells [(.seq 8 (Zg C5 a0.Gowns)),(.seq 4 (Zg B3 a0.Figures)),.i a0.Purse,(.seq 2 (Zg D2 a0.Incomes)),(.fn (.func 90) [] []),(.fn (.func 91) [] []),(.fn (.func 92) [] []),(.fn (.func 52) [] []),(.fn (.func 93) [] []),(.fn (.func 94) [] []),(.fn (.func 55) [] []),(.fn (.func 95) [] []),(.fn (.func 96) [] []),(.seq 1 (Zg cI x1.2))])]) 6 (fun r e s' H'=>PX 0 [(4,(.asl (H.length+1) (Zh r)))] (H++[(.cells (B1 a0)),(.arr 1 false (Zg cI r)),(.cells (B1 a0)),(.cells (B1 a0)),X3,(.cells [(.seq 8 (Zg C5 a0.Gowns)),(.seq 4 (Zg B3 a0.Figures)),.i a0.Purse,(.seq 2 (Zg D2 a0.Incomes)),(.fn (.func 90) [] []),(.fn (.func 91) [] []),(.fn (.func 92) [] []),(.fn (.func 52) [] []),(.fn (.func 93) [] []),(.fn (.func 94) [] []),(.fn (.func 55) [] []),(.fn (.func 95) [] []),(.fn (.func 96) [] []),(.seq 1 (Zg cI x1.2))])]) e s' H') () ho14 Z Z (fun _ _=>rfl) (fun _=>rfl) Z (fun s4=>(bdc I7 (bdc (A11 Z) (bdc (D9v (A3 (L8 Z) A8) A8) (bdc I7 (bdc A4 (bdc A4 bdn))))))) (fun q5 s4 ys4 hs4=>?_) ?_
  ·unfold B4u at hs4
   refine s0<|A0 (I4 Z Z) Z<|es (ra7 Z Z Z Z Z Z Z)<|C1<|wi hs4 Z (fun hc6 hs4=>?_) fun hc6 hs4=>?_
   ·refine C0<|C1<|C8<|sg 6 Z<|oB hs4 fun x7 hx7 hs4=>qm Z<|A0 (D6 (f:=C5) Z Z hx7) Z<|A0 (G6 Z Z) Z<|A0 J7 Z<|qm Z<|P6 (F9 (ds:=(C5 x7)) Z Z Z Z (F2 Z) Z) Z<|es (ra8 Z Z Z Z Z Z Z Z)<|s0<|oB hs4 fun x11 hx11 hs4=>A0 (B9 Z) Z<|A0 (B2 Z Z Z) Z<|qm Z<|gp 4 35 (.b (x7.Pawn&&(decide (x7.Last<364)))) 31 Z Z (fun hg8=>?_) (fun hg8=>?_) ?_
    ·exact gT Z hg8<|A0 (B9 Z) Z<|gT Z hg8<|A0 (B2 Z Z Z) Z<|gT Z hg8<|A0 (I4 Z Z) Z<|A0 (C4 Z hg8 Z) Z<|ge 4 (by rw[hg8];rfl) Z Z
    ·exact nT Z hg8 Z<|nT Z hg8 Z<|nT Z hg8 Z<|A0 (C3 Z hg8 Z) Z<|ge 4 (by rw[hg8];rfl) Z Z
    refine qm Z<|gp 6 42 (.b x11) 36 Z Z (fun hg9=>?_) (fun hg9=>?_) ?_
    ·refine oB (bt hx11 hg9) fun x10 hx10 hx11=>?_
     obtain rfl:=os hx11
     exact gT Z hg9<|qm Z<|gT Z hg9<|qm Z<|gT Z hg9<|qm Z<|gT Z hg9<|B4 (rs:=[.b x10]) Z Z (A2 Z (A2 Z B5)) ((A36 (B3c (E0 Z) hx10)).frz)<|gT Z hg9<|A0 (P7 Z) Z<|A0 (C4 Z hg9 Z) Z<|ge 6 Z Z Z
    ·obtain rfl:=os (bf hx11 hg9)
     exact nT Z hg9 Z<|nT Z hg9 Z<|nT Z hg9 Z<|G5 (D3 Z (by rw[hg9];rfl)) Z<|nT Z hg9 Z<|A0 (C3 Z hg9 Z) Z<|ge 6 Z Z Z
    refine es (ra8 Z Z Z Z Z Z Z Z)<|wi hs4 Z (fun hc12 hs4=>?_) fun hc12 hs4=>?_
    ·refine r0<|oB hs4 fun x13 hx13 hs4=>qm Z<|qm Z<|A0 (K3 (rows:=Zg cI [s4.1]) Z Z (F5 (fun _=>rfl) _)) Z<|Q3 (A5m (f:=cI) Z Z Z Z A4q (fun _=>rfl) hx13) Z<|qm Z<|en (ra6 Z Z Z Z Z Z)<|r0<|A0 (F7 Z Z) Z<|qm Z<|en (ra6 Z Z Z Z Z Z) ?_
     cases hs4
     exact lnT () Z (su6 Z Z Z Z Z Z)
    ·refine C0<|r0<|A0 (F7 Z Z) Z<|qm Z<|en (ra6 Z Z Z Z Z Z) ?_
     cases hs4
     exact lnT () Z (su6 Z Z Z Z Z Z)
   ·refine I1 ?_
    obtain rfl:=os hs4
    exact lx Z px (su1 Z)
  ·rintro e s' H'-⟨rfl,rfl,rfl⟩
   refine s0<|qm Z<|qm Z<|qm Z<|es (ra2 Z Z)<|C6 ?_
   obtain rfl:=os h
   exact retq trivial (A7 Z (A7 Z B7)) (A5 (A6w Z (Zi _)) (A5 Z B6)) (A3 A0i (A3 A4 A8))
 ·rw[if_neg hc2]at h
  refine Q3 (S6 (rs:=[.lit (.pointer none),.i x1.1]) Z Z (A2 (C9 Z) (A2 Z B5)) (B07 hx1 (by simpa using hc2)) Z) Z<|qm Z<|A0 (A9 Z Z) Z<|A0 (A9 Z Z) Z<|qm Z<|qm Z<|es (ra5 Z Z Z Z Z)<|C1<|s0<|qm Z<|A0 (I6 Z Z) Z<|es (ra6 Z Z Z Z Z Z)<|P5 Z (nef hc2)<|sg 2 Z<|qm Z<|A0 A7n Z<|qm Z<|es (ra2 Z Z)<|C6 ?_
  obtain rfl:=os h
  exact retq trivial (A7 Z (A7 Z B7)) (A5 (A6w Z (Zi _)) (A5 Z B6)) (A3 A0i (A3 A4 A8))
def B06 (a0:pawn_found) (a1:pawn_found):Option Int :=
 (A37 [(w64 (a0.without_-a1.without_)),(w64 (a0.short_-a1.short_))]).bind fun x1 =>
 some x1
theorem C0j {c:Sc} {H:A1} {a0:pawn_found} {a1:pawn_found} {r:Int} (h:B06 a0 a1=some r) :
  F0 tab c H (.fn (.func 76) [] []) [(.agg (C7 a0)),(.agg (C7 a1))] [.i r]:= by
 unfold B06 at h
 refine cE Z Z<|sg 0 Z<|A0 (F8 (cs:=C7 a0) Z Z Z) Z<|A0 (F8 (cs:=C7 a1) Z Z Z) Z<|qm Z<|es (ra2 Z Z)<|s0<|oB h fun x1 hx1 h=>A0 (B9 Z) Z<|A0 (B2 Z Z Z) Z<|A0 (B9 Z) Z<|A0 (B2 Z Z Z) Z<|A0 (W2 Z Z) Z<|A0 (B9 Z) Z<|A0 (B2 Z Z Z) Z<|A0 (B9 Z) Z<|A0 (B2 Z Z Z) Z<|A0 (W2 Z Z) Z<|A0 (K3 (rows:=Zg cI [(w64 (a0.without_-a1.without_)),(w64 (a0.short_-a1.short_))]) Z Z (F5 (fun _=>rfl) _)) Z<|B4 (rs:=[.i x1]) Z Z (A2 Z B5) ((B2o hx1).frz)<|qm Z<|es (ra1 Z)<|C6 ?_
 obtain rfl:=os h
 exact retq trivial (A7 Z B7) (A5 Z B6) (A3 A4 A8)
def B6l (a0:PaShow):Option (Int×Int) :=
 (A2u a0).bind fun x1 =>
 if (x1.1==0)=true then
  (B86 (B83 a0 x1.2) B06).bind fun x4 =>
  if (((!x4.2)||(decide (x4.1.without_>0)))||(decide (x4.1.short_>10000)))=true then
  some (0,9)
  else
  if (x4.1.short_==0)=true then
   some (0,4)
  else
   some (x4.1.short_,0)
 else
  some (0,x1.1)
theorem C5g {c:Sc} {H:A1} (hscv:T0 c H=true) {a0:PaShow} {r:(Int×Int)} (h:B6l a0=some r) :
  F0 tab c H (.fn (.func 31) [] []) [(.agg (B1 a0))] [.i r.1,.i r.2]:= by
 unfold B6l at h
 refine cE Z Z<|sg 0 Z<|A0 (F8 (cs:=B1 a0) Z Z Z) Z<|qm Z<|qm Z<|es (ra1 Z)<|s0<|oB h fun x1 hx1 h=>A0 (D1 Z Z Z) Z ?_
 by_cases hc2:(x1.1==0)=true
 ·rw[if_pos hc2]at h
  obtain⟨X3,hX3⟩:=A26 hx1 hc2
  refine Q3 (A43 hX3 Z Z (A2 (C9 Z) B5) Z) Z<|qm Z<|A0 (A9 Z Z) Z<|A0 (A9 Z Z) Z<|qm Z<|qm Z<|es (ra2 Z Z)<|C1<|s0<|qm Z<|A0 (Q7 (v:=(.b false)) Z Z Z) Z<|es (ra3 Z Z Z)<|R7 Z Z<|C0<|sg 4 Z<|qm Z<|A6a (as2:=[(.ptr (H.length+3) 0)]) (H1:=(H++[(.cells (B1 a0)),(.cells (B1 a0)),X3,(.cells [(.seq 8 (Zg C5 a0.Gowns)),(.seq 4 (Zg B3 a0.Figures)),.i a0.Purse,(.seq 2 (Zg D2 a0.Incomes)),(.fn (.func 90) [] []),(.fn (.func 91) [] []),(.fn (.func 92) [] []),(.fn (.func 52) [] []),(.fn (.func 93) [] []),(.fn (.func 94) [] []),(.fn (.func 55) [] []),(.fn (.func 95) [] []),(.fn (.func 96) [] []),(.seq 1 (Zg cI x1.2))]),.dead])) Z Z (A2 Z B5) Z Z Z (B11 Z)<|sg 5 Z<|A0 (F8 (cs:=[(.ptr (H.length+3) 0)]) Z Z Z) Z<|qm Z<|es (ra1 Z)<|s0<|A0 (A4h Z Z) Z<|qm Z<|es (ra1 Z)<|C6<|InlQ.mk trivial ⟨_,_,_,[(.fn (.func 108) [] [(.ptr (H.length+5) 0)])],_,(A7 Z B7),(A5 Z B6),(B1z (W3 (B5n (W3 (A7f Z)))) (B1y Z B5w)),?_⟩
  refine oB h fun x4 hx4 h=>B4 (rs:=[(.agg (C7 x4.1)),.b x4.2]) Z Z (A2 Z (A2 Z B5)) (C4i (D36 (t:=a0) (days:=x1.2) (bS:=H.length+5) (b:=H.length+3)) (fun h=>(C0j h).frz) (ZE (E0 Z) (E0 Z)) (A63 hscv) hx4)<|qm Z<|A0 (A9 Z Z) Z<|A0 (A9 Z Z) Z<|A0 J7 Z<|P6 (F9 (ds:=(C7 x4.1)) Z Z Z Z (F2 Z) Z) Z<|qm Z<|es (ra2 Z Z)<|C1<|C8<|s0<|qm Z<|A0 (P7 Z) Z<|qm Z<|gp 4 29 (.b ((!x4.2)||(decide (x4.1.without_>0)))) 25 Z Z (fun hg5=>?_) (fun hg5=>?_) ?_
  ·exact nF Z hg5 Z<|nF Z hg5 Z<|nF Z hg5 Z<|A0 (C4 Z hg5 Z) Z<|ge 4 (by rw[hg5];rfl) Z Z
  ·exact gF Z hg5<|A0 (B9 Z) Z<|gF Z hg5<|A0 (B2 Z Z Z) Z<|gF Z hg5<|A0 (Z2 Z Z) Z<|A0 (C3 Z hg5 Z) Z<|ge 4 (by rw[hg5];rfl) Z Z
  refine qm Z<|gp 4 34 (.b (((!x4.2)||(decide (x4.1.without_>0)))||(decide (x4.1.short_>10000)))) 30 Z Z (fun hg6=>?_) (fun hg6=>?_) ?_
  ·exact nF Z hg6 Z<|nF Z hg6 Z<|nF Z hg6 Z<|A0 (C4 Z hg6 Z) Z<|ge 4 (by rw[hg6];rfl) Z Z
  ·exact gF Z hg6<|A0 (B9 Z) Z<|gF Z hg6<|A0 (B2 Z Z Z) Z<|gF Z hg6<|A0 (Z2 Z Z) Z<|A0 (C3 Z hg6 Z) Z<|ge 4 (by rw[hg6];rfl) Z Z
  refine qm Z<|es (ra2 Z Z)<|wi h Z (fun hc7 h=>?_) fun hc7 h=>?_
  ·refine s0<|qm Z<|qm Z<|es (ra2 Z Z)<|C6 ?_
   obtain rfl:=os h
   exact retq trivial (A7 Z (A7 Z B7)) (A5 Z (A5 Z B6)) (A3 A4 (A3 A4 A8))
  ·refine s0<|A0 (B9 Z) Z<|A0 (B2 Z Z Z) Z<|A0 (G2 Z Z) Z<|qm Z<|es (ra2 Z Z)<|wi h Z (fun hc8 h=>?_) fun hc8 h=>?_
   ·refine s0<|qm Z<|qm Z<|es (ra2 Z Z)<|C6 ?_
    obtain rfl:=os h
    exact retq trivial (A7 Z (A7 Z B7)) (A5 Z (A5 Z B6)) (A3 A4 (A3 A4 A8))
   ·refine C0<|s0<|A0 (B9 Z) Z<|A0 (B2 Z Z Z) Z<|qm Z<|qm Z<|es (ra2 Z Z)<|C6 ?_
    obtain rfl:=os h
    exact retq trivial (A7 Z (A7 Z B7)) (A5 Z (A5 Z B6)) (A3 A4 (A3 A4 A8))
 ·rw[if_neg hc2]at h
  refine Q3 (S6 (rs:=[.lit (.pointer none),.i x1.1]) Z Z (A2 (C9 Z) B5) (A38 hx1 (by simpa using hc2)) Z) Z<|qm Z<|A0 (A9 Z Z) Z<|A0 (A9 Z Z) Z<|qm Z<|qm Z<|es (ra2 Z Z)<|C1<|s0<|qm Z<|A0 (I6 Z Z) Z<|es (ra3 Z Z Z)<|P5 Z (nef hc2)<|s0<|qm Z<|qm Z<|qm Z<|es (ra2 Z Z)<|C6 ?_
  obtain rfl:=os h
  exact retq trivial (A7 Z (A7 Z B7)) (A5 Z (A5 Z B6)) (A3 A4 (A3 A4 A8))
def A0b (a0:PaShow) (a1:(List PaUse)) (a2:Int):Option (Int×Int) :=
 (A3t a0 a1).bind fun x1 =>
 if (x1.1==0)=true then
  (F6 0 364 [a2]).bind fun x4 =>
  if x4=true then
  some (0,7)
  else
  (R9 (pawn_show.mk a0 (Ar3.mk (pawn_way.mk ) (pawn_way.mk ) (pawn_way.mk )) x1.2) a1 a2).bind fun x6 =>
  some (x6,0)
 else
  some (0,x1.1)
theorem A19 {c:Sc} {H:A1} {a0:PaShow} {a1:(List PaUse)} {a2:Int} {r:(Int×Int)} (h:A0b a0 a1 a2=some r) :
  F0 tab c H (.fn (.func 20) [] []) [(.agg (B1 a0)),(.seq 3 (Zg A6 a1)),.i a2] [.i r.1,.i r.2]:= by
 unfold A0b at h
 refine cE Z Z<|sg 0 Z<|A0 (F8 (cs:=B1 a0) Z Z Z) Z<|qm Z<|qm Z<|es (ra3 Z Z Z)<|s0<|oB h fun x1 hx1 h=>A0 (D1 Z Z Z) Z<|qm Z ?_
 by_cases hc2:(x1.1==0)=true
 ·rw[if_pos hc2]at h
  obtain⟨X3,hX3⟩:=B08 hx1 hc2
  refine Q3 (A43 hX3 Z Z (A2 (C9 Z) (A2 Z B5)) Z) Z<|qm Z<|A0 (A9 Z Z) Z<|A0 (A9 Z Z) Z<|qm Z<|qm Z<|es (ra4 Z Z Z Z)<|C1<|C8<|s0<|qm Z<|A0 (Q7 (v:=(.b false)) Z Z Z) Z<|qm Z<|es (ra5 Z Z Z Z Z)<|R7 Z Z<|s0<|oB h fun x4 hx4 h=>qm Z<|A0 (K3 (rows:=Zg cI [a2]) Z Z (F5 (fun _=>rfl) _)) Z<|B4 (rs:=[.b x4]) Z Z (A2 Z (A2 Z (A2 Z B5))) ((G4 hx4).frz)<|qm Z<|es (ra4 Z Z Z Z)<|wi h Z (fun hc5 h=>?_) fun hc5 h=>?_
  ·refine s0<|qm Z<|qm Z<|es (ra2 Z Z)<|C6 ?_
   obtain rfl:=os h
   exact retq trivial (A7 Z (A7 Z B7)) (A5 Z (A5 Z B6)) (A3 A4 (A3 A4 A8))
  ·refine C0<|s0<|oB h fun x6 hx6 h=>qm Z<|qm Z<|qm Z<|Q3 (X8 (rs:=[.i x6]) Z Z ((A7o (E0 Z) hx6).frz)) Z<|qm Z<|qm Z<|es (ra2 Z Z)<|C6 ?_
   obtain rfl:=os h
   exact retq trivial (A7 Z (A7 Z B7)) (A5 Z (A5 Z B6)) (A3 A4 (A3 A4 A8))
 ·rw[if_neg hc2]at h
  refine Q3 (S6 (rs:=[.lit (.pointer none),.i x1.1]) Z Z (A2 (C9 Z) (A2 Z B5)) (B07 hx1 (by simpa using hc2)) Z) Z<|qm Z<|A0 (A9 Z Z) Z<|A0 (A9 Z Z) Z<|qm Z<|qm Z<|es (ra4 Z Z Z Z)<|C1<|C8<|s0<|qm Z<|A0 (I6 Z Z) Z<|qm Z<|es (ra5 Z Z Z Z Z)<|P5 Z (nef hc2)<|s0<|qm Z<|qm Z<|qm Z<|es (ra2 Z Z)<|C6 ?_
  obtain rfl:=os h
  exact retq trivial (A7 Z (A7 Z B7)) (A5 Z (A5 Z B6)) (A3 A4 (A3 A4 A8))
def X9 (a0:PaShow) (a1:(List PaUse)):Option (Int×Int) :=
 (A3t a0 a1).bind fun x1 =>
 if (x1.1==0)=true then
  (Q4 (pawn_show.mk a0 (Ar3.mk (pawn_way.mk ) (pawn_way.mk ) (pawn_way.mk )) x1.2) a1).bind fun x4 =>
  if (x4.1==0)=true then
  some (0,4)
  else
  some (x4.2,0)
 else
  some (0,x1.1)
theorem A2a {c:Sc} {H:A1} {a0:PaShow} {a1:(List PaUse)} {r:(Int×Int)} (h:X9 a0 a1=some r) :
  F0 tab c H (.fn (.func 22) [] []) [(.agg (B1 a0)),(.seq 3 (Zg A6 a1))] [.i r.1,.i r.2]:= by
 unfold X9 at h
 refine cE Z Z<|sg 0 Z<|A0 (F8 (cs:=B1 a0) Z Z Z) Z<|qm Z<|qm Z<|es (ra2 Z Z)<|s0<|oB h fun x1 hx1 h=>A0 (D1 Z Z Z) Z<|qm Z ?_
 by_cases hc2:(x1.1==0)=true
 ·rw[if_pos hc2]at h
  obtain⟨X3,hX3⟩:=B08 hx1 hc2
  refine Q3 (A43 hX3 Z Z (A2 (C9 Z) (A2 Z B5)) Z) Z<|qm Z<|A0 (A9 Z Z) Z<|A0 (A9 Z Z) Z<|qm Z<|qm Z<|es (ra3 Z Z Z)<|C1<|s0<|qm Z<|A0 (Q7 (v:=(.b false)) Z Z Z) Z<|es (ra4 Z Z Z Z)<|R7 Z Z<|C0<|s0<|oB h fun x4 hx4 h=>qm Z<|qm Z<|Q3 (X8 (rs:=[.i x4.1,.i x4.2]) Z Z ((B3d (E0 Z) hx4).frz)) Z<|qm Z<|A0 (A9 Z Z) Z<|A0 (A9 Z Z) Z<|qm Z<|qm Z<|es (ra2 Z Z)<|C1<|s0<|qm Z<|A0 (G2 Z Z) Z<|es (ra2 Z Z)<|wi h Z (fun hc5 h=>?_) fun hc5 h=>?_
  ·refine s0<|qm Z<|qm Z<|es (ra2 Z Z)<|C6 ?_
   obtain rfl:=os h
   exact retq trivial (A7 Z (A7 Z B7)) (A5 Z (A5 Z B6)) (A3 A4 (A3 A4 A8))
  ·refine C0<|s0<|qm Z<|qm Z<|qm Z<|es (ra2 Z Z)<|C6 ?_
   obtain rfl:=os h
   exact retq trivial (A7 Z (A7 Z B7)) (A5 Z (A5 Z B6)) (A3 A4 (A3 A4 A8))
 ·rw[if_neg hc2]at h
  refine Q3 (S6 (rs:=[.lit (.pointer none),.i x1.1]) Z Z (A2 (C9 Z) (A2 Z B5)) (B07 hx1 (by simpa using hc2)) Z) Z<|qm Z<|A0 (A9 Z Z) Z<|A0 (A9 Z Z) Z<|qm Z<|qm Z<|es (ra3 Z Z Z)<|C1<|s0<|qm Z<|A0 (I6 Z Z) Z<|es (ra4 Z Z Z Z)<|P5 Z (nef hc2)<|s0<|qm Z<|qm Z<|qm Z<|es (ra2 Z Z)<|C6 ?_
  obtain rfl:=os h
  exact retq trivial (A7 Z (A7 Z B7)) (A5 Z (A5 Z B6)) (A3 A4 (A3 A4 A8))
def B2v (a0:(List PaUse)) (a1:(List PaUse)) (s2:Int):Option (Int⊕(Bool⊕Unit)) :=
 if (decide (s2<(Zh a0:Int)))=true then
  (idx a0 s2).bind fun x5 =>
  (idx a1 s2).bind fun x6 =>
  if (!((x5.Gown==x6.Gown)&&((x5.How==x6.How)&&((x5.Day==x6.Day)&&true))))=true then
  some (.inr (.inl false))
  else
  some (.inl (w64 (s2+1)))
 else
  some (.inr (.inr ()))
def B3k (a0:(List PaUse)) (a1:(List PaUse)):Option Bool :=
 if ((Zh a0:Int) != (Zh a1:Int))=true then
  some false
 else
  (loop (B2v a0 a1) 0).bind fun (o8:(Bool⊕Unit)) =>
  match o8 with
  | (.inl vo8_0) =>
  some vo8_0
  | (.inr vo8_1) =>
  some true
theorem C14 {c:Sc} {H:A1} {a0:(List PaUse)} {a1:(List PaUse)} {r:Bool} (h:B3k a0 a1=some r) :
  F0 tab c H (.fn (.func 28) [] []) [(.seq 3 (Zg A6 a0)),(.seq 3 (Zg A6 a1))] [.b r]:= by
 unfold B3k at h
 refine cE Z Z<|s0<|qm Z<|es (ra2 Z Z)<|C1<|s0<|qm Z<|A0 (F4 (f:=A6) Z) Z<|qm Z<|A0 (F4 (f:=A6) Z) Z<|A0 (I6 Z Z) Z<|es (ra3 Z Z Z)<|wi h Z (fun hc1 h=>?_) fun hc1 h=>?_
 ·refine s0<|qm Z<|es (ra1 Z)<|C6 ?_
  obtain rfl:=os h
  exact retq trivial (A7 Z B7) (A5 Z B6) (A3 A4 A8)
 ·refine C0<|C1<|s0<|qm Z<|es (ra3 Z Z Z)<|C8<|oB h fun o8 ho8 h=>wl (fun s2=>[(0,(.seq 3 (Zg A6 a0))),(1,(.seq 3 (Zg A6 a1))),(5,.i s2)]) (fun (q3:Unit) s2=>[]) 0 (fun r e s' H'=>(match r with|(.inl v)=>e=.ret∧RetQ H [.tmp 4] [.b v] e s' H' | (.inr v)=>PX 0 [] (H++[]) e s' H':Prop)) () ho8 Z Z (fun _ _=>rfl) (fun _=>rfl) Z (fun s2=>(bdc I7 (bdc I7 (bdc A4 bdn)))) (fun q3 s2 ys2 hs2=>?_) ?_
  ·unfold B2v at hs2
   refine C1<|s0<|qm Z<|qm Z<|A0 (F4 (f:=A6) Z) Z<|A0 (I4 Z Z) Z<|es (ra4 Z Z Z Z)<|wi hs2 Z (fun hc4 hs2=>?_) fun hc4 hs2=>?_
   ·refine C0<|C1<|C8<|s0<|oB hs2 fun x5 hx5 hs2=>oB hs2 fun x6 hx6 hs2=>qm Z<|qm Z<|A0 (D6 (f:=A6) Z Z hx5) Z<|A0 (G6 Z Z) Z<|qm Z<|qm Z<|A0 (D6 (f:=A6) Z Z hx6) Z<|A0 (G6 Z Z) Z<|A0 (D5z (a:=A6 x5) (b:=A6 x6) Z Z Z Z (T3 (T3 (T3 B1r)))) Z<|es (ra4 Z Z Z Z)<|wi hs2 Z (fun hc7 hs2=>?_) fun hc7 hs2=>?_
    ·refine s0<|qm Z<|es (ra1 Z)<|C6 ?_
     obtain rfl:=os hs2
     exact lx Z (ZE Z (retq trivial (A7 Z B7) (A5 Z B6) (A3 A4 A8))) (Sub.refl _)
    ·refine C0<|r0<|qm Z<|A0 (F7 Z Z) Z<|qm Z<|en (ra3 Z Z Z) ?_
     cases hs2
     exact lnT () Z (su3 Z Z Z)
   ·refine I1 ?_
    obtain rfl:=os hs2
    exact lx Z px (.nil _)
  ·rcases o8 with vo8_0|vo8_1
   ·rintro e s' H'-⟨rfl,hret⟩
    cases h
    exact hret
   ·rintro e s' H'-⟨rfl,rfl,rfl⟩
    refine s0<|qm Z<|es (ra1 Z)<|C6 ?_
    obtain rfl:=os h
    exact retq trivial (A7 Z B7) (A5 Z B6) (A3 A4 A8)
end Pw
end
section
set_option maxRecDepth 100000
set_option maxHeartbeats 0
namespace Am
open Go
section
variable {T:Tab} {s:B8} {H0 H:A1} {l:List AO} {c:Sc} {n0 k0:Nat}
theorem D53 {x:Opd} {b r:Nat} {es:List (AV×AV)} (hx:ev s x=some (.mp b)) (hm:hmap (H0++l) b=some es):One T c (H0.length+k0) s (H0++l) (.rangeM x r) (.itr (H0.length+(k0+r))) (H0++l.set (k0+r) (.mit b es.length [])) :=
 ⟨0,by simp only[core,prim,hx,hm,Nat.add_assoc,H8]⟩
theorem D24 {H L:A1} {b m n:Nat} {seen:List Nat} {e:AV×AV} {es:List (AV×AV)} (hg:hget H b=some (.mit m n seen)) (hm:hmap H m=some es) (h:A94 H b=some e):A94 (H++L) b=some e:= by
 have h1:hget (H++L) b=some (.mit m n seen):=D2s hg L
 have h2:hmap (H++L) m=some es:= by
  have:m<H.length:= by
   unfold hmap hget at hm
   cases e:H[m]? with
   | none=>rw[e]at hm;cases hm
   | some o=>exact(Ze.1 e).1
  unfold hmap hget at hm ⊢
  rw[List.getElem?_append_left this];exact hm
 unfold A94 at h ⊢
 rw[h1]
 rw[hg]at h
 simp only[h2,hm]at h ⊢
 exact h
theorem D8c {x:Opd} {b:Nat} {e:AV×AV} (hx:ev s x=some (.itr b)) (hm:A94 H b=some e):One T c n0 s H (.entry x) (.tup [e.1,e.2]) H:=⟨0,by simp only[core,prim,hx,hm]⟩
end
end Am
namespace Pw
open Go Am Go.Proofs.YtjpjdglddmhplaaGreat.Cd
abbrev Had:=Ar3 Int
theorem D1g:KeyOk (κ:=Had) true [0,0,0] (fun x=>.agg (C6c cI x)) (fun x=>C6c cI x):=⟨fun _=>rfl,fun _=>rfl,fun a b=>by
 obtain⟨a1,a2,a3⟩:=a
 obtain⟨b1,b2,b3⟩:=b
 show G9 [.lit (.int .i64 a1),.lit (.int .i64 a2),.lit (.int .i64 a3)] [.lit (.int .i64 b1),.lit (.int .i64 b2),.lit (.int .i64 b3)]=_
 simp only[C89,Ar3.mk.injEq]
 by_cases h1:a1=b1 <;> by_cases h2:a2=b2 <;> by_cases h3:a3=b3 <;> simp[h1,h2,h3,G9]⟩
abbrev Met:=List (Had×Int)
def C7a (m:Met):List (AV×AV):=m.map (kE (fun x=>.agg (C6c cI x)) (fun n=>.i n))
def C7t (h:Had) (f:Int):Option Bool :=
 if (!((h.x0==0)&&((h.x1==0)&&((h.x2==0)&&true))))=true then (idx h.l f).bind fun v=>some (decide (v>0)) else some false
def C3y (f:Int):Met→Option (List Bool)
 | []=>some []
 | e::l=>(C7t e.1 f).bind fun b=>(C3y f l).bind fun r=>some (b::r)
def cnt (bs:List Bool) (seen:List Nat):Int:=((seen.filter fun i=>bs.getD i false).length:Int)
def B89 (m:Met) (f:Int):Option Int :=
 if m.length<4611686018427387904 then (C3y f m).bind fun bs=>some ((bs.filter fun b=>b).length:Int) else none
theorem C3z {f:Int}:∀{m:Met} {bs:List Bool},C3y f m=some bs→bs.length=m.length∧∀ (i:Nat) (e:Had×Int),m[i]? = some e→C7t e.1 f=some (bs.getD i false)
 | [],bs,h=>by cases h;exact⟨Z,fun i e he=>by simp at he⟩
 | x::m,bs,h=>by
  unfold C3y at h
  refine oB h fun b hb h=>oB h fun r hr h=>?_
  obtain rfl:=os h
  obtain⟨h1,h2⟩:=C3z hr
  refine⟨by simp[h1],fun i e he=>?_⟩
  cases i with
  | zero=>simp at he;subst he;simpa using hb
  | succ i=>simp at he;simpa using h2 i e he
theorem B32:∀(bs:List Bool),((Z0c bs.length).filter fun i=>bs.getD i false).length=(bs.filter fun b=>b).length
 | []=>rfl
 | b::bs=>by
  rw[ZV,List.range_succ_eq_map,Z27,List.filter_map,Z27]
  have ih:=B32 bs
  have e:(fun i=>(b::bs).getD i false)∘Nat.succ=fun i=>bs.getD i false:= by funext i;simp
  rw[e]
  cases b <;> simp at ih ⊢ <;> exact ih
theorem D7g {bs:List Bool} {seen:List Nat} (hn:seen.Nodup) (hm:∀j,j∈seen↔j<bs.length):cnt bs seen=((bs.filter fun b=>b).length:Int):= by
 have hp:seen.Perm (Z0c bs.length):=(List.perm_ext_iff_of_nodup hn List.nodup_range).mpr fun j=>by rw[hm,List.mem_range]
 unfold cnt
 rw[(hp.filter _).length_eq,B32]
theorem D9z (bs:List Bool) (seen:List Nat):cnt bs seen≤seen.length:= by
 unfold cnt
 have:=Z1h (fun i=>bs.getD i false) seen
 omega
theorem D4k (bs:List Bool) (seen:List Nat) (i:Nat):cnt bs (seen++[i])=cnt bs seen+(if bs.getD i false=true then 1 else 0):= by
 unfold cnt
 rw[Z57,Zm,Z27]
 by_cases h:bs.getD i false=true
 ·rw[if_pos h,if_pos h];rfl
 ·rw[if_neg h,if_neg h];simp
theorem C3m:∀(n:Nat) (l:List Nat),l.Nodup→(∀ x∈l,x<n)→l.length≤n
 | 0,l,_,h=>by
  cases l with
  | nil=>simp
  | cons x l=>exact absurd (h x (Zw ..)) (Nat.not_lt_zero x)
 | n+1,l,hd,h=>by
  have h1:=C3m n (l.filter fun x=>x != n) (hd.filter _) fun x hx=>by
   have:=Z09.mp hx
   have h2:=h x this.1
   have h3:x≠n:= by simpa using this.2
   omega
  have h2:(l.filter fun x=>!(x != n)).length≤1:= by
   have hn:(l.filter fun x=>!(x != n)).Nodup:=hd.filter _
   cases hl:l.filter fun x=>!(x != n) with
   | nil=>simp
   | cons a t =>
    cases t with
    | nil=>simp
    | cons b t =>
     rw[hl]at hn
     have ha:a∈l.filter fun x=>!(x != n):= by rw[hl];simp
     have hb:b∈l.filter fun x=>!(x != n):= by rw[hl];simp
     have ea:a=n:= by simpa using (Z09.mp ha).2
     have eb:b=n:= by simpa using (Z09.mp hb).2
     subst ea;subst eb
     simp at hn
  have h3:l.length=(l.filter fun x=>x != n).length+(l.filter fun x=>!(x != n)).length:= by
   clear h1 h2 hd h
   induction l with
   | nil=>rfl
   | cons x l ih =>
    rw[Z27,Z27]
    cases x != n <;> simp[ih] <;> omega
  omega
theorem D6u {n:Nat} {seen:List Nat} (hn:seen.Nodup) (hm:∀j∈seen,j<n):seen.length≤n:=C3m n seen hn hm
def D0q:ACode:=(.seq (.cond 69 .skip (.exit 4)) (.block 5 (.s 1 [q 0 70 (.entry 67),EX 1 71 70 0,q 2 14 (.alloc [.lit (.int .i64 0),.lit (.int .i64 0),.lit (.int .i64 0)] [] 0),ST 3 3 14 71] [2,3,8,12,13,14,62,63,67] (.s 0 [LK 0 72 3 14,q 1 73 (.build [.lit (.int .i64 0),.lit (.int .i64 0),.lit (.int .i64 0)] []),q 2 74 (.cmp true [0,0,0] 72 73),M 3 75 74,G 4 76 75 true (.mv 12),G 5 77 75 true (.idxA 1 3 14 76),G 6 78 75 true (.load none 77),G 7 79 75 true (.bin .gtr 78 (.i 0)),q 8 80 (.pick 75 79 (.b false))] [2,3,8,12,13,62,63,67,80] (.cond 80 (.g 0 [M 0 81 13,B 1 82 .add 81 (.i 1),M 2 13 82] [2,3,8,12,13,62,63,67]) .skip)))))
theorem C86 {c:Sc} {Hh:A1} {l m:Nat} {met:Met} {f r:Int} {a2 a3 a8 a62 a63:AV} (hl:hget Hh l=some (.mit m met.length [])) (hm:hmap Hh m=some (C7a met)) (hlm:l≠m) (h:B89 met f=some r)
  (hb2:a2.bd Hh.length=true) (hb3:a3.bd Hh.length=true) (hb8:a8.bd Hh.length=true) (hb62:a62.bd Hh.length=true) (hb63:a63.bd Hh.length=true) :
  WP tab (.loopM 67 68 69 [2,3,8,12,13,62,63,67] [2,3,8,12,13,62,63,67] [2,3,8,12,13,62,63] D0q) [(2,a2),(3,a3),(8,a8),(12,.i f),(13,.i 0),(62,a62),(63,a63),(67,.itr l)] Hh c
   (fun e s' H'=>e=.exit 4∧s'=[(2,a2),(3,a3),(8,a8),(12,.i f),(13,.i r),(62,a62),(63,a63)]∧H'=hset Hh l .dead):= by
 unfold B89 at h
 split at h
 ·next hlen =>
  refine oB h fun bs hbs h=>?_
  obtain rfl:=os h
  obtain⟨hbl,hbg⟩:=C3z hbs
  have hlt:l<Hh.length:= by unfold hget at hl;exact(Ze.1 hl).1
  have hset0:hset Hh l (.mit m met.length [])=Hh:= by
   unfold hset
   unfold hget at hl
   obtain⟨h1,h2⟩:=Ze.1 hl
   rw[← h2];exact List.set_getElem_self h1
  have hmm:∀o,hmap (hset Hh l o) m=some (C7a met):=fun o=>by
   rw[← hm];unfold hmap hget hset;rw[List.getElem?_set_ne hlm]
  have hss:∀o o',hset (hset Hh l o) l o'=hset Hh l o':=fun o o'=>by unfold hset;rw[List.set_set]
  have hgl:∀o,hget (hset Hh l o) l=some o:=fun o=>by unfold hget hset;rw[List.getElem?_set_self hlt]
  have hle:∀o,(hset Hh l o).length=Hh.length:=fun o=>H6 _ _ _
  have key:=D3w (T:=tab) (c:=c) (x:=67) (nx:=68) (ok:=69) (l:=l) (m:=m) (n:=met.length) (live0:=[2,3,8,12,13,62,63,67]) (live:=[2,3,8,12,13,62,63,67]) (liveX:=[2,3,8,12,13,62,63]) (rest:=D0q) (es:=C7a met) (e0:=.exit 4)
   (fun seen=>[(2,a2),(3,a3),(8,a8),(12,.i f),(13,.i (cnt bs seen)),(62,a62),(63,a63),(67,.itr l)]) (fun seen=>hset Hh l (.mit m met.length seen)) [(2,a2),(3,a3),(8,a8),(12,.i f),(13,.i ((bs.filter fun b=>b).length:Int)),(62,a62),(63,a63)] (hset Hh l .dead)
   (fun _=>rfl) (by decide) Z (by decide) (fun _=>rfl) (fun _=>hgl _) (fun _=>hmm _) (by rw[C7a,Zi,decide_eq_true Z];rfl) ?_ ?_ ?_
  ·refine A10 (B7w hset0.symm key) ?_
   rintro e s' H' ⟨h1,h2,h3⟩
   exact⟨h1,h2,h3⟩
  ·intro seen i hnd hsl hi hni
   rw[hss,hle]
   obtain⟨e,he⟩:∃e,met[i]? = some e:=⟨_,List.getElem?_eq_getElem hi⟩
   have hpo:=hbg i e he
   have hent:A94 (hset Hh l (.mit m met.length (seen++[i]))) l=some (.agg (C6c cI e.1),.i e.2):= by
    unfold A94
    simp only[hgl,hmm,C7a,Zi,if_true,List.getLast?_append,List.getLast?_singleton,Option.some_or,Zd,List.getElem?_map,he,Option.map_some,kE]
   have hw:w64 (cnt bs seen+1)=cnt bs seen+1:= by
    have h1:=D9z bs seen
    have h2:=D6u hnd hsl
    have h3:0≤cnt bs seen:=Z0w _
    unfold w64 IntKind.wrap
    simp[IntKind.bits,IntKind.signed]
    omega
   have hsn:=D4k bs seen i
   have htk:∀Y:List AO,(hset Hh l (.mit m met.length (seen++[i]))++Y).take Hh.length=hset Hh l (.mit m met.length (seen++[i])):=fun Y=>by
    rw[← hle (.mit m met.length (seen++[i]))];exact Z0a
   unfold C7t at hpo
   refine X5<|C1<|P5 Z Z<|C0<|C8<|sg 0 Z<|Q3 (D8c Z (D24 (hgl _) (hmm _) hent)) Z<|A0 (A9 Z Z) Z<|A0 J7 Z<|P6 (F9 (ds:=C6c cI e.1) Z Z Z Z (F2 Z) Z) Z<|es (ra9 Z Z Z Z Z Z Z Z Z)<|s0<|A0 (D1 Z Z Z) Z<|A0 (S5 (cs:=[.i 0,.i 0,.i 0]) Z Z) Z<|A0 (D5z (a:=C6c cI e.1) (b:=[.i 0,.i 0,.i 0]) Z Z Z Z (T3 (T3 (T3 B1r)))) Z<|qm Z<|gp 5 80 (.b (bs.getD i false)) 75 Z Z (fun hc1=>?_) (fun hc1=>?_) ?_
   ·refine oB (bt hpo hc1) fun v hv hpo=>?_
    have hz:=os hpo
    rw[← hz]
    exact gT Z hc1<|qm Z<|gT Z hc1<|A0 (D50 (e:=Ar3.l e.1) Z Z Z hv) Z<|gT Z hc1<|A0 (D52 (f:=cI) (g:=fun n=>.i n) (e:=Ar3.l e.1) (fun _=>rfl) Z (E0 Z) Z hv) Z<|gT Z hc1<|A0 (Z2 Z Z) Z<|A0 (C4 Z hc1 Z) Z<|ge 5 Z Z Z
   ·have hz:=os (bf hpo hc1)
    rw[← hz]
    exact nT Z hc1 Z<|nT Z hc1 Z<|nT Z hc1 Z<|nT Z hc1 Z<|A0 (C3 Z hc1 Z) Z<|ge 5 Z Z Z
   ·refine es (ra9 Z Z Z Z Z Z Z Z Z) ?_
    rw[hsn]
    by_cases hbi:bs.getD i false=true
    ·rw[if_pos hbi,← hw]
     refine P5 Z hbi<|r0<|qm Z<|A0 (F7 Z Z) Z<|qm Z<|en (ra8 Z Z Z Z Z Z Z Z) ?_
     exact⟨Z,su8 Z Z Z Z Z Z Z Z,htk _⟩
    ·rw[if_neg hbi,Z2x]
     refine R7 Z (by simpa using hbi)<|C0 ?_
     exact⟨Z,su8 Z Z Z Z Z Z Z Z,htk _⟩
  ·intro seen i
   simp only[hle]
   have hbl':(AV.itr l).bd Hh.length=true:= by simp only[AV.bd];exact Nat.ble_eq_true_of_le hlt
   exact bdc hb2 (bdc hb3 (bdc hb8 (bdc A4 (bdc A4 (bdc hb62 (bdc hb63 (bdc hbl' bdn)))))))
  ·intro seen hnd hall
   refine C1<|R7 Z Z<|I1 ?_
   refine⟨Z,Z,?_,⟨_,_,_,hgl _⟩,hss _ _⟩
   rw[← D7g hnd (by rw[hbl];exact hall)]
   exact su7 Z Z Z Z Z Z Z
 ·cases h
end Pw
end
section
set_option maxRecDepth 100000
set_option maxHeartbeats 0
namespace Pw
open Go Am Go.Proofs.YtjpjdglddmhplaaGreat.Cd
def A7p (a0:pawn_found) (a1:pawn_found):Option Int :=
 some (w64 (a0.without_-a1.without_))
theorem C0h {c:Sc} {H:A1} {a0:pawn_found} {a1:pawn_found} {r:Int} (h:A7p a0 a1=some r) :
  F0 tab c H (.fn (.func 74) [] []) [(.agg (C7 a0)),(.agg (C7 a1))] [.i r]:= by
 unfold A7p at h
 refine cE Z Z<|sg 0 Z<|A0 (F8 (cs:=C7 a0) Z Z Z) Z<|A0 (F8 (cs:=C7 a1) Z Z Z) Z<|qm Z<|es (ra2 Z Z)<|s0<|A0 (B9 Z) Z<|A0 (B2 Z Z Z) Z<|A0 (B9 Z) Z<|A0 (B2 Z Z Z) Z<|A0 (W2 Z Z) Z<|qm Z<|es (ra1 Z)<|C6 ?_
 obtain rfl:=os h
 exact retq trivial (A7 Z B7) (A5 Z B6) (A3 A4 A8)
def D23 (few:pawn_found) (x:pawn_found) (m:Met):Option (Met⊕Unit) :=
 (if (x.without_==few.without_)=true then
  (if (!(kget m x.had_).isSome)=true then some true else some (decide (x.cost_<(kget m x.had_).getD 0))).bind fun w=>some w
 else some false).bind fun g =>
 if g=true then some (.inl (kset m x.had_ x.cost_)) else some (.inl m)
def B85 (figs:List PaFigure) (m:Met) (s:List Int×List Int×Int):Option ((List Int×List Int×Int)⊕(List Int×List Int)) :=
 if (decide (s.2.2<(Zh figs:Int)))=true then
  (B89 m s.2.2).bind fun n =>
  (if (n==0)=true then (app 8 s.1 [s.2.2]).bind fun l=>some l else some s.1).bind fun l1 =>
  (if (decide (n<(Zh m:Int)))=true then (app 8 s.2.1 [s.2.2]).bind fun l=>some l else some s.2.1).bind fun l2 =>
  some (.inl (l1,l2,w64 (s.2.2+1)))
 else some (.inr (s.1,s.2.1))
def A6b (a0:PaShow):Option (List Int×List Int×Int) :=
 (A2u a0).bind fun x1 =>
 if (x1.1==0)=true then
  (B86 (B7h a0 x1.2) A7p).bind fun few =>
  (B7h a0 x1.2 Met Unit (D23 few.1) []).bind fun o =>
  match o with
  | .inl m=>(loop (B85 a0.Figures m) ([],[],0)).bind fun y=>some (y.1,y.2,0)
  | .inr _=>none
 else some ([],[],x1.1)
theorem E15 {H:A1} {l:List AO} {j n:Nat} (h:Nat.ble (j+1) l.length=true):(AV.asl (H.length+j) n).bd (H++l).length=true:= by rw[Zm];exact A11 h
def A5q (H:A1) (t:PaShow) (X:AO) (days:List Int) (few:pawn_found) (l1 l2:List Int) (m:Met):List AO :=
 [.cells (B1 t),.arr 1 false (l1.map cI),.arr 1 false (l2.map cI),.cells (B1 t),X,.cells (A35 t days),.cells (C7 few),.cells [.ptr (H.length+5) 0],.map (C7a m),.cells [.mp (H.length+8)],.cells [.ptr (H.length+5) 0]]
theorem B4o {c:Sc} {H:A1} (hscv:T0 c H=true) {a0:PaShow} {r:List Int×List Int×Int} (h:A6b a0=some r) :
  F0 tab c H (.fn (.func 29) [] []) [.agg (B1 a0)] [.fresh 1 (r.1.map cI),.fresh 1 (r.2.1.map cI),.i r.2.2]:= by
 unfold A6b at h
 refine oB h fun x1 hx1 h=>?_
 refine cE Z Z<|sg 0 Z<|A0 (F8 (cs:=B1 a0) Z Z Z) Z<|A0 A7n Z<|A0 A7n Z<|qm Z<|es (ra3 Z Z Z)<|s0<|A0 (D1 Z Z Z) Z ?_
 by_cases hc2:(x1.1==0)=true
 ·rw[if_pos hc2]at h
  refine oB h fun few hfew h=>oB h fun o ho h=>?_
  obtain⟨X,hX⟩:=A26 hx1 hc2
  refine Q3 (A43 hX Z Z (A2 (C9 Z) B5) Z) Z<|qm Z<|A0 (A9 Z Z) Z<|A0 (A9 Z Z) Z<|qm Z<|qm Z<|es (ra5 Z Z Z Z Z)<|C1<|s0<|qm Z<|A0 (I6 Z Z) Z<|es (ra6 Z Z Z Z Z Z)<|R7 Z Z<|C0<|sg 6 Z<|qm Z<|A6a (as2:=[(.ptr (H.length+5) 0)]) (H1:=H++[.cells (B1 a0),.arr 1 false [],.arr 1 false [],.cells (B1 a0),X,.cells (A35 a0 x1.2),.dead]) Z Z (A2 Z B5) Z Z Z (B11 Z)<|sg 7 Z<|A0 (F8 (cs:=[.ptr (H.length+5) 0]) Z Z Z) Z<|qm Z<|es (ra1 Z)<|s0<|A0 (A4h Z Z) Z<|qm Z<|es (ra1 Z)<|C6<|InlQ.mk trivial ⟨_,_,_,[(.fn (.func 106) [] [(.ptr (H.length+7) 0)])],_,(A7 Z B7),(A5 Z B6),(B1z (W3 (B5n (W3 (A7f Z)))) (B1y Z B5w)),?_⟩
  refine B4 (rs:=[(.agg (C7 few.1)),.b few.2]) Z Z (A2 Z (A2 Z B5)) (C4i (C9x (t:=a0) (days:=x1.2) (bS:=H.length+7) (b:=H.length+5)) (fun h=>(C0h h).frz) (ZE (E0 Z) (E0 Z)) (A63 hscv) hfew)<|qm Z<|A0 (A9 Z Z) Z<|A0 (A9 Z Z) Z<|A0 J7 Z<|P6 (F9 (ds:=(C7 few.1)) Z Z Z Z (F2 Z) Z) Z<|qm Z<|es (ra5 Z Z Z Z Z) ?_
  refine sg 8 Z<|A0 D8h Z<|A0 J7 Z<|P6 (F9 (ds:=[.mp (H.length+8)]) Z Z Z Z (A1q (ZL _ _)) Z) Z<|es (ra6 Z Z Z Z Z Z)<|C1<|s0<|qm Z<|A6a (as2:=[(.ptr (H.length+5) 0)]) (H1:=H++[.cells (B1 a0),.arr 1 false [],.arr 1 false [],.cells (B1 a0),X,.cells (A35 a0 x1.2),.cells (C7 few.1),.cells [.ptr (H.length+5) 0],.map [],.cells [.mp (H.length+8)]]) Z Z (A2 Z B5) Z Z Z (B11 Z)<|sg 10 Z<|A0 (F8 (cs:=[.ptr (H.length+5) 0]) Z Z Z) Z<|qm Z<|es (ra1 Z)<|s0<|A0 (A4h Z Z) Z<|qm Z<|es (ra1 Z)<|C6<|InlQ.mk trivial ⟨_,_,_,[(.fn (.func 106) [] [(.ptr (H.length+10) 0)])],_,(A7 Z B7),(A5 Z B6),(B1z (W3 (B5n (W3 (A7f Z)))) (B1y Z B5w)),?_⟩
  refine es (ra6 Z Z Z Z Z Z)<|C8 ?_
  have hl11:∀m,(H++A5q H a0 X x1.2 few.1 [] [] m).length=H.length+11:=fun m=>by rw[Zm];rfl
  refine B5g (it:=B7h a0 x1.2) (sh:=shF) (pre:=B6n a0 x1.2 (H.length+10) (H.length+5)) C9x (K:=H.length+11) [(6,.ptr (H.length+6) 0),(8,.ptr (H.length+9) 0)] (fun m=>H++A5q H a0 X x1.2 few.1 [] [] m) (fun (_:Unit)=>H++A5q H a0 X x1.2 few.1 [] [] []) (fun _=>.ret) ho (fun _=>rfl) Z (fun S hS=>Q0 (live:=[6,8]) Z (by decide) (Sub.trans (su2 Z Z) hS)) Z (fun _=>hl11 _) (fun _=>hl11 _) ⟨fun _ _=>B6n.app ⟨E0 Z,E0 Z⟩,fun _ _=>B6n.app ⟨E0 Z,E0 Z⟩⟩ (A63 hscv) (fun c' x m o' L v hsc hgr hv hbo y0 y1 hy0 hy1=>?_) ?_
  ·obtain rfl:v=.agg (C7 x):=hv
   have hGl:∀m z,(H++A5q H a0 X x1.2 few.1 [] [] m++z::L).length=H.length+11+1+L.length:=fun m z=>by rw[Zm,hl11];simp;omega
   refine X5<|rg 0 Z<|A0 J7 Z<|P6 (F9 (ds:=C7 x) Z Z Z Z (A1q (by rw[hGl];exact ZL _ _)) Z) Z<|en (ra3 Z Z Z) ⟨Z,L++[.cells (C7 x)],by simp,?_⟩
   refine B7w (show _=H++(A5q H a0 X x1.2 few.1 [] [] m++(y1::(L++[AO.cells (C7 x)]))) by simp) ?_
   rw[show (AV.ptr ((H++A5q H a0 X x1.2 few.1 [] [] m++y0::L).length+(0+0)) 0)=.ptr (H.length+11+1+L.length) 0 by rw[hGl];rfl]
   have q9:∀m,hcells (H++(A5q H a0 X x1.2 few.1 [] [] m++(y1::(L++[AO.cells (C7 x)])))) (H.length+11+1+L.length)=some (C7 x):=fun m=>by
    rw[show H++(A5q H a0 X x1.2 few.1 [] [] m++(y1::(L++[AO.cells (C7 x)])))=(H++A5q H a0 X x1.2 few.1 [] [] m++y1::L)++[AO.cells (C7 x)] by simp,← hGl m y1]
    exact E0 (j:=0) Z
   have htk:∀m,(H++(A5q H a0 X x1.2 few.1 [] [] m++(y1::(L++[AO.cells (C7 x)])))).take (H.length+11+1+L.length)=H++A5q H a0 X x1.2 few.1 [] [] m++y1::L:=fun m=>by
    rw[show H++(A5q H a0 X x1.2 few.1 [] [] m++(y1::(L++[AO.cells (C7 x)])))=(H++A5q H a0 X x1.2 few.1 [] [] m++y1::L)++[AO.cells (C7 x)] by simp,← hGl m y1]
    exact Z0a
   unfold D23 at hbo
   refine oB hbo fun g hg hbo=>?_
   refine C8<|s0<|A0 (B2 (x:=.mp (H.length+8)) Z Z Z) Z<|A0 (B9 Z) Z<|A0 (A8r (ds:=C6c cI x.had_) Z (q9 m) Z Z) Z<|A0 (D8d (k:=x.had_) (es:=m) (gv:=fun n=>.i n) (z:=0) D1g Z (B0s Z) Z Z) Z<|qm Z<|A0 (A9 Z Z) Z<|A0 (A9 Z Z) Z<|qm Z<|qm Z<|es (ra5 Z Z Z Z Z)<|s0<|A0 (B9 Z) Z<|A0 (A5x (x:=.i x.without_) Z (q9 m) Z) Z<|A0 (B9 Z) Z<|A0 (B2 (x:=.i few.1.without_) Z Z Z) Z<|A0 (G2 Z Z) Z<|qm Z<|gp 9 54 (.b g) 45 Z Z (fun hc1=>?_) (fun hc1=>?_) ?_
   ·refine oB (bt hg hc1) fun w hw hg=>?_
    obtain rfl:=os hg
    refine gT Z hc1<|qm Z<|gT Z hc1<|A0 (C7g Z Z) Z<|gT Z hc1<|qm Z<|gq 5 53 (.b w) 48 Z Z (fun hc3=>?_) (fun hc3=>?_) ?_
    ·obtain rfl:=os (bt hw hc3)
     exact nF Z hc3 Z<|nF Z hc3 Z<|nF Z hc3 Z<|nF Z hc3 Z<|gT Z hc1<|A0 (C4 Z hc3 Z) Z<|ge 5 Z Z Z
    ·obtain rfl:=os (bf hw hc3)
     exact gF Z hc3<|A0 (B9 Z) Z<|gF Z hc3<|A0 (A5x (x:=.i x.cost_) Z (q9 m) Z) Z<|gF Z hc3<|qm Z<|gF Z hc3<|A0 (I4 Z Z) Z<|gT Z hc1<|A0 (C3 Z hc3 Z) Z<|ge 5 Z Z Z
    ·exact A0 (C4 Z hc1 Z) Z<|ge 5 Z Z Z
   ·obtain rfl:=os (bf hg hc1)
    exact nT Z hc1 Z<|nT Z hc1 Z<|nT Z hc1 Z<|nX Z Z<|nX Z Z<|nX Z Z<|nX Z Z<|nT Z hc1 Z<|A0 (C3 Z hc1 Z) Z<|ge 9 Z Z Z
   ·refine es (ra3 Z Z Z)<|wi hbo Z (fun hc4 hbo=>?_) fun hc4 hbo=>?_
    ·cases hbo
     refine r0<|A0 (B2 (x:=.mp (H.length+8)) Z Z Z) Z<|A0 (B9 Z) Z<|A0 (A8r (ds:=C6c cI x.had_) Z (q9 m) Z Z) Z<|A0 (B9 Z) Z<|A0 (A5x (x:=.i x.cost_) Z (q9 m) Z) Z<|P6 (D8e (k:=x.had_) (v:=x.cost_) (es:=m) (gv:=fun n=>.i n) D1g Z Z Z Z Z) Z<|en .n ⟨Z,htk _⟩
    ·cases hbo
     exact C0 ⟨Z,htk _⟩
  ·rcases o with m|m
   ·refine oB h fun y hy h=>?_
    obtain rfl:=os h
    refine B7w (show _=H++(A5q H a0 X x1.2 few.1 [] [] m++[.dead]) by simp) ?_
    refine C1<|s0<|A0 (B9 Z) Z<|A0 (B2 Z Z Z) Z<|A0 (F4 (f:=B3) Z) Z<|qm Z<|es (ra5 Z Z Z Z Z)<|C8<|wl (fun s=>[(2,.asl (H.length+1) s.1.length),(3,.asl (H.length+2) s.2.1.length),(8,.ptr (H.length+9) 0),(62,.i a0.Figures.length),(63,.i s.2.2)]) (fun (_:Unit) s=>A5q H a0 X x1.2 few.1 s.1 s.2.1 m++[.dead]) 12 (fun r e s' H'=>PX 2 [(2,.asl (H.length+1) r.1.length),(3,.asl (H.length+2) r.2.length)] (H++(A5q H a0 X x1.2 few.1 r.1 r.2 m++[.dead])) e s' H') () hy Z Z (fun _ _=>rfl) (fun _=>rfl) Z (fun _=>bdc (A11 Z) (bdc (A11 Z) (bdc (L8 Z) (bdc A4 (bdc A4 bdn))))) (fun _ s o hs=>?_) ?_
    ·obtain⟨l1,l2,i⟩:=s
     unfold B85 at hs
     refine s0<|A0 (I4 Z Z) Z<|es (ra6 Z Z Z Z Z Z)<|C1<|wi hs Z (fun hc hs=>?_) fun hc hs=>?_
     ·refine oB hs fun n hn hs=>oB hs fun k1 hl1 hs=>oB hs fun k2 hl2 hs=>?_
      simp only at hn hl1 hl2 hs
      refine C0<|C1<|C8<|s0<|qm Z<|qm Z<|es (ra6 Z Z Z Z Z Z)<|s0<|qm Z<|es (ra7 Z Z Z Z Z Z Z)<|C1<|sg 12 Z<|A0 (B2 (x:=.mp (H.length+8)) Z Z Z) Z<|Q3 (D53 Z (B0s Z)) Z<|es (ra8 Z Z Z Z Z Z Z Z)<|C8<|A10 (C86 (l:=H.length+12) (m:=H.length+8) (met:=m) (f:=i) (r:=n) (by rw[U6];show some (AO.mit _ (C7a m).length [])=_;rw[C7a,Zi]) (B0s Z) (by omega) hn (E15 Z) (E15 Z) (by rw[Zm];exact L8 Z) A4 A4) ?_
      rintro e s' H' ⟨rfl,rfl,rfl⟩
      rw[H8]
      refine C1<|s0<|qm Z<|A0 (G2 Z Z) Z<|es (ra8 Z Z Z Z Z Z Z Z)<|wi hl1 Z (fun hc5 hl1=>?_) fun hc5 hl1=>?_
      ·refine oB hl1 fun l1' hl1' hl1=>?_
       obtain rfl:=os hl1
       refine r0<|qm Z<|qm Z<|A0 (K3 (rows:=Zg cI [i]) Z Z (F5 (fun _=>rfl) _)) Z<|Q3 (A5m (f:=cI) (j:=1) Z Z Z Z A4q (fun _=>rfl) hl1') Z<|qm Z<|en (ra7 Z Z Z Z Z Z Z) ?_
       refine s0<|qm Z<|A0 (B2 (x:=.mp (H.length+8)) Z Z Z) Z<|A0 (D51 (es:=m) Z (B0s Z)) Z<|A0 (I4 Z Z) Z<|es (ra7 Z Z Z Z Z Z Z)<|wi hl2 Z (fun hc6 hl2=>?_) fun hc6 hl2=>?_
       ·refine oB hl2 fun l2' hl2' hl2=>?_
        obtain rfl:=os hl2
        refine r0<|qm Z<|qm Z<|A0 (K3 (rows:=Zg cI [i]) Z Z (F5 (fun _=>rfl) _)) Z<|Q3 (A5m (f:=cI) (j:=2) Z Z Z Z A4q (fun _=>rfl) hl2') Z<|qm Z<|en (ra5 Z Z Z Z Z) ?_
        obtain rfl:=os hs
        refine r0<|A0 (F7 Z Z) Z<|qm Z<|en (ra5 Z Z Z Z Z) ?_
        exact lnT () Z (su5 Z Z Z Z Z)
       ·obtain rfl:=os hl2
        obtain rfl:=os hs
        refine C0<|r0<|A0 (F7 Z Z) Z<|qm Z<|en (ra5 Z Z Z Z Z) ?_
        exact lnT () Z (su5 Z Z Z Z Z)
      ·obtain rfl:=os hl1
       refine C0 ?_
       refine s0<|qm Z<|A0 (B2 (x:=.mp (H.length+8)) Z Z Z) Z<|A0 (D51 (es:=m) Z (B0s Z)) Z<|A0 (I4 Z Z) Z<|es (ra7 Z Z Z Z Z Z Z)<|wi hl2 Z (fun hc6 hl2=>?_) fun hc6 hl2=>?_
       ·refine oB hl2 fun l2' hl2' hl2=>?_
        obtain rfl:=os hl2
        refine r0<|qm Z<|qm Z<|A0 (K3 (rows:=Zg cI [i]) Z Z (F5 (fun _=>rfl) _)) Z<|Q3 (A5m (f:=cI) (j:=2) Z Z Z Z A4q (fun _=>rfl) hl2') Z<|qm Z<|en (ra5 Z Z Z Z Z) ?_
        obtain rfl:=os hs
        refine r0<|A0 (F7 Z Z) Z<|qm Z<|en (ra5 Z Z Z Z Z) ?_
        exact lnT () Z (su5 Z Z Z Z Z)
       ·obtain rfl:=os hl2
        obtain rfl:=os hs
        refine C0<|r0<|A0 (F7 Z Z) Z<|qm Z<|en (ra5 Z Z Z Z Z) ?_
        exact lnT () Z (su5 Z Z Z Z Z)
     ·refine I1 ?_
      obtain rfl:=os hs
      exact lx Z px (su2 Z Z)
    ·rintro e s' H'-⟨rfl,rfl,rfl⟩
     refine s0<|qm Z<|qm Z<|qm Z<|qm Z<|qm Z<|es (ra3 Z Z Z)<|C6 ?_
     exact retq trivial (A7 Z (A7 Z (A7 Z B7))) (A5 (A6w Z (Zi _)) (A5 (A6w Z (Zi _)) (A5 Z B6))) (A3 A0i (A3 A0i (A3 A4 A8)))
   ·cases h
 ·rw[if_neg hc2]at h
  obtain rfl:=os h
  refine Q3 (S6 (rs:=[.lit (.pointer none),.i x1.1]) Z Z (A2 (C9 Z) B5) (A38 hx1 (by simpa using hc2)) Z) Z<|qm Z<|A0 (A9 Z Z) Z<|A0 (A9 Z Z) Z<|qm Z<|qm Z<|es (ra5 Z Z Z Z Z)<|C1<|s0<|qm Z<|A0 (I6 Z Z) Z<|es (ra6 Z Z Z Z Z Z)<|P5 Z (nef hc2)<|sg 3 Z<|qm Z<|A0 A7n Z<|A0 A7n Z<|qm Z<|es (ra3 Z Z Z)<|C6 ?_
  exact retq trivial (A7 Z (A7 Z (A7 Z B7))) (A5 (A6w Z Z) (A5 (A6w Z Z) (A5 Z B6))) (A3 A0i (A3 A0i (A3 A4 A8)))
def O9 :Option Bool :=
 (A9m false).bind fun x1 =>
 (A9m true).bind fun x2 =>
 (A3a x1 0 10).bind fun x3 =>
 (A1c x1 2 2).bind fun x4 =>
 (A1c x1 2 1).bind fun x5 =>
 (A4l x1 1).bind fun x6 =>
 (A4d).bind fun x7 =>
 (A0b x1 x7 45).bind fun x8 =>
 (A4d).bind fun x9 =>
 (X9 x1 x9).bind fun x10 =>
 (A4d).bind fun x11 =>
 (X9 x2 x11).bind fun x12 =>
 (A1r x1).bind fun x13 =>
 (A1r x2).bind fun x14 =>
 (A6b x2).bind fun x15 =>
 (B6l x2).bind fun x16 =>
 (A4d).bind fun x17 =>
 (B6k x1 x17).bind fun x18 =>
 (if ((((((((((((((x3.2==0)&&(x4.2==0))&&(x6.2==0))&&(x8.2==0))&&(x12.2==0))&&(x13.2.2.2==0))&&(x14.2.2.2==0))&&(x15.2.2==0))&&(x16.2==0))&&(x18.2==0))&&(x5.2==9))&&(x10.2==4))&&(x3.1==110))&&(x4.1==48))=true then
  (A0f x6.1 [0,1,2]).bind fun x33 =>
  some x33
 else
  some false).bind fun x34 =>
 (if ((x34&&(x8.1==102))&&(x12.1==0))=true then
  (S3 0 2 0).bind fun x38 =>
  (S3 1 0 0).bind fun x39 =>
  (S3 2 2 0).bind fun x40 =>
  (B3k x13.1 [x38,x39,x40]).bind fun x41 =>
  some x41
 else
  some false).bind fun x42 =>
 (if (((x42&&(x13.2.1==0))&&(x13.2.2.1==78))&&(x14.2.1==2))=true then
  (A0f x15.1 [0,2]).bind fun x47 =>
  some x47
 else
  some false).bind fun x48 =>
 (if x48=true then
  (A0f x15.2.1 [0,2]).bind fun x50 =>
  some x50
 else
  some false).bind fun x51 =>
 (if (x51&&(x16.1==58))=true then
  (A0f x18.1 [2]).bind fun x54 =>
  some x54
 else
  some false).bind fun x55 =>
 some x55
theorem O2 {c:Sc} {H:A1} (hscv:T0 c H=true)  {r:Bool} (h:O9  = some r) :
  F0 tab c H (.fn (.func 19) [] []) [] [.b r]:= by
 unfold O9 at h
 refine cE Z Z<|s0<|qm Z<|es .n<|sg 0 Z<|oB h fun x1 hx1 h=>oB h fun x2 hx2 h=>B4 (rs:=[(.agg (B1 x1))]) Z Z (A2 Z B5) ((B2p hx1).frz)<|B4 (rs:=[(.agg (B1 x2))]) Z Z (A2 Z B5) ((B2p hx2).frz)<|A0 J7 Z<|A0 J7 Z<|P6 (F9 (ds:=(B1 x1)) Z Z Z Z (F2 Z) Z) Z<|P6 (F9 (ds:=(B1 x2)) Z Z Z Z (F2 Z) Z) Z<|es (ra2 Z Z)<|s0<|oB h fun x3 hx3 h=>A0 (D1 Z Z Z) Z<|B4 (rs:=[.i x3.1,.i x3.2]) Z Z (A2 (C9 Z) (A2 Z (A2 Z B5))) ((B00 hx3).frz)<|qm Z<|A0 (A9 Z Z) Z<|A0 (A9 Z Z) Z<|qm Z<|qm Z<|es (ra4 Z Z Z Z)<|s0<|oB h fun x4 hx4 h=>A0 (D1 Z Z Z) Z<|B4 (rs:=[.i x4.1,.i x4.2]) Z Z (A2 (C9 Z) (A2 Z (A2 Z B5))) ((A6t hx4).frz)<|qm Z<|A0 (A9 Z Z) Z<|A0 (A9 Z Z) Z<|qm Z<|qm Z<|es (ra6 Z Z Z Z Z Z)<|s0<|oB h fun x5 hx5 h=>A0 (D1 Z Z Z) Z<|B4 (rs:=[.i x5.1,.i x5.2]) Z Z (A2 (C9 Z) (A2 Z (A2 Z B5))) ((A6t hx5).frz)<|qm Z<|A0 (A9 Z Z) Z<|A0 (A9 Z Z) Z<|qm Z<|qm Z<|es (ra7 Z Z Z Z Z Z Z)<|s0<|oB h fun x6 hx6 h=>A0 (D1 Z Z Z) Z<|B4 (rs:=[(.seq 1 (Zg cI x6.1)),.i x6.2]) Z Z (A2 (C9 Z) (A2 Z B5)) ((B2r hx6).frz)<|qm Z<|A0 (A9 Z Z) Z<|A0 (A9 Z Z) Z<|qm Z<|qm Z<|es (ra9 Z Z Z Z Z Z Z Z Z)<|s0<|oB h fun x7 hx7 h=>oB h fun x8 hx8 h=>A0 (D1 Z Z Z) Z<|V0 (rs:=[(.seq 3 (Zg A6 x7))]) Z Z A0u B5 ((A42 hx7).frz)<|B4 (rs:=[.i x8.1,.i x8.2]) Z Z (A2 (C9 Z) (A2 Z (A2 Z B5))) ((A19 hx8).frz)<|qm Z ?_
 refine A0 (A9 Z Z) Z<|A0 (A9 Z Z) Z<|qm Z<|qm Z<|es (ra11 Z Z Z Z Z Z Z Z Z Z Z)<|s0<|oB h fun x9 hx9 h=>oB h fun x10 hx10 h=>A0 (D1 Z Z Z) Z<|V0 (rs:=[(.seq 3 (Zg A6 x9))]) Z Z A0u B5 ((A42 hx9).frz)<|B4 (rs:=[.i x10.1,.i x10.2]) Z Z (A2 (C9 Z) (A2 Z B5)) ((A2a hx10).frz)<|qm Z<|A0 (A9 Z Z) Z<|A0 (A9 Z Z) Z<|qm Z<|qm Z<|es (ra12 Z Z Z Z Z Z Z Z Z Z Z Z)<|s0<|oB h fun x11 hx11 h=>oB h fun x12 hx12 h=>A0 (D1 Z Z Z) Z<|V0 (rs:=[(.seq 3 (Zg A6 x11))]) Z Z A0u B5 ((A42 hx11).frz)<|B4 (rs:=[.i x12.1,.i x12.2]) Z Z (A2 (C9 Z) (A2 Z B5)) ((A2a hx12).frz)<|qm Z<|A0 (A9 Z Z) Z<|A0 (A9 Z Z) Z<|qm Z<|qm Z<|es (ra14 Z Z Z Z Z Z Z Z Z Z Z Z Z Z)<|s0<|oB h fun x13 hx13 h=>A0 (D1 Z Z Z) Z<|B4 (rs:=[(.seq 3 (Zg A6 x13.1)),.i x13.2.1,.i x13.2.2.1,.i x13.2.2.2]) Z Z (A2 (C9 Z) B5) ((A3r (A63 hscv) hx13).frz)<|qm Z<|A0 (A9 Z Z) Z<|A0 (A9 Z Z) Z<|A0 (A9 Z Z) Z<|A0 (A9 Z Z) Z<|qm Z<|qm Z<|qm Z<|qm Z<|es (.k Z (.k Z (.k Z (.k Z (.k Z (.k Z (.k Z (.k Z (.k Z (.k Z (.k Z (.k Z (.k Z (.k Z (.k Z (.k Z (.k Z (.k Z .n))))))))))))))))))<|s0<|oB h fun x14 hx14 h=>A0 (D1 Z Z Z) Z<|B4 (rs:=[(.seq 3 (Zg A6 x14.1)),.i x14.2.1,.i x14.2.2.1,.i x14.2.2.2]) Z Z (A2 (C9 Z) B5) ((A3r (A63 hscv) hx14).frz)<|qm Z<|A0 (A9 Z Z) Z<|A0 (A9 Z Z) Z<|A0 (A9 Z Z) Z<|A0 (A9 Z Z) Z<|qm Z<|qm Z<|qm Z<|qm Z<|es (.k Z (.k Z (.k Z (.k Z (.k Z (.k Z (.k Z (.k Z (.k Z (.k Z (.k Z (.k Z (.k Z (.k Z (.k Z (.k Z (.k Z (.k Z (.k Z (.k Z .n))))))))))))))))))))<|s0<|oB h fun x15 hx15 h=>A0 (D1 Z Z Z) Z<|B4 (rs:=[(.seq 1 (Zg cI x15.1)),(.seq 1 (Zg cI x15.2.1)),.i x15.2.2]) Z Z (A2 (C9 Z) B5) ((B4o (A63 hscv) hx15).frz) ?_
 refine qm Z<|A0 (A9 Z Z) Z<|A0 (A9 Z Z) Z<|A0 (A9 Z Z) Z<|qm Z<|qm Z<|qm Z<|es (.k Z (.k Z (.k Z (.k Z (.k Z (.k Z (.k Z (.k Z (.k Z (.k Z (.k Z (.k Z (.k Z (.k Z (.k Z (.k Z (.k Z (.k Z (.k Z (.k Z (.k Z (.k Z (.k Z .n)))))))))))))))))))))))<|s0<|oB h fun x16 hx16 h=>A0 (D1 Z Z Z) Z<|B4 (rs:=[.i x16.1,.i x16.2]) Z Z (A2 (C9 Z) B5) ((C5g (A63 hscv) hx16).frz)<|qm Z<|A0 (A9 Z Z) Z<|A0 (A9 Z Z) Z<|qm Z<|qm Z<|es (.k Z (.k Z (.k Z (.k Z (.k Z (.k Z (.k Z (.k Z (.k Z (.k Z (.k Z (.k Z (.k Z (.k Z (.k Z (.k Z (.k Z (.k Z (.k Z (.k Z (.k Z (.k Z (.k Z (.k Z .n))))))))))))))))))))))))<|s0<|oB h fun x17 hx17 h=>oB h fun x18 hx18 h=>A0 (D1 Z Z Z) Z<|V0 (rs:=[(.seq 3 (Zg A6 x17))]) Z Z A0u B5 ((A42 hx17).frz)<|B4 (rs:=[(.seq 1 (Zg cI x18.1)),.i x18.2]) Z Z (A2 (C9 Z) (A2 Z B5)) ((C5f hx18).frz)<|qm Z<|A0 (A9 Z Z) Z<|A0 (A9 Z Z) Z<|qm Z<|qm Z<|es (.k Z (.k Z (.k Z (.k Z (.k Z (.k Z (.k Z (.k Z (.k Z (.k Z (.k Z (.k Z (.k Z (.k Z (.k Z (.k Z (.k Z (.k Z (.k Z (.k Z (.k Z (.k Z (.k Z (.k Z (.k Z .n)))))))))))))))))))))))))<|s0<|oB h fun x34 hx34 h=>oB h fun x42 hx42 h=>oB h fun x48 hx48 h=>oB h fun x51 hx51 h=>oB h fun x55 hx55 h=>qm Z<|A0 (G2 Z Z) Z<|qm Z<|gp 3 108 (.b ((x3.2==0)&&(x4.2==0))) 105 Z Z (fun hg19=>?_) (fun hg19=>?_) ?_
 ·exact gT Z hg19<|qm Z<|gT Z hg19<|A0 (G2 Z Z) Z<|A0 (C4 Z hg19 Z) Z<|ge 3 (by rw[hg19];rfl) Z Z
 ·exact nT Z hg19 Z<|nT Z hg19 Z<|A0 (C3 Z hg19 Z) Z<|ge 3 (by rw[hg19];rfl) Z Z
 refine qm Z<|gp 3 112 (.b (((x3.2==0)&&(x4.2==0))&&(x6.2==0))) 109 Z Z (fun hg20=>?_) (fun hg20=>?_) ?_
 ·exact gT Z hg20<|qm Z<|gT Z hg20<|A0 (G2 Z Z) Z<|A0 (C4 Z hg20 Z) Z<|ge 3 (by rw[hg20];rfl) Z Z
 ·exact nT Z hg20 Z<|nT Z hg20 Z<|A0 (C3 Z hg20 Z) Z<|ge 3 (by rw[hg20];rfl) Z Z
 refine qm Z<|gp 3 116 (.b ((((x3.2==0)&&(x4.2==0))&&(x6.2==0))&&(x8.2==0))) 113 Z Z (fun hg21=>?_) (fun hg21=>?_) ?_
 ·exact gT Z hg21<|qm Z<|gT Z hg21<|A0 (G2 Z Z) Z<|A0 (C4 Z hg21 Z) Z<|ge 3 (by rw[hg21];rfl) Z Z
 ·exact nT Z hg21 Z<|nT Z hg21 Z<|A0 (C3 Z hg21 Z) Z<|ge 3 (by rw[hg21];rfl) Z Z
 refine qm Z<|gp 3 120 (.b (((((x3.2==0)&&(x4.2==0))&&(x6.2==0))&&(x8.2==0))&&(x12.2==0))) 117 Z Z (fun hg22=>?_) (fun hg22=>?_) ?_
 ·exact gT Z hg22<|qm Z<|gT Z hg22<|A0 (G2 Z Z) Z<|A0 (C4 Z hg22 Z) Z<|ge 3 (by rw[hg22];rfl) Z Z
 ·exact nT Z hg22 Z<|nT Z hg22 Z<|A0 (C3 Z hg22 Z) Z<|ge 3 (by rw[hg22];rfl) Z Z
 refine qm Z<|gp 3 124 (.b ((((((x3.2==0)&&(x4.2==0))&&(x6.2==0))&&(x8.2==0))&&(x12.2==0))&&(x13.2.2.2==0))) 121 Z Z (fun hg23=>?_) (fun hg23=>?_) ?_
 ·exact gT Z hg23<|qm Z<|gT Z hg23<|A0 (G2 Z Z) Z<|A0 (C4 Z hg23 Z) Z<|ge 3 (by rw[hg23];rfl) Z Z
 ·exact nT Z hg23 Z<|nT Z hg23 Z<|A0 (C3 Z hg23 Z) Z<|ge 3 (by rw[hg23];rfl) Z Z
 refine qm Z<|gp 3 128 (.b (((((((x3.2==0)&&(x4.2==0))&&(x6.2==0))&&(x8.2==0))&&(x12.2==0))&&(x13.2.2.2==0))&&(x14.2.2.2==0))) 125 Z Z (fun hg24=>?_) (fun hg24=>?_) ?_
 ·exact gT Z hg24<|qm Z<|gT Z hg24<|A0 (G2 Z Z) Z<|A0 (C4 Z hg24 Z) Z<|ge 3 (by rw[hg24];rfl) Z Z
 ·exact nT Z hg24 Z<|nT Z hg24 Z<|A0 (C3 Z hg24 Z) Z<|ge 3 (by rw[hg24];rfl) Z Z
 refine qm Z<|gp 3 132 (.b ((((((((x3.2==0)&&(x4.2==0))&&(x6.2==0))&&(x8.2==0))&&(x12.2==0))&&(x13.2.2.2==0))&&(x14.2.2.2==0))&&(x15.2.2==0))) 129 Z Z (fun hg25=>?_) (fun hg25=>?_) ?_
 ·exact gT Z hg25<|qm Z<|gT Z hg25<|A0 (G2 Z Z) Z<|A0 (C4 Z hg25 Z) Z<|ge 3 (by rw[hg25];rfl) Z Z
 ·exact nT Z hg25 Z<|nT Z hg25 Z<|A0 (C3 Z hg25 Z) Z<|ge 3 (by rw[hg25];rfl) Z Z
 refine qm Z<|gp 3 136 (.b (((((((((x3.2==0)&&(x4.2==0))&&(x6.2==0))&&(x8.2==0))&&(x12.2==0))&&(x13.2.2.2==0))&&(x14.2.2.2==0))&&(x15.2.2==0))&&(x16.2==0))) 133 Z Z (fun hg26=>?_) (fun hg26=>?_) ?_
 ·exact gT Z hg26<|qm Z<|gT Z hg26<|A0 (G2 Z Z) Z<|A0 (C4 Z hg26 Z) Z<|ge 3 (by rw[hg26];rfl) Z Z
 ·exact nT Z hg26 Z<|nT Z hg26 Z<|A0 (C3 Z hg26 Z) Z<|ge 3 (by rw[hg26];rfl) Z Z
 refine qm Z<|gp 3 140 (.b ((((((((((x3.2==0)&&(x4.2==0))&&(x6.2==0))&&(x8.2==0))&&(x12.2==0))&&(x13.2.2.2==0))&&(x14.2.2.2==0))&&(x15.2.2==0))&&(x16.2==0))&&(x18.2==0))) 137 Z Z (fun hg27=>?_) (fun hg27=>?_) ?_
 ·exact gT Z hg27<|qm Z<|gT Z hg27<|A0 (G2 Z Z) Z<|A0 (C4 Z hg27 Z) Z<|ge 3 (by rw[hg27];rfl) Z Z
 ·exact nT Z hg27 Z<|nT Z hg27 Z<|A0 (C3 Z hg27 Z) Z<|ge 3 (by rw[hg27];rfl) Z Z
 refine qm Z<|gp 3 144 (.b (((((((((((x3.2==0)&&(x4.2==0))&&(x6.2==0))&&(x8.2==0))&&(x12.2==0))&&(x13.2.2.2==0))&&(x14.2.2.2==0))&&(x15.2.2==0))&&(x16.2==0))&&(x18.2==0))&&(x5.2==9))) 141 Z Z (fun hg28=>?_) (fun hg28=>?_) ?_
 ·exact gT Z hg28<|qm Z<|gT Z hg28<|A0 (G2 Z Z) Z<|A0 (C4 Z hg28 Z) Z<|ge 3 (by rw[hg28];rfl) Z Z
 ·exact nT Z hg28 Z<|nT Z hg28 Z<|A0 (C3 Z hg28 Z) Z<|ge 3 (by rw[hg28];rfl) Z Z
 refine qm Z<|gp 3 148 (.b ((((((((((((x3.2==0)&&(x4.2==0))&&(x6.2==0))&&(x8.2==0))&&(x12.2==0))&&(x13.2.2.2==0))&&(x14.2.2.2==0))&&(x15.2.2==0))&&(x16.2==0))&&(x18.2==0))&&(x5.2==9))&&(x10.2==4))) 145 Z Z (fun hg29=>?_) (fun hg29=>?_) ?_
 ·exact gT Z hg29<|qm Z<|gT Z hg29<|A0 (G2 Z Z) Z<|A0 (C4 Z hg29 Z) Z<|ge 3 (by rw[hg29];rfl) Z Z
 ·exact nT Z hg29 Z<|nT Z hg29 Z<|A0 (C3 Z hg29 Z) Z<|ge 3 (by rw[hg29];rfl) Z Z
 refine qm Z<|gp 3 152 (.b (((((((((((((x3.2==0)&&(x4.2==0))&&(x6.2==0))&&(x8.2==0))&&(x12.2==0))&&(x13.2.2.2==0))&&(x14.2.2.2==0))&&(x15.2.2==0))&&(x16.2==0))&&(x18.2==0))&&(x5.2==9))&&(x10.2==4))&&(x3.1==110))) 149 Z Z (fun hg30=>?_) (fun hg30=>?_) ?_
 ·exact gT Z hg30<|qm Z<|gT Z hg30<|A0 (G2 Z Z) Z<|A0 (C4 Z hg30 Z) Z<|ge 3 (by rw[hg30];rfl) Z Z
 ·exact nT Z hg30 Z<|nT Z hg30 Z<|A0 (C3 Z hg30 Z) Z<|ge 3 (by rw[hg30];rfl) Z Z
 refine qm Z<|gp 3 156 (.b ((((((((((((((x3.2==0)&&(x4.2==0))&&(x6.2==0))&&(x8.2==0))&&(x12.2==0))&&(x13.2.2.2==0))&&(x14.2.2.2==0))&&(x15.2.2==0))&&(x16.2==0))&&(x18.2==0))&&(x5.2==9))&&(x10.2==4))&&(x3.1==110))&&(x4.1==48))) 153 Z Z (fun hg31=>?_) (fun hg31=>?_) ?_
 ·exact gT Z hg31<|qm Z<|gT Z hg31<|A0 (G2 Z Z) Z<|A0 (C4 Z hg31 Z) Z<|ge 3 (by rw[hg31];rfl) Z Z
 ·exact nT Z hg31 Z<|nT Z hg31 Z<|A0 (C3 Z hg31 Z) Z<|ge 3 (by rw[hg31];rfl) Z Z
 refine qm Z<|gp 4 161 (.b x34) 157 Z Z (fun hg32=>?_) (fun hg32=>?_) ?_
 ·refine oB (bt hx34 hg32) fun x33 hx33 hx34=>?_
  obtain rfl:=os hx34
  exact gT Z hg32<|qm Z<|gT Z hg32<|A0 (K3 (rows:=Zg cI [0,1,2]) Z Z (F5 (fun _=>rfl) _)) Z<|gT Z hg32<|B4 (rs:=[.b x33]) Z Z (A2 Z (A2 Z B5)) ((A2b hx33).frz)<|A0 (C4 Z hg32 Z) Z<|ge 4 Z Z Z
 ·obtain rfl:=os (bf hx34 hg32)
  exact nT Z hg32 Z<|nT Z hg32 Z<|G5 (D3 Z (by rw[hg32];rfl)) Z<|A0 (C3 Z hg32 Z) Z<|ge 4 Z Z Z
 refine qm Z<|gp 3 165 (.b (x34&&(x8.1==102))) 162 Z Z (fun hg35=>?_) (fun hg35=>?_) ?_
 ·exact gT Z hg35<|qm Z<|gT Z hg35<|A0 (G2 Z Z) Z<|A0 (C4 Z hg35 Z) Z<|ge 3 (by rw[hg35];rfl) Z Z
 ·exact nT Z hg35 Z<|nT Z hg35 Z<|A0 (C3 Z hg35 Z) Z<|ge 3 (by rw[hg35];rfl) Z Z
 refine qm Z<|gp 3 169 (.b ((x34&&(x8.1==102))&&(x12.1==0))) 166 Z Z (fun hg36=>?_) (fun hg36=>?_) ?_
 ·exact gT Z hg36<|qm Z<|gT Z hg36<|A0 (G2 Z Z) Z<|A0 (C4 Z hg36 Z) Z<|ge 3 (by rw[hg36];rfl) Z Z
 ·exact nT Z hg36 Z<|nT Z hg36 Z<|A0 (C3 Z hg36 Z) Z<|ge 3 (by rw[hg36];rfl) Z Z
 refine qm Z<|gp 7 177 (.b x42) 170 Z Z (fun hg37=>?_) (fun hg37=>?_) ?_
 ·refine oB (bt hx42 hg37) fun x38 hx38 hx42=>oB hx42 fun x39 hx39 hx42=>oB hx42 fun x40 hx40 hx42=>oB hx42 fun x41 hx41 hx42=>?_
  obtain rfl:=os hx42
  exact gT Z hg37<|qm Z<|gT Z hg37<|B4 (rs:=[(.agg (A6 x38))]) Z Z (A2 Z (A2 Z (A2 Z B5))) ((W8 hx38).frz)<|gT Z hg37<|B4 (rs:=[(.agg (A6 x39))]) Z Z (A2 Z (A2 Z (A2 Z B5))) ((W8 hx39).frz)<|gT Z hg37<|B4 (rs:=[(.agg (A6 x40))]) Z Z (A2 Z (A2 Z (A2 Z B5))) ((W8 hx40).frz)<|gT Z hg37<|A0 (K3 (rows:=Zg A6 [x38,x39,x40]) Z Z (F5 (fun _=>rfl) _)) Z<|gT Z hg37<|B4 (rs:=[.b x41]) Z Z (A2 Z (A2 Z B5)) ((C14 hx41).frz)<|A0 (C4 Z hg37 Z) Z<|ge 7 Z Z Z
 ·obtain rfl:=os (bf hx42 hg37)
  exact nT Z hg37 Z<|G5 (D3 Z (by rw[hg37];rfl)) Z<|G5 (D3 Z (by rw[hg37];rfl)) Z<|G5 (D3 Z (by rw[hg37];rfl)) Z<|nT Z hg37 Z<|G5 (D3 Z (by rw[hg37];rfl)) Z<|A0 (C3 Z hg37 Z) Z<|ge 7 Z Z Z
 refine qm Z<|gp 3 181 (.b (x42&&(x13.2.1==0))) 178 Z Z (fun hg43=>?_) (fun hg43=>?_) ?_
 ·exact gT Z hg43<|qm Z<|gT Z hg43<|A0 (G2 Z Z) Z<|A0 (C4 Z hg43 Z) Z<|ge 3 (by rw[hg43];rfl) Z Z
 ·exact nT Z hg43 Z<|nT Z hg43 Z<|A0 (C3 Z hg43 Z) Z<|ge 3 (by rw[hg43];rfl) Z Z
 refine qm Z<|gp 3 185 (.b ((x42&&(x13.2.1==0))&&(x13.2.2.1==78))) 182 Z Z (fun hg44=>?_) (fun hg44=>?_) ?_
 ·exact gT Z hg44<|qm Z<|gT Z hg44<|A0 (G2 Z Z) Z<|A0 (C4 Z hg44 Z) Z<|ge 3 (by rw[hg44];rfl) Z Z
 ·exact nT Z hg44 Z<|nT Z hg44 Z<|A0 (C3 Z hg44 Z) Z<|ge 3 (by rw[hg44];rfl) Z Z
 refine qm Z<|gp 3 189 (.b (((x42&&(x13.2.1==0))&&(x13.2.2.1==78))&&(x14.2.1==2))) 186 Z Z (fun hg45=>?_) (fun hg45=>?_) ?_
 ·exact gT Z hg45<|qm Z<|gT Z hg45<|A0 (G2 Z Z) Z<|A0 (C4 Z hg45 Z) Z<|ge 3 (by rw[hg45];rfl) Z Z
 ·exact nT Z hg45 Z<|nT Z hg45 Z<|A0 (C3 Z hg45 Z) Z<|ge 3 (by rw[hg45];rfl) Z Z
 refine qm Z<|gp 4 194 (.b x48) 190 Z Z (fun hg46=>?_) (fun hg46=>?_) ?_
 ·refine oB (bt hx48 hg46) fun x47 hx47 hx48=>?_
  obtain rfl:=os hx48
  exact gT Z hg46<|qm Z<|gT Z hg46<|A0 (K3 (rows:=Zg cI [0,2]) Z Z (F5 (fun _=>rfl) _)) Z<|gT Z hg46<|B4 (rs:=[.b x47]) Z Z (A2 Z (A2 Z B5)) ((A2b hx47).frz)<|A0 (C4 Z hg46 Z) Z<|ge 4 Z Z Z
 ·obtain rfl:=os (bf hx48 hg46)
  exact nT Z hg46 Z<|nT Z hg46 Z<|G5 (D3 Z (by rw[hg46];rfl)) Z<|A0 (C3 Z hg46 Z) Z<|ge 4 Z Z Z
 refine qm Z<|gp 4 199 (.b x51) 195 Z Z (fun hg49=>?_) (fun hg49=>?_) ?_
 ·refine oB (bt hx51 hg49) fun x50 hx50 hx51=>?_
  obtain rfl:=os hx51
  exact gT Z hg49<|qm Z<|gT Z hg49<|A0 (K3 (rows:=Zg cI [0,2]) Z Z (F5 (fun _=>rfl) _)) Z<|gT Z hg49<|B4 (rs:=[.b x50]) Z Z (A2 Z (A2 Z B5)) ((A2b hx50).frz)<|A0 (C4 Z hg49 Z) Z<|ge 4 Z Z Z
 ·obtain rfl:=os (bf hx51 hg49)
  exact nT Z hg49 Z<|nT Z hg49 Z<|G5 (D3 Z (by rw[hg49];rfl)) Z<|A0 (C3 Z hg49 Z) Z<|ge 4 Z Z Z
 refine qm Z<|gp 3 203 (.b (x51&&(x16.1==58))) 200 Z Z (fun hg52=>?_) (fun hg52=>?_) ?_
 ·exact gT Z hg52<|qm Z<|gT Z hg52<|A0 (G2 Z Z) Z<|A0 (C4 Z hg52 Z) Z<|ge 3 (by rw[hg52];rfl) Z Z
 ·exact nT Z hg52 Z<|nT Z hg52 Z<|A0 (C3 Z hg52 Z) Z<|ge 3 (by rw[hg52];rfl) Z Z
 refine qm Z<|gp 4 208 (.b x55) 204 Z Z (fun hg53=>?_) (fun hg53=>?_) ?_
 ·refine oB (bt hx55 hg53) fun x54 hx54 hx55=>?_
  obtain rfl:=os hx55
  exact gT Z hg53<|qm Z<|gT Z hg53<|A0 (K3 (rows:=Zg cI [2]) Z Z (F5 (fun _=>rfl) _)) Z<|gT Z hg53<|B4 (rs:=[.b x54]) Z Z (A2 Z (A2 Z B5)) ((A2b hx54).frz)<|A0 (C4 Z hg53 Z) Z<|ge 4 Z Z Z
 ·obtain rfl:=os (bf hx55 hg53)
  exact nT Z hg53 Z<|nT Z hg53 Z<|G5 (D3 Z (by rw[hg53];rfl)) Z<|A0 (C3 Z hg53 Z) Z<|ge 4 Z Z Z
 refine qm Z<|es (ra1 Z)<|C6 ?_
 obtain rfl:=os h
 exact retq trivial (A7 Z B7) (A5 Z B6) (A3 A4 A8)
end Pw
end
section
set_option maxRecDepth 100000
namespace Pw
theorem awake:O9=some true:= by decide +kernel
end Pw
end
section
set_option maxRecDepth 10000
namespace Pw
open Go Am
theorem D21:∀l n:Fin 16,A5d ⟨ByteArray.empty,(l.val:Int),false,0,0,0,0,0⟩ ⟨ByteArray.empty,0,0,(n.val:Int)⟩=some (A1l (n.val:Int) (l.val:Int)==0):= by decide +kernel
theorem C5l {g:PaGown} (hg:GwOk g) {y:PaFigure} (hy:FgOk y):A5d g y=some (B4h g y):= by
 have h1:=hg.looks
 have h2:=hy.needs
 have:=D21 ⟨g.Looks.toNat,by omega⟩ ⟨y.Needs.toNat,by omega⟩
 simp only at this
 rw[Z3o h1.1,Z3o h2.1]at this
 exact this
theorem C7z (g:PaGown) (x:PaUse):A60 g x=some (A8l g x):= by
 unfold A60 A8l
 cases g.Pawn
 ·simp
 ·simp only[A4b,Zd]
  generalize out 0 364 x.Day=b
  cases b <;> cases x.How==2&&x.Day==0 <;> cases x.How==1 <;> rfl
theorem B3l {s:PaShow} (hs:ShOk s) {f:Int} (hf:0≤f∧f<s.Figures.length) (x:PaUse):A3e s f x=some (V2 s.Gowns s.Figures[f.toNat]! x):= by
 have hG:=hs.gowns
 unfold A3e V2
 by_cases hx:x.Gown = -1
 ·rw[if_pos (by simp[hx]),if_pos hx]
  by_cases hb:x.How=0∧x.Day=0
  ·rw[if_pos hb,if_neg (by simp[hb.1,hb.2])]
  ·rw[if_neg hb,if_pos (by simp;omega)]
 ·rw[if_neg (by simp[hx]),if_neg hx,F3 (by omega),A4b]
  simp only[Zd,Bool.not_not]
  cases ho:out 0 ((s.Gowns.length:Int)-1) x.Gown with
  | true=>rfl
  | false =>
   have hg:=O5.mp ho
   simp only[Zj,if_false]
   rw[Z5 (l:=s.Gowns) hg.1 (by omega),Z5 (l:=s.Figures) hf.1 hf.2]
   have hok:=hs.gown _ (J5 (l:=s.Gowns) (i:=x.Gown.toNat) (by omega))
   have hok2:=hs.figure _ (J5 (l:=s.Figures) (i:=f.toNat) (by omega))
   generalize s.Gowns[x.Gown.toNat]! = g at hok
   generalize s.Figures[f.toNat]! = y at hok2
   simp only[Zd]
   rw[C7z,C5l hok hok2]
   simp only[Zd]
   unfold B2k
   cases A8l g x
   ·rfl
   ·cases ((x.How==1&&(decide (x.Day>g.Last)||decide (x.Day>y.Day)))||(x.How==2&&decide (y.Until>g.Last)))
    ·cases B4h g y <;> rfl
    ·rfl
theorem B45 {g:PaGown} (h:GwOk g) {day:Int} (hd:0≤day∧day≤364):A3d g day=some (price g day):= by
 have:=B29 h ⟨ByteArray.empty,0,0,0⟩ hd
 rw[← this]
 unfold A3d A0c
 rw[Int.add_comm (w64 (Int.tdiv (w64 (g.Ago+day)) 30)) 1]
theorem C03 {g:PaGown} (h:GwOk g) {f:PaFigure} (hf:FgOk f):A8w g f=some (B9i g f):=B9b h hf 0
end Pw
end
section
set_option maxRecDepth 100000
set_option maxHeartbeats 0
namespace Pw
open Go Am Go.Proofs.YtjpjdglddmhplaaGreat.Cd
def A21 (a0:PaShow) (a1:Int) (a2:PaUse):Option (Int×Int) :=
 if (a2.Gown==(-1))=true then
  some (0,0)
 else
  if (a2.How==1)=true then
  (idx a0.Gowns a2.Gown).bind fun x3 =>
  (A3d x3 a2.Day).bind fun x4 =>
  some (x4,a2.Day)
  else
  if (a2.How==2)=true then
   (idx a0.Gowns a2.Gown).bind fun x6 =>
   (idx a0.Figures a1).bind fun x7 =>
   (A8w x6 x7).bind fun x8 =>
   (idx a0.Figures a1).bind fun x9 =>
   some (x8,x9.Day)
  else
   some (0,0)
theorem A77 {c:Sc} {H:A1} {a0:PaShow} {a1:Int} {a2:PaUse} {r:(Int×Int)} (h:A21 a0 a1 a2=some r) :
  F0 tab c H (.fn (.func 78) [] []) [(.agg (B1 a0)),.i a1,(.agg (A6 a2))] [.i r.1,.i r.2]:= by
 unfold A21 at h
 refine cE Z Z<|sg 0 Z<|A0 (F8 (cs:=B1 a0) Z Z Z) Z<|A0 (F8 (cs:=A6 a2) Z Z Z) Z<|qm Z<|qm Z<|es (ra3 Z Z Z)<|C1<|C8<|s0<|A0 (B9 Z) Z<|A0 (B2 Z Z Z) Z<|A0 (G2 Z Z) Z<|qm Z<|es (ra4 Z Z Z Z)<|wi h Z (fun hc1 h=>?_) fun hc1 h=>?_
 ·refine s0<|qm Z<|qm Z<|es (ra2 Z Z)<|C6 ?_
  obtain rfl:=os h
  exact retq trivial (A7 Z (A7 Z B7)) (A5 Z (A5 Z B6)) (A3 A4 (A3 A4 A8))
 ·refine s0<|A0 (B9 Z) Z<|A0 (B2 Z Z Z) Z<|A0 (G2 Z Z) Z<|qm Z<|es (ra4 Z Z Z Z)<|wi h Z (fun hc2 h=>?_) fun hc2 h=>?_
  ·refine s0<|oB h fun x3 hx3 h=>oB h fun x4 hx4 h=>A0 (B9 Z) Z<|A0 (B2 Z Z Z) Z<|A0 (B9 Z) Z<|A0 (B2 Z Z Z) Z<|A0 (D6 (f:=C5) Z Z hx3) Z<|A0 (G6 Z Z) Z<|A0 (B9 Z) Z<|A0 (B2 Z Z Z) Z<|V0 (rs:=[.i x4]) Z Z (T5 Z (T5 Z A0u)) (A2 (C9 Z) (A2 Z B5)) ((B03 hx4).frz)<|A0 (B9 Z) Z<|A0 (B2 Z Z Z) Z<|qm Z<|qm Z<|es (ra2 Z Z)<|C6 ?_
   obtain rfl:=os h
   exact retq trivial (A7 Z (A7 Z B7)) (A5 Z (A5 Z B6)) (A3 A4 (A3 A4 A8))
  ·refine s0<|A0 (B9 Z) Z<|A0 (B2 Z Z Z) Z<|A0 (G2 Z Z) Z<|qm Z<|es (ra4 Z Z Z Z)<|wi h Z (fun hc5 h=>?_) fun hc5 h=>?_
   ·refine s0<|oB h fun x6 hx6 h=>oB h fun x7 hx7 h=>oB h fun x8 hx8 h=>oB h fun x9 hx9 h=>A0 (B9 Z) Z<|A0 (B2 Z Z Z) Z<|A0 (B9 Z) Z<|A0 (B2 Z Z Z) Z<|A0 (D6 (f:=C5) Z Z hx6) Z<|A0 (G6 Z Z) Z<|A0 (B9 Z) Z<|A0 (B2 Z Z Z) Z<|qm Z<|A0 (D6 (f:=B3) Z Z hx7) Z<|A0 (G6 Z Z) Z<|V0 (rs:=[.i x8]) Z Z (T5 Z (T5 Z A0u)) (A2 (C9 Z) (A2 (C9 Z) B5)) ((B4s hx8).frz)<|A0 (B9 Z) Z<|A0 (B2 Z Z Z) Z<|qm Z<|A0 (D6 (f:=B3) Z Z hx9) Z<|A0 (R3 (ds:=(Z3d 1 (B3 x9))) Z Z) Z<|A0 (G7 Z Z) Z<|qm Z<|qm Z<|es (ra2 Z Z)<|C6 ?_
    obtain rfl:=os h
    exact retq trivial (A7 Z (A7 Z B7)) (A5 Z (A5 Z B6)) (A3 A4 (A3 A4 A8))
   ·refine C0<|s0<|qm Z<|qm Z<|es (ra2 Z Z)<|C6 ?_
    obtain rfl:=os h
    exact retq trivial (A7 Z (A7 Z B7)) (A5 Z (A5 Z B6)) (A3 A4 (A3 A4 A8))
def A2k (a0:PaShow) (a2:Int) (s1:(Int×Int)):Option ((Int×Int)⊕Int) :=
 if (decide (s1.2<(Zh a0.Incomes:Int)))=true then
  (idx a0.Incomes s1.2).bind fun x4 =>
  if (decide (x4.Day≤a2))=true then
  (idx a0.Incomes s1.2).bind fun x6 =>
  some (.inl ((w64 (s1.1+x6.Pence)),(w64 (s1.2+1))))
  else
  some (.inl (s1.1,(w64 (s1.2+1))))
 else
  some (.inr s1.1)
def A2l (a0:PaShow) (a1:(List PaUse)) (a2:Int) (s8:(Int×Int)):Option ((Int×Int)⊕Int) :=
 if (decide (s8.2<(Zh a1:Int)))=true then
  (idx a1 s8.2).bind fun x11 =>
  (A21 a0 s8.2 x11).bind fun x12 =>
  if (decide (x12.2≤a2))=true then
  some (.inl ((w64 (s8.1-x12.1)),(w64 (s8.2+1))))
  else
  some (.inl (s8.1,(w64 (s8.2+1))))
 else
  some (.inr s8.1)
def A20 (a0:PaShow) (a1:(List PaUse)) (a2:Int):Option Int :=
 (loop (A2k a0 a2) (a0.Purse,0)).bind fun (o7:Int) =>
 (loop (A2l a0 a1 a2) (o7,0)).bind fun (o14:Int) =>
 some o14
theorem A76 {c:Sc} {H:A1} {a0:PaShow} {a1:(List PaUse)} {a2:Int} {r:Int} (h:A20 a0 a1 a2=some r) :
  F0 tab c H (.fn (.func 65) [] []) [(.agg (B1 a0)),(.seq 3 (Zg A6 a1)),.i a2] [.i r]:= by
 unfold A20 at h
 refine cE Z Z<|sg 0 Z<|A0 (F8 (cs:=B1 a0) Z Z Z) Z<|qm Z<|es (ra3 Z Z Z)<|s0<|A0 (B9 Z) Z<|A0 (B2 Z Z Z) Z<|qm Z<|es (ra4 Z Z Z Z)<|C1<|s0<|qm Z<|es (ra5 Z Z Z Z Z)<|C8<|oB h fun o7 ho7 h=>wl (fun s1=>[(1,(.seq 3 (Zg A6 a1))),(2,.i a2),(3,(.ptr (H.length+0) 0)),(7,.i s1.1),(8,.i s1.2)]) (fun (q2:Unit) s1=>[(.cells (B1 a0))]) 1 (fun r e s' H'=>PX 0 [(1,(.seq 3 (Zg A6 a1))),(2,.i a2),(3,(.ptr (H.length+0) 0)),(7,.i r)] (H++[(.cells (B1 a0))]) e s' H') () ho7 Z Z (fun _ _=>rfl) (fun _=>rfl) Z (fun s1=>(bdc I7 (bdc A4 (bdc (L8 Z) (bdc A4 (bdc A4 bdn)))))) (fun q2 s1 ys1 hs1=>?_) ?_
 ·unfold A2k at hs1
  refine C1<|s0<|qm Z<|A0 (B9 Z) Z<|A0 (B2 Z Z Z) Z<|A0 (F4 (f:=D2) Z) Z<|A0 (I4 Z Z) Z<|es (ra6 Z Z Z Z Z Z)<|wi hs1 Z (fun hc3 hs1=>?_) fun hc3 hs1=>?_
  ·refine C0<|C1<|C8<|s0<|oB hs1 fun x4 hx4 hs1=>A0 (B9 Z) Z<|A0 (B2 Z Z Z) Z<|qm Z<|A0 (D6 (f:=D2) Z Z hx4) Z<|A0 (R3 (ds:=(D2 x4)) Z Z) Z<|A0 (G7 Z Z) Z<|qm Z<|A0 (A47 Z Z) Z<|es (ra6 Z Z Z Z Z Z)<|wi hs1 Z (fun hc5 hs1=>?_) fun hc5 hs1=>?_
   ·refine r0<|oB hs1 fun x6 hx6 hs1=>qm Z<|A0 (B9 Z) Z<|A0 (B2 Z Z Z) Z<|qm Z<|A0 (D6 (f:=D2) Z Z hx6) Z<|A0 (R3 (ds:=(Z3d 1 (D2 x6))) Z Z) Z<|A0 (G7 Z Z) Z<|A0 (F7 Z Z) Z<|qm Z<|en (ra5 Z Z Z Z Z)<|r0<|qm Z<|A0 (F7 Z Z) Z<|qm Z<|en (ra5 Z Z Z Z Z) ?_
    cases hs1
    exact lnT () Z (su5 Z Z Z Z Z)
   ·refine C0<|r0<|qm Z<|A0 (F7 Z Z) Z<|qm Z<|en (ra5 Z Z Z Z Z) ?_
    cases hs1
    exact lnT () Z (su5 Z Z Z Z Z)
  ·refine I1 ?_
   obtain rfl:=os hs1
   exact lx Z px (su4 Z Z Z Z)
 ·rintro e s' H'-⟨rfl,rfl,rfl⟩
  refine C1<|s0<|qm Z<|es (ra5 Z Z Z Z Z)<|C8<|oB h fun o14 ho14 h=>wl (fun s8=>[(1,(.seq 3 (Zg A6 a1))),(2,.i a2),(3,(.ptr (H.length+0) 0)),(7,.i s8.1),(9,.i s8.2)]) (fun (q9:Unit) s8=>[(.cells (B1 a0))]) 1 (fun r e s' H'=>PX 2 [(7,.i r)] (H++[(.cells (B1 a0))]) e s' H') () ho14 Z Z (fun _ _=>rfl) (fun _=>rfl) Z (fun s8=>(bdc I7 (bdc A4 (bdc (L8 Z) (bdc A4 (bdc A4 bdn)))))) (fun q9 s8 ys8 hs8=>?_) ?_
  ·unfold A2l at hs8
   refine C1<|s0<|qm Z<|qm Z<|A0 (F4 (f:=A6) Z) Z<|A0 (I4 Z Z) Z<|es (ra6 Z Z Z Z Z Z)<|wi hs8 Z (fun hc10 hs8=>?_) fun hc10 hs8=>?_
   ·refine C0<|C1<|C8<|s0<|oB hs8 fun x11 hx11 hs8=>oB hs8 fun x12 hx12 hs8=>A0 (D1 Z Z Z) Z<|qm Z<|qm Z<|qm Z<|A0 (D6 (f:=A6) Z Z hx11) Z<|A0 (G6 Z Z) Z<|B4 (rs:=[.i x12.1,.i x12.2]) Z Z (A2 (C9 Z) (A2 Z (A2 (C9 Z) B5))) ((A77 hx12).frz)<|qm Z<|A0 (A9 Z Z) Z<|A0 (A9 Z Z) Z<|qm Z<|qm Z<|es (ra7 Z Z Z Z Z Z Z)<|s0<|qm Z<|qm Z<|A0 (A47 Z Z) Z<|es (ra7 Z Z Z Z Z Z Z)<|wi hs8 Z (fun hc13 hs8=>?_) fun hc13 hs8=>?_
    ·refine r0<|qm Z<|qm Z<|A0 (W2 Z Z) Z<|qm Z<|en (ra5 Z Z Z Z Z)<|r0<|qm Z<|A0 (F7 Z Z) Z<|qm Z<|en (ra5 Z Z Z Z Z) ?_
     cases hs8
     exact lnT () Z (su5 Z Z Z Z Z)
    ·refine C0<|r0<|qm Z<|A0 (F7 Z Z) Z<|qm Z<|en (ra5 Z Z Z Z Z) ?_
     cases hs8
     exact lnT () Z (su5 Z Z Z Z Z)
   ·refine I1 ?_
    obtain rfl:=os hs8
    exact lx Z px (su1 Z)
  ·rintro e s' H'-⟨rfl,rfl,rfl⟩
   refine s0<|qm Z<|qm Z<|es (ra1 Z)<|C6 ?_
   obtain rfl:=os h
   exact retq trivial (A7 Z B7) (A5 Z B6) (A3 A4 A8)
def A1i (a0:PaShow) (a1:(List PaUse)) (s4:(Int×Int×Int)):Option ((Int×Int×Int)⊕(Int×Int)) :=
 if (decide (s4.2.2<(Zh a1:Int)))=true then
  (idx a1 s4.2.2).bind fun x7 =>
  (A21 a0 s4.2.2 x7).bind fun x8 =>
  (A20 a0 a1 x8.2).bind fun x9 =>
  if ((decide (x9<0))&&((decide (s4.2.1<0))||(decide (x8.2<s4.2.1))))=true then
  some (.inl ((A5w s4.1 x9),x8.2,(w64 (s4.2.2+1))))
  else
  some (.inl ((A5w s4.1 x9),s4.2.1,(w64 (s4.2.2+1))))
 else
  some (.inr (s4.1,s4.2.1))
def A3c (a0:PaShow) (a1:(List PaUse)):Option (Int×Int) :=
 (A20 a0 a1 0).bind fun x1 =>
 (if (decide (x1<0))=true then
  some 0
  else
  some (-1)).bind fun (p2:Int) =>
 (loop (A1i a0 a1) (x1,p2,0)).bind fun (o13:(Int×Int)) =>
 some (o13.1,o13.2)
theorem B02 {c:Sc} {H:A1} {a0:PaShow} {a1:(List PaUse)} {r:(Int×Int)} (h:A3c a0 a1=some r) :
  F0 tab c H (.fn (.func 67) [] []) [(.agg (B1 a0)),(.seq 3 (Zg A6 a1))] [.i r.1,.i r.2]:= by
 unfold A3c at h
 refine cE Z Z<|sg 0 Z<|A0 (F8 (cs:=B1 a0) Z Z Z) Z<|qm Z<|qm Z<|es (ra2 Z Z)<|s0<|oB h fun x1 hx1 h=>A0 (D1 Z Z Z) Z<|qm Z<|B4 (rs:=[.i x1]) Z Z (A2 (C9 Z) (A2 Z (A2 Z B5))) ((A76 hx1).frz)<|qm Z<|qm Z<|es (ra4 Z Z Z Z)<|C1<|s0<|qm Z<|A0 (I4 Z Z) Z<|es (ra5 Z Z Z Z Z)<|oB h fun p2 hp2 h=>A7a (Q1:=fun e s' H'=>e=.normal∧s'=[(1,(.seq 3 (Zg A6 a1))),(2,(.ptr (H.length+0) 0)),(6,.i x1),(7,.i p2)]∧H'=(H++[(.cells (B1 a0))])) ?_ ?_
 ·refine wi hp2 Z (fun hc3 hp2=>?_) fun hc3 hp2=>?_
  ·refine r0<|qm Z<|en (ra4 Z Z Z Z) ?_
   obtain rfl:=os hp2
   exact me (ZE Z (ZE Z Z)) (su4 Z Z Z Z)
  ·refine C0 ?_
   obtain rfl:=os hp2
   exact me (ZE Z (ZE Z Z)) (su4 Z Z Z Z)
 ·rintro e s' H' ⟨rfl,rfl,rfl⟩
  refine C1<|s0<|qm Z<|es (ra5 Z Z Z Z Z)<|C8<|oB h fun o13 ho13 h=>wl (fun s4=>[(1,(.seq 3 (Zg A6 a1))),(2,(.ptr (H.length+0) 0)),(6,.i s4.1),(7,.i s4.2.1),(8,.i s4.2.2)]) (fun (q5:Unit) s4=>[(.cells (B1 a0))]) 1 (fun r e s' H'=>PX 0 [(6,.i r.1),(7,.i r.2)] (H++[(.cells (B1 a0))]) e s' H') () ho13 Z Z (fun _ _=>rfl) (fun _=>rfl) Z (fun s4=>(bdc I7 (bdc (L8 Z) (bdc A4 (bdc A4 (bdc A4 bdn)))))) (fun q5 s4 ys4 hs4=>?_) ?_
  ·unfold A1i at hs4
   refine C1<|s0<|qm Z<|qm Z<|A0 (F4 (f:=A6) Z) Z<|A0 (I4 Z Z) Z<|es (ra6 Z Z Z Z Z Z)<|wi hs4 Z (fun hc6 hs4=>?_) fun hc6 hs4=>?_
   ·refine C0<|C1<|C8<|s0<|oB hs4 fun x7 hx7 hs4=>oB hs4 fun x8 hx8 hs4=>A0 (D1 Z Z Z) Z<|qm Z<|qm Z<|qm Z<|A0 (D6 (f:=A6) Z Z hx7) Z<|A0 (G6 Z Z) Z<|B4 (rs:=[.i x8.1,.i x8.2]) Z Z (A2 (C9 Z) (A2 Z (A2 (C9 Z) B5))) ((A77 hx8).frz)<|qm Z<|A0 (A9 Z Z) Z<|A0 (A9 Z Z) Z<|qm Z<|qm Z<|es (ra6 Z Z Z Z Z Z)<|s0<|oB hs4 fun x9 hx9 hs4=>A0 (D1 Z Z Z) Z<|qm Z<|qm Z<|B4 (rs:=[.i x9]) Z Z (A2 (C9 Z) (A2 Z (A2 Z B5))) ((A76 hx9).frz)<|qm Z<|es (ra7 Z Z Z Z Z Z Z)<|s0<|qm Z<|qm Z<|A0 (C9r Z Z) Z<|qm Z<|es (ra7 Z Z Z Z Z Z Z)<|s0<|qm Z<|A0 (I4 Z Z) Z<|qm Z<|gp 8 50 (.b ((decide (x9<0))&&((decide (s4.2.1<0))||(decide (x8.2<s4.2.1))))) 42 Z Z (fun hg10=>?_) (fun hg10=>?_) ?_
    ·refine gT Z hg10<|qm Z<|gT Z hg10<|A0 (I4 Z Z) Z<|gT Z hg10<|qm Z<|gq 4 49 (.b ((decide (s4.2.1<0))||(decide (x8.2<s4.2.1)))) 45 Z Z (fun hg11=>?_) (fun hg11=>?_) ?_
     ·exact nF Z hg11 Z<|nF Z hg11 Z<|nF Z hg11 Z<|gT Z hg10<|A0 (C4 Z hg11 Z) Z<|ge 4 (by rw[hg11];rfl) Z Z
     ·exact gF Z hg11<|qm Z<|gF Z hg11<|qm Z<|gF Z hg11<|A0 (I4 Z Z) Z<|gT Z hg10<|A0 (C3 Z hg11 Z) Z<|ge 4 (by rw[hg11];rfl) Z Z
     exact A0 (C4 Z hg10 Z) Z<|ge 5 (by rw[hg10];rfl) Z Z
    ·exact nT Z hg10 Z<|nT Z hg10 Z<|nT Z hg10 Z<|nX Z Z<|nX Z Z<|nX Z Z<|nT Z hg10 Z<|A0 (C3 Z hg10 Z) Z<|ge 8 (by rw[hg10];rfl) Z Z
    refine es (ra7 Z Z Z Z Z Z Z)<|wi hs4 Z (fun hc12 hs4=>?_) fun hc12 hs4=>?_
    ·refine r0<|qm Z<|qm Z<|en (ra5 Z Z Z Z Z)<|r0<|qm Z<|A0 (F7 Z Z) Z<|qm Z<|en (ra5 Z Z Z Z Z) ?_
     cases hs4
     exact lnT () Z (su5 Z Z Z Z Z)
    ·refine C0<|r0<|qm Z<|A0 (F7 Z Z) Z<|qm Z<|en (ra5 Z Z Z Z Z) ?_
     cases hs4
     exact lnT () Z (su5 Z Z Z Z Z)
   ·refine I1 ?_
    obtain rfl:=os hs4
    exact lx Z px (su2 Z Z)
  ·rintro e s' H'-⟨rfl,rfl,rfl⟩
   refine s0<|qm Z<|qm Z<|qm Z<|qm Z<|es (ra2 Z Z)<|C6 ?_
   obtain rfl:=os h
   exact retq trivial (A7 Z (A7 Z B7)) (A5 Z (A5 Z B6)) (A3 A4 (A3 A4 A8))
end Pw
end
section
namespace Pw
open Go Am
theorem C58 {α:Type} [Inhabited α] (l:List α) (p:α→Bool) {b:Int→Option (Int⊕(Bool⊕Unit))} (hl:l.length<9223372036854775808)
  (hb:∀i:Nat,i<l.length→b i=some (if p l[i]! then .inr (.inl true) else .inl (w64 ((i:Int)+1)))) (he:b l.length=some (.inr (.inr ()))) :
  ∃ o,loop b 0=some o∧(match o with|.inl v=>v=true∧l.any p=true|.inr _=>l.any p=false):= by
 have h:=A7m (b:=b) l.length (fun i=>if p l[i]! then some (.inl true) else none) (.inr ()) hl (fun i hi _=>by
  rw[hb i hi];cases p l[i]! <;> rfl) he
 refine⟨_,h,?_⟩
 have ha:=C2k l p
 cases hf:first (fun i=>if p l[i]! then some (Z3e true:Bool⊕Unit) else none) l.length with
 | none =>
  have h0:=L2.mp hf
  rw[L2.mpr fun i hi=>by
   have:=h0 i hi
   cases hp:p l[i]! with
   | false=>rfl
   | true=>rw[hp]at this;exact absurd this (by simp)]at ha
  simpa using ha.symm
 | some r =>
  obtain⟨i,hi,h1,h2⟩:=U5 hf
  cases hp:p l[i]! with
  | false=>rw[hp]at h1;exact absurd h1 (by simp)
  | true =>
   rw[hp]at h1
   have h1:some (Z3e true)=some r:=h1
   obtain rfl:=Z01 h1
   refine⟨Z,?_⟩
   rw[A8j (r:=(i:Int)) hi (by rw[hp];rfl) fun j hj=>by
    have:=h2 j hj
    cases hq:p l[j]! with
    | false=>rfl
    | true=>rw[hq]at this;exact absurd this (by simp)]at ha
   exact ha.symm
theorem B1d {s:PaShow} (hs:ShOk s) {f:Int} (hf:0≤f∧f<s.Figures.length) {x:PaUse} (h:V2 s.Gowns s.Figures[f.toNat]! x=0):A21 s f x=some (A03 s.Gowns s.Figures[f.toNat]! x):= by
 have hy:=hs.figure _ (J5 (l:=s.Figures) (i:=f.toNat) (by omega))
 unfold A21
 rcases V3.mp h with rfl|h
 ·rfl
 ·have h1:=h.lo
  have h2:=h.hi
  have hg:=hs.gown _ (J5 (l:=s.Gowns) (i:=x.Gown.toNat) (by omega))
  have hfm:=h.form
  rw[if_neg (by simp;omega),Z5 (l:=s.Gowns) h1 h2,Z5 (l:=s.Figures) hf.1 hf.2]
  unfold A03
  have hne:¬ x.Gown = -1:= by omega
  simp only[hne,if_false]
  generalize s.Figures[f.toNat]! = y at hy
  generalize s.Gowns[x.Gown.toNat]! = g at hg hfm
  rcases form1 hfm with⟨_,hh,hd⟩|⟨_,⟨hh,hd⟩|⟨hh,hd⟩⟩
  ·rw[hh];rfl
  ·rw[hh]
   simp only[Zd]
   rw[C03 hg hy]
   rfl
  ·rw[hh]
   simp only[Zd]
   rw[B45 hg hd]
   rfl
theorem B9m:∀(l:List (Int×Int)) (d t:Int),l.foldl (fun a (x:Int×Int)=>a-if x.2≤d then x.1 else 0) t=t-P8 l d
 | [],d,t=>by simp[P8,sm]
 | x::l,d,t=>by rw[Z0h,B9m l];simp only[P8,Zv,sm];omega
theorem D17 {s:PaShow} (hs:ShOk s) (d:Int) (i:Nat):0≤P8 ((incs s).take i) d∧P8 ((incs s).take i) d≤300000:= by
 have:=A2t (l:=(incs s).take i) (fun x hx=>(Z6 hs x (Z00 hx)).1) d
 rw[ZD,Q6]at this
 have:=hs.incomes
 omega
theorem D87 {s:PaShow} (hs:ShOk s) {p:List PaUse} (h:PlU s p) (d:Int) (i:Nat):0≤P8 ((pays s p).take i) d∧P8 ((pays s p).take i) d≤300000:= by
 have:=A2t (l:=(pays s p).take i) (fun x hx=>(X0 hs h x (Z00 hx)).1) d
 rw[ZD,K6 h]at this
 have:=hs.figures
 have:=h.len
 omega
theorem B1c {s:PaShow} (hs:ShOk s) {p:List PaUse} (h:PlU s p) (d:Int):A20 s p d=some (I5 s p d):= by
 have hin:=hs.incomes
 have hfl:=hs.figures
 have hlen:=h.len
 have hpu:=hs.purse
 unfold A20
 have e1:loop (A2k s d) (s.Purse,0)=some (s.Purse+P8 (incs s) d):= by
  refine A0q (incs s) (fun a (x:Int×Int)=>a+if x.2≤d then x.1 else 0) s.Purse (fun i t=>(t,(i:Int))) (by rw[Q6];omega) (fun i hi=>?_) ?_
  ·rw[Q6]at hi
   have hx:=(Z6 hs _ (J5 (l:=incs s) (i:=i) (by rw[Q6];exact hi))).1
   rw[B9x hi]at hx ⊢
   rw[C35]
   have:=D17 hs d i
   unfold A2k
   rw[if_pos (by simpa using hi),I0 hi]
   simp only[Zd]
   rw[F3 (n:=(i:Int)+1) (by omega)]
   by_cases hd:s.Incomes[i]!.Day≤d
   ·rw[if_pos (decide_eq_true hd),if_pos hd,F3 (by omega)];rfl
   ·rw[if_neg (by simpa using hd),if_neg hd,Z2x];rfl
  ·rw[A14,Q6]
   unfold A2k
   rw[if_neg (by simp)]
   rfl
 rw[e1]
 simp only[Zd]
 have hI:=D17 hs d (incs s).length
 rw[Z15]at hI
 have e2:loop (A2l s p d) (s.Purse+P8 (incs s) d,0)=some (I5 s p d):= by
  refine A0q (pays s p) (fun a (x:Int×Int)=>a-if x.2≤d then x.1 else 0) (s.Purse+P8 (incs s) d) (fun i t=>(t,(i:Int))) (by rw[K6 h];omega) (fun i hi=>?_) ?_
  ·rw[K6 h]at hi
   have hx:=(X0 hs h _ (J5 (l:=pays s p) (i:=i) (by rw[K6 h];exact hi))).1
   rw[B9m,A3s h hi]at *
   have:=D87 hs h d i
   unfold A2l
   simp only[]
   rw[if_pos (by simpa using hi),I0 hi]
   simp only[Zd]
   rw[B1d hs (f:=(i:Int)) (by omega) (by rw[ZH];exact h.use i hi),ZH]
   simp only[Zd]
   rw[F3 (n:=(i:Int)+1) (by omega)]
   generalize A03 s.Gowns s.Figures[i]! p[i]! = z at hx
   by_cases hd:z.2≤d
   ·rw[if_pos (decide_eq_true hd),if_pos hd,F3 (by omega)];rfl
   ·rw[if_neg (by simpa using hd),if_neg hd,Int.sub_zero];rfl
  ·unfold A2l
   simp only[]
   rw[K6 h,if_neg (by simp),B9m];rfl
 rw[e2];rfl
abbrev lsF (F:Int→Int) (a:Int×Int) (x:Int×Int):Int×Int:=(A5w a.1 (F x.2),if F x.2<0∧(a.2<0∨x.2<a.2) then x.2 else a.2)
theorem D1l (F:Int→Int):∀(l:List (Int×Int)) (t:Int×Int),(∀ x∈l,0≤x.2)→∀ r,r=l.foldl (lsF F) t →
  r.1≤t.1∧(∀ x∈l,r.1≤F x.2)∧(r.1=t.1∨∃ x∈l,F x.2=r.1) ∧
  ((r.2<0∧t.2<0∧∀ x∈l,0≤F x.2)∨(0≤r.2∧(r.2=t.2∨∃ x∈l,F x.2<0∧x.2=r.2)∧(∀ x∈l,F x.2<0→r.2≤x.2)∧(t.2<0∨r.2≤t.2)))
 | [],t,_,r,h=>by
  rw[List.foldl_nil]at h
  rw[h]
  refine⟨Z04 _,by simp,.inl Z,?_⟩
  by_cases ht:t.2<0
  ·exact .inl ⟨ht,ht,by simp⟩
  ·exact .inr ⟨by omega,.inl Z,by simp,.inr (Z04 _)⟩
 | x::l,t,hd,r,h=>by
  rw[Z0h]at h
  obtain⟨h1,h2,h3,h4⟩:=D1l F l _ (fun y hy=>hd y (Zp _ hy)) r h
  have hx0:=hd x (Zw ..)
  simp only[lsF]at h1 h3 h4
  have m1:A5w t.1 (F x.2)≤t.1∧A5w t.1 (F x.2)≤F x.2∧(A5w t.1 (F x.2)=t.1∨A5w t.1 (F x.2)=F x.2):= by unfold A5w;split <;> omega
  refine⟨by omega,?_,?_,?_⟩
  ·intro y hy
   rcases Zt.mp hy with rfl|hy
   ·omega
   ·exact h2 y hy
  ·rcases h3 with h3|⟨y,hy,e⟩
   ·rcases m1.2.2 with e|e
    ·left;omega
    ·exact .inr ⟨x,Zw ..,by omega⟩
   ·exact .inr ⟨y,Zp _ hy,e⟩
  ·by_cases hc:F x.2<0∧(t.2<0∨x.2<t.2)
   ·rw[if_pos hc]at h4
    rcases h4 with⟨_,h5,_⟩|⟨h5,h6,h7,h8⟩
    ·omega
    ·refine .inr ⟨h5,?_,?_,by omega⟩
     ·rcases h6 with e|⟨y,hy,hf,e⟩
      ·exact .inr ⟨x,Zw ..,hc.1,e.symm⟩
      ·exact .inr ⟨y,Zp _ hy,hf,e⟩
     ·intro y hy hf
      rcases Zt.mp hy with rfl|hy
      ·omega
      ·exact h7 y hy hf
   ·rw[if_neg hc]at h4
    rcases h4 with⟨h5,h6,h7⟩|⟨h5,h6,h7,h8⟩
    ·refine .inl ⟨h5,h6,fun y hy=>?_⟩
     rcases Zt.mp hy with rfl|hy
     ·omega
     ·exact h7 y hy
    ·refine .inr ⟨h5,?_,?_,h8⟩
     ·rcases h6 with e|⟨y,hy,hf,e⟩
      ·exact .inl e
      ·exact .inr ⟨y,Zp _ hy,hf,e⟩
     ·intro y hy hf
      rcases Zt.mp hy with rfl|hy
      ·by_cases ht:t.2<0
       ·exact absurd ⟨hf,.inl ht⟩ hc
       ·have:t.2≤y.2:= by
         by_cases hlt:y.2<t.2
         ·exact absurd ⟨hf,.inr hlt⟩ hc
         ·omega
        exact Z5y (h8.resolve_left ht) this
      ·exact h7 y hy hf
def A3q (s:PaShow) (p:List PaUse):Int×Int:=(pays s p).foldl (lsF (I5 s p)) (I5 s p 0,if I5 s p 0<0 then 0 else -1)
theorem B44 {s:PaShow} (hs:ShOk s) {p:List PaUse} (h:PlU s p):A3c s p=some (A3q s p):= by
 have hfl:=hs.figures
 have hlen:=h.len
 unfold A3c
 rw[B1c hs h]
 simp only[Zd]
 have e0:(if decide (I5 s p 0<0)=true then some 0 else some (-1):Option Int)=some (if I5 s p 0<0 then 0 else -1):= by
  by_cases hc:I5 s p 0<0
  ·rw[if_pos (decide_eq_true hc),if_pos hc]
  ·rw[if_neg (by simpa using hc),if_neg hc]
 rw[e0]
 simp only[Zd]
 have e1:loop (A1i s p) (I5 s p 0,(if I5 s p 0<0 then 0 else -1),0)=some (A3q s p):= by
  refine A0q (pays s p) (lsF (I5 s p)) (I5 s p 0,if I5 s p 0<0 then 0 else -1) (fun i t=>(t.1,t.2,(i:Int))) (by rw[K6 h];omega) (fun i hi=>?_) ?_
  ·rw[K6 h]at hi
   rw[A3s h hi]
   generalize ((pays s p).take i).foldl (lsF (I5 s p)) (I5 s p 0,if I5 s p 0<0 then 0 else -1)=t
   unfold A1i
   simp only[]
   rw[if_pos (by simpa using hi),I0 hi]
   simp only[Zd]
   rw[B1d hs (f:=(i:Int)) (by omega) (by rw[ZH];exact h.use i hi),ZH]
   simp only[Zd]
   rw[B1c hs h]
   simp only[Zd]
   rw[F3 (n:=(i:Int)+1) (by omega)]
   generalize A03 s.Gowns s.Figures[i]! p[i]! = z
   by_cases hd:I5 s p z.2<0∧(t.2<0∨z.2<t.2)
   ·rw[if_pos (by simpa using hd),if_pos hd];rfl
   ·rw[if_neg (by simpa using hd),if_neg hd];rfl
  ·rw[K6 h]
   unfold A1i
   simp only[]
   rw[if_neg (by simp)]
   rfl
 rw[e1];rfl
theorem left0 {s:PaShow} (hs:ShOk s) {p:List PaUse} (h:PlU s p) (hl:I5 s p 0<0):∃x∈pays s p,x.2=0:= by
 refine Z42 fun hn=>?_
 have h0:P8 (pays s p) 0=0:= by
  unfold P8
  refine C5r fun x hx=>?_
  have h1:=(X0 hs h x hx).2
  have h2:¬ x.2≤0:=fun hc=>hn ⟨x,hx,by omega⟩
  rw[if_neg h2]
 have h1:=A2t (fun x hx=>(Z6 hs x hx).1) 0
 have h2:=hs.purse
 unfold I5 at hl
 omega
theorem B7o {s:PaShow} (hs:ShOk s) {p:List PaUse} (h:PlU s p):((M1 s p).1=0↔(A3q s p).2<0)∧((A3q s p).2<0∨(M1 s p).2=(A3q s p).2)∧((M1 s p).1=0↔0≤(A3q s p).1)∧((A3q s p).1<0→(M1 s p).1 = -(A3q s p).1):= by
 obtain⟨a1,a2,a3,a4,a5,a6⟩:=A91 s p
 obtain⟨b1,b2,b3,b4⟩:=D1l (I5 s p) (pays s p) _ (fun x hx=>(X0 hs h x hx).2.1) _ Z
 rw[show (pays s p).foldl (lsF (I5 s p)) (I5 s p 0,if I5 s p 0<0 then 0 else -1)=A3q s p from Z]at b1 b2 b3 b4
 simp only at b1 b3 b4
 rcases b4 with⟨c1,c2,c3⟩|⟨c1,c2,c3,c4⟩
 ·have hz:(M1 s p).1=0:= by
   rcases a3 with e|⟨x,hx,hf,_⟩
   ·exact e
   ·have:=c3 x hx;omega
  have hl0:0≤I5 s p 0:= by
   by_cases hc:I5 s p 0<0
   ·rw[if_pos hc]at c2;omega
   ·omega
  have hm:0≤(A3q s p).1:= by
   rcases b3 with e|⟨x,hx,e⟩
   ·omega
   ·have:=c3 x hx;omega
  exact⟨⟨fun _=>c1,fun _=>hz⟩,.inl c1,⟨fun _=>hm,fun _=>hz⟩,fun hc=>by omega⟩
 ·have hx:∃x∈pays s p,I5 s p x.2<0∧x.2=(A3q s p).2:= by
   rcases c2 with e|hx
   ·by_cases hc:I5 s p 0<0
    ·rw[if_pos hc]at e
     obtain⟨x,hx,hx0⟩:=left0 hs h hc
     exact⟨x,hx,by rw[hx0];exact hc,by omega⟩
    ·rw[if_neg hc]at e;omega
   ·exact hx
  obtain⟨x,hx,hf,e⟩:=hx
  have g1:=a2 x hx hf
  have g2:=a5 x hx hf
  have g3:=(X0 hs h x hx).2
  have hm:=b2 x hx
  have hday:(M1 s p).2=(A3q s p).2:= by
   rcases a6 with e6|⟨y,hy,hfy,ey⟩
   ·omega
   ·have:=c3 y hy hfy;omega
  refine⟨⟨fun _=>by omega,fun _=>by omega⟩,.inr hday,⟨fun _=>by omega,fun _=>by omega⟩,fun hneg=>?_⟩
  have hle:-(A3q s p).1≤(M1 s p).1:= by
   rcases b3 with eb|⟨y,hy,eb⟩
   ·have hc:I5 s p 0<0:= by omega
    obtain⟨z,hz,hz0⟩:=left0 hs h hc
    have:=a2 z hz (by rw[hz0];exact hc)
    rw[hz0]at this;omega
   ·have:=a2 y hy (by omega);omega
  rcases a3 with e3|⟨y,hy,hfy,ey⟩
  ·omega
  ·have:=b2 y hy;omega
section
variable {α β σ ρ:Type}
def V6 (f:α→σ→Option (σ⊕ρ)):List α→σ→Option (σ⊕ρ)
 | [],s=>some (.inl s)
 | a::l,s=>(f a s).bind fun x=>match x with
  | .inl s'=>V6 f l s'
  | .inr r=>some (.inr r)
theorem A9g (f:α→σ→Option (σ⊕ρ)) (m:List α):∀(l:List α) (s:σ),V6 f (l++m) s=(V6 f l s).bind fun x=>match x with
  | .inl s'=>V6 f m s'
  | .inr r=>some (.inr r)
 | [],s=>rfl
 | a::l,s=>by
  show (f a s).bind _=((f a s).bind _).bind _
  cases f a s with
  | none=>rfl
  | some x=>cases x with
   | inl s'=>exact A9g f m l s'
   | inr r=>rfl
theorem B9l (f:α→σ→Option (σ⊕ρ)) (h:β→List α):∀(l:List β) (s:σ),V6 f (l.flatMap h) s=V6 (fun b s=>V6 f (h b) s) l s
 | [],s=>rfl
 | b::l,s=>by
  rw[Z1v,A9g]
  show _=(V6 f (h b) s).bind _
  cases V6 f (h b) s with
  | none=>rfl
  | some x=>cases x with
   | inl s'=>exact B9l f h l s'
   | inr r=>rfl
theorem A5u (f:α→σ→Option (σ⊕ρ)) (p:α→Bool):∀(l:List α) (s:σ),V6 f (l.filter p) s=V6 (fun a s=>if p a then f a s else some (.inl s)) l s
 | [],s=>rfl
 | a::l,s=>by
  rw[Z27]
  cases h:p a with
  | false =>
   rw[if_neg (by decide),A5u f p l s]
   show _=(if p a then f a s else some (.inl s)).bind _
   rw[h];rfl
  | true =>
   rw[if_pos Z]
   show (f a s).bind _=(if p a then f a s else some (.inl s)).bind _
   rw[h,if_pos Z]
   cases f a s with
   | none=>rfl
   | some x=>cases x with
    | inl s'=>exact A5u f p l s'
    | inr r=>rfl
theorem B0m {f g:α→σ→Option (σ⊕ρ)}:∀{l:List α} {s:σ},(∀ a∈l,∀ s,f a s=g a s)→V6 f l s=V6 g l s
 | [],s,_=>rfl
 | a::l,s,h=>by
  show (f a s).bind _=(g a s).bind _
  rw[h a (Zw ..) s]
  cases g a s with
  | none=>rfl
  | some x=>cases x with
   | inl s'=>exact B0m fun b hb s=>h b (Zp _ hb) s
   | inr r=>rfl
end
theorem C2z {α β σ ρ:Type} (f:α→σ→Option (σ⊕ρ)) (g:β→α):∀(l:List β) (s:σ),V6 f (l.map g) s=V6 (fun b s=>f (g b) s) l s
 | [],s=>rfl
 | b::l,s=>by
  show (f (g b) s).bind _=(f (g b) s).bind _
  cases f (g b) s with
  | none=>rfl
  | some x=>cases x with
   | inl s'=>exact C2z f g l s'
   | inr r=>rfl
def U1 (D:List Int) (n:Nat):PaUse:=⟨((n / D.length / 3:Nat):Int),((n / D.length % 3:Nat):Int),D[n % D.length]!⟩
def D5o (q:List PaUse) (u:PaUse):Bool:=(u.Gown != -1)&&q.any fun x=>x.Gown==u.Gown
def okU (s:PaShow) (q:List PaUse) (u:PaUse):Bool:=V2 s.Gowns s.Figures[q.length]! u==0&&!D5o q u
def nU (s:PaShow) (D:List Int):Nat:=s.Gowns.length*3*D.length
def cand (s:PaShow) (D:List Int) (q:List PaUse):List PaUse:=((Z0c (nU s D)).map (U1 D)).filter (okU s q)
def PL (s:PaShow) (D:List Int):Nat→List PaUse→List (List PaUse)
 | 0,q=>[q]
 | d+1,q=>(cand s D q).flatMap (fun u=>PL s D d (q++[u]))++PL s D d (q++[bare0])
theorem E07 (s:PaShow) {D:List Int} (h0:0<D.length) (hD:D.length≤365) {n:Nat} (hn:n<100000):plx s D (n:Int)=some (U1 D n):= by
 have hD0:(0:Int)≤n:=Z0w n
 have e1:C19 (n:Int) (D.length:Int)=some ((n / D.length:Nat):Int):= by
  unfold C19
  rw[if_neg (by omega),Z2p hD0,← Int.natCast_ediv]
  have:n / D.length≤n:=Z5n _ _
  generalize n / D.length=k at this
  rw[F3 (by omega)]
 have e2:C19 ((n / D.length:Nat):Int) 3=some ((n / D.length / 3:Nat):Int):= by
  have:n / D.length≤n:=Z5n _ _
  generalize n / D.length=k at this
  unfold C19
  rw[if_neg (by omega),Z2p (Z0w _),F3 (by omega)]
  rfl
 have e3:B0b ((n / D.length:Nat):Int) 3=some ((n / D.length % 3:Nat):Int):= by
  unfold B0b
  rw[if_neg (by omega),Z1u (Z0w _)]
  rfl
 have e4:B0b (n:Int) (D.length:Int)=some ((n % D.length:Nat):Int):= by
  unfold B0b
  rw[if_neg (by omega),Z1u hD0,← Int.natCast_emod]
 unfold plx
 rw[e1]
 simp only[Zd]
 rw[e2,e3,e4]
 simp only[Zd]
 rw[I0 (Z1x _ h0)]
 rfl
theorem C1c {p:List PaUse} {k:Nat} (hk:k<p.length) (u:PaUse):(T7 p (k:Int) u).take (k+1)=p.take k++[u]∧(T7 p (k:Int) u).length=p.length∧(T7 p (k:Int) u)[k]! = u∧(T7 p (k:Int) u).take k=p.take k:= by
 unfold T7
 rw[ZH]
 refine⟨?_,Z0u,?_,?_⟩
 ·rw[ZX (by rw[Z0u];exact hk),Z4s]
  congr 1
  rw[Z33]
  exact Z1m (by rw[ZD];omega)
 ·rw[getElem!_pos _ k (by rw[Z0u];exact hk),Z4s]
 ·rw[Z33]
  exact Z1m (by rw[ZD];omega)
section
variable {σ ρ:Type}
theorem D61 {s:PaShow} (hs:ShOk s) {D:List Int} (h0:0<D.length) (hD:D.length≤365) {q p:List PaUse} (hp:p.length=s.Figures.length) (hq:p.take q.length=q) (hk:q.length<p.length) (rec:Int→List PaUse→σ→Option (List PaUse×(σ⊕ρ))) {n:Nat} (hn:n<nU s D) (st:σ) :
  B3r s D (q.length:Int) rec ((n:Int),p,st)=if okU s q (U1 D n) then (rec ((q.length+1:Nat):Int) (T7 p (q.length:Int) (U1 D n)) st).bind fun y=>match y with
    | (p,.inl s')=>some (.inl (((n+1:Nat):Int),p,s'))
    | (p,.inr r)=>some (.inr (.inl (p,r)))
   else some (.inl (((n+1:Nat):Int),T7 p (q.length:Int) (U1 D n),st)):= by
 have hG:=hs.gowns
 have hF:=hs.figures
 have hN:nU s D≤6000:= by
  unfold nU
  have:s.Gowns.length*3*D.length≤15*365:=Z2z (by omega) hD
  omega
 have hw:w64 (w64 ((s.Gowns.length:Int)*3)*(D.length:Int))=(nU s D:Int):= by
  rw[F3 (n:=(s.Gowns.length:Int)*3) (by omega)]
  have e:(s.Gowns.length:Int)*3*(D.length:Int)=(nU s D:Int):= by unfold nU;simp
  rw[e,F3 (by omega)]
 obtain⟨g1,g2,g3,g4⟩:=C1c hk (U1 D n)
 unfold B3r
 simp only[]
 rw[hw,if_pos (by simpa using hn),E07 s h0 hD (by omega)]
 simp only[Zd]
 rw[I0 hk,D0e hs D (f:=(q.length:Int)) (by omega),D0d,ZH]
 simp only[Zd]
 rw[C8k (by rw[g2];exact hk) (by rw[g2];omega),F3 (n:=(n:Int)+1) (by omega),F3 (n:=(q.length:Int)+1) (by omega)]
 have ht:twP (T7 p (q.length:Int) (U1 D n)) q.length=D5o q (U1 D n):= by
  unfold twP D5o
  rw[g3,g4,hq]
 rw[ht]
 unfold okU
 by_cases hu:V2 s.Gowns s.Figures[q.length]! (U1 D n)=0
 ·have e1:(V2 s.Gowns s.Figures[q.length]! (U1 D n) != 0)=false:= by rw[hu];rfl
  have e2:(V2 s.Gowns s.Figures[q.length]! (U1 D n)==0)=true:= by rw[hu];rfl
  rw[e1,e2]
  cases D5o q (U1 D n) <;> rfl
 ·have e1:(V2 s.Gowns s.Figures[q.length]! (U1 D n) != 0)=true:=bne_iff_ne.mpr hu
  have e2:(V2 s.Gowns s.Figures[q.length]! (U1 D n)==0)=false:=beq_eq_false_iff_ne.mpr hu
  rw[e1,e2];rfl
def E2b (p:List PaUse):σ⊕ρ→(List PaUse×ρ)⊕(List PaUse×σ)
 | .inl s=>.inr (p,s)
 | .inr r=>.inl (p,r)
theorem D5q {s:PaShow} (hs:ShOk s) {D:List Int} (h0:0<D.length) (hD:D.length≤365) (body:List PaUse→σ→Option (σ⊕ρ)) :
  ∀ (d:Nat) (q p:List PaUse) (st:σ) (X:σ⊕ρ) (m:Nat),p.length=s.Figures.length→p.take q.length=q→q.length+d=p.length→d<m →
   V6 body (PL s D d q) st=some X→∃ p',B2n s D body m (q.length:Int) p st=some (p',X)∧p'.length=p.length∧p'.take q.length=q:= by
 have hG:=hs.gowns
 have hF:=hs.figures
 have hN:nU s D≤6000:= by
  unfold nU
  have:s.Gowns.length*3*D.length≤15*365:=Z2z (by omega) hD
  omega
 intro d
 induction d with
 | zero =>
  intro q p st X m hp hq hd hm hf
  obtain⟨m',rfl⟩:∃m',m=m'+1:=⟨m-1,by omega⟩
  have hpq:p=q:= by rw[← hq,ZQ (by omega)]
  subst hpq
  refine⟨p,?_,Z,hq⟩
  unfold B2n
  rw[if_pos (by simp)]
  unfold PL V6 at hf
  cases hb:body p st with
  | none=>rw[hb]at hf;cases hf
  | some x=>rw[hb]at hf;cases x <;> cases hf <;> rfl
 | succ d ih =>
  intro q p st X m hp hq hd hm hf
  obtain⟨m',rfl⟩:∃m',m=m'+1:=⟨m-1,by omega⟩
  unfold PL cand at hf
  rw[A9g,B9l,A5u,C2z]at hf
  have key:∀(j i m2:Nat) (p:List PaUse) (st:σ) (Y:σ⊕ρ),p.length=s.Figures.length→p.take q.length=q→q.length+(d+1)=p.length→i+j=nU s D→j<m2 →
    V6 (fun n st=>if okU s q (U1 D n) then V6 body (PL s D d (q++[U1 D n])) st else some (.inl st)) ((Z0c (nU s D)).drop i) st=some Y →
    ∃ p',A6n (B3r s D (q.length:Int) (B2n s D body m')) m2 ((i:Int),p,st)=some (E2b p' Y)∧p'.length=p.length∧p'.take q.length=q:= by
   intro j
   induction j with
   | zero =>
    intro i m2 p st Y hp hq hd hi hm2 h
    obtain⟨m3,rfl⟩:∃m3,m2=m3+1:=⟨m2-1,by omega⟩
    rw[List.drop_of_length_le (by simp;omega)]at h
    cases h
    refine⟨p,?_,Z,hq⟩
    rw[L3]
    unfold B3r
    simp only[]
    have hw:w64 (w64 ((s.Gowns.length:Int)*3)*(D.length:Int))=(nU s D:Int):= by
     rw[F3 (n:=(s.Gowns.length:Int)*3) (by omega)]
     have e:(s.Gowns.length:Int)*3*(D.length:Int)=(nU s D:Int):= by unfold nU;simp
     rw[e,F3 (by omega)]
    rw[hw,if_neg (by simp;omega)];rfl
   | succ j ihj =>
    intro i m2 p st Y hp hq hd hi hm2 h
    obtain⟨m3,rfl⟩:∃m3,m2=m3+1:=⟨m2-1,by omega⟩
    have hi2:i<(Z0c (nU s D)).length:= by simp;omega
    rw[Z1w hi2,List.getElem_range]at h
    unfold V6 at h
    obtain⟨g1,g2,g3,g4⟩:=C1c (p:=p) (k:=q.length) (by omega) (U1 D i)
    rw[L3,D61 hs h0 hD hp hq (by omega) _ (by omega) st]
    cases hc:okU s q (U1 D i) with
    | false =>
     rw[hc]at h
     obtain⟨p',e1,e2,e3⟩:=ihj (i+1) m3 (T7 p (q.length:Int) (U1 D i)) st Y (by rw[g2];exact hp) (by rw[g4];exact hq) (by rw[g2];exact hd) (by omega) (by omega) h
     exact⟨p',e1,by rw[e2,g2],e3⟩
    | true =>
     rw[hc]at h
     simp only[if_true]at h
     cases hX:V6 body (PL s D d (q++[U1 D i])) st with
     | none=>rw[hX]at h;cases h
     | some Zr =>
      rw[hX]at h
      have hql:(q++[U1 D i]).length=q.length+1:= by simp
      obtain⟨p1,r1,r2,r3⟩:=ih (q++[U1 D i]) (T7 p (q.length:Int) (U1 D i)) st Zr m' (by rw[g2];exact hp) (by rw[hql,g1,hq]) (by rw[hql,g2];omega) (by omega) hX
      rw[hql]at r1 r3
      have r4:p1.take q.length=q:= by
       have:=congrArg (List.take q.length) r3
       rwa [Z3s,Z1r (Z62 _),Z0a]at this
      rw[if_pos Z,r1]
      cases Zr with
      | inl s' =>
       obtain⟨p',e1,e2,e3⟩:=ihj (i+1) m3 p1 s' Y (by rw[r2,g2];exact hp) r4 (by rw[r2,g2];exact hd) (by omega) (by omega) h
       exact⟨p',e1,by rw[e2,r2,g2],e3⟩
      | inr x =>
       cases h
       exact⟨p1,Z,by rw[r2,g2],r4⟩
  cases hY:V6 (fun n st=>if okU s q (U1 D n) then V6 body (PL s D d (q++[U1 D n])) st else some (.inl st)) (Z0c (nU s D)) st with
  | none=>rw[hY]at hf;cases hf
  | some Y =>
   rw[hY]at hf
   obtain⟨p',e1,e2,e3⟩:=key (nU s D) 0 9223372036854775808 p st Y hp hq hd (by omega) (by omega) hY
   unfold B2n
   rw[if_neg (by simp;omega)]
   unfold loop
   rw[show ((0:Int),p,st)=(((0:Nat):Int),p,st) from Z,e1]
   cases Y with
   | inr r=>cases hf;exact⟨p',Z,e2,e3⟩
   | inl s' =>
    simp only[Zd]at hf
    obtain⟨g1,g2,g3,g4⟩:=C1c (p:=p') (k:=q.length) (by omega) bare0
    have hql:(q++[bare0]).length=q.length+1:= by simp
    obtain⟨p1,r1,r2,r3⟩:=ih (q++[bare0]) (T7 p' (q.length:Int) bare0) s' X m' (by rw[g2,e2];exact hp) (by rw[hql,g1,e3]) (by rw[hql,g2,e2];omega) (by omega) hf
    rw[hql]at r1 r3
    refine⟨p1,?_,by rw[r2,g2,e2],?_⟩
    ·unfold E2b A0r
     simp only[Zd]
     rw[I0 (by omega),F3 (n:=(q.length:Int)+1) (by omega)]
     exact r1
    ·have:=congrArg (List.take q.length) r3
     rwa [Z3s,Z1r (Z62 _),Z0a]at this
theorem C9z {s:PaShow} (hs:ShOk s) {D:List Int} (h0:0<D.length) (hD:D.length≤365) (body:List PaUse→σ→Option (σ⊕ρ)) {st:σ} {X:σ⊕ρ} (h:V6 body (PL s D s.Figures.length []) st=some X):B16 s D σ ρ body st=some X:= by
 have hF:=hs.figures
 unfold B16 B99
 rw[if_pos ⟨by omega,by omega,by omega⟩]
 simp only[Zd,ZH]
 obtain⟨p',e1,_,_⟩:=D5q hs h0 hD body s.Figures.length [] (Zx s.Figures.length (PaUse.mk 0 0 0)) st X 64 (by simp) Z (by simp) (by omega) h
 rw[show ((([]:List PaUse).length:Nat):Int)=0 from Z]at e1
 rw[e1];rfl
end
theorem B3z {s:PaShow}:0<(O1 s).length∧(O1 s).length≤365:= by
 unfold O1
 have:=Z1h (fun d=>s.Incomes.any fun x=>x.Day==d) ((Z0c 364).map fun (i:Nat)=>(i:Int)+1)
 rw[Zi,Z2i]at this
 rw[ZV]
 omega
def V5 (s:PaShow) (p:List PaUse):Int:=sm ((pays s p).map Z38)
theorem B8e {s:PaShow} (hs:ShOk s) {p:List PaUse} (h:PlU s p) (i:Nat):0≤sm (((pays s p).take i).map Z38)∧sm (((pays s p).take i).map Z38)≤300000:= by
 have:=C8d (a:=0) (b:=100000) (l:=((pays s p).take i).map Z38) (fun z hz=>by
  obtain⟨x,hx,rfl⟩:=ZI.mp hz
  exact(X0 hs h x (Z00 hx)).1)
 rw[Zi,ZD,K6 h]at this
 have:=hs.figures
 have:=h.len
 omega
theorem D86 {l:List (Int×Int)} (h:∀x∈l,0≤x.1) {d e:Int} (hde:d≤e):P8 l d≤P8 l e:= by
 unfold P8
 refine C8e fun x hx=>?_
 have:=h x hx
 split <;> split <;> omega
theorem D5c {l:List (Int×Int)} {d:Int}:(∃ x∈l,x.2≤d)→∃ x∈l,x.2≤d∧∀ y∈l,y.2≤d→y.2≤x.2:= by
 induction l with
 | nil=>rintro⟨x,hx,_⟩;cases hx
 | cons a l ih =>
  intro hx
  by_cases hl:∃x∈l,x.2≤d
  ·obtain⟨x,hx,hd,hm⟩:=ih hl
   by_cases ha:a.2≤d∧x.2<a.2
   ·refine⟨a,Zw ..,ha.1,fun y hy hyd=>?_⟩
    rcases Zt.mp hy with rfl|hy
    ·exact Z04 _
    ·have:=hm y hy hyd;omega
   ·refine⟨x,Zp _ hx,hd,fun y hy hyd=>?_⟩
    rcases Zt.mp hy with rfl|hy
    ·omega
    ·exact hm y hy hyd
  ·obtain⟨x,hx,hd⟩:=hx
   rcases Zt.mp hx with rfl|hx
   ·refine⟨x,Zw ..,hd,fun y hy hyd=>?_⟩
    rcases Zt.mp hy with rfl|hy
    ·exact Z04 _
    ·exact absurd ⟨y,hy,hyd⟩ hl
   ·exact absurd ⟨x,hx,hd⟩ hl
theorem C49 {s:PaShow} (hs:ShOk s) {p:List PaUse} (h:PlU s p) {d:Int} (hn:I5 s p d<0):∃x∈pays s p,x.2≤d∧I5 s p x.2<0:= by
 have hi0:∀x∈incs s,0≤x.1:=fun x hx=>(Z6 hs x hx).1.1
 have hpu:=hs.purse
 by_cases he:∃x∈pays s p,x.2≤d
 ·obtain⟨x,hx,hd,hm⟩:=D5c he
  refine⟨x,hx,hd,?_⟩
  have e:P8 (pays s p) d=P8 (pays s p) x.2:= by
   unfold P8
   refine congrArg sm (Z3p fun y hy=>?_)
   by_cases hy2:y.2≤d
   ·rw[if_pos hy2,if_pos (hm y hy hy2)]
   ·rw[if_neg hy2,if_neg (by omega)]
  have:=D86 hi0 hd
  unfold I5 at hn ⊢
  omega
 ·have e:P8 (pays s p) d=0:= by
   unfold P8
   exact C5r fun x hx=>if_neg fun hc=>he ⟨x,hx,hc⟩
  have:=(A2t (fun x hx=>(Z6 hs x hx).1) d).1
  unfold I5 at hn
  omega
def fm {α:Type} (k:α→Int):List α→Option α
 | []=>none
 | x::l=>match fm k l with
  | none=>some x
  | some y=>if k y<k x then some y else some x
section
variable {α:Type} {k:α→Int}
theorem D0w:∀{l:List α},fm k l=none↔l=[]
 | []=>⟨fun _=>rfl,fun _=>rfl⟩
 | x::l=>by
  refine⟨fun h=>?_,fun h=>by cases h⟩
  unfold fm at h
  split at h
  ·cases h
  ·split at h <;> cases h
theorem B8h:∀{l:List α} {b:α},fm k l=some b→(∀ y∈l,k b≤k y)∧∃ A B,l=A++b::B∧∀ a∈A,k b<k a
 | [],b,h=>by cases h
 | x::l,b,h=>by
  unfold fm at h
  cases hf:fm k l with
  | none =>
   rw[hf]at h;cases h
   rw[D0w.mp hf]
   exact⟨by simp,[],[],Z,by simp⟩
  | some y =>
   rw[hf]at h
   obtain⟨h1,A,B,rfl,h3⟩:=B8h hf
   simp only at h
   split at h
   ·next c =>
    cases h
    refine⟨fun z hz=>?_,x::A,B,Z,fun a ha=>?_⟩
    ·rcases Zt.mp hz with rfl|hz
     ·omega
     ·exact h1 z hz
    ·rcases Zt.mp ha with rfl|ha
     ·exact c
     ·exact h3 a ha
   ·next c =>
    cases h
    refine⟨fun z hz=>?_,[],A++y::B,Z,by simp⟩
    rcases Zt.mp hz with rfl|hz
    ·exact Z04 _
    ·have:=h1 z hz;omega
theorem C4r {l:List α} {b:α} (h:fm k l=some b):b∈l:= by
 obtain⟨_,A,B,rfl,_⟩:=B8h h
 simp
theorem D4r {l:List α} {b:α} (h:fm k l=some b) {y:α} (hy:y∈l):k b≤k y:=(B8h h).1 y hy
theorem D0y {l:List α} {x:α} (h:x∈l):∃b,fm k l=some b:= by
 cases hf:fm k l with
 | none=>rw[D0w.mp hf]at h;cases h
 | some b=>exact⟨b,Z⟩
theorem D0x (y:α):∀(l:List α),fm k (l++[y])=match fm k l with
  | none=>some y
  | some b=>if k y<k b then some y else some b
 | []=>rfl
 | x::l=>by
  show (match fm k (l++[y]) with|none=>some x|some z=>if k z<k x then some z else some x)=match (match fm k l with|none=>some x|some z=>if k z<k x then some z else some x) with|none=>some y|some b=>if k y<k b then some y else some b
  rw[D0x y l]
  cases fm k l with
  | none=>rfl
  | some b =>
   simp only
   by_cases c1:k b<k x <;> by_cases c2:k y<k b <;> by_cases c3:k y<k x <;> simp only[c1,c2,c3,if_true,if_false] <;> omega
end
def J0 (p:List PaUse):Int:=sm (p.map fun x=>if x.Gown = -1 then 1 else 0)
theorem A92 (p:List PaUse):0≤J0 p∧J0 p≤p.length:= by
 have:=C8d (a:=0) (b:=1) (l:=p.map fun x=>if x.Gown = -1 then 1 else 0) (fun z hz=>by
  obtain⟨x,_,rfl⟩:=ZI.mp hz
  split <;> omega)
 rw[Zi]at this
 unfold J0
 omega
def gv (p:List PaUse) (k:Nat):Int:=if k<p.length then p[k]!.Gown+1 else 0
def A7c (p:List PaUse):Ar3 Int:=⟨gv p 0,gv p 1,gv p 2⟩
def fdP (s:PaShow) (p:List PaUse):pawn_found:=⟨p,J0 p,V5 s p,(M1 s p).1,A7c p⟩
theorem C4w {p:List PaUse} {u:PaUse} (k:Nat):gv (p++[u]) k=if k=p.length then u.Gown+1 else gv p k:= by
 unfold gv
 rw[Zm,Z39]
 by_cases h:k=p.length
 ·subst h
  rw[if_pos (by omega),if_pos Z,getElem!_pos _ _ (by simp)];simp
 ·rw[if_neg h]
  by_cases h2:k<p.length
  ·rw[if_pos (by omega),if_pos h2,getElem!_pos _ k (by simp;omega),getElem!_pos p k h2,Z49 h2]
  ·rw[if_neg (by omega),if_neg h2]
theorem D42 {p:List PaUse} {u:PaUse}:(A7c p).set (p.length:Int) (u.Gown+1)=A7c (p++[u]):= by
 unfold A7c Ar3.set
 rw[C4w,C4w,C4w]
 have e0:((p.length:Int)=0)=(0=p.length):= by rw[eq_iff_iff];omega
 have e1:((p.length:Int)=1)=(1=p.length):= by rw[eq_iff_iff];omega
 have e2:((p.length:Int)=2)=(2=p.length):= by rw[eq_iff_iff];omega
 simp only[e0,e1,e2]
theorem D4t {s:PaShow} (hs:ShOk s) (D:List Int) {p:List PaUse} (h:PlU s p):B34 s D p=some (fdP s p):= by
 have hF:=hs.figures
 have hG:=hs.gowns
 have hlen:=h.len
 unfold B34 B99
 rw[if_pos ⟨by omega,by omega,by omega⟩]
 simp only[Zd]
 have e1:loop (B1v s D p) (⟨0,0,⟨0,0,0⟩⟩,0)=some ⟨J0 p,V5 s p,A7c p⟩:= by
  have hc:∀i,i≤p.length→(pays s p).take i=(pays s p).take i:=fun _ _=>rfl
  have:=A1a (b:=B1v s D p) (fun i=>((⟨J0 (p.take i),sm (((pays s p).take i).map Z38),A7c (p.take i)⟩:Fd),(i:Int))) p.length (r:=⟨J0 p,V5 s p,A7c p⟩) (by omega) (fun i hi=>by
   have hx:=(X0 hs h _ (J5 (l:=pays s p) (i:=i) (by rw[K6 h];exact hi))).1
   have hcb:=B8e hs h i
   have hwb:=A92 (p.take i)
   have htl:(p.take i).length=i:= by rw[ZD];omega
   rw[A3s h hi]at hx
   have hu:=h.use i hi
   have hgb:-1≤p[i]!.Gown∧p[i]!.Gown≤5:= by
    rcases V3.mp hu with e|e
    ·rw[e];exact⟨by decide,by decide⟩
    ·have:=e.lo;have:=e.hi;omega
   have ec:sm (((pays s p).take (i+1)).map Z38)=sm (((pays s p).take i).map Z38)+(A03 s.Gowns s.Figures[i]! p[i]!).1:= by
    rw[ZX (by rw[K6 h];exact hi),ZZ,A4u,← A3s h hi,getElem!_pos _ i (by rw[K6 h];exact hi)]
    simp[sm]
   have et:p.take (i+1)=p.take i++[p[i]!]:= by
    rw[ZX hi,getElem!_pos p i hi]
   have ew:J0 (p.take (i+1))=J0 (p.take i)+if p[i]!.Gown = -1 then 1 else 0:= by
    rw[et];unfold J0;rw[ZZ,A4u];simp[sm]
   have eh:(A7c (p.take i)).set (i:Int) (p[i]!.Gown+1)=A7c (p.take (i+1)):= by
    rw[et,← D42,htl]
   have hi3:∃v,idx (A7c (p.take i)).l (i:Int)=some v:= by
    unfold Ar3.l
    exact⟨_,I0 (by simp;omega)⟩
   obtain⟨v,hv⟩:=hi3
   unfold B1v A0r
   simp only[]
   rw[if_pos (by simpa using hi),I0 hi]
   simp only[Zd]
   rw[C5i hs D (f:=(i:Int)) (by omega) (by rw[ZH];exact hu),ZH,hv]
   simp only[Zd]
   rw[F3 (n:=p[i]!.Gown+1) (by omega),F3 (n:=(i:Int)+1) (by omega),F3 (n:=J0 (p.take i)+1) (by omega),F3 (n:=sm (((pays s p).take i).map Z38)+_) (by omega),eh,ew,ec]
   by_cases hb:p[i]!.Gown = -1
   ·have:p[i]! = bare0:= by
     rcases V3.mp hu with e|e
     ·exact e
     ·have:=e.lo;omega
    rw[if_pos (by rw[this];rfl),if_pos hb];rfl
   ·rw[if_neg (by simp only[Zc,beq_iff_eq];exact fun q=>hb q.1),if_neg hb,Z2x];rfl) (by
   rw[ZQ (Zo _),ZQ (by rw[K6 h];omega)]
   unfold B1v
   simp only[]
   rw[if_neg (by simp)];rfl)
  exact this
 rw[e1]
 simp only[Zd]
 rw[C8c hs D h]
 rfl
section
variable {σ ρ:Type}
theorem D34 {s:PaShow} (hs:ShOk s) (hP:∀p∈PL s (O1 s) s.Figures.length [],PlU s p) (body:pawn_found→σ→Option (σ⊕ρ)) {st:σ} {X:σ⊕ρ} (h:V6 (fun p st=>body (fdP s p) st) (PL s (O1 s) s.Figures.length []) st=some X):B83 s (O1 s) σ ρ body st=some X:= by
 unfold B83
 refine C9z hs B3z.1 B3z.2 _ ?_
 rw[← h]
 exact B0m fun p hp st=>by rw[D4t hs _ (hP p hp)];rfl
def D8u (s:PaShow) (p:List PaUse):Bool:=!decide ((M1 s p).1>0)
def PA (s:PaShow):List (List PaUse):=(PL s (O1 s) s.Figures.length []).filter (D8u s)
theorem C0u {s:PaShow} (hs:ShOk s) (hP:∀p∈PL s (O1 s) s.Figures.length [],PlU s p) (body:pawn_found→σ→Option (σ⊕ρ)) {st:σ} {X:σ⊕ρ} (h:V6 (fun p st=>body (fdP s p) st) (PA s) st=some X):B7h s (O1 s) σ ρ body st=some X:= by
 unfold B7h
 refine D34 hs hP _ ?_
 rw[← h]
 unfold PA
 rw[A5u]
 refine B0m fun p hp st=>?_
 show (if decide ((M1 s p).1>0)=true then some (.inl st) else body (fdP s p) st)=_
 unfold D8u
 cases decide ((M1 s p).1>0) <;> rfl
end
section
variable {α:Type} {k:α→Int}
def upd (k:α→Int) (o:Option α) (a:α):Option α:=match o with|none=>some a|some b=>if k a<k b then some a else some b
theorem D0v:∀(m l:List α),m.foldl (upd k) (fm k l)=fm k (l++m)
 | [],l=>by simp
 | a::m,l=>by
  rw[Z0h]
  have:upd k (fm k l) a=fm k (l++[a]):= by rw[D0x];rfl
  rw[this,D0v m,ZB];rfl
def stO (F:α→pawn_found):Option α→pawn_found×Bool
 | none=>(fnd0,false)
 | some b=>(F b,true)
theorem D0n {it:It} {L:List α} {F:α→pawn_found} {g:pawn_found→pawn_found→Option Int} (hit:∀(σ ρ:Type) (body:pawn_found→σ→Option (σ⊕ρ)) (st:σ) (X:σ⊕ρ),V6 (fun a st=>body (F a) st) L st=some X→it σ ρ body st=some X)
  (hg:∀a∈L,∀ b∈L,∃ r,g (F a) (F b)=some r∧(r<0↔k a<k b)):B86 it g=some (stO F (fm k L)):= by
 have key:∀(m:List α) (o:Option α),(∀ a∈m,a∈L)→(∀ b,o=some b→b∈L)→V6 (fun a st=>C2l g (F a) st) m (stO F o)=(some (.inl (stO F (m.foldl (upd k) o))):Option ((pawn_found×Bool)⊕Unit)):= by
  intro m
  induction m with
  | nil=>intro o _ _;rfl
  | cons a m ih =>
   intro o hm ho
   have hb:C2l g (F a) (stO F o)=some (.inl (stO F (upd k o a))):= by
    unfold C2l
    cases o with
    | none=>rfl
    | some b =>
     obtain⟨r,h1,h2⟩:=hg a (hm a (Zw ..)) b (ho b Z)
     show (if (!true)=true then _ else (g (F a) (F b)).bind _:Option Bool).bind _=_
     rw[h1]
     unfold upd
     by_cases c:k a<k b
     ·simp only[if_pos c]
      have:decide (r<0)=true:=decide_eq_true (h2.mpr c)
      simp[this,stO]
     ·simp only[if_neg c]
      have:decide (r<0)=false:=decide_eq_false fun q=>c (h2.mp q)
      simp only[Z16,Zj,if_false,Zd,this,stO]
   show (C2l g (F a) (stO F o)).bind _=_
   rw[hb]
   refine ih (upd k o a) (fun b hb=>hm b (Zp _ hb)) fun b hb=>?_
   unfold upd at hb
   cases o with
   | none=>cases hb;exact hm a (Zw ..)
   | some c =>
    simp only at hb
    split at hb
    ·cases hb;exact hm a (Zw ..)
    ·cases hb;exact ho _ Z
 unfold B86
 rw[hit _ _ _ (fnd0,false) (.inl (stO F (fm k L))) (by
  have:=key L none (fun _ h=>h) (fun b h=>by cases h)
  rw[show (none:Option α)=fm k ([]:List α) from Z,D0v,Z05]at this
  exact this)]
 rfl
end
def A6m (s:PaShow) (p:List PaUse):Int:=J0 p*1000000+V5 s p
theorem or2 (a b:Int):A37 [a,b]=some (if a=0 then b else a):= by
 unfold A37
 rw[A7m (b:=A12 [a,b]) 2 (fun i=>if ([a,b][i]!:Int)=0 then none else some (.inl [a,b][i]!)) (.inr ()) (by omega) (fun i hi _=>by
  unfold A12
  rw[if_pos (by simp;omega),I0 (by simp;omega)]
  simp only[Zd]
  by_cases h:([a,b][i]!:Int)=0
  ·rw[if_neg (by rw[h];decide),if_pos h]
  ·rw[if_pos (bne_iff_ne.mpr h),if_neg h]) (by
  unfold A12
  rw[if_neg (by simp)])]
 simp only[first]
 rw[show ([a,b][0]!:Int)=a from Z,show ([a,b][1]!:Int)=b from Z]
 by_cases ha:a=0
 ·by_cases hb:b=0
  ·simp[ha,hb]
  ·simp[ha,hb]
 ·simp[ha]
end Pw
end
section
set_option maxRecDepth 100000
set_option maxHeartbeats 0
namespace Pw
open Go Am Go.Proofs.YtjpjdglddmhplaaGreat.Cd
def A2w (a0:(List Int)) (a1:Int):Option Int :=
 if ((Zh a0:Int)==0)=true then
  some 0
 else
  (B0b a1 (Zh a0:Int)).bind fun x2 =>
  (idx a0 x2).bind fun x3 =>
  some (w64 x3)
theorem A72 {c:Sc} {H:A1} {a0:(List Int)} {a1:Int} {r:Int} (h:A2w a0 a1=some r) :
  F0 tab c H (.fn (.func 79) [] []) [(.seq 1 (Zg A31 a0)),.i a1] [.i r]:= by
 unfold A2w at h
 refine cE Z Z<|s0<|qm Z<|es (ra2 Z Z)<|C1<|s0<|qm Z<|A0 (F4 (f:=A31) Z) Z<|A0 (G2 Z Z) Z<|es (ra3 Z Z Z)<|wi h Z (fun hc1 h=>?_) fun hc1 h=>?_
 ·refine s0<|qm Z<|es (ra1 Z)<|C6 ?_
  obtain rfl:=os h
  exact retq trivial (A7 Z B7) (A5 Z B6) (A3 A4 A8)
 ·refine C0<|s0<|oB h fun x2 hx2 h=>oB h fun x3 hx3 h=>qm Z<|qm Z<|qm Z<|A0 (F4 (f:=A31) Z) Z<|A0 (C3p Z Z hx2) Z<|A0 (D6 (f:=A31) Z Z hx3) Z<|A0 (G7 Z Z) Z<|A0 (A71 Z) Z<|qm Z<|es (ra1 Z)<|C6 ?_
  obtain rfl:=os h
  exact retq trivial (A7 Z B7) (A5 Z B6) (A3 A4 A8)
def A1o (s1:(Int×(List PaUse))) (p8:PaUse) (s13:(Bool×Int)):Option ((Bool×Int)⊕Bool) :=
 if (decide (s13.2<s1.1))=true then
  (if s13.1=true then
  some true
  else
  (idx s1.2 s13.2).bind fun x17 =>
  some (x17.Gown==p8.Gown)).bind fun x18 =>
  some (.inl (x18,(w64 (s13.2+1))))
 else
  some (.inr s13.1)
def A3m (a0:PaShow) (a1:(List Int)) (s1:(Int×(List PaUse))):Option ((Int×(List PaUse))⊕(List PaUse)) :=
 if (decide (s1.1<(Zh a0.Figures:Int)))=true then
  (A2w a1 (w64 (3*s1.1))).bind fun x4 =>
  (B0b x4 (w64 ((Zh a0.Gowns:Int)+1))).bind fun x5 =>
  (A2w a1 (w64 ((w64 (3*s1.1))+1))).bind fun x6 =>
  (S3 (w64 (x5-1)) (Z3t x6 3) 0).bind fun x7 =>
  (if (x7.How==1)=true then
   (A2w a1 (w64 ((w64 (3*s1.1))+2))).bind fun x10 =>
   (idx a0.Figures s1.1).bind fun x11 =>
   (B0b x10 (w64 (x11.Day+1))).bind fun x12 =>
   some (PaUse.mk x7.Gown x7.How x12)
  else
   some x7).bind fun (p8:PaUse) =>
  (loop (A1o s1 p8) (false,0)).bind fun (o19:Bool) =>
  (if ((p8.Gown==(-1))||o19)=true then
  some true
  else
  (A3e a0 s1.1 p8).bind fun x22 =>
  some (x22 != 0)).bind fun x23 =>
  if x23=true then
  (S3 (-1) 0 0).bind fun x25 =>
  (app 24 s1.2 [x25]).bind fun x26 =>
  some (.inl ((w64 (s1.1+1)),x26))
  else
  (app 24 s1.2 [p8]).bind fun x27 =>
  some (.inl ((w64 (s1.1+1)),x27))
 else
  some (.inr s1.2)
def A4c (a0:PaShow) (a1:(List Int)):Option (List PaUse) :=
 (loop (A3m a0 a1) (0,([]:List PaUse))).bind fun (o28:(List PaUse)) =>
 some o28
theorem A9p {c:Sc} {H:A1} {a0:PaShow} {a1:(List Int)} {r:(List PaUse)} (h:A4c a0 a1=some r) :
  F0 tab c H (.fn (.func 38) [] []) [(.agg (B1 a0)),(.seq 1 (Zg A31 a1))] [(.fresh 3 (Zg A6 r))]:= by
 unfold A4c at h
 refine cE Z Z<|sg 0 Z<|A0 (F8 (cs:=B1 a0) Z Z Z) Z<|qm Z<|es (ra2 Z Z)<|sg 1 Z<|A0 A7n Z<|es (ra3 Z Z Z)<|C1<|s0<|qm Z<|es (ra4 Z Z Z Z)<|C8<|oB h fun o28 ho28 h=>wl (fun s1=>[(1,(.seq 1 (Zg A31 a1))),(2,(.ptr (H.length+0) 0)),(5,(.asl (H.length+1) (Zh s1.2))),(6,.i s1.1)]) (fun (q2:Unit) s1=>[(.cells (B1 a0)),(.arr 3 false (Zg A6 s1.2))]) 2 (fun r e s' H'=>PX 0 [(5,(.asl (H.length+1) (Zh r)))] (H++[(.cells (B1 a0)),(.arr 3 false (Zg A6 r))]) e s' H') () ho28 Z Z (fun _ _=>rfl) (fun _=>rfl) Z (fun s1=>(bdc I7 (bdc (L8 Z) (bdc (A11 Z) (bdc A4 bdn))))) (fun q2 s1 ys1 hs1=>?_) ?_
 ·unfold A3m at hs1
  refine C1<|s0<|qm Z<|A0 (B9 Z) Z<|A0 (B2 Z Z Z) Z<|A0 (F4 (f:=B3) Z) Z<|A0 (I4 Z Z) Z<|es (ra5 Z Z Z Z Z)<|wi hs1 Z (fun hc3 hs1=>?_) fun hc3 hs1=>?_
  ·refine C0<|C1<|C8<|sg 2 Z<|oB hs1 fun x4 hx4 hs1=>oB hs1 fun x5 hx5 hs1=>oB hs1 fun x6 hx6 hs1=>oB hs1 fun x7 hx7 hs1=>qm Z<|qm Z<|A0 (B2h Z Z) Z<|J6 [2] (O4 [2] rfl G8 Z Z) (seen0 Z) (B6d (rs:=[.i x4]) Z Z (T5 Z (T5 Z A0u)) (A2 Z (A2 Z B5)) ((A72 hx4).frz)) Z<|A0 (B9 Z) Z<|J6 [2] (O4 [2] rfl G8 Z Z) (seen0 Z) (B2 Z Z Z) Z<|J6 [2] (O4 [2] rfl G8 Z Z) (seen0 Z) (F4 (f:=C5) Z) Z<|A0 (F7 Z Z) Z<|A0 (C3p Z Z hx5) Z<|A0 (W2 Z Z) Z<|qm Z<|qm Z<|A0 (B2h Z Z) Z<|A0 (F7 Z Z) Z<|J6 [2] (O4 [2] rfl G8 Z Z) (seen0 Z) (B6d (rs:=[.i x6]) Z Z (T5 Z (T5 Z A0u)) (A2 Z (A2 Z B5)) ((A72 hx6).frz)) Z<|A0 (Q7 (v:=(.i (Z3t x6 3))) Z Z Z) Z<|J6 [2] (O4 [2] rfl G8 Z Z) (seen0 Z) (B6d (rs:=[(.agg (A6 x7))]) Z Z (T5 Z (T5 Z (T5 Z A0u))) (A2 Z (A2 Z (A2 Z B5))) ((W8 hx7).frz)) Z<|A0 J7 Z<|P6 (F9 (ds:=(A6 x7)) Z Z Z Z (F2 Z) Z) Z<|es (ra5 Z Z Z Z Z)<|C1<|s0<|A0 (B9 Z) Z<|A0 (B2 Z Z Z) Z<|A0 (G2 Z Z) Z<|es (ra6 Z Z Z Z Z Z)<|oB hs1 fun p8 hp8 hs1=>A7a (Q1:=fun e s' H'=>e=.normal∧s'=[(1,(.seq 1 (Zg A31 a1))),(2,(.ptr (H.length+0) 0)),(5,(.asl (H.length+1) (Zh s1.2))),(6,.i s1.1),(7,(.ptr (H.length+2) 0))]∧H'=(H++[(.cells (B1 a0)),(.arr 3 false (Zg A6 s1.2)),(.cells (A6 p8))])) ?_ ?_
   ·refine wi hp8 Z (fun hc9 hp8=>?_) fun hc9 hp8=>?_
    ·refine r0<|oB hp8 fun x10 hx10 hp8=>oB hp8 fun x11 hx11 hp8=>oB hp8 fun x12 hx12 hp8=>qm Z<|qm Z<|A0 (B2h Z Z) Z<|A0 (F7 Z Z) Z<|V0 (rs:=[.i x10]) Z Z (T5 Z (T5 Z A0u)) (A2 Z (A2 Z B5)) ((A72 hx10).frz)<|A0 (B9 Z) Z<|A0 (B2 Z Z Z) Z<|qm Z<|A0 (D6 (f:=B3) Z Z hx11) Z<|A0 (R3 (ds:=(Z3d 1 (B3 x11))) Z Z) Z<|A0 (G7 Z Z) Z<|A0 (F7 Z Z) Z<|A0 (C3p Z Z hx12) Z<|A0 (B9 Z) Z<|P6 (F9 (ds:=(A6 (PaUse.mk x7.Gown x7.How x12))) Z Z Z Z (F2 Z) Z) Z<|en (ra5 Z Z Z Z Z) ?_
     obtain rfl:=os hp8
     exact me (ZE Z (ZE Z Z)) (su5 Z Z Z Z Z)
    ·refine C0 ?_
     obtain rfl:=os hp8
     exact me (ZE Z (ZE Z Z)) (su5 Z Z Z Z Z)
   ·rintro e s' H' ⟨rfl,rfl,rfl⟩
    refine s0<|qm Z<|es (ra6 Z Z Z Z Z Z)<|C1<|s0<|qm Z<|es (ra7 Z Z Z Z Z Z Z)<|C8<|oB hs1 fun o19 ho19 hs1=>wl (fun s13=>[(1,(.seq 1 (Zg A31 a1))),(2,(.ptr (H.length+0) 0)),(5,(.asl (H.length+1) (Zh s1.2))),(6,.i s1.1),(7,(.ptr (H.length+2) 0)),(8,.b s13.1),(9,.i s13.2)]) (fun (q14:Unit) s13=>[(.cells (B1 a0)),(.arr 3 false (Zg A6 s1.2)),(.cells (A6 p8))]) 3 (fun r e s' H'=>PX 2 [(1,(.seq 1 (Zg A31 a1))),(2,(.ptr (H.length+0) 0)),(5,(.asl (H.length+1) (Zh s1.2))),(6,.i s1.1),(7,(.ptr (H.length+2) 0)),(8,.b r)] (H++[(.cells (B1 a0)),(.arr 3 false (Zg A6 s1.2)),(.cells (A6 p8))]) e s' H') () ho19 Z Z (fun _ _=>rfl) (fun _=>rfl) Z (fun s13=>(bdc I7 (bdc (L8 Z) (bdc (A11 Z) (bdc A4 (bdc (L8 Z) (bdc A4 (bdc A4 bdn)))))))) (fun q14 s13 ys13 hs13=>?_) ?_
    ·unfold A1o at hs13
     refine C1<|s0<|qm Z<|qm Z<|A0 (I4 Z Z) Z<|es (ra8 Z Z Z Z Z Z Z Z)<|wi hs13 Z (fun hc15 hs13=>?_) fun hc15 hs13=>?_
     ·refine C0<|C1<|C8<|r0<|oB hs13 fun x18 hx18 hs13=>qm Z<|qm Z<|gp 9 66 (.b x18) 57 Z Z (fun hg16=>?_) (fun hg16=>?_) ?_
      ·obtain rfl:=os (bt hx18 hg16)
       exact nF Z hg16 Z<|nF Z hg16 Z<|nF Z hg16 Z<|nF Z hg16 Z<|nF Z hg16 Z<|nF Z hg16 Z<|nF Z hg16 Z<|nF Z hg16 Z<|A0 (C4 Z hg16 Z) Z<|ge 9 Z Z Z
      ·refine oB (bf hx18 hg16) fun x17 hx17 hx18=>?_
       obtain rfl:=os hx18
       exact gF Z hg16<|qm Z<|gF Z hg16<|qm Z<|gF Z hg16<|A0 (A6r (f:=A6) Z Z Z Z hx17) Z<|gF Z hg16<|A0 (E2u Z) Z<|gF Z hg16<|A0 (A40 (x:=(.i x17.Gown)) Z Z (Zi _) (A5p hx17) Z) Z<|gF Z hg16<|A0 (B9 Z) Z<|gF Z hg16<|A0 (B2 Z Z Z) Z<|gF Z hg16<|A0 (G2 Z Z) Z<|A0 (C3 Z hg16 Z) Z<|ge 9 Z Z Z
      refine qm Z<|en (ra7 Z Z Z Z Z Z Z)<|r0<|qm Z<|A0 (F7 Z Z) Z<|qm Z<|en (ra7 Z Z Z Z Z Z Z) ?_
      cases hs13
      exact lnT () Z (su7 Z Z Z Z Z Z Z)
     ·refine I1 ?_
      obtain rfl:=os hs13
      exact lx Z px (su6 Z Z Z Z Z Z)
    ·rintro e s' H'-⟨rfl,rfl,rfl⟩
     refine C1<|s0<|oB hs1 fun x23 hx23 hs1=>A0 (B9 Z) Z<|A0 (B2 Z Z Z) Z<|A0 (G2 Z Z) Z<|qm Z<|gp 2 72 (.b ((p8.Gown==(-1))||o19)) 70 Z Z (fun hg20=>?_) (fun hg20=>?_) ?_
     ·exact nF Z hg20 Z<|A0 (C4 Z hg20 Z) Z<|ge 2 (by rw[hg20];rfl) Z Z
     ·exact gF Z hg20<|qm Z<|A0 (C3 Z hg20 Z) Z<|ge 2 (by rw[hg20];rfl) Z Z
     refine qm Z<|gp 6 79 (.b x23) 73 Z Z (fun hg21=>?_) (fun hg21=>?_) ?_
     ·obtain rfl:=os (bt hx23 hg21)
      exact nF Z hg21 Z<|nF Z hg21 Z<|nF Z hg21 Z<|G5 (D3 Z (by rw[hg21];rfl)) Z<|nF Z hg21 Z<|A0 (C4 Z hg21 Z) Z<|ge 6 Z Z Z
     ·refine oB (bf hx23 hg21) fun x22 hx22 hx23=>?_
      obtain rfl:=os hx23
      exact gF Z hg21<|A0 (D1 Z Z Z) Z<|gF Z hg21<|qm Z<|gF Z hg21<|A0 (D1 Z Z Z) Z<|gF Z hg21<|B4 (rs:=[.i x22]) Z Z (A2 (C9 Z) (A2 Z (A2 (C9 Z) B5))) ((A9q hx22).frz)<|gF Z hg21<|A0 (I6 Z Z) Z<|A0 (C3 Z hg21 Z) Z<|ge 6 Z Z Z
     refine es (ra6 Z Z Z Z Z Z)<|wi hs1 Z (fun hc24 hs1=>?_) fun hc24 hs1=>?_
     ·refine r0<|oB hs1 fun x25 hx25 hs1=>B4 (rs:=[(.agg (A6 x25))]) Z Z (A2 Z (A2 Z (A2 Z B5))) ((W8 hx25).frz)<|P6 (F9 (ds:=(A6 x25)) Z Z Z Z (F2 Z) Z) Z<|en (ra5 Z Z Z Z Z)<|r0<|oB hs1 fun x26 hx26 hs1=>qm Z<|A0 (D1 Z Z Z) Z<|A0 (K3 (rows:=Zg A6 [x25]) Z Z (F5 (fun _=>rfl) _)) Z<|Q3 (A5m (f:=A6) Z Z Z Z A4q (fun _=>rfl) hx26) Z<|qm Z<|en (ra4 Z Z Z Z)<|r0<|qm Z<|A0 (F7 Z Z) Z<|qm Z<|en (ra4 Z Z Z Z) ?_
      cases hs1
      exact lnT () Z (su4 Z Z Z Z)
     ·refine C0<|r0<|oB hs1 fun x27 hx27 hs1=>qm Z<|A0 (D1 Z Z Z) Z<|A0 (K3 (rows:=Zg A6 [p8]) Z Z (F5 (fun _=>rfl) _)) Z<|Q3 (A5m (f:=A6) Z Z Z Z A4q (fun _=>rfl) hx27) Z<|qm Z<|en (ra4 Z Z Z Z)<|r0<|qm Z<|A0 (F7 Z Z) Z<|qm Z<|en (ra4 Z Z Z Z) ?_
      cases hs1
      exact lnT () Z (su4 Z Z Z Z)
  ·refine I1 ?_
   obtain rfl:=os hs1
   exact lx Z px (su1 Z)
 ·rintro e s' H'-⟨rfl,rfl,rfl⟩
  refine s0<|qm Z<|qm Z<|es (ra1 Z)<|C6 ?_
  obtain rfl:=os h
  exact retq trivial (A7 Z B7) (A5 (A6w Z (Zi _)) B6) (A3 A0i A8)
end Pw
end
section
namespace Pw
open Go Am
theorem B6u {x:List Int} (hx:x.length<9223372036854775808) {n:Int} (hn:0≤n):∃t,A2w x n=some t:= by
 unfold A2w
 by_cases h:x.length=0
 ·exact⟨0,by rw[if_pos (by simp[h])]⟩
 ·rw[if_neg (by simpa using h)]
  have hr:B0b n (x.length:Int)=some (n % (x.length:Int)):= by
   unfold B0b
   rw[if_neg (by omega),Z1u hn]
  have h1:=Z4i n (b:=(x.length:Int)) (by omega)
  have h2:=Z58 n (b:=(x.length:Int)) (by omega)
  rw[hr]
  simp only[Zd]
  rw[Z5 h1 h2]
  exact⟨_,Z⟩
theorem C71 {a b:Int} (h:b≠0):∃t,B0b a b=some t:=⟨_,by unfold B0b;rw[if_neg h]⟩
theorem C6p (q:PaUse→Bool):∀(l:List PaUse) (t:Bool),l.foldl (fun a x=>a||q x) t=(t||l.any q)
 | [],t=>by simp
 | x::l,t=>by rw[Z0h,C6p q l,List.any_cons,Bool.or_assoc]
theorem D7e {out:List PaUse} (hl:out.length≤100) (y:PaUse):loop (A1o ((out.length:Int),out) y) (false,0)=some (out.any fun x=>x.Gown==y.Gown):= by
 refine A0q out (fun a x=>a||x.Gown==y.Gown) false (fun i t=>(t,(i:Int))) (by omega) (fun i hi=>?_) ?_
 ·generalize (out.take i).foldl (fun a x=>a||x.Gown==y.Gown) false=t
  unfold A1o
  simp only[]
  rw[if_pos (by simpa using hi),I0 hi,F3 (n:=(i:Int)+1) (by omega)]
  cases t <;> rfl
 ·unfold A1o
  simp only[]
  rw[if_neg (by simp),C6p];rfl
theorem D03 {l:List PaUse} {y:PaUse} {k:Nat} (h:k<l.length):(l++[y])[k]! = l[k]!:= by
 rw[getElem!_pos _ k (by simp;omega),getElem!_pos l k h,Z49 h]
theorem C6v (l:List PaUse) (y:PaUse):(l++[y])[l.length]! = y:= by
 rw[getElem!_pos _ _ (by simp)];simp
theorem E1d {l:List PaUse} {y:PaUse} {k:Nat} (h:k<l.length):twP (l++[y]) k=twP l k:= by
 unfold twP
 rw[D03 h,List.take_append_of_le_length (by omega)]
def C8v (s:PaShow) (i:Nat) (l:List PaUse):Prop:=l.length=i∧∀ k,k<i→V2 s.Gowns s.Figures[k]! l[k]! = 0∧twP l k=false
theorem C8v.snoc {s:PaShow} {i:Nat} {l:List PaUse} (h:C8v s i l) {y:PaUse} (hu:V2 s.Gowns s.Figures[i]! y=0) (ht:(y.Gown != -1&&l.any fun x=>x.Gown==y.Gown)=false):C8v s (i+1) (l++[y]):= by
 obtain⟨rfl,h2⟩:=h
 refine⟨by simp,fun k hk=>?_⟩
 by_cases e:k=l.length
 ·subst e
  rw[C6v]
  refine⟨hu,?_⟩
  unfold twP
  rw[C6v,Z0a];exact ht
 ·have hk':k<l.length:= by omega
  rw[D03 hk',E1d hk']
  exact h2 k hk'
theorem C8y {s:PaShow} (hs:ShOk s) {x:List Int} (hx:x.length<9223372036854775808):∃p,A4c s x=some p∧PlOk s p:= by
 have hle:=hs.gowns
 have hle2:=hs.figures
 unfold A4c
 obtain⟨p,h1,h2⟩:=D5j (b:=A3m s x) (fun i t=>t.1=(i:Int)∧C8v s i t.2) s.Figures.length (fun p=>C8v s s.Figures.length p) (by omega) (fun i t hi hI=>by
  obtain⟨j,out⟩:=t
  obtain⟨rfl,hp⟩:=hI
  have hlen:out.length=i:=hp.1
  have hy:=hs.figure _ (J5 hi)
  obtain⟨t0,e0⟩:=B6u hx (n:=3*(i:Int)) (by omega)
  obtain⟨t1,e1⟩:=B6u hx (n:=3*(i:Int)+1) (by omega)
  obtain⟨t2,e2⟩:=B6u hx (n:=3*(i:Int)+2) (by omega)
  have hdp:=hy.day
  have hdu:=hy.til
  obtain⟨r0,f0⟩:=C71 (a:=t0) (b:=(s.Gowns.length:Int)+1) (by omega)
  obtain⟨r2,f2⟩:=C71 (a:=t2) (b:=s.Figures[i]!.Day+1) (by omega)
  have key:∀y:PaUse,∃ s',((loop (A1o ((i:Int),out) y) (false,0)).bind fun (o19:Bool) =>
    (if ((y.Gown==(-1))||o19)=true then some true else (A3e s (i:Int) y).bind fun x22=>some (x22 != 0)).bind fun x23 =>
    if x23=true then
     (S3 (-1) 0 0).bind fun x25=>(app 24 out [x25]).bind fun x26=>some (Z3e (w64 ((i:Int)+1),x26):(Int×List PaUse)⊕List PaUse)
    else (app 24 out [y]).bind fun x27=>some (.inl (w64 ((i:Int)+1),x27)))=some (.inl s')∧s'.1=((i+1:Nat):Int)∧C8v s (i+1) s'.2:=fun y=>by
   have hm:=D7e (out:=out) (by omega) y
   rw[hlen]at hm
   have hw:w64 ((i:Int)+1)=((i+1:Nat):Int):= by rw[F3 (by omega)];omega
   rw[hm,A6e (by omega) (by simp;omega),hw]
   simp only[Zd]
   rw[B3l hs (f:=(i:Int)) (by omega),ZH]
   have hbare:∃s':Int×List PaUse,(some (Z3e (((i+1:Nat):Int),out++[bare0])):Option ((Int×List PaUse)⊕List PaUse))=some (.inl s')∧s'.1=((i+1:Nat):Int)∧C8v s (i+1) s'.2 :=
    ⟨_,Z,Z,hp.snoc (V3.mpr (.inl Z)) Z⟩
   have hbe:((S3 (-1) 0 0).bind fun x25=>(app 24 out [x25]).bind fun x26=>some (Z3e (((i+1:Nat):Int),x26):(Int×List PaUse)⊕List PaUse))=some (.inl (((i+1:Nat):Int),out++[bare0])):= by
    unfold S3
    simp only[Zd]
    rw[A6e (by omega) (by simp;omega)];rfl
   rw[hbe]
   cases hc:((y.Gown==(-1))||out.any fun x=>x.Gown==y.Gown)
   ·simp only[Zj,if_false,Zd]
    by_cases hu:V2 s.Gowns s.Figures[i]! y=0
    ·rw[if_neg (by rw[hu];decide)]
     rw[Bool.or_eq_false_iff]at hc
     exact⟨_,Z,Z,hp.snoc hu (by rw[hc.2,Bool.and_false])⟩
    ·rw[if_pos (bne_iff_ne.mpr hu)]
     exact hbare
   ·simp only[if_true,Zd]
    exact hbare
  unfold A3m
  simp only[]
  rw[if_pos (by simpa using hi),F3 (n:=3*(i:Int)) (by omega),F3 (n:=3*(i:Int)+1) (by omega),F3 (n:=3*(i:Int)+2) (by omega),e0,e1,e2,F3 (n:=(s.Gowns.length:Int)+1) (by omega),I0 hi]
  simp only[Zd]
  rw[f0,F3 (n:=s.Figures[i]!.Day+1) (by omega),f2]
  simp only[Zd,S3]
  by_cases hh:Z3t t1 3=1
  ·rw[if_pos (by simpa using hh)]
   exact key _
  ·rw[if_neg (by simpa using hh)]
   exact key _) (fun t hI=>by
  obtain⟨j,out⟩:=t
  obtain⟨rfl,hp⟩:=hI
  refine⟨out,?_,hp⟩
  unfold A3m
  rw[if_neg (by simp)]) (0,[]) ⟨Z,Z,fun k hk=>by omega⟩
 rw[h1]
 exact⟨p,Z,⟨⟨h2.1,fun i hi=>(h2.2 i (by rw[← h2.1];exact hi)).1⟩,fun i hi=>(h2.2 i (by rw[← h2.1];exact hi)).2⟩⟩
def ku (u:PaUse):Int:=(if u.Gown = -1 then 100 else u.Gown)*10000+u.How*1000+u.Day
def A0x:List PaUse→List PaUse→Bool
 | [],[]=>false
 | [],_::_=>true
 | _::_,[]=>false
 | a::l,b::m=>if ku a=ku b then A0x l m else decide (ku a<ku b)
theorem B92:∀l:List PaUse,A0x l l=false
 | []=>rfl
 | a::l=>by unfold A0x;rw[if_pos Z];exact B92 l
theorem B56:∀q a b:List PaUse,A0x (q++a) (q++b)=A0x a b
 | [],a,b=>rfl
 | x::q,a,b=>by
  show (if ku x=ku x then A0x (q++a) (q++b) else decide (ku x<ku x))=_
  rw[if_pos Z];exact B56 q a b
theorem B66:∀a b c:List PaUse,a.length=b.length→b.length=c.length→A0x a b=false→A0x b c=false→A0x a c=false
 | [],[],[],_,_,_,_=>rfl
 | x::a,y::b,z::c,h1,h2,h3,h4=>by
  unfold A0x at h3 h4 ⊢
  by_cases e1:ku x=ku y
  ·rw[if_pos e1]at h3
   by_cases e2:ku y=ku z
   ·rw[if_pos e2]at h4
    rw[if_pos (by omega)]
    exact B66 a b c (by simpa using h1) (by simpa using h2) h3 h4
   ·rw[if_neg e2]at h4
    rw[if_neg (by omega)]
    simp at h4 ⊢; omega
  ·rw[if_neg e1]at h3
   simp at h3
   by_cases e2:ku y=ku z
   ·rw[if_neg (by omega)];simp;omega
   ·rw[if_neg e2]at h4
    simp at h4
    rw[if_neg (by omega)];simp;omega
theorem C3i (f:PaUse→PaUse):∀l:List PaUse,(∀ x∈l,ku (f x)≤ku x)→A0x l (l.map f)=false
 | [],_=>rfl
 | x::l,h=>by
  rw[Zv]
  unfold A0x
  have:=h x (Zw ..)
  split
  ·exact C3i f l fun y hy=>h y (Zp _ hy)
  ·simp;omega
structure DyOk (D:List Int):Prop where
 pos:0<D.length
 len:D.length≤365
 str:Str D
 bd:∀x∈D,0≤x∧x≤364
 zero:(0:Int)∈D
theorem A9b {s:PaShow} (hs:ShOk s):DyOk (O1 s):=⟨B3z.1,B3z.2,C2r s,fun x hx=>by
  rcases (B1q hs x).mp hx with rfl|⟨y,hy,rfl⟩
  ·exact⟨by decide,by decide⟩
  ·exact(hs.income y hy).day,(B1q hs 0).mpr (.inl Z)⟩
theorem E2p {s:PaShow} (hs:ShOk s) {D:List Int} (hD:DyOk D) {n:Nat} (h:n<nU s D):n / D.length / 3<s.Gowns.length∧n<6000:= by
 have hG:=hs.gowns
 constructor
 ·rw[Nat.div_div_eq_div_mul]
  refine Nat.div_lt_of_lt_mul ?_
  unfold nU at h
  have:s.Gowns.length*3*D.length=D.length*3*s.Gowns.length:= by
   rw[Nat.mul_assoc,Z23 s.Gowns.length,Z23 3]
  omega
 ·have:s.Gowns.length*3*D.length≤15*365:=Z2z (by omega) hD.len
  unfold nU at h
  omega
theorem D7y {D:List Int} (hD:DyOk D) {n m:Nat} (h:n<m):ku (U1 D n)<ku (U1 D m):= by
 have hp:=hD.pos
 have b1:=hD.bd _ (J5 (l:=D) (Z1x n hp))
 have b2:=hD.bd _ (J5 (l:=D) (Z1x m hp))
 have hn:=Z4e n D.length
 have hm:=Z4e m D.length
 have r1:=Z1x n hp
 have r2:=Z1x m hp
 have hle:n / D.length≤m / D.length:=Nat.div_le_div_right (Nat.le_of_lt h)
 have hc:n / D.length=m / D.length→D[n % D.length]! < D[m % D.length]!:=fun e=>by
  rw[e]at hn
  have hr:n % D.length<m % D.length:= by omega
  have:=Z0f.mp hD.str _ _ r1 r2 hr
  rwa [getElem!_pos D _ r1,getElem!_pos D _ r2]
 unfold ku U1
 simp only
 clear hn hm
 generalize D[n % D.length]! = x at *
 generalize D[m % D.length]! = y at *
 generalize n / D.length=a at *
 generalize m / D.length=c at *
 rw[if_neg (by omega),if_neg (by omega)]
 by_cases e:a=c
 ·have:=hc e
  subst e
  omega
 ·omega
theorem B98 {s:PaShow} {D:List Int} {q:List PaUse} {u:PaUse}:u∈cand s D q↔(∃ n,n<nU s D∧U1 D n=u)∧okU s q u=true:= by
 unfold cand
 rw[Z09,ZI]
 constructor
 ·rintro⟨⟨n,hn,e⟩,h⟩;exact⟨⟨n,by simpa using hn,e⟩,h⟩
 ·rintro⟨⟨n,hn,e⟩,h⟩;exact⟨⟨n,by simpa using hn,e⟩,h⟩
def Ext (s:PaShow) (D:List Int):List PaUse→List PaUse→Prop
 | _,[]=>True
 | q,u::r=>(u=bare0∨u∈cand s D q)∧Ext s D (q++[u]) r
theorem B0y {s:PaShow} {D:List Int}:∀{d:Nat} {q p:List PaUse},p∈PL s D d q↔∃ r,p=q++r∧r.length=d∧Ext s D q r
 | 0,q,p=>by
  unfold PL
  rw[Z0b]
  constructor
  ·intro h;exact⟨[],by simp[h],Z,trivial⟩
  ·rintro⟨r,rfl,hr,_⟩
   rw[Z0m.mp hr,ZY]
 | d+1,q,p=>by
  unfold PL
  rw[Zz,Z2m]
  constructor
  ·rintro (⟨u,hu,hp⟩|hp)
   ·obtain⟨r,rfl,hr,he⟩:=B0y.mp hp
    exact⟨u::r,by simp,by simp[hr],.inr hu,he⟩
   ·obtain⟨r,rfl,hr,he⟩:=B0y.mp hp
    exact⟨bare0::r,by simp,by simp[hr],.inl Z,he⟩
  ·rintro⟨r,rfl,hr,he⟩
   cases r with
   | nil=>cases hr
   | cons u r =>
    obtain⟨hu,he⟩:=he
    have hmem:q++u::r∈PL s D d (q++[u]):=B0y.mpr ⟨r,by simp,by simpa using hr,he⟩
    rcases hu with rfl|hu
    ·exact .inr hmem
    ·exact .inl ⟨u,hu,hmem⟩
theorem C4d {s:PaShow} (hs:ShOk s) {D:List Int} (hD:DyOk D):∀(d:Nat) (q:List PaUse),(PL s D d q).Pairwise fun a b=>A0x b a=false
 | 0,q=>by unfold PL;simp
 | d+1,q=>by
  have hG:=hs.gowns
  unfold PL
  rw[Z0e]
  refine⟨?_,C4d hs hD d _,?_⟩
  ·rw[List.pairwise_flatMap]
   refine⟨fun u _=>C4d hs hD d _,?_⟩
   have hp:(cand s D q).Pairwise fun a b=>ku a<ku b:= by
    unfold cand
    refine List.Pairwise.filter _ ?_
    rw[List.pairwise_map]
    exact List.pairwise_lt_range.imp fun h=>D7y hD h
   refine hp.imp fun {f g} hfg x hx y hy=>?_
   obtain⟨s',rfl,-⟩:=B0y.mp hx
   obtain⟨t,rfl,-⟩:=B0y.mp hy
   rw[ZB,ZB,B56]
   show A0x (g::t) (f::s')=false
   unfold A0x
   rw[if_neg (by omega),decide_eq_false (by omega)]
  ·intro a ha b hb
   obtain⟨u,hu,hx⟩:=Z2m.mp ha
   obtain⟨s',rfl,-⟩:=B0y.mp hx
   obtain⟨t,rfl,-⟩:=B0y.mp hb
   rw[ZB,ZB,B56]
   show A0x (bare0::t) (u::s')=false
   obtain⟨⟨n,hn,rfl⟩,_⟩:=B98.mp hu
   have h1:=E2p hs hD hn
   have b1:=hD.bd _ (J5 (l:=D) (Z1x n hD.pos))
   have hk:ku (U1 D n)<ku bare0:= by
    have e:ku bare0=1000000:=rfl
    rw[e]
    unfold ku U1
    simp only
    generalize D[n % D.length]! = x at *
    generalize n / D.length=a at *
    rw[if_neg (by omega)]
    omega
   unfold A0x
   rw[if_neg (by omega),decide_eq_false (by omega)]
def C5x (s:PaShow) (D:List Int) (q:List PaUse) (u:PaUse):Prop:=V2 s.Gowns s.Figures[q.length]! u=0∧D5o q u=false∧(u.Gown = -1∨u.Day∈D)
theorem D4z {s:PaShow} (hs:ShOk s) {D:List Int} (hD:DyOk D) {q:List PaUse} {u:PaUse}:(u=bare0∨u∈cand s D q)↔C5x s D q u:= by
 unfold C5x
 constructor
 ·rintro (rfl|h)
  ·exact⟨V3.mpr (.inl Z),Z,.inl Z⟩
  ·obtain⟨⟨n,hn,rfl⟩,h2⟩:=B98.mp h
   unfold okU at h2
   rw[Zc,beq_iff_eq,Bool.not_eq_true']at h2
   exact⟨h2.1,h2.2,.inr (J5 (Z1x n hD.pos))⟩
 ·rintro⟨h1,h2,h3⟩
  rcases V3.mp h1 with e|e
  ·exact .inl e
  ·right
   have hlo:=e.lo
   have hhi:=e.hi
   obtain⟨k,hk,hkd⟩:=A4z (h3.resolve_left (by omega))
   have hh:0≤u.How∧u.How≤2:= by
    rcases form1 e.form with h|⟨_,h|h⟩ <;> omega
   refine B98.mpr ⟨⟨(u.Gown.toNat*3+u.How.toNat)*D.length+k,?_,?_⟩,?_⟩
   ·unfold nU
    have:(u.Gown.toNat*3+u.How.toNat)*D.length+D.length≤s.Gowns.length*3*D.length:= by
     rw[← Z25]
     exact ZP _ (by omega)
    omega
   ·have d1:((u.Gown.toNat*3+u.How.toNat)*D.length+k) / D.length=u.Gown.toNat*3+u.How.toNat:= by
     rw[Z23,Nat.mul_add_div hD.pos,Nat.div_eq_of_lt hk,Nat.add_zero]
    have d2:((u.Gown.toNat*3+u.How.toNat)*D.length+k) % D.length=k:= by
     rw[Z23,Nat.mul_add_mod,Nat.mod_eq_of_lt hk]
    unfold U1
    rw[d1,d2,hkd]
    obtain⟨g,h,d⟩:=u
    simp only at hlo hhi hh ⊢
    congr 1
    ·omega
    ·omega
   ·unfold okU
    rw[h1,h2];rfl
theorem C4p {s:PaShow} (hs:ShOk s) {D:List Int} (hD:DyOk D):∀(r q:List PaUse),Ext s D q r↔∀ i,i<r.length→C5x s D (q++r.take i) r[i]!
 | [],q=>by unfold Ext;simp
 | u::r,q=>by
  unfold Ext
  rw[C4p hs hD r (q++[u]),D4z hs hD]
  constructor
  ·rintro⟨h1,h2⟩ i hi
   cases i with
   | zero=>simpa using h1
   | succ i =>
    have:=h2 i (by simpa using hi)
    rw[Z28,show q++u::r.take i=q++[u]++r.take i by simp]
    exact this
  ·intro h
   refine⟨by simpa using h 0 (by simp),fun i hi=>?_⟩
   have:=h (i+1) (by simpa using hi)
   rw[Z28,show q++u::r.take i=q++[u]++r.take i by simp]at this
   exact this
theorem D1o {s:PaShow} (hs:ShOk s) {D:List Int} (hD:DyOk D) {p:List PaUse}:p∈PL s D s.Figures.length []↔PlOk s p∧∀ x∈p,x.Gown = -1∨x.Day∈D:= by
 rw[B0y]
 constructor
 ·rintro⟨r,e,hr,he⟩
  rw[Z05]at e
  rw[e]
  have h:=(C4p hs hD r []).mp he
  have h':∀i,i<r.length→V2 s.Gowns s.Figures[i]! r[i]! = 0∧twP r i=false∧(r[i]!.Gown = -1∨r[i]!.Day∈D):=fun i hi=>by
   have:=h i hi
   unfold C5x at this
   rw[Z05,ZD,Z1r (by omega)]at this
   exact this
  refine⟨⟨⟨hr,fun i hi=>(h' i hi).1⟩,fun i hi=>(h' i hi).2.1⟩,fun x hx=>?_⟩
  obtain⟨i,hi,rfl⟩:=A4z hx
  exact(h' i hi).2.2
 ·rintro⟨h1,h2⟩
  refine⟨p,Z,h1.u.len,(C4p hs hD p []).mpr fun i hi=>?_⟩
  unfold C5x
  rw[Z05,ZD,Z1r (by omega)]
  exact⟨h1.u.use i hi,h1.tw i hi,h2 _ (J5 hi)⟩
theorem D9r {s:PaShow} (hs:ShOk s):∀p∈PL s (O1 s) s.Figures.length [],PlU s p:=fun _ hp=>((D1o hs (A9b hs)).mp hp).1.u
structure Pay (s:PaShow) (p:List PaUse):Prop where
 ok:PlOk s p
 left:∀d,0≤d→0≤I5 s p d
theorem A82 {s:PaShow} (hs:ShOk s) {p:List PaUse} (h:PlU s p):(M1 s p).1=0↔∀ d,0≤d→0≤I5 s p d:= by
 obtain⟨a1,a2,a3,_⟩:=A91 s p
 constructor
 ·intro hz d hd
  refine Int.not_lt.mp fun hc=>?_
  obtain⟨y,hy,hyd,hyn⟩:=C49 hs h hc
  have:=a2 y hy hyn
  omega
 ·intro hp
  rcases a3 with e|⟨y,hy,hyn,_⟩
  ·exact e
  ·have:=hp y.2 (X0 hs h y hy).2.1
   omega
theorem A6o {s:PaShow} (hs:ShOk s) {p:List PaUse}:p∈PA s↔Pay s p∧∀ x∈p,x.Gown = -1∨x.Day∈O1 s:= by
 unfold PA D8u
 rw[Z09,D1o hs (A9b hs)]
 have key:PlOk s p→((!decide ((M1 s p).1>0))=true↔∀ d,0≤d→0≤I5 s p d):=fun h=>by
  rw[← A82 hs h.u]
  have:=(A91 s p).1
  simp;omega
 constructor
 ·rintro⟨⟨h1,h2⟩,h3⟩;exact⟨⟨h1,(key h1).mp h3⟩,h2⟩
 ·rintro⟨⟨h1,h3⟩,h2⟩;exact⟨⟨h1,h2⟩,(key h1).mpr h3⟩
def B90 (d:Int) (a z:Int):Int:=if z≤d∧a<z then z else a
def A8p (D:List Int) (d:Int):Int:=D.foldl (B90 d) 0
theorem C43 (d:Int):∀(D:List Int) (a:Int),a≤d→a≤D.foldl (B90 d) a∧D.foldl (B90 d) a≤d∧(D.foldl (B90 d) a=a∨D.foldl (B90 d) a∈D)∧∀ z∈D,z≤d→z≤D.foldl (B90 d) a
 | [],a,h=>⟨Z04 _,h,.inl Z,by simp⟩
 | x::D,a,h=>by
  rw[Z0h]
  have hs:B90 d a x=if x≤d∧a<x then x else a:=rfl
  by_cases c:x≤d∧a<x
  ·rw[hs,if_pos c]
   obtain⟨h1,h2,h3,h4⟩:=C43 d D x c.1
   refine⟨by omega,h2,?_,fun z hz hzd=>?_⟩
   ·rcases h3 with e|e
    ·rw[e];exact .inr (Zw ..)
    ·exact .inr (Zp _ e)
   ·rcases Zt.mp hz with rfl|hz
    ·exact h1
    ·exact h4 z hz hzd
  ·rw[hs,if_neg c]
   obtain⟨h1,h2,h3,h4⟩:=C43 d D a h
   refine⟨h1,h2,?_,fun z hz hzd=>?_⟩
   ·rcases h3 with e|e
    ·exact .inl e
    ·exact .inr (Zp _ e)
   ·rcases Zt.mp hz with rfl|hz
    ·have:z≤a:= by
      by_cases hc:a<z
      ·exact absurd ⟨hzd,hc⟩ c
      ·omega
     omega
    ·exact h4 z hz hzd
theorem B55 {D:List Int} (h0:(0:Int)∈D) {d:Int} (hd:0≤d):0≤A8p D d∧A8p D d≤d∧A8p D d∈D∧∀ z∈D,z≤d→z≤A8p D d:= by
 obtain⟨h1,h2,h3,h4⟩:=C43 d D 0 hd
 refine⟨h1,h2,?_,h4⟩
 rcases h3 with e|e
 ·unfold A8p;rw[e];exact h0
 ·exact e
def nuU (D:List Int) (x:PaUse):PaUse:=if x.Gown ≠ -1∧x.How=1 then ⟨x.Gown,x.How,A8p D x.Day⟩ else x
theorem B8s (D:List Int) (x:PaUse):(nuU D x).Gown=x.Gown:= by unfold nuU;split <;> rfl
theorem C90 {g:PaGown} (h:GwOk g) {a b:Int} (ha:a≤b):price g a≤price g b:= by
 unfold price
 have:=Int.mul_le_mul_of_nonneg_left (show 1+(g.Ago+a) / 30≤1+(g.Ago+b) / 30 by omega) h.rate.1
 omega
theorem C0d {G:List PaGown} (hG:∀g∈G,GwOk g) {y:PaFigure} (hy:FgOk y) {D:List Int} (hD:(0:Int)∈D) {x:PaUse} (h:V2 G y x=0) :
  V2 G y (nuU D x)=0∧((nuU D x).Gown = -1∨(nuU D x).Day∈D)∧ku (nuU D x)≤ku x∧(A03 G y (nuU D x)).1≤(A03 G y x).1 ∧
   ∀ e E,(x.How=1→A8p D x.Day≤e→x.Day≤E)→e≤E→(A03 G y (nuU D x)).2≤e→(A03 G y x).2≤E:= by
 by_cases c:x.Gown ≠ -1∧x.How=1
 ·have e:nuU D x=⟨x.Gown,x.How,A8p D x.Day⟩:=if_pos c
  rcases V3.mp h with h' | h'
  ·rw[h']at c;exact absurd Z c.1
  ·have hd:0≤x.Day∧x.Day≤364:= by
    rcases form1 h'.form with q|⟨_,q|q⟩ <;> omega
   obtain⟨l1,l2,l3,l4⟩:=B55 hD hd.1
   have hpw:G[x.Gown.toNat]!.Pawn=true:= by
    rcases form1 h'.form with q|q
    ·omega
    ·exact q.1
   have hlate:=h'.late
   unfold B2k at hlate
   rw[c.2]at hlate
   simp at hlate
   have hlo:=h'.lo
   have hhi:=h'.hi
   have hgw:=hG _ (J5 (l:=G) (i:=x.Gown.toNat) (by omega))
   have hpay:A03 G y x=(price G[x.Gown.toNat]! x.Day,x.Day):= by
    unfold A03;rw[if_neg c.1,if_pos c.2]
   have hpay2:A03 G y (nuU D x)=(price G[x.Gown.toNat]! (A8p D x.Day),A8p D x.Day):= by
    rw[e];unfold A03;simp only;rw[if_neg c.1,if_pos c.2]
   refine⟨V3.mpr (.inr ?_),.inr (by rw[e];exact l3),?_,?_,?_⟩
   ·rw[e]
    refine⟨hlo,hhi,?_,?_,h'.look⟩
    ·unfold A8l
     simp only
     rw[hpw,c.2,O5.mpr ⟨l1,by omega⟩];rfl
    ·unfold B2k
     simp only
     rw[c.2]
     simp
     omega
   ·rw[e];unfold ku;simp only;split <;> omega
   ·rw[hpay,hpay2];exact C90 hgw l2
   ·intro e' E h1 h2 h3
    rw[hpay2]at h3
    rw[hpay]
    exact h1 c.2 h3
 ·have e:nuU D x=x:=if_neg c
  rw[e]
  refine⟨h,?_,Z04 _,Z04 _,?_⟩
  ·rcases V3.mp h with h' | h'
   ·left;rw[h'];rfl
   ·right
    have hlo:=h'.lo
    have:x.Day=0:= by
     rcases form1 h'.form with q|⟨_,q|q⟩
     ·exact q.2.2
     ·exact q.2
     ·exact absurd ⟨by omega,q.1⟩ c
    rw[this];exact hD
  ·intro e' E _ h2 h3;omega
theorem D2a {s:PaShow} (hs:ShOk s) {p:List PaUse} (h:PlU s p):∀z∈s.Figures.zip p,FgOk z.1∧V2 s.Gowns z.1 z.2=0∧z.2∈p:= by
 intro z hz
 obtain⟨i,hi,e⟩:=ZW.mp hz
 rw[Z4a]at e
 rw[Z4j]at hi
 subst e
 have hip:i<p.length:= by omega
 have hif:i<s.Figures.length:= by omega
 refine⟨hs.figure _ (Z24 hif),?_,Z24 hip⟩
 have:=h.use i hip
 rwa [getElem!_pos s.Figures i hif,getElem!_pos p i hip]at this
theorem B7x {α β γ:Type} (f:α→β→γ):∀(l:List α) (m:List β),Z56 f l m=(l.zip m).map fun z=>f z.1 z.2
 | [],_=>by simp
 | _::_,[]=>by simp
 | a::l,b::m=>by simp[B7x f l m]
theorem D19 {α β:Type} (g:β→β):∀(l:List α) (m:List β),l.zip (m.map g)=(l.zip m).map fun z=>(z.1,g z.2)
 | [],_=>by simp
 | _::_,[]=>by simp
 | a::l,b::m=>by simp[D19 g l m]
theorem C0v (s:PaShow) (p:List PaUse):pays s p=(s.Figures.zip p).map fun z=>A03 s.Gowns z.1 z.2:=B7x _ _ _
theorem D1y (s:PaShow) (D:List Int) (p:List PaUse):pays s (p.map (nuU D))=(s.Figures.zip p).map fun z=>A03 s.Gowns z.1 (nuU D z.2):= by
 rw[C0v,D19,Z1k];rfl
theorem B91 (D:List Int) (e:Int) (he:0≤e) (h0:(0:Int)∈D):∀q:List PaUse,∃ E,e≤E∧A8p D E≤e∧∀ x∈q,A8p D x.Day≤e→x.Day≤E
 | []=>⟨e,Z04 _,(B55 h0 he).2.1,by simp⟩
 | x::q=>by
  obtain⟨E,h1,h2,h3⟩:=B91 D e he h0 q
  by_cases c:A8p D x.Day≤e∧E<x.Day
  ·refine⟨x.Day,by omega,c.1,fun z hz hzd=>?_⟩
   rcases Zt.mp hz with rfl|hz
   ·exact Z04 _
   ·have:=h3 z hz hzd;omega
  ·refine⟨E,h1,h2,fun z hz hzd=>?_⟩
   rcases Zt.mp hz with rfl|hz
   ·by_cases hc:E<z.Day
    ·exact absurd ⟨hzd,hc⟩ c
    ·omega
   ·exact h3 z hz hzd
theorem E1e {f:PaUse→PaUse} (hf:∀x,(f x).Gown=x.Gown) {p:List PaUse} {i:Nat} (hi:i<p.length):twP (p.map f) i=twP p i:= by
 unfold twP
 rw[getElem!_pos (p.map f) i (by simpa using hi),Z37,hf,← List.map_take,List.any_map,getElem!_pos p i hi]
 congr 2
 funext x
 show ((f x).Gown==_)=_
 rw[hf]
theorem E5c {s:PaShow} (hs:ShOk s) {q:List PaUse} (h:PlU s q):PlU s (q.map (nuU (O1 s))):= by
 refine⟨by rw[Zi];exact h.len,fun i hi=>?_⟩
 rw[Zi]at hi
 have:=h.len
 rw[getElem!_pos (q.map _) i (by simpa using hi),Z37,← getElem!_pos q i hi]
 exact(C0d hs.gown (hs.figure _ (J5 (by omega))) (A9b hs).zero (h.use i hi)).1
theorem D78 {s:PaShow} (hs:ShOk s) {q:List PaUse} (h:PlU s q) {e:Int} (he:0≤e):∃E,e≤E∧I5 s q E≤I5 s (q.map (nuU (O1 s))) e:= by
 have h0:=(A9b hs).zero
 obtain⟨E,h1,h2,h3⟩:=B91 (O1 s) e he h0 q
 refine⟨E,h1,?_⟩
 have hinc:P8 (incs s) E=P8 (incs s) e:= by
  unfold P8
  refine congrArg sm (Z3p fun z hz=>?_)
  have hzD:z.2∈O1 s:= by
   obtain⟨x,hx,rfl⟩:=ZI.mp hz
   exact(B1q hs _).mpr (.inr ⟨x,hx,Z⟩)
  by_cases c:z.2≤E
  ·have:=(B55 h0 (by omega:0≤E)).2.2.2 z.2 hzD c
   rw[if_pos c,if_pos (by omega)]
  ·rw[if_neg c,if_neg (by omega)]
 have hpay:P8 (pays s (q.map (nuU (O1 s)))) e≤P8 (pays s q) E:= by
  rw[D1y,C0v]
  unfold P8
  rw[Z1k,Z1k]
  refine C8e fun z hz=>?_
  obtain⟨hy,hu,hm⟩:=D2a hs h z hz
  obtain⟨_,_,_,n4,n5⟩:=C0d hs.gown hy h0 hu
  have hb:=(C9w hs.gown hy hu).1.1
  simp only[Function.comp]
  by_cases c:(A03 s.Gowns z.1 (nuU (O1 s) z.2)).2≤e
  ·rw[if_pos c,if_pos (n5 e E (fun _=>h3 z.2 hm) h1 c)]
   exact n4
  ·rw[if_neg c];split <;> omega
 unfold I5
 omega
theorem C0c {s:PaShow} (hs:ShOk s) {q:List PaUse} (h:Pay s q):q.map (nuU (O1 s))∈PA s∧J0 (q.map (nuU (O1 s)))=J0 q∧V5 s (q.map (nuU (O1 s)))≤V5 s q∧A0x q (q.map (nuU (O1 s)))=false:= by
 have h0:=(A9b hs).zero
 have hall:∀x∈q,∃ y,FgOk y∧V2 s.Gowns y x=0:=fun x hx=>by
  obtain⟨i,hi,rfl⟩:=A4z hx
  have:=h.ok.u.len
  exact⟨_,hs.figure _ (J5 (by omega)),h.ok.u.use i hi⟩
 refine⟨(A6o hs).mpr ⟨⟨⟨E5c hs h.ok.u,fun i hi=>?_⟩,fun d hd=>?_⟩,fun x hx=>?_⟩,?_,?_,?_⟩
 ·rw[Zi]at hi
  rw[E1e (B8s _) hi];exact h.ok.tw i hi
 ·obtain⟨E,h1,h2⟩:=D78 hs h.ok.u hd
  have:=h.left E (by omega)
  omega
 ·obtain⟨z,hz,e⟩:=ZI.mp hx
  obtain⟨y,hy,hu⟩:=hall z hz
  rw[← e]
  exact(C0d hs.gown hy h0 hu).2.1
 ·unfold J0
  rw[Z1k]
  refine congrArg sm (Z3p fun x _=>?_)
  simp only[Function.comp,B8s]
 ·unfold V5
  rw[D1y,C0v,Z1k,Z1k]
  refine C8e fun z hz=>?_
  obtain⟨hy,hu,_⟩:=D2a hs h.ok.u z hz
  exact(C0d hs.gown hy h0 hu).2.2.2.1
 ·refine C3i _ _ fun x hx=>?_
  obtain⟨y,hy,hu⟩:=hall x hx
  exact(C0d hs.gown hy h0 hu).2.2.1
theorem D4b {s:PaShow} (hs:ShOk s):Pay s (Zx s.Figures.length bare0)∧∀ x∈Zx s.Figures.length bare0,x.Gown = -1∨x.Day∈O1 s:= by
 have hget:∀i,i<s.Figures.length→(Zx s.Figures.length bare0)[i]! = bare0:=fun i hi=>by
  rw[getElem!_pos _ i (by simpa using hi),List.getElem_replicate]
 have hu:PlU s (Zx s.Figures.length bare0):=⟨by simp,fun i hi=>by
  rw[Z1s]at hi
  rw[hget i hi];exact V3.mpr (.inl Z)⟩
 refine⟨⟨⟨hu,fun i hi=>?_⟩,fun d hd=>?_⟩,fun x hx=>?_⟩
 ·rw[Z1s]at hi
  unfold twP
  rw[hget i hi];rfl
 ·have h1:P8 (pays s (Zx s.Figures.length bare0)) d=0:= by
   unfold P8
   refine C5r fun x hx=>?_
   obtain⟨i,hi,rfl⟩:=A4z hx
   rw[K6 hu]at hi
   rw[A3s hu hi,hget i (by simpa using hi)]
   show (if (0:Int)≤d then (0:Int) else 0)=0
   split <;> rfl
  have h2:=(A2t (fun x hx=>(Z6 hs x hx).1) d).1
  have h3:=hs.purse
  unfold I5
  omega
 ·rw[(List.mem_replicate.mp hx).2];exact .inl Z
theorem A48 {s:PaShow} (hs:ShOk s) {p:List PaUse} (h:PlU s p):0≤V5 s p∧V5 s p≤300000:= by
 have:=B8e hs h (pays s p).length
 rwa [Z15]at this
theorem C2m {s:PaShow} (hs:ShOk s):∃b,fm (A6m s) (PA s)=some b∧Pay s b∧(∀ q,Pay s q→A6m s b≤A6m s q)∧∀ q,Pay s q→A6m s q=A6m s b→A0x q b=false:= by
 obtain⟨b,hb⟩:=D0y (k:=A6m s) ((A6o hs).mpr (D4b hs))
 have hbp:=((A6o hs).mp (C4r hb)).1
 have hkey:∀q,Pay s q→A6m s (q.map (nuU (O1 s)))≤A6m s q:=fun q hq=>by
  obtain⟨_,h2,h3,_⟩:=C0c hs hq
  unfold A6m
  omega
 refine⟨b,hb,hbp,fun q hq=>Z5y (D4r hb (C0c hs hq).1) (hkey q hq),fun q hq he=>?_⟩
 obtain⟨h1,h2,h3,h4⟩:=C0c hs hq
 have hle:=D4r hb h1
 have hle2:=hkey q hq
 have e:A6m s (q.map (nuU (O1 s)))=A6m s b:= by omega
 have hb2:A0x (q.map (nuU (O1 s))) b=false:= by
  obtain⟨-,A,B,hAL,h5⟩:=B8h hb
  have hp:(PA s).Pairwise fun a b=>A0x b a=false:=(C4d hs (A9b hs) _ _).filter _
  rw[hAL]at hp h1
  rcases Zz.mp h1 with h1|h1
  ·have:=h5 _ h1;omega
  ·rcases Zt.mp h1 with h1|h1
   ·rw[h1];exact B92 _
   ·exact(Z1g.mp (Z0e.mp hp).2.1).1 _ h1
 have l1:=hq.ok.u.len
 have l2:=hbp.ok.u.len
 exact B66 _ _ _ (by simp) (by simp;omega) h4 hb2
theorem E0e {s:PaShow} (hs:ShOk s) {p q:List PaUse} (hp:PlU s p) (hq:PlU s q):A6m s p<A6m s q↔J0 p<J0 q∨(J0 p=J0 q∧V5 s p<V5 s q):= by
 have h1:=A48 hs hp
 have h2:=A48 hs hq
 unfold A6m
 omega
theorem D4d {s:PaShow} (hs:ShOk s):∀p∈PA s,∀ q∈PA s,∃ r,A5b (fdP s p) (fdP s q)=some r∧(r<0↔A6m s p<A6m s q):= by
 intro p hp q hq
 have hp':=((A6o hs).mp hp).1.ok.u
 have hq':=((A6o hs).mp hq).1.ok.u
 have h1:=A48 hs hp'
 have h2:=A48 hs hq'
 have h3:=A92 p
 have h4:=A92 q
 have h5:=hp'.len
 have h6:=hq'.len
 have h7:=hs.figures
 refine⟨if J0 p-J0 q=0 then V5 s p-V5 s q else J0 p-J0 q,?_,?_⟩
 ·unfold A5b fdP
  simp only
  rw[F3 (by omega),F3 (by omega),or2]
  rfl
 ·rw[E0e hs hp' hq']
  split <;> omega
theorem C4b (s:PaShow) (hb:NB s):A1r s=some (if (chk s).2.2=0 then (match fm (A6m s) (PA s) with|some b=>(b,J0 b,V5 s b,0)|none=>([],0,0,0)) else ([],0,0,(chk s).2.2)):= by
 unfold A1r
 rw[A8g s hb]
 simp only[Zd]
 by_cases h:(chk s).2.2=0
 ·have hs:=(W4 s).mp h
  simp only[h,if_true,BEq.rfl]
  rw[D0n (k:=A6m s) (L:=PA s) (F:=fdP s) (fun σ ρ body st X hX=>C0u hs (D9r hs) body hX) (D4d hs)]
  cases fm (A6m s) (PA s) <;> rfl
 ·rw[if_neg h,if_neg (by simpa using h),if_neg h]
end Pw
end
section
set_option maxRecDepth 100000
set_option maxHeartbeats 0
namespace Pw
open Go Am Go.Proofs.YtjpjdglddmhplaaGreat.Cd
def A4r (a0:PaShow) (a1:(List PaUse)):Option Bool :=
 (A3c a0 a1).bind fun x1 =>
 some (decide (x1.1≥0))
theorem B4r {c:Sc} {H:A1} {a0:PaShow} {a1:(List PaUse)} {r:Bool} (h:A4r a0 a1=some r) :
  F0 tab c H (.fn (.func 35) [] []) [(.agg (B1 a0)),(.seq 3 (Zg A6 a1))] [.b r]:= by
 unfold A4r at h
 refine cE Z Z<|sg 0 Z<|A0 (F8 (cs:=B1 a0) Z Z Z) Z<|qm Z<|es (ra2 Z Z)<|s0<|oB h fun x1 hx1 h=>A0 (D1 Z Z Z) Z<|qm Z<|B4 (rs:=[.i x1.1,.i x1.2]) Z Z (A2 (C9 Z) (A2 Z B5)) ((B02 hx1).frz)<|qm Z<|A0 (A9 Z Z) Z<|A0 (A9 Z Z) Z<|qm Z<|qm Z<|es (ra1 Z)<|s0<|qm Z<|A0 (A7d Z Z) Z<|qm Z<|es (ra1 Z)<|C6 ?_
 obtain rfl:=os h
 exact retq trivial (A7 Z B7) (A5 Z B6) (A3 A4 A8)
def Y8 (a0:(List PaUse)) (s1:(Int×Int)):Option ((Int×Int)⊕Int) :=
 if (decide (s1.2<(Zh a0:Int)))=true then
  (idx a0 s1.2).bind fun x4 =>
  if (x4.Gown==(-1))=true then
  some (.inl ((w64 (s1.1+1)),(w64 (s1.2+1))))
  else
  some (.inl (s1.1,(w64 (s1.2+1))))
 else
  some (.inr s1.1)
def Y1 (a0:(List PaUse)):Option Int :=
 (loop (Y8 a0) (0,0)).bind fun (o6:Int) =>
 some o6
theorem A4j {c:Sc} {H:A1} {a0:(List PaUse)} {r:Int} (h:Y1 a0=some r) :
  F0 tab c H (.fn (.func 36) [] []) [(.seq 3 (Zg A6 a0))] [.i r]:= by
 unfold Y1 at h
 refine cE Z Z<|s0<|qm Z<|es (ra1 Z)<|s0<|qm Z<|es (ra2 Z Z)<|C1<|s0<|qm Z<|es (ra3 Z Z Z)<|C8<|oB h fun o6 ho6 h=>wl (fun s1=>[(0,(.seq 3 (Zg A6 a0))),(3,.i s1.1),(4,.i s1.2)]) (fun (q2:Unit) s1=>[]) 0 (fun r e s' H'=>PX 0 [(3,.i r)] (H++[]) e s' H') () ho6 Z Z (fun _ _=>rfl) (fun _=>rfl) Z (fun s1=>(bdc I7 (bdc A4 (bdc A4 bdn)))) (fun q2 s1 ys1 hs1=>?_) ?_
 ·unfold Y8 at hs1
  refine C1<|s0<|qm Z<|qm Z<|A0 (F4 (f:=A6) Z) Z<|A0 (I4 Z Z) Z<|es (ra4 Z Z Z Z)<|wi hs1 Z (fun hc3 hs1=>?_) fun hc3 hs1=>?_
  ·refine C0<|C1<|C8<|s0<|oB hs1 fun x4 hx4 hs1=>qm Z<|qm Z<|A0 (D6 (f:=A6) Z Z hx4) Z<|A0 (R3 (ds:=(A6 x4)) Z Z) Z<|A0 (G7 Z Z) Z<|A0 (G2 Z Z) Z<|es (ra4 Z Z Z Z)<|wi hs1 Z (fun hc5 hs1=>?_) fun hc5 hs1=>?_
   ·refine r0<|qm Z<|A0 (F7 Z Z) Z<|qm Z<|en (ra3 Z Z Z)<|r0<|qm Z<|A0 (F7 Z Z) Z<|qm Z<|en (ra3 Z Z Z) ?_
    cases hs1
    exact lnT () Z (su3 Z Z Z)
   ·refine C0<|r0<|qm Z<|A0 (F7 Z Z) Z<|qm Z<|en (ra3 Z Z Z) ?_
    cases hs1
    exact lnT () Z (su3 Z Z Z)
  ·refine I1 ?_
   obtain rfl:=os hs1
   exact lx Z px (su1 Z)
 ·rintro e s' H'-⟨rfl,rfl,rfl⟩
  refine s0<|qm Z<|qm Z<|es (ra1 Z)<|C6 ?_
  obtain rfl:=os h
  exact retq trivial (A7 Z B7) (A5 Z B6) (A3 A4 A8)
end Pw
end
section
namespace Pw
open Go Am
theorem C02 {s:PaShow} (hs:ShOk s) {p:List PaUse} (h:PlU s p):A4r s p=some (decide ((M1 s p).1=0)):= by
 unfold A4r
 rw[B44 hs h]
 simp only[Zd]
 have:=(B7o hs h).2.2.1
 rw[Option.some_inj,Z03,decide_eq_true_eq,decide_eq_true_eq,this]
theorem A62 {p:List PaUse} (hl:p.length≤100):Y1 p=some (J0 p):= by
 unfold Y1
 have e1:loop (Y8 p) (0,0)=some (J0 p):= by
  refine A0q p (fun a (x:PaUse)=>a+if x.Gown = -1 then 1 else 0) 0 (fun i t=>(t,(i:Int))) (by omega) (fun i hi=>?_) ?_
  ·have hb:=A92 (p.take i)
   rw[ZD]at hb
   rw[A14,show sm ((p.take i).map fun x=>if x.Gown = -1 then 1 else 0)=J0 (p.take i) from Z,Z5z]
   unfold Y8
   simp only[]
   rw[if_pos (by simpa using hi),I0 hi]
   simp only[Zd]
   rw[F3 (n:=(i:Int)+1) (by omega),F3 (by omega)]
   by_cases h:p[i]!.Gown = -1
   ·rw[if_pos (by rw[h];rfl),if_pos h];rfl
   ·rw[if_neg (by rw[beq_iff_eq];exact h),if_neg h,Z2x];rfl
  ·unfold Y8
   simp only[]
   rw[if_neg (by simp),A14,Z5z];rfl
 rw[e1];rfl
section
variable {α σ ρ:Type}
theorem C2y {f:α→σ→Option (σ⊕ρ)} (I:List α→σ→Prop):∀(l pre:List α) (s:σ),I pre s→(∀ pre a s,a∈l→I pre s→∃ s',f a s=some (.inl s')∧I (pre++[a]) s')→∃ s',V6 f l s=some (.inl s')∧I (pre++l) s'
 | [],pre,s,h,_=>⟨s,Z,by rwa [ZY]⟩
 | a::l,pre,s,h,hs=>by
  obtain⟨s',h1,h2⟩:=hs pre a s (Zw ..) h
  obtain⟨s'',h3,h4⟩:=C2y I l (pre++[a]) s' h2 fun pre b s hb=>hs pre b s (Zp _ hb)
  refine⟨s'',?_,by rwa [ZB]at h4⟩
  show (f a s).bind _=_
  rw[h1];exact h3
end
theorem A8k {α β:Type} {f:α→List β} {k:Nat}:∀{l:List α},(∀ x∈l,(f x).length≤k)→(l.flatMap f).length≤l.length*k
 | [],_=>by simp
 | x::l,h=>by
  have h1:=h x (Zw ..)
  have h2:=A8k (l:=l) fun y hy=>h y (Zp _ hy)
  rw[Z1v,Zm,ZV,Z25]
  omega
theorem C8u {s:PaShow} (hs:ShOk s) {D:List Int} (hD:DyOk D):∀(d:Nat) (q:List PaUse),(PL s D d q).length≤6000 ^ d
 | 0,q=>by unfold PL;simp
 | d+1,q=>by
  unfold PL
  have hc:(cand s D q).length≤5999:= by
   unfold cand
   refine Z02 (Z1h _ _) ?_
   rw[Zi,Z2i]
   have:s.Gowns.length*3*D.length≤15*365:=Z2z (by have:=hs.gowns;omega) hD.len
   unfold nU;omega
  have h1:=A8k (f:=fun u=>PL s D d (q++[u])) (k:=6000 ^ d) (l:=cand s D q) fun u _=>C8u hs hD d _
  have h2:=C8u hs hD d (q++[bare0])
  have h3:=ZP (6000 ^ d) hc
  rw[Zm,Nat.pow_succ]
  generalize 6000 ^ d=k at *
  omega
theorem D9q {s:PaShow} (hs:ShOk s):(PA s).length≤216000000000:= by
 have h1:=Z1h (D8u s) (PL s (O1 s) s.Figures.length [])
 have h2:=C8u hs (A9b hs) s.Figures.length []
 have h3:6000 ^ s.Figures.length≤6000 ^ 3:=Nat.pow_le_pow_right (by decide) hs.figures
 unfold PA
 omega
section
theorem C64 {k:Had} {v:Int}:∀{m:Met},(∀ e∈kset m k v,e.1=k∨e∈m)∧(∃ e∈kset m k v,e.1=k)∧∀ e∈m,∃ e' ∈ kset m k v,e'.1=e.1
 | []=>by
  have:kset ([]:Met) k v=[(k,v)]:=rfl
  rw[this]
  exact⟨fun e he=>.inl (by rw[Z0b.mp he]),⟨_,Z0b.mpr Z,Z⟩,by simp⟩
 | x::m=>by
  rw[B54]
  by_cases h:k=x.1
  ·rw[if_pos h]
   refine⟨fun e he=>?_,⟨_,Zw ..,Z⟩,fun e he=>?_⟩
   ·rcases Zt.mp he with rfl|he
    ·exact .inl Z
    ·exact .inr (Zp _ he)
   ·rcases Zt.mp he with rfl|he
    ·exact⟨_,Zw ..,h⟩
    ·exact⟨e,Zp _ he,Z⟩
  ·rw[if_neg h]
   obtain⟨h1,⟨e0,h2,h2'⟩,h3⟩:=C64 (k:=k) (v:=v) (m:=m)
   refine⟨fun e he=>?_,⟨e0,Zp _ h2,h2'⟩,fun e he=>?_⟩
   ·rcases Zt.mp he with rfl|he
    ·exact .inr (Zw ..)
    ·exact(h1 e he).imp id (Zp _)
   ·rcases Zt.mp he with rfl|he
    ·exact⟨_,Zw ..,Z⟩
    ·obtain⟨e',g1,g2⟩:=h3 e he
     exact⟨e',Zp _ g1,g2⟩
theorem C63 {k:Had} {v:Int}:∀{m:Met},(kset m k v).length≤m.length+1
 | []=>by
  have:kset ([]:Met) k v=[(k,v)]:=rfl
  rw[this];simp
 | x::m=>by
  rw[B54]
  have:=C63 (k:=k) (v:=v) (m:=m)
  split <;> simp <;> omega
theorem C3h {k:Had}:∀{m:Met},(kget m k).isSome=true→∃ e∈m,e.1=k
 | [],h=>by cases h
 | x::m,h=>by
  rw[A57]at h
  by_cases c:k=x.1
  ·exact⟨x,Zw ..,c.symm⟩
  ·rw[if_neg c]at h
   obtain⟨e,h1,h2⟩:=C3h h
   exact⟨e,Zp _ h1,h2⟩
end
structure MetI (w:Int) (l:List (List PaUse)) (m:Met):Prop where
 len:m.length≤l.length
 of:∀e∈m,∃ p∈l,J0 p=w∧A7c p=e.1
 all:∀p∈l,J0 p=w→∃ e∈m,e.1=A7c p
theorem D5p {s:PaShow} {few:pawn_found} {l:List (List PaUse)} {p:List PaUse} {m:Met} (h:MetI few.without_ l m):∃m',D23 few (fdP s p) m=some (.inl m')∧MetI few.without_ (l++[p]) m':= by
 obtain⟨h1,h2,h3⟩:=h
 unfold D23 fdP
 simp only
 have hof:∀e∈m,∃ q∈l++[p],J0 q=few.without_∧A7c q=e.1:=fun e he=>by
  obtain⟨q,g1,g2⟩:=h2 e he
  exact⟨q,Z0o _ g1,g2⟩
 have hset:J0 p=few.without_→MetI few.without_ (l++[p]) (kset m (A7c p) (V5 s p)):=fun hw=>by
  obtain⟨k1,k2,k3⟩:=C64 (k:=A7c p) (v:=V5 s p) (m:=m)
  refine⟨?_,fun e he=>?_,fun q hq hqw=>?_⟩
  ·have:=C63 (k:=A7c p) (v:=V5 s p) (m:=m)
   rw[Zm,Z39];omega
  ·rcases k1 e he with e1|e1
   ·exact⟨p,by simp,hw,e1.symm⟩
   ·exact hof e e1
  ·rcases Zz.mp hq with hq|hq
   ·obtain⟨e,g1,g2⟩:=h3 q hq hqw
    obtain⟨e',g3,g4⟩:=k3 e g1
    exact⟨e',g3,by rw[g4,g2]⟩
   ·rw[Z0b.mp hq];exact k2
 have hkeep:(J0 p=few.without_→∃ e∈m,e.1=A7c p)→MetI few.without_ (l++[p]) m:=fun hw=>by
  refine⟨by rw[Zm];omega,hof,fun q hq hqw=>?_⟩
  rcases Zz.mp hq with hq|hq
  ·exact h3 q hq hqw
  ·rw[Z0b.mp hq]at hqw ⊢; exact hw hqw
 by_cases hw:J0 p=few.without_
 ·rw[if_pos (beq_iff_eq.mpr hw)]
  cases hk:(kget m (A7c p)).isSome with
  | false=>exact⟨_,Z,hset hw⟩
  | true =>
   simp only[Z16,Zj,if_false,Zd]
   by_cases hc:V5 s p<(kget m (A7c p)).getD 0
   ·rw[if_pos (decide_eq_true hc)];exact⟨_,Z,hset hw⟩
   ·rw[if_neg (by simpa using hc)];exact⟨_,Z,hkeep fun _=>C3h hk⟩
 ·rw[if_neg (by rw[beq_iff_eq];exact hw)]
  exact⟨_,Z,hkeep fun c=>absurd c hw⟩
def B0a (h:Had) (f:Nat):Bool:=decide (h.l[f]! > 0)
theorem D8w (h:Had) {f:Nat} (hf:f<3):C7t h (f:Int)=some (B0a h f):= by
 unfold C7t B0a
 have hi:idx h.l (f:Int)=some h.l[f]!:=I0 (by unfold Ar3.l;simpa using hf)
 by_cases hz:h.x0=0∧h.x1=0∧h.x2=0
 ·rw[if_neg (by simp[hz])]
  have:h.l[f]! = 0:= by
   unfold Ar3.l
   rw[hz.1,hz.2.1,hz.2.2]
   rcases (by omega:f=0∨f=1∨f=2) with rfl|rfl|rfl <;> rfl
  rw[this];rfl
 ·rw[if_pos (by simp;omega),hi];rfl
theorem C7s {f:Nat} (hf:f<3):∀m:Met,C3y (f:Int) m=some (m.map fun e=>B0a e.1 f)
 | []=>rfl
 | e::m=>by
  unfold C3y
  rw[D8w e.1 hf,C7s hf m];rfl
theorem D4m {m:Met} (hm:m.length<4611686018427387904) {f:Nat} (hf:f<3):B89 m (f:Int)=some (((m.map fun e=>B0a e.1 f).filter fun b=>b).length:Int):= by
 unfold B89
 rw[if_pos hm,C7s hf];rfl
theorem C4v {s:PaShow} {p:List PaUse} (h:PlU s p) {f:Nat} (hf:f<p.length) (h3:f<3):B0a (A7c p) f = !(p[f]!.Gown == -1):= by
 have hg:-1≤p[f]!.Gown:= by
  rcases V3.mp (h.use f hf) with e|e
  ·rw[e];exact Z04 _
  ·have:=e.lo;omega
 have e:(A7c p).l[f]! = p[f]!.Gown+1:= by
  unfold A7c Ar3.l gv
  rcases (by omega:f=0∨f=1∨f=2) with rfl|rfl|rfl
  ·show (if 0<p.length then p[0]!.Gown+1 else 0)=_;rw[if_pos hf]
  ·show (if 1<p.length then p[1]!.Gown+1 else 0)=_;rw[if_pos hf]
  ·show (if 2<p.length then p[2]!.Gown+1 else 0)=_;rw[if_pos hf]
 unfold B0a
 rw[e,Z03]
 clear e
 generalize p[f]!.Gown=g at hg ⊢
 simp;omega
def A8i (s:PaShow):Int:=match fm (A6m s) (PA s) with|some b=>J0 b|none=>0
theorem B0k {s:PaShow} (hs:ShOk s):(∀ q,Pay s q→A8i s≤J0 q)∧∃ b,fm (A6m s) (PA s)=some b∧Pay s b∧J0 b=A8i s:= by
 obtain⟨b,e,hb,hmin,_⟩:=C2m hs
 have hf:A8i s=J0 b:= by unfold A8i;rw[e]
 refine⟨fun q hq=>?_,b,e,hb,hf.symm⟩
 have h1:=hmin q hq
 have h2:=A48 hs hb.ok.u
 have h3:=A48 hs hq.ok.u
 unfold A6m at h1
 omega
def A33 (s:PaShow) (f:Nat):Bool:=(PA s).all fun p=>!(J0 p==A8i s)||p[f]!.Gown == -1
def A9n (s:PaShow) (f:Nat):Bool:=(PA s).any fun p=>J0 p==A8i s&&p[f]!.Gown == -1
def fsL (q:Nat→Bool) (n:Nat):List Int:=((Z0c n).filter q).map fun (i:Nat)=>(i:Int)
theorem C6u (q:Nat→Bool) (n:Nat):fsL q (n+1)=if q n then fsL q n++[(n:Int)] else fsL q n:= by
 unfold fsL
 rw[List.range_succ,Z57,ZZ]
 cases h:q n <;> simp[h]
theorem B8m (q:Nat→Bool) (n:Nat):(fsL q n).length≤n:= by
 unfold fsL
 rw[Zi]
 exact Z02 (Z1h _ _) (by simp)
theorem B8n {q:Nat→Bool} {n f:Nat}:(f:Int)∈fsL q n↔f<n∧q f=true:= by
 unfold fsL
 rw[ZI]
 constructor
 ·rintro⟨i,hi,e⟩
  have:i=f:= by omega
  subst this
  simpa using Z09.mp hi
 ·intro h
  exact⟨f,Z09.mpr ⟨by simpa using h.1,h.2⟩,Z⟩
theorem D7b (s:PaShow) (hb:NB s):A6b s=some (if (chk s).2.2=0 then (fsL (A33 s) s.Figures.length,fsL (A9n s) s.Figures.length,0) else ([],[],(chk s).2.2)):= by
 unfold A6b
 rw[A8g s hb]
 simp only[Zd]
 by_cases h:(chk s).2.2=0
 ·have hs:=(W4 s).mp h
  have hF:=hs.figures
  simp only[h,if_true,BEq.rfl]
  rw[D0n (k:=J0) (L:=PA s) (F:=fdP s) (fun σ ρ body st X hX=>C0u hs (D9r hs) body hX) (fun p hp q hq=>by
   have h3:=A92 p
   have h4:=A92 q
   have h5:=((A6o hs).mp hp).1.ok.u.len
   have h6:=((A6o hs).mp hq).1.ok.u.len
   refine⟨J0 p-J0 q,?_,by omega⟩
   unfold A7p fdP
   simp only
   rw[F3 (by omega)])]
  obtain⟨hmin,b,he,hbp,hbw⟩:=B0k hs
  obtain⟨c,hc⟩:=D0y (k:=J0) (C4r he)
  have hcw:J0 c=A8i s:= by
   have h1:=D4r hc (C4r he)
   have h2:=hmin c ((A6o hs).mp (C4r hc)).1
   omega
  rw[hc]
  simp only[Zd,stO]
  obtain⟨m,h1,h2⟩:=C2y (f:=fun p st=>D23 (fdP s c) (fdP s p) st) (ρ:=Unit) (MetI (fdP s c).without_) (PA s) [] [] ⟨Zo _,by simp,by simp⟩ fun pre p st _ hI=>D5p hI
  rw[C0u hs (D9r hs) (D23 (fdP s c)) h1]
  simp only[Zd]
  rw[Z05]at h2
  have hw:(fdP s c).without_=A8i s:=hcw
  rw[hw]at h2
  have hmlen:m.length<4611686018427387904:= by
   have:=D9q hs
   have:=h2.len
   omega
  have hpu:∀p∈PA s,PlU s p:=fun p hp=>((A6o hs).mp hp).1.ok.u
  have hmust:∀f,f<s.Figures.length→((((m.map fun e=>B0a e.1 f).filter fun b=>b).length:Int)==0)=A33 s f:=fun f hf=>by
   rw[Z03,beq_iff_eq]
   unfold A33
   rw[Zs]
   constructor
   ·intro h0 p hp
    by_cases hw:J0 p=A8i s
    ·obtain⟨e,g1,g2⟩:=h2.all p hp hw
     have hnil:((m.map fun e=>B0a e.1 f).filter fun b=>b)=[]:=Z0m.mp (by omega)
     have:=(Z31.mp hnil) _ (Z10 (f:=fun e=>B0a e.1 f) g1)
     rw[g2,C4v (hpu p hp) (by have:=(hpu p hp).len;omega) (by omega)]at this
     have:(p[f]!.Gown == -1)=true:= by simpa using this
     rw[this,Bool.or_true]
    ·have:(J0 p==A8i s)=false:=beq_eq_false_iff_ne.mpr hw
     rw[this];rfl
   ·intro hall
    have:((m.map fun e=>B0a e.1 f).filter fun b=>b)=[]:=Z31.mpr fun x hx=>by
     obtain⟨e,he,rfl⟩:=ZI.mp hx
     obtain⟨p,hp,hw,g2⟩:=h2.of e he
     have:=hall p hp
     rw[beq_iff_eq.mpr hw]at this
     rw[← g2,C4v (hpu p hp) (by have:=(hpu p hp).len;omega) (by omega)]
     simpa using this
    rw[this];rfl
  have hmay:∀f,f<s.Figures.length→decide ((((m.map fun e=>B0a e.1 f).filter fun b=>b).length:Int)<(m.length:Int))=A9n s f:=fun f hf=>by
   have hlt:((((m.map fun e=>B0a e.1 f).filter fun b=>b).length:Int)<(m.length:Int))↔∃ e∈m,B0a e.1 f=false:= by
    have hle:=Z1h (fun b=>b) (m.map fun e=>B0a e.1 f)
    have hiff:=List.length_filter_eq_length_iff (p:=fun b=>b) (l:=m.map fun e=>B0a e.1 f)
    rw[Zi]at hle hiff
    constructor
    ·intro hlt
     refine Z42 fun hn=>?_
     have:=hiff.mpr fun x hx=>by
      obtain⟨e,he,rfl⟩:=ZI.mp hx
      cases hh:B0a e.1 f
      ·exact absurd ⟨e,he,hh⟩ hn
      ·rfl
     omega
    ·rintro⟨e,he,hh⟩
     have:((m.map fun e=>B0a e.1 f).filter fun b=>b).length≠m.length:=fun heq=>by
      have:=hiff.mp heq _ (Z10 (f:=fun e=>B0a e.1 f) he)
      rw[hh]at this;cases this
     omega
   rw[Z03,decide_eq_true_eq,hlt]
   unfold A9n
   rw[Z1o]
   constructor
   ·rintro⟨e,he,hh⟩
    obtain⟨p,hp,hw,g2⟩:=h2.of e he
    refine⟨p,hp,?_⟩
    rw[← g2,C4v (hpu p hp) (by have:=(hpu p hp).len;omega) (by omega)]at hh
    rw[beq_iff_eq.mpr hw]
    simpa using hh
   ·rintro⟨p,hp,hq⟩
    rw[Zc,beq_iff_eq]at hq
    obtain⟨e,g1,g2⟩:=h2.all p hp hq.1
    refine⟨e,g1,?_⟩
    rw[g2,C4v (hpu p hp) (by have:=(hpu p hp).len;omega) (by omega),hq.2];rfl
  rw[show (([]:List Int),([]:List Int),(0:Int))=(fsL (A33 s) 0,fsL (A9n s) 0,((0:Nat):Int)) from Z]
  rw[A1a (b:=B85 s.Figures m) (fun i=>(fsL (A33 s) i,fsL (A9n s) i,(i:Int))) s.Figures.length (r:=(fsL (A33 s) s.Figures.length,fsL (A9n s) s.Figures.length)) (by omega) (fun i hi=>by
   have l1:=B8m (A33 s) i
   have l2:=B8m (A9n s) i
   unfold B85
   simp only[]
   rw[if_pos (by simpa using hi),D4m hmlen (by omega)]
   simp only[Zd]
   rw[hmust i hi,hmay i hi,A6e (by omega) (by simp;omega),A6e (by omega) (by simp;omega),C6u,C6u,F3 (by omega)]
   cases A33 s i <;> cases A9n s i <;> rfl) (by
   unfold B85
   simp only[]
   rw[if_neg (by simp)])]
  rfl
 ·rw[if_neg h,if_neg (by simpa using h),if_neg h]
theorem D1m {f:PaUse→PaUse} {p:List PaUse} {i:Nat} (hi:i<p.length):(p.map f)[i]! = f p[i]!:= by
 rw[getElem!_pos (p.map f) i (by simpa using hi),Z37,getElem!_pos p i hi]
theorem C7b {s:PaShow} (hs:ShOk s) {f:Nat} (hf:f<s.Figures.length):A33 s f=true↔∀ p,Pay s p→J0 p=A8i s→p[f]!.Gown = -1:= by
 unfold A33
 rw[Zs]
 constructor
 ·intro h p hp hw
  obtain⟨h1,h2,_,_⟩:=C0c hs hp
  have:=h _ h1
  have hl:=hp.ok.u.len
  rw[beq_iff_eq.mpr (h2.trans hw),D1m (by omega),B8s]at this
  simpa using this
 ·intro h p hp
  by_cases hw:J0 p=A8i s
  ·rw[h p ((A6o hs).mp hp).1 hw];simp
  ·rw[beq_eq_false_iff_ne.mpr hw];rfl
theorem C47 {s:PaShow} (hs:ShOk s) {f:Nat} (hf:f<s.Figures.length):A9n s f=true↔∃ p,Pay s p∧J0 p=A8i s∧p[f]!.Gown = -1:= by
 unfold A9n
 rw[Z1o]
 constructor
 ·rintro⟨p,hp,h⟩
  rw[Zc,beq_iff_eq,beq_iff_eq]at h
  exact⟨p,((A6o hs).mp hp).1,h⟩
 ·rintro⟨p,hp,hw,hg⟩
  obtain⟨h1,h2,_,_⟩:=C0c hs hp
  have hl:=hp.ok.u.len
  refine⟨_,h1,?_⟩
  rw[beq_iff_eq.mpr (h2.trans hw),D1m (by omega),B8s,hg];rfl
def NT (a b:PaUse):Prop:=a.Gown = -1∨b.Gown = -1∨a.Gown≠b.Gown
theorem NT.symm {a b:PaUse} (h:NT a b):NT b a:= by
 rcases h with h|h|h
 ·exact .inr (.inl h)
 ·exact .inl h
 ·exact .inr (.inr (Ne.symm h))
theorem D62 (p:List PaUse):(∀ i,i<p.length→twP p i=false)↔p.Pairwise NT:= by
 rw[Z0f]
 constructor
 ·intro h i j hi hj hij
  have:=h j hj
  unfold twP at this
  rw[getElem!_pos p j hj]at this
  unfold NT
  by_cases c:p[j].Gown = -1
  ·exact .inr (.inl c)
  ·right;right
   rw[show (p[j].Gown != -1)=true from bne_iff_ne.mpr c,Z1e,Z40]at this
   have:=this p[i] (by rw[Z0g];exact⟨i,by omega,Z⟩)
   simpa using this
 ·intro h j hj
  unfold twP
  rw[getElem!_pos p j hj]
  by_cases c:p[j].Gown = -1
  ·rw[show (p[j].Gown != -1)=false by rw[c];rfl];rfl
  ·rw[show (p[j].Gown != -1)=true from bne_iff_ne.mpr c,Z1e,Z40]
   intro x hx
   rw[Z0g]at hx
   obtain⟨i,hi,rfl⟩:=hx
   have:=h i j (by omega) hj (by omega)
   unfold NT at this
   rw[beq_iff_eq]
   omega
theorem D1z {s:PaShow} {p:List PaUse}:PlU s p↔p.length=s.Figures.length∧∀ z∈s.Figures.zip p,V2 s.Gowns z.1 z.2=0:= by
 constructor
 ·intro h
  refine⟨h.len,fun z hz=>?_⟩
  obtain⟨i,hi,e⟩:=ZW.mp hz
  rw[Z4a]at e
  rw[Z4j]at hi
  subst e
  have:=h.use i (by omega)
  rwa [getElem!_pos s.Figures i (by omega),getElem!_pos p i (by omega)]at this
 ·rintro⟨h1,h2⟩
  refine⟨h1,fun i hi=>?_⟩
  rw[getElem!_pos s.Figures i (by omega),getElem!_pos p i hi]
  exact h2 _ (ZW.mpr ⟨i,by rw[Z4j];omega,by rw[Z4a]⟩)
theorem B4v {s:PaShow} {p:List PaUse}:PlOk s p↔p.length=s.Figures.length∧(∀ z∈s.Figures.zip p,V2 s.Gowns z.1 z.2=0)∧p.Pairwise NT:= by
 constructor
 ·intro h
  obtain⟨h1,h2⟩:=D1z.mp h.u
  exact⟨h1,h2,(D62 p).mp h.tw⟩
 ·rintro⟨h1,h2,h3⟩
  exact⟨D1z.mpr ⟨h1,h2⟩,(D62 p).mpr h3⟩
end Pw
end
section
set_option maxRecDepth 100000
set_option maxHeartbeats 0
namespace Pw
open Go Am Go.Proofs.YtjpjdglddmhplaaGreat.Cd
def A3u (a0:(List Int)) (a1:Int) (s1:Int):Option (Int⊕(Bool⊕Unit)) :=
 if (decide (s1<(Zh a0:Int)))=true then
  (idx a0 s1).bind fun x4 =>
  if (x4==a1)=true then
  some (.inr (.inl true))
  else
  some (.inl (w64 (s1+1)))
 else
  some (.inr (.inr ()))
def A3b (a0:(List Int)) (a1:Int):Option Bool :=
 (loop (A3u a0 a1) 0).bind fun (o6:(Bool⊕Unit)) =>
 match o6 with
 | (.inl vo6_0) =>
  some vo6_0
 | (.inr vo6_1) =>
  some false
theorem A5z {c:Sc} {H:A1} {a0:(List Int)} {a1:Int} {r:Bool} (h:A3b a0 a1=some r) :
  F0 tab c H (.fn (.func 40) [] []) [(.seq 1 (Zg cI a0)),.i a1] [.b r]:= by
 unfold A3b at h
 refine cE Z Z<|s0<|qm Z<|es (ra2 Z Z)<|C1<|s0<|qm Z<|es (ra3 Z Z Z)<|C8<|oB h fun o6 ho6 h=>wl (fun s1=>[(0,(.seq 1 (Zg cI a0))),(1,.i a1),(5,.i s1)]) (fun (q2:Unit) s1=>[]) 0 (fun r e s' H'=>(match r with|(.inl v)=>e=.ret∧RetQ H [.tmp 4] [.b v] e s' H' | (.inr v)=>PX 0 [] (H++[]) e s' H':Prop)) () ho6 Z Z (fun _ _=>rfl) (fun _=>rfl) Z (fun s1=>(bdc I7 (bdc A4 (bdc A4 bdn)))) (fun q2 s1 ys1 hs1=>?_) ?_
 ·unfold A3u at hs1
  refine C1<|s0<|qm Z<|qm Z<|A0 (F4 (f:=cI) Z) Z<|A0 (I4 Z Z) Z<|es (ra4 Z Z Z Z)<|wi hs1 Z (fun hc3 hs1=>?_) fun hc3 hs1=>?_
  ·refine C0<|C1<|C8<|s0<|oB hs1 fun x4 hx4 hs1=>qm Z<|qm Z<|A0 (D6 (f:=cI) Z Z hx4) Z<|A0 (G7 Z Z) Z<|qm Z<|A0 (G2 Z Z) Z<|es (ra4 Z Z Z Z)<|wi hs1 Z (fun hc5 hs1=>?_) fun hc5 hs1=>?_
   ·refine s0<|qm Z<|es (ra1 Z)<|C6 ?_
    obtain rfl:=os hs1
    exact lx Z (ZE Z (retq trivial (A7 Z B7) (A5 Z B6) (A3 A4 A8))) (Sub.refl _)
   ·refine C0<|r0<|qm Z<|A0 (F7 Z Z) Z<|qm Z<|en (ra3 Z Z Z) ?_
    cases hs1
    exact lnT () Z (su3 Z Z Z)
  ·refine I1 ?_
   obtain rfl:=os hs1
   exact lx Z px (.nil _)
 ·rcases o6 with vo6_0|vo6_1
  ·rintro e s' H'-⟨rfl,hret⟩
   cases h
   exact hret
  ·rintro e s' H'-⟨rfl,rfl,rfl⟩
   refine s0<|qm Z<|es (ra1 Z)<|C6 ?_
   obtain rfl:=os h
   exact retq trivial (A7 Z B7) (A5 Z B6) (A3 A4 A8)
def W6 (x1:((List Int)×(List Int)×Int)) (x8:((List PaUse)×Int×Int×Int)) (s12:Int):Option (Int⊕(Bool⊕Unit)) :=
 if (decide (s12<(Zh x1.1:Int)))=true then
  (idx x1.1 s12).bind fun x15 =>
  (if (decide (x15<0))=true then
  some true
  else
  (idx x1.1 s12).bind fun x17 =>
  some (decide (x17≥(Zh x8.1:Int)))).bind fun x18 =>
  (if x18=true then
  some true
  else
  (idx x1.1 s12).bind fun x20 =>
  (A3b x1.2.1 x20).bind fun x21 =>
  some (!x21)).bind fun x22 =>
  (if x22=true then
  some true
  else
  (idx x1.1 s12).bind fun x24 =>
  (idx x8.1 x24).bind fun x25 =>
  some (x25.Gown != (-1))).bind fun x26 =>
  if x26=true then
  some (.inr (.inl false))
  else
  some (.inl (w64 (s12+1)))
 else
  some (.inr (.inr ()))
def S0 (x1:((List Int)×(List Int)×Int)) (x29:(List PaUse)) (s36:Int):Option (Int⊕(Bool⊕Unit)) :=
 if (decide (s36<(Zh x29:Int)))=true then
  (idx x29 s36).bind fun x39 =>
  (if (x39.Gown==(-1))=true then
  (A3b x1.2.1 s36).bind fun x41 =>
  some (!x41)
  else
  some false).bind fun x42 =>
  (if x42=true then
  some true
  else
  (idx x29 s36).bind fun x44 =>
  (if (x44.Gown != (-1))=true then
   (A3b x1.1 s36).bind fun x46 =>
   some x46
  else
   some false).bind fun x47 =>
  some x47).bind fun x48 =>
  if x48=true then
  some (.inr (.inl false))
  else
  some (.inl (w64 (s36+1)))
 else
  some (.inr (.inr ()))
def A3o (a0:PaShow) (a1:(List Int)) (a2:Int):Option Bool :=
 (A6b a0).bind fun x1 =>
 (A09 a0).bind fun x2 =>
 if (!x2)=true then
  (if ((x1.2.2 != 0)&&((w64 ((Zh x1.1:Int)+(Zh x1.2.1:Int)))==0))=true then
  (O9).bind fun x6 =>
  some x6
  else
  some false).bind fun x7 =>
  some x7
 else
  (A1r a0).bind fun x8 =>
  if (((x1.2.2 != 0)||(x8.2.2.2 != 0))||((Zh x8.1:Int) != (Zh a0.Figures:Int)))=true then
  some false
  else
  (loop (W6 x1 x8) 0).bind fun (o28:(Bool⊕Unit)) =>
  match o28 with
  | (.inl vo28_0) =>
   some vo28_0
  | (.inr vo28_1) =>
   (A4c a0 a1).bind fun x29 =>
   (A4r a0 x29).bind fun x30 =>
   (if x30=true then
   (Y1 x29).bind fun x32 =>
   some (x32==x8.2.1)
   else
   some false).bind fun x33 =>
   (if x33=true then
    (loop (S0 x1 x29) 0).bind fun (o50:(Bool⊕Unit)) =>
    match o50 with
    | (.inl vo50_0) =>
    some (.inl vo50_0)
    | (.inr vo50_1) =>
    some (.inr ())
   else
    some (.inr ())).bind fun (p34:(Bool⊕Unit)) =>
   match p34 with
   | (.inl vp34_0) =>
   some vp34_0
   | (.inr vp34_1) =>
   if ((Zh x8.1:Int)==0)=true then
    (if ((Zh x1.2.1:Int)==0)=true then
    (O9).bind fun x53 =>
    some x53
    else
    some false).bind fun x54 =>
    some x54
   else
    (B0b (w64 a2) (Zh x8.1:Int)).bind fun x55 =>
    (slc a0.Figures 0 x55).bind fun x56 =>
    (app 40 ([]:List PaFigure) x56).bind fun x57 =>
    (slc a0.Figures (w64 (x55+1)) (Zh a0.Figures:Int)).bind fun x58 =>
    (app 40 x57 x58).bind fun x59 =>
    (A1r (PaShow.mk a0.Gowns x59 a0.Purse a0.Incomes)).bind fun x60 =>
    (if (x60.2.2.2==0)=true then
    (A3b x1.2.1 x55).bind fun x62 =>
    some (x62==((w64 (x60.2.1+1))==x8.2.1))
    else
    some false).bind fun x63 =>
    (if (x63&&(decide (x60.2.1≤x8.2.1)))=true then
    (O9).bind fun x66 =>
    some x66
    else
    some false).bind fun x67 =>
    some x67
theorem B4n {c:Sc} {H:A1} (hscv:T0 c H=true) {a0:PaShow} {a1:(List Int)} {a2:Int} {r:Bool} (h:A3o a0 a1 a2=some r) :
  F0 tab c H (.fn (.func 7) [] []) [(.agg (B1 a0)),(.seq 1 (Zg A31 a1)),(.lit (.int .u8 a2))] [.b r]:= by
 unfold A3o at h
 refine cE Z Z<|sg 0 Z<|A0 (F8 (cs:=B1 a0) Z Z Z) Z<|qm Z<|es (ra3 Z Z Z)<|s0<|oB h fun x1 hx1 h=>A0 (D1 Z Z Z) Z<|B4 (rs:=[(.seq 1 (Zg cI x1.1)),(.seq 1 (Zg cI x1.2.1)),.i x1.2.2]) Z Z (A2 (C9 Z) B5) ((B4o (A63 hscv) hx1).frz)<|qm Z<|A0 (A9 Z Z) Z<|A0 (A9 Z Z) Z<|A0 (A9 Z Z) Z<|qm Z<|qm Z<|qm Z<|es (ra6 Z Z Z Z Z Z)<|C1<|s0<|oB h fun x2 hx2 h=>A0 (D1 Z Z Z) Z<|B4 (rs:=[.b x2]) Z Z (A2 (C9 Z) B5) ((A6s hx2).frz)<|A0 (P7 Z) Z<|es (ra7 Z Z Z Z Z Z Z)<|wi h Z (fun hc3 h=>?_) fun hc3 h=>?_
 ·refine s0<|oB h fun x7 hx7 h=>qm Z<|A0 (I6 Z Z) Z<|qm Z<|gp 7 41 (.b ((x1.2.2 != 0)&&((w64 ((Zh x1.1:Int)+(Zh x1.2.1:Int)))==0))) 34 Z Z (fun hg4=>?_) (fun hg4=>?_) ?_
  ·exact gT Z hg4<|qm Z<|gT Z hg4<|A0 (F4 (f:=cI) Z) Z<|gT Z hg4<|qm Z<|gT Z hg4<|A0 (F4 (f:=cI) Z) Z<|gT Z hg4<|A0 (F7 Z Z) Z<|gT Z hg4<|A0 (G2 Z Z) Z<|A0 (C4 Z hg4 Z) Z<|ge 7 (by rw[hg4];rfl) Z Z
  ·exact nT Z hg4 Z<|nT Z hg4 Z<|nT Z hg4 Z<|nT Z hg4 Z<|nT Z hg4 Z<|nT Z hg4 Z<|A0 (C3 Z hg4 Z) Z<|ge 7 (by rw[hg4];rfl) Z Z
  refine qm Z<|gp 2 44 (.b x7) 42 Z Z (fun hg5=>?_) (fun hg5=>?_) ?_
  ·refine oB (bt hx7 hg5) fun x6 hx6 hx7=>?_
   obtain rfl:=os hx7
   exact gT Z hg5<|B4 (rs:=[.b x6]) Z Z B5 ((O2 (A63 hscv) hx6).frz)<|A0 (C4 Z hg5 Z) Z<|ge 2 Z Z Z
  ·obtain rfl:=os (bf hx7 hg5)
   exact G5 (D3 Z (by rw[hg5];rfl)) Z<|A0 (C3 Z hg5 Z) Z<|ge 2 Z Z Z
  refine qm Z<|es (ra1 Z)<|C6 ?_
  obtain rfl:=os h
  exact retq trivial (A7 Z B7) (A5 Z B6) (A3 A4 A8)
 ·refine C0<|s0<|oB h fun x8 hx8 h=>A0 (D1 Z Z Z) Z<|B4 (rs:=[(.seq 3 (Zg A6 x8.1)),.i x8.2.1,.i x8.2.2.1,.i x8.2.2.2]) Z Z (A2 (C9 Z) B5) ((A3r (A63 hscv) hx8).frz)<|qm Z<|A0 (A9 Z Z) Z<|A0 (A9 Z Z) Z<|A0 (A9 Z Z) Z<|A0 (A9 Z Z) Z<|qm Z<|qm Z<|qm Z<|qm Z<|es (ra9 Z Z Z Z Z Z Z Z Z)<|C1<|s0<|qm Z<|A0 (I6 Z Z) Z<|qm Z<|gp 3 57 (.b ((x1.2.2 != 0)||(x8.2.2.2 != 0))) 54 Z Z (fun hg9=>?_) (fun hg9=>?_) ?_
  ·exact nF Z hg9 Z<|nF Z hg9 Z<|A0 (C4 Z hg9 Z) Z<|ge 3 (by rw[hg9];rfl) Z Z
  ·exact gF Z hg9<|qm Z<|gF Z hg9<|A0 (I6 Z Z) Z<|A0 (C3 Z hg9 Z) Z<|ge 3 (by rw[hg9];rfl) Z Z
  refine qm Z<|gp 7 65 (.b (((x1.2.2 != 0)||(x8.2.2.2 != 0))||((Zh x8.1:Int) != (Zh a0.Figures:Int)))) 58 Z Z (fun hg10=>?_) (fun hg10=>?_) ?_
  ·exact nF Z hg10 Z<|nF Z hg10 Z<|nF Z hg10 Z<|nF Z hg10 Z<|nF Z hg10 Z<|nF Z hg10 Z<|A0 (C4 Z hg10 Z) Z<|ge 7 (by rw[hg10];rfl) Z Z
  ·exact gF Z hg10<|qm Z<|gF Z hg10<|A0 (F4 (f:=A6) Z) Z<|gF Z hg10<|A0 (B9 Z) Z<|gF Z hg10<|A0 (B2 Z Z Z) Z<|gF Z hg10<|A0 (F4 (f:=B3) Z) Z<|gF Z hg10<|A0 (I6 Z Z) Z<|A0 (C3 Z hg10 Z) Z<|ge 7 (by rw[hg10];rfl) Z Z
  refine es (ra8 Z Z Z Z Z Z Z Z)<|wi h Z (fun hc11 h=>?_) fun hc11 h=>?_
  ·refine s0<|qm Z<|es (ra1 Z)<|C6 ?_
   obtain rfl:=os h
   exact retq trivial (A7 Z B7) (A5 Z B6) (A3 A4 A8)
  ·refine C0<|C1<|s0<|qm Z<|es (ra8 Z Z Z Z Z Z Z Z)<|C8<|oB h fun o28 ho28 h=>wl (fun s12=>[(1,(.seq 1 (Zg A31 a1))),(2,(.lit (.int .u8 a2))),(3,(.ptr (H.length+0) 0)),(7,(.seq 1 (Zg cI x1.1))),(8,(.seq 1 (Zg cI x1.2.1))),(10,(.seq 3 (Zg A6 x8.1))),(11,.i x8.2.1),(14,.i s12)]) (fun (q13:Unit) s12=>[(.cells (B1 a0))]) 1 (fun r e s' H'=>(match r with|(.inl v)=>e=.ret∧RetQ H [.tmp 6] [.b v] e s' H' | (.inr v)=>PX 0 [(1,(.seq 1 (Zg A31 a1))),(2,(.lit (.int .u8 a2))),(3,(.ptr (H.length+0) 0)),(7,(.seq 1 (Zg cI x1.1))),(8,(.seq 1 (Zg cI x1.2.1))),(10,(.seq 3 (Zg A6 x8.1))),(11,.i x8.2.1)] (H++[(.cells (B1 a0))]) e s' H':Prop)) () ho28 Z Z (fun _ _=>rfl) (fun _=>rfl) Z (fun s12=>(bdc I7 (bdc A4 (bdc (L8 Z) (bdc I7 (bdc I7 (bdc I7 (bdc A4 (bdc A4 bdn))))))))) (fun q13 s12 ys12 hs12=>?_) ?_
   ·unfold W6 at hs12
    refine C1<|s0<|qm Z<|qm Z<|A0 (F4 (f:=cI) Z) Z<|A0 (I4 Z Z) Z<|es (ra9 Z Z Z Z Z Z Z Z Z)<|wi hs12 Z (fun hc14 hs12=>?_) fun hc14 hs12=>?_
    ·refine C0<|C1<|C8<|s0<|oB hs12 fun x15 hx15 hs12=>oB hs12 fun x18 hx18 hs12=>oB hs12 fun x22 hx22 hs12=>oB hs12 fun x26 hx26 hs12=>qm Z<|qm Z<|A0 (D6 (f:=cI) Z Z hx15) Z<|A0 (G7 Z Z) Z<|A0 (I4 Z Z) Z<|qm Z<|gp 8 85 (.b x18) 77 Z Z (fun hg16=>?_) (fun hg16=>?_) ?_
     ·obtain rfl:=os (bt hx18 hg16)
      exact nF Z hg16 Z<|nF Z hg16 Z<|nF Z hg16 Z<|nF Z hg16 Z<|nF Z hg16 Z<|nF Z hg16 Z<|nF Z hg16 Z<|A0 (C4 Z hg16 Z) Z<|ge 8 Z Z Z
     ·refine oB (bf hx18 hg16) fun x17 hx17 hx18=>?_
      obtain rfl:=os hx18
      exact gF Z hg16<|qm Z<|gF Z hg16<|qm Z<|gF Z hg16<|A0 (D6 (f:=cI) Z Z hx17) Z<|gF Z hg16<|A0 (G7 Z Z) Z<|gF Z hg16<|qm Z<|gF Z hg16<|A0 (F4 (f:=A6) Z) Z<|gF Z hg16<|A0 (A7d Z Z) Z<|A0 (C3 Z hg16 Z) Z<|ge 8 Z Z Z
     refine qm Z<|gp 8 94 (.b x22) 86 Z Z (fun hg19=>?_) (fun hg19=>?_) ?_
     ·obtain rfl:=os (bt hx22 hg19)
      exact nF Z hg19 Z<|nF Z hg19 Z<|nF Z hg19 Z<|nF Z hg19 Z<|nF Z hg19 Z<|G5 (D3 Z (by rw[hg19];rfl)) Z<|nF Z hg19 Z<|A0 (C4 Z hg19 Z) Z<|ge 8 Z Z Z
     ·refine oB (bf hx22 hg19) fun x20 hx20 hx22=>oB hx22 fun x21 hx21 hx22=>?_
      obtain rfl:=os hx22
      exact gF Z hg19<|qm Z<|gF Z hg19<|qm Z<|gF Z hg19<|qm Z<|gF Z hg19<|A0 (D6 (f:=cI) Z Z hx20) Z<|gF Z hg19<|A0 (G7 Z Z) Z<|gF Z hg19<|B4 (rs:=[.b x21]) Z Z (A2 Z (A2 Z B5)) ((A5z hx21).frz)<|gF Z hg19<|A0 (P7 Z) Z<|A0 (C3 Z hg19 Z) Z<|ge 8 Z Z Z
     refine qm Z<|gp 10 105 (.b x26) 95 Z Z (fun hg23=>?_) (fun hg23=>?_) ?_
     ·obtain rfl:=os (bt hx26 hg23)
      exact nF Z hg23 Z<|nF Z hg23 Z<|nF Z hg23 Z<|nF Z hg23 Z<|nF Z hg23 Z<|nF Z hg23 Z<|nF Z hg23 Z<|nF Z hg23 Z<|nF Z hg23 Z<|A0 (C4 Z hg23 Z) Z<|ge 10 Z Z Z
     ·refine oB (bf hx26 hg23) fun x24 hx24 hx26=>oB hx26 fun x25 hx25 hx26=>?_
      obtain rfl:=os hx26
      exact gF Z hg23<|qm Z<|gF Z hg23<|qm Z<|gF Z hg23<|qm Z<|gF Z hg23<|A0 (D6 (f:=cI) Z Z hx24) Z<|gF Z hg23<|A0 (G7 Z Z) Z<|gF Z hg23<|A0 (D6 (f:=A6) Z Z hx25) Z<|gF Z hg23<|A0 (R3 (ds:=(A6 x25)) Z Z) Z<|gF Z hg23<|A0 (G7 Z Z) Z<|gF Z hg23<|A0 (I6 Z Z) Z<|A0 (C3 Z hg23 Z) Z<|ge 10 Z Z Z
     refine es (ra9 Z Z Z Z Z Z Z Z Z)<|wi hs12 Z (fun hc27 hs12=>?_) fun hc27 hs12=>?_
     ·refine s0<|qm Z<|es (ra1 Z)<|C6 ?_
      obtain rfl:=os hs12
      exact lx Z (ZE Z (retq trivial (A7 Z B7) (A5 Z B6) (A3 A4 A8))) (Sub.refl _)
     ·refine C0<|r0<|qm Z<|A0 (F7 Z Z) Z<|qm Z<|en (ra8 Z Z Z Z Z Z Z Z) ?_
      cases hs12
      exact lnT () Z (su8 Z Z Z Z Z Z Z Z)
    ·refine I1 ?_
     obtain rfl:=os hs12
     exact lx Z px (su7 Z Z Z Z Z Z Z)
   ·rcases o28 with vo28_0|vo28_1
    ·rintro e s' H'-⟨rfl,hret⟩
     cases h
     exact hret
    ·rintro e s' H'-⟨rfl,rfl,rfl⟩
     refine s0<|oB h fun x29 hx29 h=>A0 (D1 Z Z Z) Z<|qm Z<|B4 (rs:=[(.seq 3 (Zg A6 x29))]) Z Z (A2 (C9 Z) (A2 Z B5)) ((A9p hx29).frz)<|qm Z<|es (ra7 Z Z Z Z Z Z Z)<|C1<|s0<|oB h fun x30 hx30 h=>oB h fun x33 hx33 h=>A0 (D1 Z Z Z) Z<|qm Z<|B4 (rs:=[.b x30]) Z Z (A2 (C9 Z) (A2 Z B5)) ((B4r hx30).frz)<|qm Z<|gp 5 117 (.b x33) 112 Z Z (fun hg31=>?_) (fun hg31=>?_) ?_
     ·refine oB (bt hx33 hg31) fun x32 hx32 hx33=>?_
      obtain rfl:=os hx33
      exact gT Z hg31<|qm Z<|gT Z hg31<|B4 (rs:=[.i x32]) Z Z (A2 Z B5) ((A4j hx32).frz)<|gT Z hg31<|qm Z<|gT Z hg31<|A0 (G2 Z Z) Z<|A0 (C4 Z hg31 Z) Z<|ge 5 Z Z Z
     ·obtain rfl:=os (bf hx33 hg31)
      exact nT Z hg31 Z<|G5 (D3 Z (by rw[hg31];rfl)) Z<|nT Z hg31 Z<|nT Z hg31 Z<|A0 (C3 Z hg31 Z) Z<|ge 5 Z Z Z
     refine es (ra8 Z Z Z Z Z Z Z Z)<|oB h fun p34 hp34 h=>A7a (Q1:=fun e s' H'=>(match p34 with|(.inl v)=>e=.ret∧RetQ H [.tmp 6] [.b v] e s' H' | (.inr v)=>e=.normal∧s'=[(2,(.lit (.int .u8 a2))),(3,(.ptr (H.length+0) 0)),(8,(.seq 1 (Zg cI x1.2.1))),(10,(.seq 3 (Zg A6 x8.1))),(11,.i x8.2.1)]∧H'=(H++[(.cells (B1 a0))]):Prop)) ?_ ?_
     ·refine wi hp34 Z (fun hc35 hp34=>?_) fun hc35 hp34=>?_
      ·refine s0<|qm Z<|es (ra8 Z Z Z Z Z Z Z Z)<|C8<|oB hp34 fun o50 ho50 hp34=>wl (fun s36=>[(2,(.lit (.int .u8 a2))),(3,(.ptr (H.length+0) 0)),(7,(.seq 1 (Zg cI x1.1))),(8,(.seq 1 (Zg cI x1.2.1))),(10,(.seq 3 (Zg A6 x8.1))),(11,.i x8.2.1),(15,(.seq 3 (Zg A6 x29))),(16,.i s36)]) (fun (q37:Unit) s36=>[(.cells (B1 a0))]) 1 (fun r e s' H'=>(match r with|(.inl v)=>e=.ret∧RetQ H [.tmp 6] [.b v] e s' H' | (.inr v)=>PX 2 [(2,(.lit (.int .u8 a2))),(3,(.ptr (H.length+0) 0)),(8,(.seq 1 (Zg cI x1.2.1))),(10,(.seq 3 (Zg A6 x8.1))),(11,.i x8.2.1)] (H++[(.cells (B1 a0))]) e s' H':Prop)) () ho50 Z Z (fun _ _=>rfl) (fun _=>rfl) Z (fun s36=>(bdc A4 (bdc (L8 Z) (bdc I7 (bdc I7 (bdc I7 (bdc A4 (bdc I7 (bdc A4 bdn))))))))) (fun q37 s36 ys36 hs36=>?_) ?_
       ·unfold S0 at hs36
        refine C1<|s0<|qm Z<|qm Z<|A0 (F4 (f:=A6) Z) Z<|A0 (I4 Z Z) Z<|es (ra9 Z Z Z Z Z Z Z Z Z)<|wi hs36 Z (fun hc38 hs36=>?_) fun hc38 hs36=>?_
        ·refine C0<|C1<|C8<|s0<|oB hs36 fun x39 hx39 hs36=>oB hs36 fun x42 hx42 hs36=>oB hs36 fun x48 hx48 hs36=>qm Z<|qm Z<|A0 (D6 (f:=A6) Z Z hx39) Z<|A0 (R3 (ds:=(A6 x39)) Z Z) Z<|A0 (G7 Z Z) Z<|A0 (G2 Z Z) Z<|qm Z<|gp 5 135 (.b x42) 130 Z Z (fun hg40=>?_) (fun hg40=>?_) ?_
         ·refine oB (bt hx42 hg40) fun x41 hx41 hx42=>?_
          obtain rfl:=os hx42
          exact gT Z hg40<|qm Z<|gT Z hg40<|qm Z<|gT Z hg40<|B4 (rs:=[.b x41]) Z Z (A2 Z (A2 Z B5)) ((A5z hx41).frz)<|gT Z hg40<|A0 (P7 Z) Z<|A0 (C4 Z hg40 Z) Z<|ge 5 Z Z Z
         ·obtain rfl:=os (bf hx42 hg40)
          exact nT Z hg40 Z<|nT Z hg40 Z<|G5 (D3 Z (by rw[hg40];rfl)) Z<|nT Z hg40 Z<|A0 (C3 Z hg40 Z) Z<|ge 5 Z Z Z
         refine qm Z<|gp 12 148 (.b x48) 136 Z Z (fun hg43=>?_) (fun hg43=>?_) ?_
         ·obtain rfl:=os (bt hx48 hg43)
          exact nF Z hg43 Z<|nF Z hg43 Z<|nF Z hg43 Z<|nF Z hg43 Z<|nF Z hg43 Z<|nF Z hg43 Z<|nF Z hg43 Z<|nX Z Z<|nX Z Z<|G5 (A4x Z) Z<|nF Z hg43 Z<|A0 (C4 Z hg43 Z) Z<|ge 12 Z Z Z
         ·refine oB (bf hx48 hg43) fun x44 hx44 hx48=>oB hx48 fun x47 hx47 hx48=>?_
          obtain rfl:=os hx48
          refine gF Z hg43<|qm Z<|gF Z hg43<|qm Z<|gF Z hg43<|A0 (D6 (f:=A6) Z Z hx44) Z<|gF Z hg43<|A0 (R3 (ds:=(A6 x44)) Z Z) Z<|gF Z hg43<|A0 (G7 Z Z) Z<|gF Z hg43<|A0 (I6 Z Z) Z<|gF Z hg43<|qm Z<|gq 4 147 (.b x47) 143 Z Z (fun hg45=>?_) (fun hg45=>?_) ?_
          ·refine oB (bt hx47 hg45) fun x46 hx46 hx47=>?_
           obtain rfl:=os hx47
           exact gT Z hg45<|qm Z<|gT Z hg45<|qm Z<|gT Z hg45<|B4 (rs:=[.b x46]) Z Z (A2 Z (A2 Z B5)) ((A5z hx46).frz)<|gF Z hg43<|A0 (C4 Z hg45 Z) Z<|ge 4 Z Z Z
          ·obtain rfl:=os (bf hx47 hg45)
           exact nT Z hg45 Z<|nT Z hg45 Z<|G5 (D3 Z (by rw[hg45];rfl)) Z<|gF Z hg43<|A0 (C3 Z hg45 Z) Z<|ge 4 Z Z Z
          exact A0 (C3 Z hg43 Z) Z<|ge 9 Z Z Z
         refine es (ra9 Z Z Z Z Z Z Z Z Z)<|wi hs36 Z (fun hc49 hs36=>?_) fun hc49 hs36=>?_
         ·refine s0<|qm Z<|es (ra1 Z)<|C6 ?_
          obtain rfl:=os hs36
          exact lx Z (ZE Z (retq trivial (A7 Z B7) (A5 Z B6) (A3 A4 A8))) (Sub.refl _)
         ·refine C0<|r0<|qm Z<|A0 (F7 Z Z) Z<|qm Z<|en (ra8 Z Z Z Z Z Z Z Z) ?_
          cases hs36
          exact lnT () Z (su8 Z Z Z Z Z Z Z Z)
        ·refine I1 ?_
         obtain rfl:=os hs36
         exact lx Z px (su5 Z Z Z Z Z)
       ·rcases o50 with vo50_0|vo50_1
        ·rintro e s' H'-⟨rfl,hret⟩
         cases hp34
         exact me (ZE Z hret) (Sub.refl _)
        ·rintro e s' H'-⟨rfl,rfl,rfl⟩
         obtain rfl:=os hp34
         exact me (ZE Z (ZE Z Z)) (su5 Z Z Z Z Z)
      ·refine C0 ?_
       obtain rfl:=os hp34
       exact me (ZE Z (ZE Z Z)) (su5 Z Z Z Z Z)
     ·rcases p34 with vp34_0|vp34_1
      ·rintro e s' H' ⟨rfl,hret⟩
       cases h
       exact hret
      ·rintro e s' H' ⟨rfl,rfl,rfl⟩
       refine C1<|s0<|qm Z<|A0 (F4 (f:=A6) Z) Z<|A0 (G2 Z Z) Z<|es (ra6 Z Z Z Z Z Z)<|wi h Z (fun hc51 h=>?_) fun hc51 h=>?_
       ·refine s0<|oB h fun x54 hx54 h=>qm Z<|A0 (F4 (f:=cI) Z) Z<|A0 (G2 Z Z) Z<|qm Z<|gp 2 157 (.b x54) 155 Z Z (fun hg52=>?_) (fun hg52=>?_) ?_
        ·refine oB (bt hx54 hg52) fun x53 hx53 hx54=>?_
         obtain rfl:=os hx54
         exact gT Z hg52<|B4 (rs:=[.b x53]) Z Z B5 ((O2 (A63 hscv) hx53).frz)<|A0 (C4 Z hg52 Z) Z<|ge 2 Z Z Z
        ·obtain rfl:=os (bf hx54 hg52)
         exact G5 (D3 Z (by rw[hg52];rfl)) Z<|A0 (C3 Z hg52 Z) Z<|ge 2 Z Z Z
        refine qm Z<|es (ra1 Z)<|C6 ?_
        obtain rfl:=os h
        exact retq trivial (A7 Z B7) (A5 Z B6) (A3 A4 A8)
       ·refine C0<|s0<|oB h fun x55 hx55 h=>qm Z<|A0 (A71 Z) Z<|qm Z<|A0 (F4 (f:=A6) Z) Z<|A0 (C3p Z Z hx55) Z<|qm Z<|es (ra4 Z Z Z Z)<|sg 1 Z<|A0 (D1 Z Z Z) Z<|A0 J7 Z<|P6 (F9 (ds:=(B1 a0)) Z Z Z Z (F2 Z) Z) Z<|es (ra5 Z Z Z Z Z)<|sg 2 Z<|oB h fun x56 hx56 h=>oB h fun x57 hx57 h=>oB h fun x58 hx58 h=>oB h fun x59 hx59 h=>A0 (D1s (rows:=Zg B3 []) Z Z (F5 (fun _=>rfl) _)) Z<|A0 (B9 Z) Z<|J6 [2] (O4 [2] rfl G8 Z Z) (seen0 Z) (B2 Z Z Z) Z<|qm Z<|J6 [2] (O4 [2] rfl G8 Z Z) (seen0 Z) (B4l (f:=B3) Z Z Z hx56) Z<|B8u [0] [(.cells (B1 a0)),(.cells (B1 a0)),(.arr 4 false (Zg B3 x57))] (O4 [] rfl (B2d Z A9h G8) Z Z) (seen0 Z) (A5m (f:=B3) Z Z Z Z A4q (fun _=>rfl) hx57) Z Z Z<|A0 (B9 Z) Z<|J6 [2] (O4 [2] rfl G8 Z Z) (B8x (b:=H.length+0) Z (B2b (A5t _ Z) B5b)) (B2 Z Z Z) Z<|qm Z<|A0 (F7 Z Z) Z<|J6 [2] (O4 [2] rfl G8 Z Z) (A80 Z) (B4l (f:=B3) Z Z Z hx58) Z<|Q3 (D79 (f:=B3) Z Z Z Z A4q (fun _=>rfl) hx59) Z<|A0 (B9 Z) Z<|P6 (F9 (ds:=(B1 (PaShow.mk a0.Gowns x59 a0.Purse a0.Incomes))) Z Z Z Z (F2 Z) Z) Z<|es (ra4 Z Z Z Z)<|s0<|oB h fun x60 hx60 h=>A0 (D1 Z Z Z) Z<|B4 (rs:=[(.seq 3 (Zg A6 x60.1)),.i x60.2.1,.i x60.2.2.1,.i x60.2.2.2]) Z Z (A2 (C9 Z) B5) ((A3r (A63 hscv) hx60).frz)<|qm Z<|A0 (A9 Z Z) Z<|A0 (A9 Z Z) Z<|A0 (A9 Z Z) Z<|A0 (A9 Z Z) Z<|qm Z<|qm Z<|qm Z<|qm Z<|es (ra5 Z Z Z Z Z)<|s0<|oB h fun x63 hx63 h=>oB h fun x67 hx67 h=>qm Z<|A0 (G2 Z Z) Z<|qm Z<|gp 9 195 (.b x63) 186 Z Z (fun hg61=>?_) (fun hg61=>?_) ?_
        ·refine oB (bt hx63 hg61) fun x62 hx62 hx63=>?_
         obtain rfl:=os hx63
         exact gT Z hg61<|qm Z<|gT Z hg61<|qm Z<|gT Z hg61<|B4 (rs:=[.b x62]) Z Z (A2 Z (A2 Z B5)) ((A5z hx62).frz)<|gT Z hg61<|qm Z<|gT Z hg61<|A0 (F7 Z Z) Z<|gT Z hg61<|qm Z<|gT Z hg61<|A0 (G2 Z Z) Z<|gT Z hg61<|A0 (E0m Z Z) Z<|A0 (C4 Z hg61 Z) Z<|ge 9 Z Z Z
        ·obtain rfl:=os (bf hx63 hg61)
         exact nT Z hg61 Z<|nT Z hg61 Z<|G5 (D3 Z (by rw[hg61];rfl)) Z<|nT Z hg61 Z<|nT Z hg61 Z<|nT Z hg61 Z<|nT Z hg61 Z<|nT Z hg61 Z<|A0 (C3 Z hg61 Z) Z<|ge 9 Z Z Z
        refine qm Z<|gp 4 200 (.b (x63&&(decide (x60.2.1≤x8.2.1)))) 196 Z Z (fun hg64=>?_) (fun hg64=>?_) ?_
        ·exact gT Z hg64<|qm Z<|gT Z hg64<|qm Z<|gT Z hg64<|A0 (A47 Z Z) Z<|A0 (C4 Z hg64 Z) Z<|ge 4 (by rw[hg64];rfl) Z Z
        ·exact nT Z hg64 Z<|nT Z hg64 Z<|nT Z hg64 Z<|A0 (C3 Z hg64 Z) Z<|ge 4 (by rw[hg64];rfl) Z Z
        refine qm Z<|gp 2 203 (.b x67) 201 Z Z (fun hg65=>?_) (fun hg65=>?_) ?_
        ·refine oB (bt hx67 hg65) fun x66 hx66 hx67=>?_
         obtain rfl:=os hx67
         exact gT Z hg65<|B4 (rs:=[.b x66]) Z Z B5 ((O2 (A63 hscv) hx66).frz)<|A0 (C4 Z hg65 Z) Z<|ge 2 Z Z Z
        ·obtain rfl:=os (bf hx67 hg65)
         exact G5 (D3 Z (by rw[hg65];rfl)) Z<|A0 (C3 Z hg65 Z) Z<|ge 2 Z Z Z
        refine qm Z<|es (ra1 Z)<|C6 ?_
        obtain rfl:=os h
        exact retq trivial (A7 Z B7) (A5 Z B6) (A3 A4 A8)
end Pw
end
section
namespace Pw
open Go Am
theorem C4c {l:List Int} (hl:l.length<9223372036854775808) (x:Int):A3b l x=some (decide (x∈l)):= by
 unfold A3b
 obtain⟨o,ho,hc⟩:=C58 l (fun y=>y==x) (b:=A3u l x) hl (fun i hi=>by
  unfold A3u
  rw[if_pos (by simpa using hi),I0 hi]
  simp only[Zd]
  cases l[i]! == x <;> rfl) (by
  unfold A3u
  rw[if_neg (by simp)])
 have e:l.any (fun y=>y==x)=decide (x∈l):= by
  rw[Z03,Z1o,decide_eq_true_eq]
  constructor
  ·rintro⟨y,h1,h2⟩;rw[beq_iff_eq]at h2;rwa [← h2]
  ·intro h;exact⟨x,h,by simp⟩
 rw[e]at hc
 rw[ho]
 rcases o with v|u
 ·rw[hc.2,hc.1];rfl
 ·rw[hc];rfl
theorem C8i (l m:List (Int×Int)) (d:Int):P8 (l++m) d=P8 l d+P8 m d:= by
 unfold P8
 rw[ZZ,A4u]
def A8q (s:PaShow) (A B:List PaFigure):PaShow:=⟨s.Gowns,A++B,s.Purse,s.Incomes⟩
section
variable {s:PaShow} {A B:List PaFigure} {y:PaFigure} {P1 P2:List PaUse} {u:PaUse}
theorem C7r (hF:s.Figures=A++y::B) (hl:P1.length=A.length) (d:Int):P8 (pays s (P1++u::P2)) d=P8 (pays (A8q s A B) (P1++P2)) d+if (A03 s.Gowns y u).2≤d then (A03 s.Gowns y u).1 else 0:= by
 unfold pays A8q
 simp only
 rw[hF,Z4z hl.symm,Z4z hl.symm,C8i,C8i]
 show _+P8 (A03 s.Gowns y u::Z56 (A03 s.Gowns) B P2) d=_
 unfold P8
 rw[Zv]
 show _+((if (A03 s.Gowns y u).2≤d then (A03 s.Gowns y u).1 else 0)+sm _)=_
 omega
theorem C8n:J0 (P1++u::P2)=J0 (P1++P2)+if u.Gown = -1 then 1 else 0:= by
 unfold J0
 rw[ZZ,ZZ,A4u,A4u,Zv]
 show _+((if u.Gown = -1 then 1 else 0)+sm _)=_
 omega
theorem D5i (hs:ShOk s) (hF:s.Figures=A++y::B) (hl:P1.length=A.length) (h:Pay s (P1++u::P2)):Pay (A8q s A B) (P1++P2):= by
 obtain⟨h1,h2,h3⟩:=B4v.mp h.ok
 rw[hF]at h1 h2
 have hy:FgOk y:=hs.figure _ (by rw[hF];simp)
 have hu:V2 s.Gowns y u=0:=h2 (y,u) (by rw[Z2u hl.symm];simp)
 refine⟨B4v.mpr ⟨?_,fun z hz=>?_,?_⟩,fun d hd=>?_⟩
 ·simp only[Zm,ZV]at h1
  show _=(A++B).length
  simp only[Zm];omega
 ·have hz:z∈(A++B).zip (P1++P2):=hz
  rw[Z2u hl.symm]at hz
  refine h2 z ?_
  rw[Z2u hl.symm]
  rcases Zz.mp hz with hz|hz
  ·exact Z0o _ hz
  ·exact Z08 _ (Zp _ hz)
 ·rw[Z0e]at h3 ⊢
  exact⟨h3.1,(Z1g.mp h3.2.1).2,fun a ha b hb=>h3.2.2 a ha b (Zp _ hb)⟩
 ·have:=h.left d hd
  have hb:=(C9w hs.gown hy hu).1.1
  unfold I5 at this ⊢
  rw[C7r hF hl]at this
  show 0≤s.Purse+P8 (incs s) d-_
  split at this <;> omega
theorem D20 (hF:s.Figures=A++y::B) (hl:P1.length=A.length) (h:Pay (A8q s A B) (P1++P2)):Pay s (P1++bare0::P2):= by
 obtain⟨h1,h2,h3⟩:=B4v.mp h.ok
 have h1:(P1++P2).length=(A++B).length:=h1
 have h2:∀z∈(A++B).zip (P1++P2),V2 s.Gowns z.1 z.2=0:=h2
 refine⟨B4v.mpr ⟨?_,fun z hz=>?_,?_⟩,fun d hd=>?_⟩
 ·rw[hF]
  simp only[Zm,ZV]at h1 ⊢; omega
 ·rw[hF,Z2u hl.symm,List.zip_cons_cons]at hz
  rw[Z2u hl.symm]at h2
  rcases Zz.mp hz with hz|hz
  ·exact h2 z (Z0o _ hz)
  ·rcases Zt.mp hz with rfl|hz
   ·exact V3.mpr (.inl Z)
   ·exact h2 z (Z08 _ hz)
 ·rw[Z0e]at h3 ⊢
  refine⟨h3.1,Z1g.mpr ⟨fun _ _=>.inl Z,h3.2.1⟩,fun a ha b hb=>?_⟩
  rcases Zt.mp hb with rfl|hb
  ·exact .inr (.inl Z)
  ·exact h3.2.2 a ha b hb
 ·have:=h.left d hd
  unfold I5 at this ⊢
  rw[C7r hF hl]
  have e:(if (A03 s.Gowns y bare0).2≤d then (A03 s.Gowns y bare0).1 else 0)=0:= by
   show (if (0:Int)≤d then (0:Int) else 0)=0
   split <;> rfl
  rw[e,Z2x]
  exact this
end
theorem NmOk.sublist {l m:List ByteArray} (h:NmOk m) (hs:List.Sublist l m):NmOk l:=⟨fun x hx=>h.each x (hs.subset hx),h.two.sublist hs⟩
theorem D1k {s:PaShow} (hs:ShOk s) {A B:List PaFigure} {y:PaFigure} (hF:s.Figures=A++y::B):ShOk (A8q s A B):= by
 have hsub:List.Sublist (A++B) s.Figures:= by rw[hF];exact List.Sublist.append_left (List.sublist_cons_self ..) _
 refine⟨hs.gowns,hs.gown,hs.gname,?_,fun f hf=>hs.figure f (hsub.subset hf),hs.fname.sublist (hsub.map _),hs.purse,hs.incomes,hs.income⟩
 exact Z02 hsub.length_le hs.figures
theorem C1e {α:Type} [Inhabited α] {l:List α} {i:Nat} (h:i<l.length):l=l.take i++l[i]! :: l.drop (i+1):= by
 rw[getElem!_pos l i h,← Z1w h,Z1t]
theorem D5h {s:PaShow} (hs:ShOk s) {i:Nat} (hi:i<s.Figures.length):A8i (A8q s (s.Figures.take i) (s.Figures.drop (i+1)))≤A8i s∧(A9n s i=true↔A8i (A8q s (s.Figures.take i) (s.Figures.drop (i+1)))+1=A8i s):= by
 have hF:=C1e hi
 have hsl:=D1k hs hF
 obtain⟨m1,b,_,hb,hbw⟩:=B0k hs
 obtain⟨m2,c,_,hc,hcw⟩:=B0k hsl
 have hlA:(s.Figures.take i).length=i:= by rw[ZD];omega
 have her:∀p,Pay s p→∃ q,Pay (A8q s (s.Figures.take i) (s.Figures.drop (i+1))) q∧J0 p=J0 q+if p[i]!.Gown = -1 then 1 else 0:=fun p hp=>by
  have hpl:=hp.ok.u.len
  have e:=C1e (l:=p) (i:=i) (by omega)
  refine⟨p.take i++p.drop (i+1),D5i hs hF (by rw[hlA,ZD];omega) (u:=p[i]!) (by rw[← e];exact hp),?_⟩
  have:=C8n (P1:=p.take i) (u:=p[i]!) (P2:=p.drop (i+1))
  rwa [← e]at this
 have hins:∃p,Pay s p∧J0 p=A8i (A8q s (s.Figures.take i) (s.Figures.drop (i+1)))+1∧p[i]!.Gown = -1:= by
  have hcl:c.length=(s.Figures.take i++s.Figures.drop (i+1)).length:=hc.ok.u.len
  rw[Zm,hlA,List.length_drop]at hcl
  have hl1:(c.take i).length=i:= by rw[ZD];omega
  refine⟨c.take i++bare0::c.drop i,D20 hF (by rw[hlA,hl1]) (by rw[Z1t];exact hc),?_,?_⟩
  ·rw[C8n,Z1t,hcw];rfl
  ·have:(c.take i++bare0::c.drop i)[i]! = bare0:= by
    rw[getElem!_pos _ i (by simp[hl1]),List.getElem_append_right (by omega)]
    simp[hl1]
   rw[this];rfl
 obtain⟨p0,hp0,hw0,hg0⟩:=hins
 have h0:=m1 p0 hp0
 obtain⟨q,hq,hqw⟩:=her b hb
 have hq2:=m2 q hq
 refine⟨by split at hqw <;> omega,?_⟩
 rw[C47 hs hi]
 constructor
 ·rintro⟨p,hp,hpw,hpg⟩
  obtain⟨r,hr,hrw⟩:=her p hp
  have:=m2 r hr
  rw[if_pos hpg]at hrw
  omega
 ·intro e
  exact⟨p0,hp0,by omega,hg0⟩
theorem D94 {q:Nat→Bool} {n k:Nat} (h:k<(fsL q n).length):∃f,f<n∧q f=true∧(fsL q n)[k]! = (f:Int):= by
 have hm:=J5 h
 unfold fsL at hm ⊢
 obtain⟨f,hf,e⟩:=ZI.mp hm
 have:=Z09.mp hf
 exact⟨f,by simpa using this.1,this.2,e.symm⟩
theorem C18 {s:PaShow} {x:List Int} {w:Int} (hb:NB s) (hx:x.length<9223372036854775808) (hw:0≤w∧w<256):A3o s x w=some true:= by
 unfold A3o
 rw[C1m,awake,D7b s hb,C4b s hb]
 simp only[Zd]
 by_cases hv:(chk s).2.2=0
 ·have hs:=(W4 s).mp hv
  have hfl:=hs.figures
  obtain⟨hmin,b,e,hbp,hbw⟩:=B0k hs
  obtain⟨p,ha,hp⟩:=C8y hs hx
  have hbl:=hbp.ok.u.len
  have hpl:=hp.u.len
  have n1:=B8m (A33 s) s.Figures.length
  have n2:=B8m (A9n s) s.Figures.length
  rw[e,ha]
  simp only[hv,if_true]
  rw[if_neg (by simp),if_neg (by simp[hbl])]
  have hL1:loop (W6 (fsL (A33 s) s.Figures.length,fsL (A9n s) s.Figures.length,0) (b,J0 b,V5 s b,0)) 0=some (.inr ()):= by
   refine A1a (fun i=>(i:Int)) (fsL (A33 s) s.Figures.length).length (by omega) (fun k hk=>?_) ?_
   ·obtain⟨f,hf,hq,he⟩:=D94 hk
    unfold W6
    simp only[]
    rw[if_pos (by simpa using hk),I0 hk,he]
    simp only[Zd]
    rw[if_neg (by simp)]
    have g1:=(C7b hs hf).mp hq b hbp hbw
    have g2:A9n s f=true:=(C47 hs hf).mpr ⟨b,hbp,hbw,g1⟩
    rw[C4c (by omega),decide_eq_true (B8n.mpr ⟨hf,g2⟩),I0 (l:=b) (by omega),F3 (by omega)]
    have g3:decide ((f:Int)≥(b.length:Int))=false:= by simp;omega
    rw[g3]
    simp only[Zd,g1]
    rfl
   ·unfold W6
    rw[if_neg (by simp)]
  rw[hL1]
  simp only[Zd]
  rw[C02 hs hp.u,A62 (by omega)]
  simp only[Zd]
  have hL2:∀K:(Bool⊕Unit)→Option Bool,((if decide ((M1 s p).1=0)=true then some (J0 p==J0 b) else some false).bind fun x33=>(if x33=true then (loop (S0 (fsL (A33 s) s.Figures.length,fsL (A9n s) s.Figures.length,0) p) 0).bind fun (o50:(Bool⊕Unit)) =>
    match o50 with
    | (.inl vo50_0)=>some (.inl vo50_0)
    | (.inr vo50_1)=>some (.inr ())
   else some (.inr ():Bool⊕Unit)).bind K)=K (.inr ()):= by
   intro K
   by_cases hz:(M1 s p).1=0∧J0 p=J0 b
   ·have hpp:Pay s p:=⟨hp,(A82 hs hp.u).mp hz.1⟩
    have hL:loop (S0 (fsL (A33 s) s.Figures.length,fsL (A9n s) s.Figures.length,0) p) 0=some (.inr ()):= by
     refine A1a (fun i=>(i:Int)) p.length (by omega) (fun k hk=>?_) ?_
     ·unfold S0
      simp only[]
      rw[if_pos (by simpa using hk),I0 hk,C4c (by omega),C4c (by omega),F3 (by omega)]
      simp only[Zd]
      by_cases hg:p[k]!.Gown = -1
      ·have g2:A9n s k=true:=(C47 hs (by omega)).mpr ⟨p,hpp,by omega,hg⟩
       rw[decide_eq_true (B8n.mpr ⟨by omega,g2⟩),hg]
       rfl
      ·have g2:A33 s k=false:= by
        cases hm:A33 s k
        ·rfl
        ·exact absurd ((C7b hs (by omega)).mp hm p hpp (by omega)) hg
       have g3:¬ ((k:Int)∈fsL (A33 s) s.Figures.length):=fun c=>by
        have:=(B8n.mp c).2;rw[g2]at this;cases this
       rw[decide_eq_false g3,if_neg (by rw[beq_iff_eq];exact hg),if_pos (bne_iff_ne.mpr hg)]
       rfl
     ·unfold S0
      rw[if_neg (by simp)]
    rw[hL,if_pos (decide_eq_true hz.1),hz.2]
    simp only[Zd,BEq.rfl,if_true]
   ·by_cases hz1:(M1 s p).1=0
    ·have:(J0 p==J0 b)=false:=beq_eq_false_iff_ne.mpr fun c=>hz ⟨hz1,c⟩
     rw[if_pos (decide_eq_true hz1),this];rfl
    ·rw[if_neg (by simpa using hz1)];rfl
  refine(hL2 _).trans ?_
  dsimp only
  by_cases hn:b.length=0
  ·have:(fsL (A9n s) s.Figures.length).length=0:= by omega
   rw[if_pos (by simp[hn]),if_pos (by simp[this])]
   rfl
  ·rw[if_neg (by simpa using hn)]
   have hr:B0b (w64 w) (b.length:Int)=some (((w % (b.length:Int)).toNat:Nat):Int):= by
    unfold B0b
    rw[if_neg (by omega),F3 (by omega),Z1u hw.1,Z3o (Z4i _ (by omega))]
   have hil:(w % (b.length:Int)).toNat<s.Figures.length:= by
    have:=Z58 w (b:=(b.length:Int)) (by omega)
    have:=Z4i w (b:=(b.length:Int)) (by omega)
    omega
   rw[hr]
   generalize (w % (b.length:Int)).toNat=i at hil
   obtain⟨q1,q2⟩:=D5h hs hil
   have hsl:=D1k hs (C1e hil)
   have e1:slc s.Figures (w64 ((i:Int)+1)) (s.Figures.length:Int)=some (s.Figures.drop (i+1)):= by
    rw[F3 (by omega)]
    unfold slc
    rw[if_pos ⟨by omega,by omega,by omega⟩,ZH,Z15]
    rfl
   simp only[Zd]
   rw[B5d (by omega),e1]
   simp only[Zd]
   rw[A6e (by omega) (by simp;omega)]
   simp only[Zd]
   rw[Z05,A6e (by omega) (by simp;omega)]
   simp only[Zd]
   rw[show (PaShow.mk s.Gowns (s.Figures.take i++s.Figures.drop (i+1)) s.Purse s.Incomes)=A8q s (s.Figures.take i) (s.Figures.drop (i+1)) from Z]
   have hbl2:NB (A8q s (s.Figures.take i) (s.Figures.drop (i+1))):=⟨hb.1,fun v hv2=>by
    have hv2:v∈s.Figures.take i++s.Figures.drop (i+1):=hv2
    rcases Zz.mp hv2 with h|h
    ·exact hb.2 v (Z00 h)
    ·exact hb.2 v (List.mem_of_mem_drop h)⟩
   obtain⟨_,c,ec,hcp,hcw⟩:=B0k hsl
   rw[C4b _ hbl2,(W4 _).mpr hsl,ec,C4c (by omega)]
   have hcb:=A92 c
   have hcl:c.length=(A8q s (s.Figures.take i) (s.Figures.drop (i+1))).Figures.length:=hcp.ok.u.len
   have hlf:=hsl.figures
   simp only[Zd,if_true,hcw,hbw]
   rw[hcw]at hcb
   rw[F3 (by omega)]
   have h9:(decide ((i:Int)∈fsL (A9n s) s.Figures.length)==(A8i (A8q s (s.Figures.take i) (s.Figures.drop (i+1)))+1==A8i s))=true:= by
    rw[beq_iff_eq,Z03,decide_eq_true_eq,beq_iff_eq,B8n,← q2]
    exact⟨fun h=>h.2,fun h=>⟨hil,h⟩⟩
   rw[h9,decide_eq_true q1]
   rfl
 ·simp[hv]
  rfl
end Pw
end
