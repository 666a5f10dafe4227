/- Texts that the claim stands on, one behind another. -/
import Derived.Test.YtbheamjhjgoccaaDoorA7
set_option linter.unusedVariables false
set_option linter.unusedSimpArgs false
set_option linter.unnecessarySimpa false
section
set_option maxRecDepth 100000
set_option maxHeartbeats 0
namespace Rm
open Go Am Go.Proofs.YtbheamjhjgoccaaDoor.Cd
def T0  (x2:room_plan) (s3:Unit):Option (Unit ⊕ Unit) :=
 some (.inr ())
def A3x (a0:room_house):Option Bool :=
 (A57 a0 Unit Unit T0 ()).bind fun (o4:(Unit ⊕ Unit)) =>
 match o4 with
 | (.inl vo4_5) =>
  some false
 | (.inr vo4_6) =>
  some true
theorem B6q {c:Sc} {H:A7} (hscv:A0j c H = true) (hcl:clH H.length H = true) {a0:room_house} {b0:Nat} (hb0:hcells H b0 = some [.i a0.RoHouse.Weather.Lo,.i a0.RoHouse.Weather.Hi,.i a0.RoHouse.Stoves,(.seq 1 (List.map cI a0.RoHouse.Holds)),(.seq 4 (List.map B7 a0.RoHouse.Places)),(.seq 6 (List.map A9 a0.RoHouse.Figures)),(.seq 1 (List.map cI a0.RoHouse.Bill)),(.xseq 2 [[.b false,(.fn (.func 112) [] [])],[.b true,(.fn (.func 113) [] [])]])]) {r:Bool} (h:A3x a0 = some r) :
  F1 tab c H (.fn (.func 97) [] []) [.ptr b0 0] [.b r]:= by
 unfold A3x at h
 refine cE rfl rfl<|sg 0 rfl<|A0 D6 rfl<|es (ra2 rfl rfl)<|B6<|s0<|qm rfl<|Q0 (as2:=[.ptr b0 0]) (H1:=(H++[(.cells (cB false))])) rfl rfl (A1 rfl B5) rfl rfl rfl (W8 rfl)<|sg 1 rfl<|A0 (F3 (cs:=[.ptr b0 0]) rfl rfl rfl) rfl<|qm rfl<|es (ra1 rfl)<|s0<|A0 (A7n rfl rfl) rfl<|qm rfl<|es (ra1 rfl)<|C6<|InlQ.mk trivial ⟨_,_,_,[(.fn (.func 116) [] [(.ptr (H.length + 1) 0)])],_,(B1 rfl B9),(A4 rfl B8),(Y5 (O0 (C0c (O0 (Y3 rfl)))) (D2 rfl J7)),?_⟩
 refine es (ra2 rfl rfl)<|C5<|oB h fun o4 ho4 h=>?_
 have hb0_lt:=A34 hb0
 refine C6o (σ:=Unit) (ρ:=Unit) (k:=2) (ea:=(fun (x2:room_plan)=>(.agg (A8 x2)))) (body:=T0) (pre:=fun H1=>hcells H1 (H.length + 1) = some [.ptr b0 0]∧hcells H1 b0 = some (B70 a0)) (C14 (t:=a0) (b1:=H.length + 1) (bt:=b0)) B3z [(2,(.ptr (H.length + 0) 0))] (fun s3=>[(.cells (cB false)),(.cells [.ptr b0 0])]) (fun (vo4_6:Unit)=>[(.cells (cB true)),(.cells [.ptr b0 0])]) (fun _=>.ret) ho4 (fun _=>rfl) rfl (fun S hS=>K5 (live:=[2]) rfl (by decide) (Sub.trans (su1 rfl) hS)) rfl (fun _=>rfl) (fun _=>rfl) hcl (by rw [Bool.and_eq_true,Bool.and_eq_true]; exact ⟨⟨by kernel_rfl,by kernel_rfl⟩,(by simp [clH,clS,AO.cl,AV.cl,clL,clM,clR,A3z,A8g,A4d,A5y,N6,cI,cB,cS,J8,freeL,AV.free,freeR,Nat.blt,S5,A4y,K2,X3,J1,T5,L3,X2,P1,A0t,K4,Q6,A2v,A4z] <;> omega)⟩) (fun _=>(by simp [clH,clS,AO.cl,AV.cl,clL,clM,clR,A3z,A8g,A4d,A5y,N6,cI,cB,cS,J8,freeL,AV.free,freeR,Nat.blt,S5,A4y,K2,X3,J1,T5,L3,X2,P1,A0t,K4,Q6,A2v,A4z] <;> omega)) (fun _=>(by simp [clH,clS,AO.cl,AV.cl,clL,clM,clR,A3z,A8g,A4d,A5y,N6,cI,cB,cS,J8,freeL,AV.free,freeR,Nat.blt,S5,A4y,K2,X3,J1,T5,L3,X2,P1,A0t,K4,Q6,A2v,A4z] <;> omega)) (fun _=>(by simp [clH,clS,AO.cl,AV.cl,clL,clM,clR,A3z,A8g,A4d,A5y,N6,cI,cB,cS,J8,freeL,AV.free,freeR,Nat.blt,S5,A4y,K2,X3,J1,T5,L3,X2,P1,A0t,K4,Q6,A2v,A4z] <;> omega)) ⟨fun _ _=>(And.intro (D9 rfl) (N3 hb0 _)),fun _ _=>(And.intro (D9 rfl) (N3 hb0 _))⟩ (A4h hscv) (fun c x2 s3 o hs3 y0_2 y1_2=>?_) ?_
 ·unfold T0 at hs3
  refine C1<|⟨_,rfl,rfl,rfl,?_⟩
  refine C5<|s0<|F0 (C7 (ds:=(cB true)) rfl rfl rfl rfl (C0 rfl) rfl) rfl<|es .n<|C6 ?_
  cases hs3
  exact ⟨_,rfl,rfl,rfl⟩
 ·rcases o4 with vo4_5 | vo4_6
  ·refine s0<|F0 (C7 (ds:=(cB false)) rfl rfl rfl rfl (C0 rfl) rfl) rfl<|es (ra1 rfl)<|C6 ?_
   obtain rfl:=os h
   exact retq trivial (G0 (C3 (x:=(.b false)) rfl rfl rfl) B9) (A4 rfl B8) (A3 A5 B3)
  ·obtain rfl:=os h
   exact retq trivial (G0 (C3 (x:=(.b true)) rfl rfl rfl) B9) (A4 rfl B8) (A3 A5 B3)
def A0q (a0:Int):Option Int :=
 if (a0 == 0) = true then
  some 64
 else
  (B4h .u64 (IntKind.u64.wrap ((P0 .u64 a0 (IntKind.u64.wrap (0 - a0))) * 285870213051353865)) 58).bind fun x2 =>
  (idx gl1 x2).bind fun x3 =>
  some (w64 x3)
theorem A7p {c:Sc} {H:A7} {a0:Int} {r:Int} (h:A0q a0 = some r) :
  F1 tab c H (.fn (.func 126) [] []) [(.lit (.int .u64 a0))] [.i r]:= by
 unfold A0q at h
 refine cE rfl rfl<|s0<|qm rfl<|es (ra1 rfl)<|B6<|s0<|qm rfl<|A0 (F7 rfl rfl) rfl<|es (ra2 rfl rfl)<|wi h rfl (fun hc1 h=>?_) fun hc1 h=>?_
 ·refine s0<|qm rfl<|es (ra1 rfl)<|C6 ?_
  obtain rfl:=os h
  exact retq trivial (B1 rfl B9) (A4 rfl B8) (A3 A5 B3)
 ·refine C1<|s0<|oB h fun x2 hx2 h=>oB h fun x3 hx3 h=>qm rfl<|qm rfl<|A0 (D77 rfl rfl) rfl<|A0 (F9 (v:=(.lit (.int .u64 (P0 .u64 a0 (IntKind.u64.wrap (0 - a0)))))) rfl rfl rfl) rfl<|A0 (F9 (v:=(.lit (.int .u64 (IntKind.u64.wrap ((P0 .u64 a0 (IntKind.u64.wrap (0 - a0))) * 285870213051353865))))) rfl rfl rfl) rfl<|A0 (B19 rfl rfl hx2) rfl<|A0 (D70 (e:=gl1) (g:=fun n=>(.lit (.int .u8 n))) rfl rfl rfl hx3) rfl<|A0 (D53 (g:=fun n=>(.lit (.int .u8 n))) rfl hx3) rfl<|A0 (A25 rfl) rfl<|qm rfl<|es (ra1 rfl)<|C6 ?_
  obtain rfl:=os h
  exact retq trivial (B1 rfl B9) (A4 rfl B8) (A3 A5 B3)
def A1y (a0:Int):Option Int :=
 (A0q a0).bind fun x1 =>
 some x1
theorem A8s {c:Sc} {H:A7} {a0:Int} {r:Int} (h:A1y a0 = some r) :
  F1 tab c H (.fn (.func 118) [] []) [(.lit (.int .u64 a0))] [.i r]:= by
 unfold A1y at h
 refine cE rfl rfl<|s0<|qm rfl<|es (ra1 rfl)<|B6<|Q9 rfl rfl<|C1<|s0<|oB h fun x1 hx1 h=>qm rfl<|B4 (rs:=[.i x1]) rfl rfl (A1 rfl B5) ((A7p hx1).frz)<|qm rfl<|es (ra1 rfl)<|C6 ?_
 obtain rfl:=os h
 exact retq trivial (B1 rfl B9) (A4 rfl B8) (A3 A5 B3)
def B65  (s1:(Int × (List Int))):Option ((Int × (List Int)) ⊕ (List Int)) :=
 if (s1.1 != 0) = true then
  (A1y (IntKind.u64.wrap s1.1)).bind fun x4 =>
  (app 8 s1.2 [x4]).bind fun x5 =>
  some (.inl ((B4z s1.1 (w64 (s1.1 - 1))),x5))
 else
  some (.inr s1.2)
def B00 (a0:Int):Option (List Int) :=
 (loop B65 (a0,([]:List Int))).bind fun (o6:(List Int)) =>
 some o6
theorem C6d {c:Sc} {H:A7} {a0:Int} {r:(List Int)} (h:B00 a0 = some r) :
  F1 tab c H (.fn (.func 95) [] []) [.i a0] [(.fresh 1 (List.map cI r))]:= by
 unfold B00 at h
 refine cE rfl rfl<|sg 0 rfl<|A0 B18 rfl<|es (ra2 rfl rfl)<|B6<|C5<|oB h fun o6 ho6 h=>wl (fun s1=>[(0,.i s1.1),(2,(.asl (H.length + 0) (List.length s1.2)))]) (fun (q2:Unit) s1=>[(.arr 1 false (List.map cI s1.2))]) 1 (fun r e s' H'=>PX 0 [(2,(.asl (H.length + 0) (List.length r)))] (H++[(.arr 1 false (List.map cI r))]) e s' H') () ho6 rfl rfl (fun _ _=>rfl) (fun _=>rfl) rfl (fun s1=>(bdc A5 (bdc (A48 rfl) bdn))) (fun q2 s1 ys1 hs1=>?_) ?_
 ·unfold B65 at hs1
  refine B6<|s0<|qm rfl<|A0 (G2 rfl rfl) rfl<|es (ra3 rfl rfl rfl)<|wi hs1 rfl (fun hc3 hs1=>?_) fun hc3 hs1=>?_
  ·refine C1<|B6<|C5<|r0<|oB hs1 fun x4 hx4 hs1=>oB hs1 fun x5 hx5 hs1=>qm rfl<|qm rfl<|A0 (A25 rfl) rfl<|B4 (rs:=[.i x4]) rfl rfl (A1 rfl B5) ((A8s hx4).frz)<|A0 (J5 (rows:=List.map cI [x4]) rfl rfl (E2 (fun _=>rfl) _)) rfl<|A5a (V6 (f:=cI) rfl rfl rfl rfl R8 (fun _=>rfl) hx5) rfl<|qm rfl<|en (ra2 rfl rfl)<|r0<|qm rfl<|qm rfl<|A0 (U8 rfl rfl) rfl<|A0 (F9 (v:=(.i (B4z s1.1 (w64 (s1.1 - 1))))) rfl rfl rfl) rfl<|qm rfl<|en (ra2 rfl rfl) ?_
   cases hs1
   exact lnT () rfl (su2 rfl rfl)
  ·refine E4 ?_
   obtain rfl:=os hs1
   exact lx rfl px (su1 rfl)
 ·rintro e s' H' - ⟨rfl,rfl,rfl⟩
  refine s0<|qm rfl<|qm rfl<|es (ra1 rfl)<|C6 ?_
  obtain rfl:=os h
  exact retq trivial (B1 rfl B9) (A4 (B1q rfl (List.length_map _)) B8) (A3 A5w B3)
def A6z (a0:Int):Option Bool :=
 some (a0 != a0)
theorem B0r {c:Sc} {H:A7} {a0:Int} {r:Bool} (h:A6z a0 = some r) :
  F1 tab c H (.fn (.func 127) [] []) [.i a0] [.b r]:= by
 unfold A6z at h
 refine cE rfl rfl<|s0<|qm rfl<|es (ra1 rfl)<|s0<|qm rfl<|qm rfl<|A0 (G2 rfl rfl) rfl<|qm rfl<|es (ra1 rfl)<|C6 ?_
 obtain rfl:=os h
 exact retq trivial (B1 rfl B9) (A4 rfl B8) (A3 A5 B3)
def A7k (a0:Int) (a1:Int):Option Int :=
 (A6z a0).bind fun x1 =>
 (A6z a1).bind fun x2 =>
 if x1 = true then
  if x2 = true then
  some 0
  else
  some (-1)
 else
  if x2 = true then
  some 1
  else
  if (decide (a0 < a1)) = true then
   some (-1)
  else
   if (decide (a0 > a1)) = true then
   some 1
   else
   some 0
theorem B5b {c:Sc} {H:A7} {a0:Int} {a1:Int} {r:Int} (h:A7k a0 a1 = some r) :
  F1 tab c H (.fn (.func 119) [] []) [.i a0,.i a1] [.i r]:= by
 unfold A7k at h
 refine cE rfl rfl<|s0<|qm rfl<|es (ra2 rfl rfl)<|s0<|oB h fun x1 hx1 h=>qm rfl<|B4 (rs:=[.b x1]) rfl rfl (A1 rfl B5) ((B0r hx1).frz)<|qm rfl<|es (ra3 rfl rfl rfl)<|s0<|oB h fun x2 hx2 h=>qm rfl<|B4 (rs:=[.b x2]) rfl rfl (A1 rfl B5) ((B0r hx2).frz)<|qm rfl<|es (ra4 rfl rfl rfl rfl)<|B6<|s0<|qm rfl<|es (ra4 rfl rfl rfl rfl)<|wi h rfl (fun hc3 h=>?_) fun hc3 h=>?_
 ·refine B6<|s0<|qm rfl<|es (ra1 rfl)<|wi h rfl (fun hc4 h=>?_) fun hc4 h=>?_
  ·refine s0<|qm rfl<|es (ra1 rfl)<|C6 ?_
   obtain rfl:=os h
   exact retq trivial (B1 rfl B9) (A4 rfl B8) (A3 A5 B3)
  ·refine C1<|s0<|qm rfl<|es (ra1 rfl)<|C6 ?_
   obtain rfl:=os h
   exact retq trivial (B1 rfl B9) (A4 rfl B8) (A3 A5 B3)
 ·refine C1<|B6<|s0<|qm rfl<|es (ra3 rfl rfl rfl)<|wi h rfl (fun hc5 h=>?_) fun hc5 h=>?_
  ·refine s0<|qm rfl<|es (ra1 rfl)<|C6 ?_
   obtain rfl:=os h
   exact retq trivial (B1 rfl B9) (A4 rfl B8) (A3 A5 B3)
  ·refine C1<|B6<|s0<|qm rfl<|qm rfl<|A0 (F8 rfl rfl) rfl<|es (ra3 rfl rfl rfl)<|wi h rfl (fun hc6 h=>?_) fun hc6 h=>?_
   ·refine s0<|qm rfl<|es (ra1 rfl)<|C6 ?_
    obtain rfl:=os h
    exact retq trivial (B1 rfl B9) (A4 rfl B8) (A3 A5 B3)
   ·refine C1<|B6<|s0<|qm rfl<|qm rfl<|A0 (A0a rfl rfl) rfl<|es (ra1 rfl)<|wi h rfl (fun hc7 h=>?_) fun hc7 h=>?_
    ·refine s0<|qm rfl<|es (ra1 rfl)<|C6 ?_
     obtain rfl:=os h
     exact retq trivial (B1 rfl B9) (A4 rfl B8) (A3 A5 B3)
    ·refine C1<|s0<|qm rfl<|es (ra1 rfl)<|C6 ?_
     obtain rfl:=os h
     exact retq trivial (B1 rfl B9) (A4 rfl B8) (A3 A5 B3)
def A4c (a0:(List Int)) (a1:(List Int)) (s1:Int):Option (Int ⊕ (Int ⊕ Unit)) :=
 if (decide (s1 < (List.length a0:Int))) = true then
  (idx a0 s1).bind fun x4 =>
  if (decide (s1 ≥ (List.length a1:Int))) = true then
  some (.inr (.inl 1))
  else
  (idx a1 s1).bind fun x6 =>
  (A7k x4 x6).bind fun x7 =>
  if (x7 != 0) = true then
   some (.inr (.inl x7))
  else
   some (.inl (w64 (s1 + 1)))
 else
  some (.inr (.inr ()))
def A2t (a0:(List Int)) (a1:(List Int)):Option Int :=
 (loop (A4c a0 a1) 0).bind fun (o9:(Int ⊕ Unit)) =>
 match o9 with
 | (.inl vo9_0) =>
  some vo9_0
 | (.inr vo9_1) =>
  if (decide ((List.length a0:Int) < (List.length a1:Int))) = true then
  some (-1)
  else
  some 0
theorem A9e {c:Sc} {H:A7} {a0:(List Int)} {a1:(List Int)} {r:Int} (h:A2t a0 a1 = some r) :
  F1 tab c H (.fn (.func 96) [] []) [(.seq 1 (List.map cI a0)),(.seq 1 (List.map cI a1))] [.i r]:= by
 unfold A2t at h
 refine cE rfl rfl<|s0<|qm rfl<|es (ra2 rfl rfl)<|B6<|s0<|qm rfl<|A0 (D8 (f:=cI) rfl) rfl<|qm rfl<|es (ra5 rfl rfl rfl rfl rfl)<|C5<|oB h fun o9 ho9 h=>wl (fun s1=>[(0,(.seq 1 (List.map cI a0))),(1,(.seq 1 (List.map cI a1))),(9,(.seq 1 (List.map cI a0))),(10,(.i (List.length a0:Int))),(11,.i s1)]) (fun (q2:Unit) s1=>[]) 0 (fun r e s' H'=>(match r with | (.inl v)=>e = .ret∧RetQ H [.tmp 4] [.i v] e s' H' | (.inr v)=>PX 0 [(0,(.seq 1 (List.map cI a0))),(1,(.seq 1 (List.map cI a1)))] (H++[]) e s' H':Prop)) () ho9 rfl rfl (fun _ _=>rfl) (fun _=>rfl) rfl (fun s1=>(bdc G7 (bdc G7 (bdc G7 (bdc A5 (bdc A5 bdn)))))) (fun q2 s1 ys1 hs1=>?_) ?_
 ·unfold A4c at hs1
  refine s0<|A0 (F8 rfl rfl) rfl<|es (ra6 rfl rfl rfl rfl rfl rfl)<|B6<|wi hs1 rfl (fun hc3 hs1=>?_) fun hc3 hs1=>?_
  ·refine C1<|B6<|C5<|s0<|oB hs1 fun x4 hx4 hs1=>qm rfl<|A0 (E6 (f:=cI) rfl rfl hx4) rfl<|A0 (E9 rfl rfl) rfl<|qm rfl<|qm rfl<|es (ra7 rfl rfl rfl rfl rfl rfl rfl)<|B6<|s0<|qm rfl<|qm rfl<|A0 (D8 (f:=cI) rfl) rfl<|A0 (B2j rfl rfl) rfl<|es (ra8 rfl rfl rfl rfl rfl rfl rfl rfl)<|wi hs1 rfl (fun hc5 hs1=>?_) fun hc5 hs1=>?_
   ·refine s0<|qm rfl<|es (ra1 rfl)<|C6 ?_
    obtain rfl:=os hs1
    exact lx rfl (And.intro rfl (retq trivial (B1 rfl B9) (A4 rfl B8) (A3 A5 B3))) (Sub.refl _)
   ·refine C1<|s0<|oB hs1 fun x6 hx6 hs1=>qm rfl<|qm rfl<|A0 (E6 (f:=cI) rfl rfl hx6) rfl<|A0 (E9 rfl rfl) rfl<|qm rfl<|es (ra7 rfl rfl rfl rfl rfl rfl rfl)<|s0<|oB hs1 fun x7 hx7 hs1=>qm rfl<|qm rfl<|B4 (rs:=[.i x7]) rfl rfl (A1 rfl (A1 rfl B5)) ((B5b hx7).frz)<|qm rfl<|es (ra6 rfl rfl rfl rfl rfl rfl)<|s0<|qm rfl<|A0 (G2 rfl rfl) rfl<|es (ra7 rfl rfl rfl rfl rfl rfl rfl)<|wi hs1 rfl (fun hc8 hs1=>?_) fun hc8 hs1=>?_
    ·refine s0<|qm rfl<|qm rfl<|es (ra1 rfl)<|C6 ?_
     obtain rfl:=os hs1
     exact lx rfl (And.intro rfl (retq trivial (B1 rfl B9) (A4 rfl B8) (A3 A5 B3))) (Sub.refl _)
    ·refine C1<|r0<|A0 (E1 rfl rfl) rfl<|qm rfl<|en (ra5 rfl rfl rfl rfl rfl) ?_
     cases hs1
     exact lnT () rfl (su5 rfl rfl rfl rfl rfl)
  ·refine E4 ?_
   obtain rfl:=os hs1
   exact lx rfl px (su2 rfl rfl)
 ·rcases o9 with vo9_0 | vo9_1
  ·rintro e s' H' - ⟨rfl,hret⟩
   cases h
   exact hret
  ·rintro e s' H' - ⟨rfl,rfl,rfl⟩
   refine B6<|s0<|qm rfl<|A0 (D8 (f:=cI) rfl) rfl<|qm rfl<|A0 (D8 (f:=cI) rfl) rfl<|A0 (F8 rfl rfl) rfl<|es (ra1 rfl)<|wi h rfl (fun hc10 h=>?_) fun hc10 h=>?_
   ·refine s0<|qm rfl<|es (ra1 rfl)<|C6 ?_
    obtain rfl:=os h
    exact retq trivial (B1 rfl B9) (A4 rfl B8) (A3 A5 B3)
   ·refine C1<|s0<|qm rfl<|es (ra1 rfl)<|C6 ?_
    obtain rfl:=os h
    exact retq trivial (B1 rfl B9) (A4 rfl B8) (A3 A5 B3)
end Rm
end
section
set_option maxRecDepth 100000
namespace Rm
open Go Am Go.Proofs.YtbheamjhjgoccaaDoor.Cd
def A7i (t:RoHouse) (b:List Int):RoHouse:=⟨t.Weather,t.Stoves,t.Holds,t.Places,t.Figures,b⟩
def A2a (a0:RoHouse) (set:Int) (s:Int × List Int):Option ((Int × List Int) ⊕ List Int) :=
 if (decide (s.1 < (List.length a0.Bill:Int))) = true then
  (idx a0.Bill s.1).bind fun n =>
  (B4h .i64 set s.1).bind fun q =>
  if (B4z q 1 == 0) = true then
   (app 8 s.2 [n]).bind fun b =>
   some (.inl (w64 (s.1 + 1),b))
  else some (.inl (w64 (s.1 + 1),s.2))
 else some (.inr s.2)
def A4t (l breaks:List Int) (found:Bool):Option Bool :=
 if found = true then
  if (decide ((l.length:Int) > (breaks.length:Int))) = true then some true
  else if ((l.length:Int) == (breaks.length:Int)) = true then
   (A2t l breaks).bind fun z=>some (decide (z > 0))
  else some false
 else some false
def A3q (a0:RoHouse) (n:Int) (s:Int × Bool × List Int):Option ((Int × Bool × List Int) ⊕ List Int) :=
 if (decide (s.1 < n)) = true then
  (B00 s.1).bind fun l =>
  (A4t l s.2.2 s.2.1).bind fun skip =>
  if skip = true then some (.inl (w64 (s.1 + 1),s.2.1,s.2.2))
  else
   (loop (A2a a0 s.1) (0,[])).bind fun b =>
   (A3x ⟨A7i a0 b⟩).bind fun k =>
   if k = true then some (.inl (w64 (s.1 + 1),true,l))
   else some (.inl (w64 (s.1 + 1),s.2.1,s.2.2))
 else some (.inr s.2.2)
def A5r (a0:RoHouse):Option (List Int × Int) :=
 (R0 a0).bind fun x1 =>
 if (x1.2.2 != 0) = true then some (([]:List Int),x1.2.2)
 else
  (B4g .i64 1 (List.length a0.Bill:Int)).bind fun n =>
  (loop (A3q a0 n) (0,false,([]:List Int))).bind fun o =>
  some (o,0)
def B2l (t:RoHouse) (v:AV):List AV:=[.i t.Weather.Lo,.i t.Weather.Hi,.i t.Stoves,(.seq 1 (List.map cI t.Holds)),(.seq 4 (List.map B7 t.Places)),(.seq 6 (List.map A9 t.Figures)),v,.xseq 2 [[.b false,(.fn (.func 112) [] [])],[.b true,(.fn (.func 113) [] [])]]]
def arB (p:Bool) (r:List Int):AO:=.arr 1 p (r.map cI)
def tlB (g:List (List Int)):List AO:=g.map (arB true)
def lB (t:RoHouse) (v:AV) (g:List AO):List AO:=.cells (A2 t) :: .cells (A2 t) :: .cells (B2l t v) :: g
section
variable {T:Tab} {s:C9} {H0 H:A7} {l:List AO} {c:Sc} {n0 N:Nat} {hc:List (Option (List Nat))} {ops:List AOper} {R:C9→A7→Prop}
theorem gU {d:Nat} {op:AOp} {t:Nat} {w:Bool} {hid:List Nat} {hida:List (Nat × List Nat)} {inc src:Nat} (hw:wanted s (some (t,w)) = some false) (hwr:writes op = true) (k:M9 T c n0 ops ((d,.tup []) :: s) H (none :: hc) R) :
  M9 T c n0 (⟨some d,op,some (t,w),hid,hida,inc,src⟩ :: ops) s H hc R:=I0 hw hwr k
theorem gV {d:Nat} {op:AOp} {t:Nat} {w:Bool} {hid:List Nat} {hida:List (Nat × List Nat)} {inc src:Nat} (hw:wanted s (some (t,w)) = some false) (hwr:writes op = false) (k:M9 T c n0 ops ((d,.tup []) :: s) H hc R) :
  M9 T c n0 (⟨some d,op,some (t,w),hid,hida,inc,src⟩ :: ops) s H hc R:=D13 hw hwr k
theorem fvc {H1 H2:A7} {v v':AV} {l l':List AV} (h:frv H v = some (v',H1)) (k:A1d H1 l = some (l',H2)):A1d H (v :: l) = some (v' :: l',H2):= by simp only [A1d,h,k]
end
theorem D40 {N:Nat}:∀g:List (List Int),clH N (tlB g) = true
 | []=>rfl
 | r :: g=>by
  have ih:=D40 (N:=N) g
  unfold tlB clH at ih ⊢
  rw [List.map_cons,List.all_cons,ih,Bool.and_true]
  unfold arB
  simp only [AO.cl]
  exact A3z (fun x=>rfl) r
theorem E1a {N:Nat} (t:RoHouse) (b:List Int) (g:List (List Int)):clH N (lB t (.seq 1 (b.map cI)) (tlB g)) = true:= by
 have h:=D40 (N:=N) g
 unfold lB clH at h ⊢
 simp only [List.all_cons,h,Bool.and_true]
 simp [AO.cl,clL_free _ (L3 t),B2l,clL,AV.cl,clR,J8,cI,freeL,AV.free,K2,J1]
theorem B9e {c:Sc} {H:A7} (hscv:A0j c H = true) (hcl:clH H.length H = true) {a0:RoHouse} {r:((List Int) × Int)} (h:A5r a0 = some r) :
  F1 tab c H (.fn (.func 36) [] []) [(.agg (A2 a0))] [(.seq 1 (List.map cI r.1)),.i r.2]:= by
 unfold A5r at h
 refine cE rfl rfl<|sg 0 rfl<|A0 (F3 (cs:=A2 a0) rfl rfl rfl) rfl<|qm rfl<|qm rfl<|es (ra2 rfl rfl)<|s0<|A0 (C2 rfl rfl rfl) rfl<|Q0 (as2:=[(.agg (A2 a0))]) (H1:=(H++[(.cells (A2 a0))])) rfl rfl (A1 (C8 rfl) B5) rfl rfl rfl (W8 rfl)<|sg 1 rfl<|A0 (F3 (cs:=A2 a0) rfl rfl rfl) rfl<|qm rfl<|qm rfl<|es (ra1 rfl)<|s0<|oB h fun x1 hx1 h=>A0 (C2 rfl rfl rfl) rfl<|B4 (rs:=[.i x1.1,.i x1.2.1,.i x1.2.2]) rfl rfl (A1 (C8 rfl) B5) ((R9 hx1).frz)<|qm rfl<|A0 (A6 rfl rfl) rfl<|A0 (A6 rfl rfl) rfl<|A0 (A6 rfl rfl) rfl<|qm rfl<|qm rfl<|qm rfl<|es (ra2 rfl rfl)<|sg 2 rfl<|A0 (C2 rfl rfl rfl) rfl<|A0 (G6 (cs:=[.b false,(.fn (.func 112) [] [])]) rfl rfl) rfl<|A0 (G6 (cs:=[.b true,(.fn (.func 113) [] [])]) rfl rfl) rfl<|A0 (A7w (rows:=[[.b false,(.fn (.func 112) [] [])],[.b true,(.fn (.func 113) [] [])]]) rfl rfl) rfl<|A0 (G6 (cs:=B2l a0 (.seq 1 (List.map cI a0.Bill))) rfl rfl) rfl<|A0 (F3 (cs:=B2l a0 (.seq 1 (List.map cI a0.Bill))) rfl rfl rfl) rfl<|qm rfl<|qm rfl<|qm rfl<|es (ra2 rfl rfl)<|C6<|InlQ.mk trivial ⟨_,_,_,[(.ptr (H.length + 2) 0),.i x1.2.2],_,(B1 rfl (B1 rfl B9)),(A4 rfl (A4 rfl B8)),(Y5 (O0 (Y3 rfl)) (D2 rfl (D2 rfl J7))),?_⟩
 refine qm rfl<|A0 (A6 rfl rfl) rfl<|A0 (A6 rfl rfl) rfl<|qm rfl<|qm rfl<|es (ra4 rfl rfl rfl rfl)<|B6<|s0<|qm rfl<|A0 (G2 rfl rfl) rfl<|es (ra5 rfl rfl rfl rfl rfl)<|wi h rfl (fun hc2 h=>?_) fun hc2 h=>?_
 ·refine s0<|qm rfl<|qm rfl<|qm rfl<|es (ra2 rfl rfl)<|C6 ?_
  obtain rfl:=os h
  exact retq trivial (B1 rfl (B1 rfl B9)) (A4 rfl (A4 rfl B8)) (A3 G7 (A3 A5 B3))
 refine oB h fun n hn h=>oB h fun o ho h=>?_
 refine C1<|s0<|qm rfl<|es (ra4 rfl rfl rfl rfl)<|B6<|s0<|A0 (C4 rfl) rfl<|A0 (C3 rfl rfl rfl) rfl<|A0 (D8 (f:=cI) rfl) rfl<|A0 (B6k rfl rfl hn) rfl<|qm rfl<|es (ra6 rfl rfl rfl rfl rfl rfl)<|C5 ?_
 refine A8f (D63 (γ:=List Int × List (List Int)) (live:=[1,2,4,5,21,22]) (body:=A3q a0 n) (fun x=>[(1,.ptr (H.length + 0) 0),(2,.seq 1 (x.2.2.map cI)),(4,.ptr (H.length + 2) 0),(5,.b x.2.1),(21,.i n),(22,.i x.1)]) (fun g x=>H++lB a0 (.seq 1 (g.1.map cI)) (tlB g.2))
  (fun r e s' H'=>e = .exit 0∧s' = [(2,.seq 1 (r.map cI))]∧∃ l',H' = H++l') (fun _=>rfl) (by decide) ?_ ho (a0.Bill,[])) ?_
 ·intro g x o' hb
  unfold A3q at hb
  refine s0<|A0 (F8 rfl rfl) rfl<|es (ra7 rfl rfl rfl rfl rfl rfl rfl)<|B6<|wi hb rfl (fun hc hb=>?_) fun hc hb=>?_
  ·refine oB hb fun l hl hb=>oB hb fun skip hsk hb=>?_
   refine C1<|B6<|C5<|s0<|qm rfl<|qm rfl<|es (ra7 rfl rfl rfl rfl rfl rfl rfl)<|s0<|qm rfl<|B4 (rs:=[.seq 1 (l.map cI)]) rfl rfl (A1 rfl B5) ((C6d hl).frz)<|qm rfl<|es (ra8 rfl rfl rfl rfl rfl rfl rfl rfl)<|B6<|s0<|qm rfl<|qm rfl ?_
   refine gp 19 47 (.b skip) 28 rfl rfl (fun hg1=>?_) (fun hg1=>?_) ?_
   ·unfold A4t at hsk
    rw [if_pos hg1] at hsk
    refine gT rfl hg1<|qm rfl<|gT rfl hg1<|A0 (D8 (f:=cI) rfl) rfl<|gT rfl hg1<|qm rfl<|gT rfl hg1<|A0 (D8 (f:=cI) rfl) rfl<|gT rfl hg1<|A0 (A0a rfl rfl) rfl<|gT rfl hg1<|qm rfl ?_
    cases h2:decide ((l.length:Int) > (x.2.2.length:Int)) with
    | true =>
     rw [if_pos h2] at hsk
     cases hsk
     exact nF rfl rfl rfl<|nF rfl rfl rfl<|nF rfl rfl rfl<|nF rfl rfl rfl<|nF rfl rfl rfl<|nF rfl rfl rfl<|gV rfl rfl<|gV rfl rfl<|gU rfl rfl<|gV rfl rfl<|nF rfl rfl rfl<|gT rfl hg1<|A0 (D0 rfl rfl rfl) rfl<|A0 (D0 rfl hg1 rfl) rfl<|ge 19 rfl rfl rfl
    | false =>
     rw [if_neg (by rw [h2]; decide)] at hsk
     refine gF rfl rfl<|qm rfl<|gF rfl rfl<|A0 (D8 (f:=cI) rfl) rfl<|gF rfl rfl<|qm rfl<|gF rfl rfl<|A0 (D8 (f:=cI) rfl) rfl<|gF rfl rfl<|A0 (F7 rfl rfl) rfl<|gF rfl rfl<|qm rfl ?_
     cases h3:((l.length:Int) == (x.2.2.length:Int)) with
     | true =>
      rw [if_pos h3] at hsk
      refine oB hsk fun z hz hsk=>?_
      cases hsk
      exact gT rfl rfl<|qm rfl<|gT rfl rfl<|qm rfl<|gT rfl rfl<|B4 (rs:=[.i z]) rfl rfl (A1 rfl (A1 rfl B5)) ((A9e hz).frz)<|gT rfl rfl<|A0 (A0a rfl rfl) rfl<|gF rfl rfl<|A0 (D0 rfl rfl rfl) rfl<|gT rfl hg1<|A0 (D1 rfl rfl rfl) rfl<|A0 (D0 rfl hg1 rfl) rfl<|ge 19 rfl rfl rfl
     | false =>
      rw [if_neg (by rw [h3]; decide)] at hsk
      cases hsk
      exact nT rfl rfl rfl<|nT rfl rfl rfl<|gN rfl rfl rfl<|nT rfl rfl rfl<|gF rfl rfl<|A0 (D1 rfl rfl rfl) rfl<|gT rfl hg1<|A0 (D1 rfl rfl rfl) rfl<|A0 (D0 rfl hg1 rfl) rfl<|ge 19 rfl rfl rfl
   ·unfold A4t at hsk
    rw [if_neg (by rw [hg1]; decide)] at hsk
    cases hsk
    exact nT rfl hg1 rfl<|nT rfl hg1 rfl<|nT rfl hg1 rfl<|nT rfl hg1 rfl<|nT rfl hg1 rfl<|nT rfl hg1 rfl<|gV rfl rfl<|gV rfl rfl<|gV rfl rfl<|gV rfl rfl<|gV rfl rfl<|gV rfl rfl<|gV rfl rfl<|gV rfl rfl<|gU rfl rfl<|gV rfl rfl<|gV rfl rfl<|nT rfl hg1 rfl<|A0 (D1 rfl hg1 rfl) rfl<|ge 19 rfl rfl rfl
   refine es (ra9 rfl rfl rfl rfl rfl rfl rfl rfl rfl)<|wi hb rfl (fun hc2 hb=>?_) fun hc2 hb=>?_
   ·refine E4<|r0<|A0 (E1 rfl rfl) rfl<|qm rfl<|en (ra6 rfl rfl rfl rfl rfl rfl) ?_
    cases hb
    exact ⟨rfl,su6 rfl rfl rfl rfl rfl rfl,g,rfl⟩
   refine oB hb fun b hb2 hb=>oB hb fun k hk hb=>?_
   refine C1<|sg ((tlB g.2).length + 3) rfl<|qm rfl<|A0 (P2 rfl rfl) rfl<|A0 (C4 rfl) rfl<|A0 (C4 rfl) rfl<|F0 (D55 (cs:=B2l a0 (.seq 1 (g.1.map cI))) (ds:=B2l a0 (.asl (H.length + ((tlB g.2).length + 3 + 0)) 0)) rfl rfl rfl (U9 (Nat.le_add_right _ _)) rfl) rfl<|es (ra8 rfl rfl rfl rfl rfl rfl rfl rfl) ?_
   have e1:((lB a0 (.seq 1 (g.1.map cI)) (tlB g.2)++List.replicate 1 AO.dead).set ((tlB g.2).length + 3 + 0) (.arr 1 false [])).set 2 (.cells (B2l a0 (.asl (H.length + ((tlB g.2).length + 3 + 0)) 0))) = lB a0 (.asl (H.length + ((tlB g.2).length + 3)) 0) (tlB g.2++[arB false []]):= by
    show (AO.cells _ :: AO.cells _ :: AO.cells _ :: ((tlB g.2++[AO.dead]).set (tlB g.2).length (.arr 1 false []))) = _
    rw [C7t _ _ _ rfl]; rfl
   rw [e1]
   have hlN:∀v q,(lB a0 v (tlB g.2++[q])).length = (tlB g.2).length + 4:=fun v q=>by simp [lB]
   have hget:∀v q,(lB a0 v (tlB g.2++[q]))[(tlB g.2).length + 3]? = some q:=fun v q=>D5n (tlB g.2) q rfl
   have hset:∀v q q',(lB a0 v (tlB g.2++[q])).set ((tlB g.2).length + 3) q' = lB a0 v (tlB g.2++[q']):=fun v q q'=>by
    show (AO.cells _ :: AO.cells _ :: AO.cells _ :: ((tlB g.2++[q]).set (tlB g.2).length q')) = _
    rw [C7t _ _ _ rfl]; rfl
   refine B6<|s0<|A0 (C4 rfl) rfl<|A0 (C3 rfl rfl rfl) rfl<|A0 (D8 (f:=cI) rfl) rfl<|qm rfl<|es (ra11 rfl rfl rfl rfl rfl rfl rfl rfl rfl rfl rfl)<|C5<|wl (fun y=>[(1,.ptr (H.length + 0) 0),(2,.seq 1 (x.2.2.map cI)),(4,.ptr (H.length + 2) 0),(5,.b x.2.1),(6,.i x.1),(7,.seq 1 (l.map cI)),(21,.i n),(22,.i x.1),(53,.seq 1 (a0.Bill.map cI)),(54,.i (List.length a0.Bill:Int)),(55,.i y.1)]) (fun (q2:Unit) y=>lB a0 (.asl (H.length + ((tlB g.2).length + 3)) y.2.length) (tlB g.2++[arB false y.2])) ((tlB g.2).length + 4) (fun r e s' H'=>PX 2 [(1,.ptr (H.length + 0) 0),(2,.seq 1 (x.2.2.map cI)),(4,.ptr (H.length + 2) 0),(5,.b x.2.1),(7,.seq 1 (l.map cI)),(21,.i n),(22,.i x.1)] (H++lB a0 (.asl (H.length + ((tlB g.2).length + 3)) r.length) (tlB g.2++[arB false r])) e s' H') () hb2 rfl rfl (fun _ _=>hlN _ _) (fun _=>rfl) rfl (fun y=>(bdc (D4 rfl) (bdc G7 (bdc (D4 rfl) (bdc A5 (bdc A5 (bdc G7 (bdc A5 (bdc A5 (bdc G7 (bdc A5 (bdc A5 bdn)))))))))))) (fun q2 y o' hy=>?_) ?_
   ·unfold A2a at hy
    refine s0<|A0 (F8 rfl rfl) rfl<|es (ra12 rfl rfl rfl rfl rfl rfl rfl rfl rfl rfl rfl rfl)<|B6<|wi hy rfl (fun hc3 hy=>?_) fun hc3 hy=>?_
    ·refine oB hy fun z hz hy=>oB hy fun q hq hy=>?_
     refine C1<|B6<|C5<|s0<|qm rfl<|A0 (E6 (f:=cI) rfl rfl hz) rfl<|A0 (E9 rfl rfl) rfl<|qm rfl<|qm rfl<|es (ra13 rfl rfl rfl rfl rfl rfl rfl rfl rfl rfl rfl rfl rfl)<|s0<|qm rfl<|qm rfl<|A0 (B19 rfl rfl hq) rfl<|A0 (F9 (v:=(.i (B4z q 1))) rfl rfl rfl) rfl<|A0 (F7 rfl rfl) rfl<|es (ra13 rfl rfl rfl rfl rfl rfl rfl rfl rfl rfl rfl rfl rfl)<|wi hy rfl (fun hc4 hy=>?_) fun hc4 hy=>?_
     ·refine oB hy fun w hw hy=>?_
      refine r0<|qm rfl<|qm rfl<|A0 (P2 rfl rfl) rfl<|A0 (C4 rfl) rfl<|A0 (C4 rfl) rfl<|A0 (C3 rfl rfl rfl) rfl<|qm rfl<|A0 (J5 (rows:=[[.i z]]) rfl rfl rfl) rfl<|A5a (V6 (f:=cI) (d:=y.2) (m:=[z]) rfl rfl (hget _ _) rfl R8 (fun _=>rfl) hw) rfl<|A0 (P2 rfl rfl) rfl<|A0 (C4 rfl) rfl<|A0 (C4 rfl) rfl ?_
      rw [hset]
      refine F0 (C7 (ds:=B2l a0 (.asl (H.length + ((tlB g.2).length + 3)) w.length)) rfl rfl rfl rfl (D8a ?_ ?_) rfl) rfl<|en (ra11 rfl rfl rfl rfl rfl rfl rfl rfl rfl rfl rfl)<|r0<|A0 (E1 rfl rfl) rfl<|qm rfl<|en (ra11 rfl rfl rfl rfl rfl rfl rfl rfl rfl rfl rfl) ?_
      ·simp only [AV.bd]; exact Nat.ble_eq_true_of_le (by omega)
      ·exact E1x (Nat.le_add_right _ _) (D9w hscv)
      cases hy
      exact lnT () (List.take_of_length_le (Nat.le_of_eq (hlN _ _))) (su11 rfl rfl rfl rfl rfl rfl rfl rfl rfl rfl rfl)
     ·refine C1<|r0<|A0 (E1 rfl rfl) rfl<|qm rfl<|en (ra11 rfl rfl rfl rfl rfl rfl rfl rfl rfl rfl rfl) ?_
      cases hy
      exact lnT () (List.take_of_length_le (Nat.le_of_eq (hlN _ _))) (su11 rfl rfl rfl rfl rfl rfl rfl rfl rfl rfl rfl)
    ·refine E4 ?_
     obtain rfl:=os hy
     exact lx rfl px (su7 rfl rfl rfl rfl rfl rfl rfl)
   rintro e s' H' - ⟨rfl,rfl,rfl⟩
   have hfz:A1d (H++lB a0 (.asl (H.length + ((tlB g.2).length + 3)) b.length) (tlB g.2++[arB false b])) (B2l a0 (.asl (H.length + ((tlB g.2).length + 3)) b.length)) = some (B2l a0 (.seq 1 (b.map cI)),H++lB a0 (.asl (H.length + ((tlB g.2).length + 3)) b.length) (tlB g.2++[arB true b])):= by
    have h1:frv (H++lB a0 (.asl (H.length + ((tlB g.2).length + 3)) b.length) (tlB g.2++[arB false b])) (.asl (H.length + ((tlB g.2).length + 3)) b.length) = some (.seq 1 (b.map cI),H++lB a0 (.asl (H.length + ((tlB g.2).length + 3)) b.length) (tlB g.2++[arB true b])):= by
     have:=C0p (H0:=H) (l:=lB a0 (.asl (H.length + ((tlB g.2).length + 3)) b.length) (tlB g.2++[arB false b])) (hget _ (arB false b)) (List.length_map (cI))
     rw [hset] at this
     exact this
    exact fvc rfl<|fvc rfl<|fvc rfl<|fvc rfl<|fvc rfl<|fvc rfl<|fvc h1<|fvc rfl rfl
   have e2:(lB a0 (.asl (H.length + ((tlB g.2).length + 3)) b.length) (tlB g.2++[arB true b])).set 2 (.cells (B2l a0 (.seq 1 (b.map cI)))) = lB a0 (.seq 1 (b.map cI)) (tlB (g.2++[b])):= by
    show (AO.cells _ :: AO.cells _ :: AO.cells _ :: (tlB g.2++[arB true b])) = _
    unfold lB tlB
    rw [List.map_append]; rfl
   refine B6<|E18 (D8i rfl rfl hfz rfl) ?_
   rw [e2]
   have hcan:F1 tab ⟨H.length,c.cur :: c.outer⟩ (H++lB a0 (.seq 1 (b.map cI)) (tlB (g.2++[b]))) (.fn (.func 97) [] []) [.ptr (H.length + 2) 0] [.b k]:=B6q (a0:=⟨A7i a0 b⟩) (b0:=H.length + 2) (A4h hscv) (D7d hcl (E1a a0 b _)) (D9 (l:=lB a0 (.seq 1 (b.map cI)) (tlB (g.2++[b]))) rfl) hk
   refine r0<|qm rfl<|B4 (rs:=[.b k]) rfl rfl (A1 rfl B5) (hcan.frz)<|es (ra8 rfl rfl rfl rfl rfl rfl rfl rfl) ?_
   cases k with
   | true =>
    refine H9 rfl rfl<|r0<|qm rfl<|qm rfl<|qm rfl<|en (ra6 rfl rfl rfl rfl rfl rfl)<|r0<|A0 (E1 rfl rfl) rfl<|qm rfl<|en (ra6 rfl rfl rfl rfl rfl rfl) ?_
    cases hb
    exact ⟨rfl,su6 rfl rfl rfl rfl rfl rfl,(b,g.2++[b]),rfl⟩
   | false =>
    refine Q9 rfl rfl<|C1<|r0<|A0 (E1 rfl rfl) rfl<|qm rfl<|en (ra6 rfl rfl rfl rfl rfl rfl) ?_
    cases hb
    exact ⟨rfl,su6 rfl rfl rfl rfl rfl rfl,(b,g.2++[b]),rfl⟩
  ·refine E4 ?_
   cases hb
   exact ⟨rfl,_,su1 rfl,rfl,rfl,_,rfl⟩
 ·intro e s' H' q
  obtain ⟨_,rfl,rfl,l',rfl⟩:=q
  cases h
  refine s0<|qm rfl<|qm rfl<|qm rfl<|es (ra2 rfl rfl)<|C6 ?_
  exact retq trivial (B1 rfl (B1 rfl B9)) (A4 rfl (A4 rfl B8)) (A3 G7 (A3 A5 B3))
theorem A8u {c:Sc} {H:A7} (hscv:A0j c H = true) {a0:RoHouse} {r:((List Int) × Int)} (h:A5r a0 = some r) :
  F1 tab c H (.fn (.func 36) [] []) [(.agg (A2 a0))] [(.seq 1 (List.map cI r.1)),.i r.2]:=B2n B3z (B9e (c:=⟨0,[]⟩) (H:=[]) rfl rfl h) (by simp [freeL,AV.free,L3]) (by simp [freeL,AV.free,J8,cI]) hscv
end Rm
end
section
set_option maxRecDepth 100000
set_option maxHeartbeats 0
namespace Rm
open Go Am Go.Proofs.YtbheamjhjgoccaaDoor.Cd
def M0 :Option Bool :=
 (A3f [3]).bind fun x1 =>
 (A3f ([]:List Int)).bind fun x2 =>
 (W1 x1 1 1).bind fun x3 =>
 (U4 x1 0 1 1).bind fun x4 =>
 (U4 x1 2 1 1).bind fun x5 =>
 (T2 x1).bind fun x6 =>
 (A3g 1 [1,(-1),2]).bind fun x7 =>
 (A5h x1 x7).bind fun x8 =>
 (A3g 1 [1,0,2]).bind fun x9 =>
 (A3t x1 x9).bind fun x10 =>
 (A3f [1,3]).bind fun x11 =>
 (A5r x11).bind fun x12 =>
 (A3v x1).bind fun x13 =>
 (A3v x2).bind fun x14 =>
 (A84 x1 0).bind fun x15 =>
 (A3u x1 x6.1).bind fun x16 =>
 (if (((((((((((x3.2 == 0) && (x4.2 == 0)) && (x5.2 == 0)) && (x6.2.2 == 0)) && (x8.2 == 9)) && (x10.2 == 0)) && (x12.2 == 0)) && (x13.2 == 0)) && (x14.2 == 0)) && (x15.2 == 0)) && (x16.2.2 == 0)) = true then
  (S7 45 70).bind fun x28 =>
  some ((x3.1.Lo == x28.Lo) && ((x3.1.Hi == x28.Hi) && true))
 else
  some false).bind fun x29 =>
 (if ((x29 && (x4.1 == 1)) && (x5.1 == 0)) = true then
  (A3g 1 [(-1),0,2]).bind fun x33 =>
  (A5e x6.1 x33).bind fun x34 =>
  some x34
 else
  some false).bind fun x35 =>
 (if (x35 && (x6.2.1 == 12)) = true then
  (X5 x10.1 [350,320]).bind fun x38 =>
  some x38
 else
  some false).bind fun x39 =>
 (if x39 = true then
  (X5 x12.1 [0]).bind fun x41 =>
  some x41
 else
  some false).bind fun x42 =>
 (if x42 = true then
  (X5 x13.1 [0]).bind fun x44 =>
  some x44
 else
  some false).bind fun x45 =>
 some ((((x45 && ((List.length x14.1:Int) == 0)) && (x15.1 == 1)) && (x16.1 == 1)) && (x16.2.1 == 0))
theorem M2 {c:Sc} {H:A7} (hscv:A0j c H = true)  {r:Bool} (h:M0  = some r) :
  F1 tab c H (.fn (.func 23) [] []) [] [.b r]:= by
 unfold M0 at h
 refine cE rfl rfl<|s0<|qm rfl<|es .n<|sg 0 rfl<|oB h fun x1 hx1 h=>oB h fun x2 hx2 h=>A0 (J5 (rows:=List.map cI [3]) rfl rfl (E2 (fun _=>rfl) _)) rfl<|B4 (rs:=[(.agg (A2 x1))]) rfl rfl (A1 rfl B5) ((A3h hx1).frz)<|B4 (rs:=[(.agg (A2 x2))]) rfl rfl (A1 rfl B5) ((A3h hx2).frz)<|A0 D6 rfl<|A0 D6 rfl<|F0 (C7 (ds:=(A2 x1)) rfl rfl rfl rfl (C0 rfl) rfl) rfl<|F0 (C7 (ds:=(A2 x2)) rfl rfl rfl rfl (C0 rfl) rfl) rfl<|es (ra2 rfl rfl)<|sg 2 rfl<|oB h fun x3 hx3 h=>A0 (C2 rfl rfl rfl) rfl<|B4 (rs:=[(.agg (D5 x3.1)),.i x3.2]) rfl rfl (A1 (C8 rfl) (A1 rfl (A1 rfl B5))) ((A3j hx3).frz)<|qm rfl<|A0 (A6 rfl rfl) rfl<|A0 (A6 rfl rfl) rfl<|A0 D6 rfl<|F0 (C7 (ds:=(D5 x3.1)) rfl rfl rfl rfl (C0 rfl) rfl) rfl<|qm rfl<|es (ra4 rfl rfl rfl rfl)<|s0<|oB h fun x4 hx4 h=>A0 (C2 rfl rfl rfl) rfl<|B4 (rs:=[.i x4.1,.i x4.2]) rfl rfl (A1 (C8 rfl) (A1 rfl (A1 rfl (A1 rfl B5)))) ((A2n hx4).frz)<|qm rfl<|A0 (A6 rfl rfl) rfl<|A0 (A6 rfl rfl) rfl<|qm rfl<|qm rfl<|es (ra6 rfl rfl rfl rfl rfl rfl)<|s0<|oB h fun x5 hx5 h=>A0 (C2 rfl rfl rfl) rfl<|B4 (rs:=[.i x5.1,.i x5.2]) rfl rfl (A1 (C8 rfl) (A1 rfl (A1 rfl (A1 rfl B5)))) ((A2n hx5).frz)<|qm rfl<|A0 (A6 rfl rfl) rfl<|A0 (A6 rfl rfl) rfl<|qm rfl<|qm rfl<|es (ra8 rfl rfl rfl rfl rfl rfl rfl rfl)<|sg 3 rfl<|oB h fun x6 hx6 h=>A0 (C2 rfl rfl rfl) rfl<|B4 (rs:=[(.agg (B2 x6.1)),.i x6.2.1,.i x6.2.2]) rfl rfl (A1 (C8 rfl) B5) (V0 (A4h hscv) hx6)<|qm rfl<|A0 (A6 rfl rfl) rfl<|A0 (A6 rfl rfl) rfl<|A0 (A6 rfl rfl) rfl<|A0 D6 rfl<|F0 (C7 (ds:=(B2 x6.1)) rfl rfl rfl rfl (C0 rfl) rfl) rfl<|qm rfl<|qm rfl<|es (ra11 rfl rfl rfl rfl rfl rfl rfl rfl rfl rfl rfl)<|s0<|oB h fun x7 hx7 h=>?_
 refine oB h fun x8 hx8 h=>A0 (C2 rfl rfl rfl) rfl<|A0 (J5 (rows:=List.map cI [1,(-1),2]) rfl rfl (E2 (fun _=>rfl) _)) rfl<|Y0 (rs:=[(.agg (B2 x7))]) rfl rfl (K9 rfl (K9 rfl A26)) (A1 rfl (A1 rfl B5)) ((A2y hx7).frz)<|B4 (rs:=[.i x8.1,.i x8.2]) rfl rfl (A1 (C8 rfl) (A1 (C8 rfl) B5)) ((A96 hx8).frz)<|qm rfl<|A0 (A6 rfl rfl) rfl<|A0 (A6 rfl rfl) rfl<|qm rfl<|qm rfl<|es (ra12 rfl rfl rfl rfl rfl rfl rfl rfl rfl rfl rfl rfl)<|s0<|oB h fun x9 hx9 h=>oB h fun x10 hx10 h=>A0 (C2 rfl rfl rfl) rfl<|A0 (J5 (rows:=List.map cI [1,0,2]) rfl rfl (E2 (fun _=>rfl) _)) rfl<|Y0 (rs:=[(.agg (B2 x9))]) rfl rfl (K9 rfl (K9 rfl A26)) (A1 rfl (A1 rfl B5)) ((A2y hx9).frz)<|B4 (rs:=[(.seq 1 (List.map cI x10.1)),.i x10.2]) rfl rfl (A1 (C8 rfl) (A1 (C8 rfl) B5)) ((A63 hx10).frz)<|qm rfl<|A0 (A6 rfl rfl) rfl<|A0 (A6 rfl rfl) rfl<|qm rfl<|qm rfl<|es (ra14 rfl rfl rfl rfl rfl rfl rfl rfl rfl rfl rfl rfl rfl rfl)<|s0<|oB h fun x11 hx11 h=>oB h fun x12 hx12 h=>A0 (J5 (rows:=List.map cI [1,3]) rfl rfl (E2 (fun _=>rfl) _)) rfl<|B4 (rs:=[(.agg (A2 x11))]) rfl rfl (A1 rfl B5) ((A3h hx11).frz)<|B4 (rs:=[(.seq 1 (List.map cI x12.1)),.i x12.2]) rfl rfl (A1 (C8 rfl) B5) ((A8u (A4h hscv) hx12).frz)<|qm rfl<|A0 (A6 rfl rfl) rfl<|A0 (A6 rfl rfl) rfl<|qm rfl<|qm rfl<|es (.k rfl (.k rfl (.k rfl (.k rfl (.k rfl (.k rfl (.k rfl (.k rfl (.k rfl (.k rfl (.k rfl (.k rfl (.k rfl (.k rfl (.k rfl (.k rfl .n))))))))))))))))<|s0<|oB h fun x13 hx13 h=>A0 (C2 rfl rfl rfl) rfl<|B4 (rs:=[(.seq 1 (List.map cI x13.1)),.i x13.2]) rfl rfl (A1 (C8 rfl) B5) ((A95 (A4h hscv) hx13).frz)<|qm rfl<|A0 (A6 rfl rfl) rfl<|A0 (A6 rfl rfl) rfl<|qm rfl<|qm rfl<|es (.k rfl (.k rfl (.k rfl (.k rfl (.k rfl (.k rfl (.k rfl (.k rfl (.k rfl (.k rfl (.k rfl (.k rfl (.k rfl (.k rfl (.k rfl (.k rfl (.k rfl (.k rfl .n))))))))))))))))))<|s0<|oB h fun x14 hx14 h=>A0 (C2 rfl rfl rfl) rfl<|B4 (rs:=[(.seq 1 (List.map cI x14.1)),.i x14.2]) rfl rfl (A1 (C8 rfl) B5) ((A95 (A4h hscv) hx14).frz)<|qm rfl<|A0 (A6 rfl rfl) rfl<|A0 (A6 rfl rfl) rfl<|qm rfl<|qm rfl<|es (.k rfl (.k rfl (.k rfl (.k rfl (.k rfl (.k rfl (.k rfl (.k rfl (.k rfl (.k rfl (.k rfl (.k rfl (.k rfl (.k rfl (.k rfl (.k rfl (.k rfl (.k rfl (.k rfl .n)))))))))))))))))))<|s0<|oB h fun x15 hx15 h=>A0 (C2 rfl rfl rfl) rfl<|B4 (rs:=[.i x15.1,.i x15.2]) rfl rfl (A1 (C8 rfl) (A1 rfl B5)) ((A94 hx15).frz)<|qm rfl ?_
 refine A0 (A6 rfl rfl) rfl<|A0 (A6 rfl rfl) rfl<|qm rfl<|qm rfl<|es (.k rfl (.k rfl (.k rfl (.k rfl (.k rfl (.k rfl (.k rfl (.k rfl (.k rfl (.k rfl (.k rfl (.k rfl (.k rfl (.k rfl (.k rfl (.k rfl (.k rfl (.k rfl (.k rfl (.k rfl (.k rfl .n)))))))))))))))))))))<|s0<|oB h fun x16 hx16 h=>A0 (C2 rfl rfl rfl) rfl<|A0 (C2 rfl rfl rfl) rfl<|B4 (rs:=[.i x16.1,.i x16.2.1,.i x16.2.2]) rfl rfl (A1 (C8 rfl) (A1 (C8 rfl) B5)) ((A8v hx16).frz)<|qm rfl<|A0 (A6 rfl rfl) rfl<|A0 (A6 rfl rfl) rfl<|A0 (A6 rfl rfl) rfl<|qm rfl<|qm rfl<|qm rfl<|es (.k rfl (.k rfl (.k rfl (.k rfl (.k rfl (.k rfl (.k rfl (.k rfl (.k rfl (.k rfl (.k rfl (.k rfl (.k rfl (.k rfl (.k rfl (.k rfl (.k rfl (.k rfl (.k rfl (.k rfl (.k rfl (.k rfl (.k rfl .n)))))))))))))))))))))))<|s0<|oB h fun x29 hx29 h=>oB h fun x35 hx35 h=>oB h fun x39 hx39 h=>oB h fun x42 hx42 h=>oB h fun x45 hx45 h=>qm rfl<|A0 (F7 rfl rfl) rfl<|qm rfl<|gp 3 98 (.b ((x3.2 == 0) && (x4.2 == 0))) 95 rfl rfl (fun hg17=>?_) (fun hg17=>?_) ?_
 ·exact gT rfl hg17<|qm rfl<|gT rfl hg17<|A0 (F7 rfl rfl) rfl<|A0 (D0 rfl hg17 rfl) rfl<|ge 3 (by rw [hg17]; rfl) rfl rfl
 ·exact nT rfl hg17 rfl<|nT rfl hg17 rfl<|A0 (D1 rfl hg17 rfl) rfl<|ge 3 (by rw [hg17]; rfl) rfl rfl
 refine qm rfl<|gp 3 102 (.b (((x3.2 == 0) && (x4.2 == 0)) && (x5.2 == 0))) 99 rfl rfl (fun hg18=>?_) (fun hg18=>?_) ?_
 ·exact gT rfl hg18<|qm rfl<|gT rfl hg18<|A0 (F7 rfl rfl) rfl<|A0 (D0 rfl hg18 rfl) rfl<|ge 3 (by rw [hg18]; rfl) rfl rfl
 ·exact nT rfl hg18 rfl<|nT rfl hg18 rfl<|A0 (D1 rfl hg18 rfl) rfl<|ge 3 (by rw [hg18]; rfl) rfl rfl
 refine qm rfl<|gp 3 106 (.b ((((x3.2 == 0) && (x4.2 == 0)) && (x5.2 == 0)) && (x6.2.2 == 0))) 103 rfl rfl (fun hg19=>?_) (fun hg19=>?_) ?_
 ·exact gT rfl hg19<|qm rfl<|gT rfl hg19<|A0 (F7 rfl rfl) rfl<|A0 (D0 rfl hg19 rfl) rfl<|ge 3 (by rw [hg19]; rfl) rfl rfl
 ·exact nT rfl hg19 rfl<|nT rfl hg19 rfl<|A0 (D1 rfl hg19 rfl) rfl<|ge 3 (by rw [hg19]; rfl) rfl rfl
 refine qm rfl<|gp 3 110 (.b (((((x3.2 == 0) && (x4.2 == 0)) && (x5.2 == 0)) && (x6.2.2 == 0)) && (x8.2 == 9))) 107 rfl rfl (fun hg20=>?_) (fun hg20=>?_) ?_
 ·exact gT rfl hg20<|qm rfl<|gT rfl hg20<|A0 (F7 rfl rfl) rfl<|A0 (D0 rfl hg20 rfl) rfl<|ge 3 (by rw [hg20]; rfl) rfl rfl
 ·exact nT rfl hg20 rfl<|nT rfl hg20 rfl<|A0 (D1 rfl hg20 rfl) rfl<|ge 3 (by rw [hg20]; rfl) rfl rfl
 refine qm rfl<|gp 3 114 (.b ((((((x3.2 == 0) && (x4.2 == 0)) && (x5.2 == 0)) && (x6.2.2 == 0)) && (x8.2 == 9)) && (x10.2 == 0))) 111 rfl rfl (fun hg21=>?_) (fun hg21=>?_) ?_
 ·exact gT rfl hg21<|qm rfl<|gT rfl hg21<|A0 (F7 rfl rfl) rfl<|A0 (D0 rfl hg21 rfl) rfl<|ge 3 (by rw [hg21]; rfl) rfl rfl
 ·exact nT rfl hg21 rfl<|nT rfl hg21 rfl<|A0 (D1 rfl hg21 rfl) rfl<|ge 3 (by rw [hg21]; rfl) rfl rfl
 refine qm rfl<|gp 3 118 (.b (((((((x3.2 == 0) && (x4.2 == 0)) && (x5.2 == 0)) && (x6.2.2 == 0)) && (x8.2 == 9)) && (x10.2 == 0)) && (x12.2 == 0))) 115 rfl rfl (fun hg22=>?_) (fun hg22=>?_) ?_
 ·exact gT rfl hg22<|qm rfl<|gT rfl hg22<|A0 (F7 rfl rfl) rfl<|A0 (D0 rfl hg22 rfl) rfl<|ge 3 (by rw [hg22]; rfl) rfl rfl
 ·exact nT rfl hg22 rfl<|nT rfl hg22 rfl<|A0 (D1 rfl hg22 rfl) rfl<|ge 3 (by rw [hg22]; rfl) rfl rfl
 refine qm rfl<|gp 3 122 (.b ((((((((x3.2 == 0) && (x4.2 == 0)) && (x5.2 == 0)) && (x6.2.2 == 0)) && (x8.2 == 9)) && (x10.2 == 0)) && (x12.2 == 0)) && (x13.2 == 0))) 119 rfl rfl (fun hg23=>?_) (fun hg23=>?_) ?_
 ·exact gT rfl hg23<|qm rfl<|gT rfl hg23<|A0 (F7 rfl rfl) rfl<|A0 (D0 rfl hg23 rfl) rfl<|ge 3 (by rw [hg23]; rfl) rfl rfl
 ·exact nT rfl hg23 rfl<|nT rfl hg23 rfl<|A0 (D1 rfl hg23 rfl) rfl<|ge 3 (by rw [hg23]; rfl) rfl rfl
 refine qm rfl<|gp 3 126 (.b (((((((((x3.2 == 0) && (x4.2 == 0)) && (x5.2 == 0)) && (x6.2.2 == 0)) && (x8.2 == 9)) && (x10.2 == 0)) && (x12.2 == 0)) && (x13.2 == 0)) && (x14.2 == 0))) 123 rfl rfl (fun hg24=>?_) (fun hg24=>?_) ?_
 ·exact gT rfl hg24<|qm rfl<|gT rfl hg24<|A0 (F7 rfl rfl) rfl<|A0 (D0 rfl hg24 rfl) rfl<|ge 3 (by rw [hg24]; rfl) rfl rfl
 ·exact nT rfl hg24 rfl<|nT rfl hg24 rfl<|A0 (D1 rfl hg24 rfl) rfl<|ge 3 (by rw [hg24]; rfl) rfl rfl
 refine qm rfl<|gp 3 130 (.b ((((((((((x3.2 == 0) && (x4.2 == 0)) && (x5.2 == 0)) && (x6.2.2 == 0)) && (x8.2 == 9)) && (x10.2 == 0)) && (x12.2 == 0)) && (x13.2 == 0)) && (x14.2 == 0)) && (x15.2 == 0))) 127 rfl rfl (fun hg25=>?_) (fun hg25=>?_) ?_
 ·exact gT rfl hg25<|qm rfl<|gT rfl hg25<|A0 (F7 rfl rfl) rfl<|A0 (D0 rfl hg25 rfl) rfl<|ge 3 (by rw [hg25]; rfl) rfl rfl
 ·exact nT rfl hg25 rfl<|nT rfl hg25 rfl<|A0 (D1 rfl hg25 rfl) rfl<|ge 3 (by rw [hg25]; rfl) rfl rfl
 refine qm rfl<|gp 3 134 (.b (((((((((((x3.2 == 0) && (x4.2 == 0)) && (x5.2 == 0)) && (x6.2.2 == 0)) && (x8.2 == 9)) && (x10.2 == 0)) && (x12.2 == 0)) && (x13.2 == 0)) && (x14.2 == 0)) && (x15.2 == 0)) && (x16.2.2 == 0))) 131 rfl rfl (fun hg26=>?_) (fun hg26=>?_) ?_
 ·exact gT rfl hg26<|qm rfl<|gT rfl hg26<|A0 (F7 rfl rfl) rfl<|A0 (D0 rfl hg26 rfl) rfl<|ge 3 (by rw [hg26]; rfl) rfl rfl
 ·exact nT rfl hg26 rfl<|nT rfl hg26 rfl<|A0 (D1 rfl hg26 rfl) rfl<|ge 3 (by rw [hg26]; rfl) rfl rfl
 refine qm rfl<|gp 4 139 (.b x29) 135 rfl rfl (fun hg27=>?_) (fun hg27=>?_) ?_
 ·refine oB (bt hx29 hg27) fun x28 hx28 hx29=>?_
  obtain rfl:=os hx29
  exact gT rfl hg27<|A0 (C2 rfl rfl rfl) rfl<|gT rfl hg27<|Y0 (rs:=[(.agg (D5 x28))]) rfl rfl (K9 rfl (K9 rfl A26)) (A1 rfl (A1 rfl B5)) ((Q5 hx28).frz)<|gT rfl hg27<|A0 (C58 (a:=D5 x3.1) (b:=D5 x28) rfl rfl rfl rfl (A28 (A28 B5y))) rfl<|A0 (D0 rfl hg27 rfl) rfl<|ge 4 rfl rfl rfl
 ·obtain rfl:=os (bf hx29 hg27)
  exact nT rfl hg27 rfl<|nT rfl hg27 rfl<|nT rfl hg27 rfl<|A0 (D1 rfl hg27 rfl) rfl<|ge 4 rfl rfl rfl
 refine qm rfl<|gp 3 143 (.b (x29 && (x4.1 == 1))) 140 rfl rfl (fun hg30=>?_) (fun hg30=>?_) ?_
 ·exact gT rfl hg30<|qm rfl<|gT rfl hg30<|A0 (F7 rfl rfl) rfl<|A0 (D0 rfl hg30 rfl) rfl<|ge 3 (by rw [hg30]; rfl) rfl rfl
 ·exact nT rfl hg30 rfl<|nT rfl hg30 rfl<|A0 (D1 rfl hg30 rfl) rfl<|ge 3 (by rw [hg30]; rfl) rfl rfl
 refine qm rfl<|gp 3 147 (.b ((x29 && (x4.1 == 1)) && (x5.1 == 0))) 144 rfl rfl (fun hg31=>?_) (fun hg31=>?_) ?_
 ·exact gT rfl hg31<|qm rfl<|gT rfl hg31<|A0 (F7 rfl rfl) rfl<|A0 (D0 rfl hg31 rfl) rfl<|ge 3 (by rw [hg31]; rfl) rfl rfl
 ·exact nT rfl hg31 rfl<|nT rfl hg31 rfl<|A0 (D1 rfl hg31 rfl) rfl<|ge 3 (by rw [hg31]; rfl) rfl rfl
 refine qm rfl<|gp 5 153 (.b x35) 148 rfl rfl (fun hg32=>?_) (fun hg32=>?_) ?_
 ·refine oB (bt hx35 hg32) fun x33 hx33 hx35=>oB hx35 fun x34 hx34 hx35=>?_
  obtain rfl:=os hx35
  exact gT rfl hg32<|A0 (C2 rfl rfl rfl) rfl<|gT rfl hg32<|A0 (J5 (rows:=List.map cI [(-1),0,2]) rfl rfl (E2 (fun _=>rfl) _)) rfl<|gT rfl hg32<|Y0 (rs:=[(.agg (B2 x33))]) rfl rfl (K9 rfl (K9 rfl A26)) (A1 rfl (A1 rfl B5)) ((A2y hx33).frz)<|gT rfl hg32<|B4 (rs:=[.b x34]) rfl rfl (A1 (C8 rfl) (A1 (C8 rfl) B5)) ((A93 hx34).frz)<|A0 (D0 rfl hg32 rfl) rfl<|ge 5 rfl rfl rfl
 ·obtain rfl:=os (bf hx35 hg32)
  exact nT rfl hg32 rfl<|nT rfl hg32 rfl<|nT rfl hg32 rfl<|I0 (F2 rfl (by rw [hg32]; rfl)) rfl<|A0 (D1 rfl hg32 rfl) rfl<|ge 5 rfl rfl rfl
 refine qm rfl<|gp 3 157 (.b (x35 && (x6.2.1 == 12))) 154 rfl rfl (fun hg36=>?_) (fun hg36=>?_) ?_
 ·exact gT rfl hg36<|qm rfl<|gT rfl hg36<|A0 (F7 rfl rfl) rfl<|A0 (D0 rfl hg36 rfl) rfl<|ge 3 (by rw [hg36]; rfl) rfl rfl
 ·exact nT rfl hg36 rfl<|nT rfl hg36 rfl<|A0 (D1 rfl hg36 rfl) rfl<|ge 3 (by rw [hg36]; rfl) rfl rfl
 refine qm rfl<|gp 4 162 (.b x39) 158 rfl rfl (fun hg37=>?_) (fun hg37=>?_) ?_
 ·refine oB (bt hx39 hg37) fun x38 hx38 hx39=>?_
  obtain rfl:=os hx39
  exact gT rfl hg37<|qm rfl<|gT rfl hg37<|A0 (J5 (rows:=List.map cI [350,320]) rfl rfl (E2 (fun _=>rfl) _)) rfl<|gT rfl hg37<|B4 (rs:=[.b x38]) rfl rfl (A1 rfl (A1 rfl B5)) ((A1i hx38).frz)<|A0 (D0 rfl hg37 rfl) rfl<|ge 4 rfl rfl rfl
 ·obtain rfl:=os (bf hx39 hg37)
  exact nT rfl hg37 rfl<|nT rfl hg37 rfl<|I0 (F2 rfl (by rw [hg37]; rfl)) rfl<|A0 (D1 rfl hg37 rfl) rfl<|ge 4 rfl rfl rfl
 refine qm rfl<|gp 4 167 (.b x42) 163 rfl rfl (fun hg40=>?_) (fun hg40=>?_) ?_
 ·refine oB (bt hx42 hg40) fun x41 hx41 hx42=>?_
  obtain rfl:=os hx42
  exact gT rfl hg40<|qm rfl<|gT rfl hg40<|A0 (J5 (rows:=List.map cI [0]) rfl rfl (E2 (fun _=>rfl) _)) rfl<|gT rfl hg40<|B4 (rs:=[.b x41]) rfl rfl (A1 rfl (A1 rfl B5)) ((A1i hx41).frz)<|A0 (D0 rfl hg40 rfl) rfl<|ge 4 rfl rfl rfl
 ·obtain rfl:=os (bf hx42 hg40)
  exact nT rfl hg40 rfl<|nT rfl hg40 rfl<|I0 (F2 rfl (by rw [hg40]; rfl)) rfl<|A0 (D1 rfl hg40 rfl) rfl<|ge 4 rfl rfl rfl
 refine qm rfl<|gp 4 172 (.b x45) 168 rfl rfl (fun hg43=>?_) (fun hg43=>?_) ?_
 ·refine oB (bt hx45 hg43) fun x44 hx44 hx45=>?_
  obtain rfl:=os hx45
  exact gT rfl hg43<|qm rfl<|gT rfl hg43<|A0 (J5 (rows:=List.map cI [0]) rfl rfl (E2 (fun _=>rfl) _)) rfl<|gT rfl hg43<|B4 (rs:=[.b x44]) rfl rfl (A1 rfl (A1 rfl B5)) ((A1i hx44).frz)<|A0 (D0 rfl hg43 rfl) rfl<|ge 4 rfl rfl rfl
 ·obtain rfl:=os (bf hx45 hg43)
  exact nT rfl hg43 rfl<|nT rfl hg43 rfl<|I0 (F2 rfl (by rw [hg43]; rfl)) rfl<|A0 (D1 rfl hg43 rfl) rfl<|ge 4 rfl rfl rfl
 refine qm rfl<|gp 4 177 (.b (x45 && ((List.length x14.1:Int) == 0))) 173 rfl rfl (fun hg46=>?_) (fun hg46=>?_) ?_
 ·exact gT rfl hg46<|qm rfl<|gT rfl hg46<|A0 (D8 (f:=cI) rfl) rfl<|gT rfl hg46<|A0 (F7 rfl rfl) rfl<|A0 (D0 rfl hg46 rfl) rfl<|ge 4 (by rw [hg46]; rfl) rfl rfl
 ·exact nT rfl hg46 rfl<|nT rfl hg46 rfl<|nT rfl hg46 rfl<|A0 (D1 rfl hg46 rfl) rfl<|ge 4 (by rw [hg46]; rfl) rfl rfl
 refine qm rfl<|gp 3 181 (.b ((x45 && ((List.length x14.1:Int) == 0)) && (x15.1 == 1))) 178 rfl rfl (fun hg47=>?_) (fun hg47=>?_) ?_
 ·exact gT rfl hg47<|qm rfl<|gT rfl hg47<|A0 (F7 rfl rfl) rfl<|A0 (D0 rfl hg47 rfl) rfl<|ge 3 (by rw [hg47]; rfl) rfl rfl
 ·exact nT rfl hg47 rfl<|nT rfl hg47 rfl<|A0 (D1 rfl hg47 rfl) rfl<|ge 3 (by rw [hg47]; rfl) rfl rfl
 refine qm rfl<|gp 3 185 (.b (((x45 && ((List.length x14.1:Int) == 0)) && (x15.1 == 1)) && (x16.1 == 1))) 182 rfl rfl (fun hg48=>?_) (fun hg48=>?_) ?_
 ·exact gT rfl hg48<|qm rfl<|gT rfl hg48<|A0 (F7 rfl rfl) rfl<|A0 (D0 rfl hg48 rfl) rfl<|ge 3 (by rw [hg48]; rfl) rfl rfl
 ·exact nT rfl hg48 rfl<|nT rfl hg48 rfl<|A0 (D1 rfl hg48 rfl) rfl<|ge 3 (by rw [hg48]; rfl) rfl rfl
 refine qm rfl<|gp 3 189 (.b ((((x45 && ((List.length x14.1:Int) == 0)) && (x15.1 == 1)) && (x16.1 == 1)) && (x16.2.1 == 0))) 186 rfl rfl (fun hg49=>?_) (fun hg49=>?_) ?_
 ·exact gT rfl hg49<|qm rfl<|gT rfl hg49<|A0 (F7 rfl rfl) rfl<|A0 (D0 rfl hg49 rfl) rfl<|ge 3 (by rw [hg49]; rfl) rfl rfl
 ·exact nT rfl hg49 rfl<|nT rfl hg49 rfl<|A0 (D1 rfl hg49 rfl) rfl<|ge 3 (by rw [hg49]; rfl) rfl rfl
 refine qm rfl<|es (ra1 rfl)<|C6 ?_
 obtain rfl:=os h
 exact retq trivial (B1 rfl B9) (A4 rfl B8) (A3 A5 B3)
end Rm
end
section
set_option maxRecDepth 100000
set_option maxHeartbeats 0
namespace Rm
open Go Am
theorem Z9:M0 = some true:= by decide +kernel
end Rm
end
section
set_option maxRecDepth 100000
set_option maxHeartbeats 0
namespace Rm
open Go Am Go.Proofs.YtbheamjhjgoccaaDoor.Cd
end Rm
end
section
namespace Rm
open Go Am
def L5 (w:Span) (f:RoFigure):Int:=if f.Cracks≤w.Lo∧w.Hi≤f.Slumps then 1 else if f.Cracks > w.Hi∨w.Lo > f.Slumps then 2 else 0
theorem B9v {h:RoHouse} (ok:HOk h) {f p l:Nat} (hf:f < h.Figures.length) (hp:p < h.Places.length) (hl:l < 16):O9 ⟨h⟩ (f:Int) (p:Int) (l:Int) = some (L5 (warm h p l) h.Figures[f]!):= by
 have b:=A9t ok hp l
 have g:=(ok.figure _ (G5 hf)).bears
 unfold O9
 rw [B4c ok hp hl,F5 hf]
 simp only [Option.bind_some]
 generalize warm h p l = w at b ⊢
 generalize h.Figures[f]! = r at g ⊢
 unfold L5 A1h A3a
 by_cases c1:r.Cracks≤w.Lo
 ·by_cases c2:w.Hi≤r.Slumps
  ·simp [c1,c2,show ¬ (r.Cracks > w.Lo) by omega,show ¬ (r.Slumps < w.Hi) by omega]
  ·by_cases c3:w.Lo > r.Slumps
   ·simp [c2,c3,show ¬ (r.Cracks > w.Lo) by omega,show (r.Slumps < w.Hi) by omega,show ¬ (r.Slumps = w.Hi) by omega]
   ·simp [c2,c3,show ¬ (r.Cracks > w.Lo) by omega,show (r.Slumps < w.Hi) by omega,show ¬ (r.Slumps = w.Hi) by omega,show ¬ (r.Cracks > w.Hi) by omega]
 ·by_cases c2:w.Hi≤r.Slumps
  ·by_cases c3:r.Cracks > w.Hi
   ·simp [c1,c3,show (r.Cracks > w.Lo) by omega,show ¬ (r.Slumps < w.Hi) by omega,show ¬ (r.Cracks = w.Lo) by omega]
   ·simp [c1,c3,show (r.Cracks > w.Lo) by omega,show ¬ (r.Slumps < w.Hi) by omega,show ¬ (r.Cracks = w.Lo) by omega,show ¬ (w.Lo > r.Slumps) by omega]
  ·have h1:¬ (r.Cracks > r.Slumps):= by omega
   simp [c1,h1,show (r.Cracks > w.Lo) by omega,show (r.Slumps < w.Hi) by omega,show ¬ (r.Cracks = w.Lo) by omega,show ¬ (w.Lo > r.Slumps) by omega,show ¬ (r.Cracks > w.Hi) by omega]
theorem A6r {h:RoHouse} (ok:HOk h):1≤2 ^ h.Stoves.toNat∧2 ^ h.Stoves.toNat≤8:= by
 have:=ok.s
 exact ⟨Nat.pow_pos (by decide),Nat.le_trans (Nat.pow_le_pow_right (by decide) (show h.Stoves.toNat≤3 by omega)) (by decide)⟩
theorem D8p {h:RoHouse} (ok:HOk h):B4g .i64 1 h.Stoves = some ((2 ^ h.Stoves.toNat:Nat):Int):= by
 have:=ok.s
 have e:=shl1 h.Stoves.toNat (by omega)
 rwa [Int.toNat_of_nonneg ok.s.1] at e
end Rm
end
section
set_option maxRecDepth 100000
set_option maxHeartbeats 0
namespace Rm
open Go Am Go.Proofs.YtbheamjhjgoccaaDoor.Cd
def A58 (a0:(List Int)) (a1:Int) (s1:Int):Option (Int ⊕ (Bool ⊕ Unit)) :=
 if (decide (s1 < (List.length a0:Int))) = true then
  (idx a0 s1).bind fun x4 =>
  if (x4 == a1) = true then
  some (.inr (.inl true))
  else
  some (.inl (w64 (s1 + 1)))
 else
  some (.inr (.inr ()))
def A5n (a0:(List Int)) (a1:Int):Option Bool :=
 (loop (A58 a0 a1) 0).bind fun (o6:(Bool ⊕ Unit)) =>
 match o6 with
 | (.inl vo6_0) =>
  some vo6_0
 | (.inr vo6_1) =>
  some false
theorem A7y {c:Sc} {H:A7} {a0:(List Int)} {a1:Int} {r:Bool} (h:A5n a0 a1 = some r) :
  F1 tab c H (.fn (.func 54) [] []) [(.seq 1 (List.map cI a0)),.i a1] [.b r]:= by
 unfold A5n at h
 refine cE rfl rfl<|s0<|qm rfl<|es (ra2 rfl rfl)<|B6<|s0<|qm rfl<|es (ra3 rfl rfl rfl)<|C5<|oB h fun o6 ho6 h=>wl (fun s1=>[(0,(.seq 1 (List.map cI a0))),(1,.i a1),(5,.i s1)]) (fun (q2:Unit) s1=>[]) 0 (fun r e s' H'=>(match r with | (.inl v)=>e = .ret∧RetQ H [.tmp 4] [.b v] e s' H' | (.inr v)=>PX 0 [] (H++[]) e s' H':Prop)) () ho6 rfl rfl (fun _ _=>rfl) (fun _=>rfl) rfl (fun s1=>(bdc G7 (bdc A5 (bdc A5 bdn)))) (fun q2 s1 ys1 hs1=>?_) ?_
 ·unfold A58 at hs1
  refine B6<|s0<|qm rfl<|qm rfl<|A0 (D8 (f:=cI) rfl) rfl<|A0 (F8 rfl rfl) rfl<|es (ra4 rfl rfl rfl rfl)<|wi hs1 rfl (fun hc3 hs1=>?_) fun hc3 hs1=>?_
  ·refine C1<|B6<|C5<|s0<|oB hs1 fun x4 hx4 hs1=>qm rfl<|qm rfl<|A0 (E6 (f:=cI) rfl rfl hx4) rfl<|A0 (E9 rfl rfl) rfl<|qm rfl<|A0 (F7 rfl rfl) rfl<|es (ra4 rfl rfl rfl rfl)<|wi hs1 rfl (fun hc5 hs1=>?_) fun hc5 hs1=>?_
   ·refine s0<|qm rfl<|es (ra1 rfl)<|C6 ?_
    obtain rfl:=os hs1
    exact lx rfl (And.intro rfl (retq trivial (B1 rfl B9) (A4 rfl B8) (A3 A5 B3))) (Sub.refl _)
   ·refine C1<|r0<|qm rfl<|A0 (E1 rfl rfl) rfl<|qm rfl<|en (ra3 rfl rfl rfl) ?_
    cases hs1
    exact lnT () rfl (su3 rfl rfl rfl)
  ·refine E4 ?_
   obtain rfl:=os hs1
   exact lx rfl px (.nil _)
 ·rcases o6 with vo6_0 | vo6_1
  ·rintro e s' H' - ⟨rfl,hret⟩
   cases h
   exact hret
  ·rintro e s' H' - ⟨rfl,rfl,rfl⟩
   refine s0<|qm rfl<|es (ra1 rfl)<|C6 ?_
   obtain rfl:=os h
   exact retq trivial (B1 rfl B9) (A4 rfl B8) (A3 A5 B3)
end Rm
end
section
namespace Rm
open Go Am
theorem B99 {α:Type} [Inhabited α] (l:List α) (p:α→Bool):(first (fun i=>if p l[i]! then some () else none) l.length).isSome = l.any p:= by
 rw [← C3w l p]
 have:(fun (i:Nat)=>if p l[i]! then some () else none) = fun (i:Nat)=>(if p l[i]! then some (i:Int) else none).map fun _=>():= by
  funext i; cases p l[i]! <;> rfl
 rw [this,A5m,Option.isSome_map]
theorem C51 (l:List Int) (x:Int) (hl:l.length < 9223372036854775808):A5n l x = some (l.any (· == x)):= by
 unfold A5n
 have l1:=B1j (b:=A58 l x) l.length (fun (i:Nat)=>if l[i]! == x then some (.inl true) else none) (.inr ()) hl (fun i hi _=>by
  unfold A58
  rw [if_pos (by simpa using hi),F5 hi]
  simp only [Option.bind_some]
  cases l[i]! == x <;> rfl) (by
  unfold A58
  rw [if_neg (by simp)])
 rw [l1]
 have ha:=B99 l (· == x)
 have:(fun (i:Nat)=>if l[i]! == x then some (Sum.inl true:Bool ⊕ Unit) else none) = fun (i:Nat)=>(if l[i]! == x then some () else none).map fun _=>Sum.inl true:= by
  funext i; cases l[i]! == x <;> rfl
 rw [this,A5m]
 cases hf:first (fun (i:Nat)=>if l[i]! == x then some () else none) l.length with
 | none=>rw [hf] at ha; rw [← ha]; rfl
 | some u=>rw [hf] at ha; rw [← ha]; rfl
def R5 (l:List Int) (i:Nat):Bool:=l[i]! != -1 && (l.take i).any (· == l[i]!)
def dup (l:List Int):Bool:=(first (fun i=>if R5 l i then some () else none) l.length).isSome
def e (p:List Int) (i:Nat):Int:=if i < p.length then p[i]! + 1 else 0
def enc (p:List Int):Ar5 Int:=⟨e p 0,e p 1,e p 2,e p 3,e p 4⟩
theorem A9g (p:List Int):∀i:Nat,i < 5→idx (Ar5.l (enc p)) (i:Int) = some (e p i)
 | 0,_=>rfl
 | 1,_=>rfl
 | 2,_=>rfl
 | 3,_=>rfl
 | 4,_=>rfl
 | n + 5,h=>by omega
theorem C8u (p:List Int) {n j:Nat} (h:j < n):(p.take n)[j]! = p[j]!:= by
 by_cases c:j < p.length
 ·rw [getElem!_pos (p.take n) j (by rw [List.length_take]; omega),getElem!_pos p j c,List.getElem_take]
 ·rw [getElem!_neg (p.take n) j (by rw [List.length_take]; omega),getElem!_neg p j c]
theorem D43 (p:List Int) (n j:Nat):e (p.take n) j = if j < n then e p j else 0:= by
 unfold e
 rw [List.length_take]
 by_cases h:j < n
 ·rw [if_pos h,C8u p h]
  by_cases c:j < p.length
  ·rw [if_pos (by omega),if_pos c]
  ·rw [if_neg (by omega),if_neg c]
 ·rw [if_neg h,if_neg (by omega)]
theorem D07 (p:List Int) {i:Nat} (hi:i < p.length):Ar5.set (enc (p.take i)) (i:Int) (p[i]! + 1) = enc (p.take (i + 1)):= by
 have comp:∀j:Nat,(if (i:Int) = (j:Int) then p[i]! + 1 else e (p.take i) j) = e (p.take (i + 1)) j:= by
  intro j
  rw [D43,D43]
  by_cases h:i = j
  ·subst h
   rw [if_pos rfl,if_pos (by omega)]
   unfold e
   rw [if_pos hi]
  ·rw [if_neg (by omega)]
   by_cases c:j < i
   ·rw [if_pos c,if_pos (by omega)]
   ·rw [if_neg c,if_neg (by omega)]
 have q:=congr (congr (congr (congr (congrArg Ar5.mk (comp 0)) (comp 1)) (comp 2)) (comp 3)) (comp 4)
 exact q
structure PV (h:RoHouse) (p:List Int):Prop where
 len:p.length = h.Figures.length
 bd:∀i,i < p.length→-1≤p[i]!∧p[i]! < (h.Places.length:Int)
def plc (h:RoHouse) (p:List Int) (i:Nat):RoPlace:=h.Places[p[i]!.toNat]!
def con (h:RoHouse) (p:List Int) (k i:Nat):Int:=if i < p.length∧p[i]! ≠ -1∧bit (plc h p i).Joists.toNat k = true then h.Figures[i]!.Weight else 0
def G1 (h:RoHouse) (p:List Int) (k n:Nat):Int:=iter (fun i s=>s + con h p k i) n 0
theorem O1 (h:RoHouse) (p:List Int) (k n:Nat):G1 h p k (n + 1) = G1 h p k n + con h p k n:=rfl
theorem B41 (h:RoHouse) (p:List Int) (k:Nat):∀n,G1 h p k (p.length + n) = G1 h p k p.length
 | 0=>rfl
 | n + 1=>by
  rw [← Nat.add_assoc,O1,B41 h p k n]
  unfold con
  rw [if_neg (by omega)]; omega
theorem C9c {h:RoHouse} (ok:HOk h) {p:List Int} (pv:PV h p) (k i:Nat):0≤con h p k i∧con h p k i≤500:= by
 unfold con
 by_cases c:i < p.length∧p[i]! ≠ -1∧bit (plc h p i).Joists.toNat k = true
 ·rw [if_pos c]
  have:=(ok.figure _ (G5 (show i < h.Figures.length by rw [← pv.len]; exact c.1))).weight
  omega
 ·rw [if_neg c]; omega
theorem B40 {h:RoHouse} (ok:HOk h) {p:List Int} (pv:PV h p) (k:Nat):∀n,0≤G1 h p k n∧G1 h p k n≤500 * n
 | 0=>by unfold G1 iter; omega
 | n + 1=>by
  have ih:=B40 ok pv k n
  have:=C9c ok pv k n
  rw [O1]; omega
def arr (f:Nat→Int):Ar4 Int:=⟨f 0,f 1,f 2,f 3⟩
theorem D02 (f:Nat→Int):∀k:Nat,k < 4→idx (Ar4.l (arr f)) (k:Int) = some (f k)
 | 0,_=>rfl
 | 1,_=>rfl
 | 2,_=>rfl
 | 3,_=>rfl
 | n + 4,h=>by omega
theorem D69 (f:Nat→Int) (k:Nat) (v:Int):Ar4.set (arr f) (k:Int) v = arr (fun j=>if j = k then v else f j):= by
 have comp:∀j:Nat,(if (k:Int) = (j:Int) then v else f j) = (if j = k then v else f j):= by
  intro j
  by_cases h:j = k
  ·subst h; rw [if_pos rfl,if_pos rfl]
  ·rw [if_neg (by omega),if_neg h]
 have q:=congr (congr (congr (congrArg Ar4.mk (comp 0)) (comp 1)) (comp 2)) (comp 3)
 exact q
theorem B3q {f g:Nat→Int} (h:∀k,k < 4→f k = g k):arr f = arr g:= by
 unfold arr
 rw [h 0 (by omega),h 1 (by omega),h 2 (by omega),h 3 (by omega)]
theorem C4n {h:RoHouse} (ok:HOk h) {q:RoPlace} (hq:PlOk h q):q.Joists = (q.Joists.toNat:Int)∧q.Joists.toNat < 16:= by
 have h1:=hq.joists
 have:2 ^ h.Holds.length≤2 ^ 4:=Nat.pow_le_pow_right (by decide) ok.holds
 omega
theorem shown {h:RoHouse} {p:List Int} (pv:PV h p) {i:Nat} (hi:i < p.length) (hs:p[i]! ≠ -1):∃q:Nat,p[i]! = q∧q < h.Places.length∧plc h p i = h.Places[q]!:= by
 have:=pv.bd i hi
 refine ⟨p[i]!.toNat,by omega,by omega,rfl⟩
theorem D5r {h:RoHouse} (ok:HOk h) {p:List Int} (pv:PV h p) {i:Nat} (hi:i < p.length) (hs:p[i]! ≠ -1) (a:Ar4 Int) :
  loop (P8 ⟨h⟩ ((i:Int),a) (e p i)) (0,arr (fun k=>if k < h.Holds.length then G1 h p k i else 0)) = some (arr (fun k=>if k < h.Holds.length then G1 h p k (i + 1) else 0)):= by
 have h5:=ok.figures
 have hp:=ok.places
 have hh:=ok.holds
 have hl:=pv.len
 obtain ⟨q,hq1,hq2,hq3⟩:=shown pv hi hs
 have hj:=C4n ok (ok.place _ (G5 hq2))
 have l1:=I8 (b:=P8 ⟨h⟩ ((i:Int),a) (e p i)) (fun n=>((n:Int),arr (fun k=>if k < h.Holds.length then (if k < n then G1 h p k (i + 1) else G1 h p k i) else 0))) h.Holds.length (r:=arr (fun k=>if k < h.Holds.length then G1 h p k (i + 1) else 0)) (by omega) (fun n hn=>by
  have b1:=B40 ok pv n i
  have b2:=C9c ok pv n i
  unfold P8
  simp only []
  rw [if_pos (by simpa using hn)]
  have he:w64 (e p i - 1) = (q:Int):= by
   unfold e
   rw [if_pos hi,E0 (by omega)]; omega
  rw [he,F5 hq2]
  simp only [Option.bind_some]
  rw [hj.1,B9t _ hj.2 n (by omega)]
  simp only [Option.bind_some]
  rw [C61 _ (Nat.lt_of_le_of_lt (Nat.div_le_self _ _) hj.2),D02 _ n (by omega),F5 (show i < h.Figures.length by omega),if_pos hn,if_neg (Nat.lt_irrefl n)]
  simp only [Option.bind_some]
  have hc:con h p n i = if bit h.Places[q]!.Joists.toNat n = true then h.Figures[i]!.Weight else 0:= by
   unfold con
   rw [hq3]
   cases bit h.Places[q]!.Joists.toNat n
   ·rw [if_neg (by simp),if_neg (by simp)]
   ·rw [if_pos ⟨hi,hs,rfl⟩,if_pos rfl]
  rw [E0 (n:=(n:Int) + 1) (by omega)]
  show (if bit h.Places[q]!.Joists.toNat n = true then _ else _) = _
  cases hb:bit h.Places[q]!.Joists.toNat n with
  | true =>
   rw [hb,if_pos rfl] at hc
   rw [if_pos rfl,← hc,E0 (by omega),D69]
   congr 3
   apply B3q
   intro k hk
   by_cases hkn:k = n
   ·subst hkn
    rw [if_pos rfl,if_pos hn,if_pos (by omega),O1]
   ·rw [if_neg hkn]
    by_cases c:k < h.Holds.length
    ·rw [if_pos c,if_pos c]
     by_cases c2:k < n
     ·rw [if_pos c2,if_pos (by omega)]
     ·rw [if_neg c2,if_neg (by omega)]
    ·rw [if_neg c,if_neg c]
  | false =>
   rw [hb,if_neg (by decide)] at hc
   rw [if_neg (by decide)]
   congr 3
   apply B3q
   intro k hk
   by_cases hkn:k = n
   ·subst hkn
    rw [if_pos hn,if_pos hn,if_neg (Nat.lt_irrefl k),if_pos (by omega),O1,hc]; omega
   ·by_cases c:k < h.Holds.length
    ·rw [if_pos c,if_pos c]
     by_cases c2:k < n
     ·rw [if_pos c2,if_pos (by omega)]
     ·rw [if_neg c2,if_neg (by omega)]
    ·rw [if_neg c,if_neg c]) (by
  unfold P8
  simp only []
  rw [if_neg (by simp)]
  congr 2
  apply B3q
  intro k hk
  by_cases c:k < h.Holds.length
  ·rw [if_pos c,if_pos c,if_pos c]
  ·rw [if_neg c,if_neg c])
 have e0:(fun (k:Nat)=>if k < h.Holds.length then (if k < 0 then G1 h p k (i + 1) else G1 h p k i) else 0) = fun (k:Nat)=>if k < h.Holds.length then G1 h p k i else 0:= by
  funext k
  rw [if_neg (Nat.not_lt_zero k)]
 have l1:loop (P8 ⟨h⟩ ((i:Int),a) (e p i)) (0,arr (fun (k:Nat)=>if k < h.Holds.length then (if k < 0 then G1 h p k (i + 1) else G1 h p k i) else 0)) = _:=l1
 rw [e0] at l1
 exact l1
def B1i (h:RoHouse) (p:List Int):Ar4 Int:=arr (fun k=>if k < h.Holds.length then G1 h p k p.length else 0)
theorem C7v {h:RoHouse} (ok:HOk h) {p:List Int} (pv:PV h p):U5 ⟨h⟩ (enc p) = some (B1i h p):= by
 have h5:=ok.figures
 have hp:=ok.places
 have hl:=pv.len
 unfold U5
 have l1:=I8 (b:=T3 ⟨h⟩ (enc p)) (fun i=>((i:Int),arr (fun k=>if k < h.Holds.length then G1 h p k i else 0))) 5 (r:=B1i h p) (by omega) (fun i hi=>by
  unfold T3
  simp only []
  rw [if_pos (by rw [decide_eq_true_eq]; omega),A9g p i hi]
  simp only [Option.bind_some]
  have hc0:∀k,(i < p.length→p[i]! = -1)→G1 h p k (i + 1) = G1 h p k i:= by
   intro k hx
   rw [O1]
   unfold con
   rw [if_neg (fun hq=>hq.2.1 (hx hq.1))]; omega
  by_cases c:i < p.length∧p[i]! ≠ -1
  ·have hb:=pv.bd i c.1
   have hne:(e p i == 0) = false:= by
    rw [beq_eq_false_iff_ne]
    unfold e
    rw [if_pos c.1]; have:=c.2; omega
   rw [hne,if_neg (by decide),D5r ok pv c.1 c.2]
   simp only [Option.bind_some]
   rw [E0 (by omega)]; rfl
  ·have hz:(e p i == 0) = true:= by
    rw [beq_iff_eq]
    unfold e
    by_cases c1:i < p.length
    ·rw [if_pos c1]
     have:p[i]! = -1:=Classical.byContradiction fun hq=>c ⟨c1,hq⟩
     omega
    ·rw [if_neg c1]
   rw [hz,if_pos rfl,E0 (by omega)]
   have:∀k,G1 h p k (i + 1) = G1 h p k i:=fun k=>hc0 k fun c1=>Classical.byContradiction fun hq=>c ⟨c1,hq⟩
   simp only [this]
   rfl) (by
  unfold T3
  simp only []
  rw [if_neg (show ¬ decide (((5:Nat):Int) < 5) = true by rw [decide_eq_true_eq]; omega)]
  unfold B1i
  congr 2
  apply B3q
  intro k _
  have:=B41 h p k (5 - p.length)
  rw [show p.length + (5 - p.length) = 5 by omega] at this
  simp only [this])
 have e0:arr (fun k=>if k < h.Holds.length then G1 h p k 0 else 0) = Ar4.mk 0 0 0 0:= by
  have:(fun k=>if k < h.Holds.length then G1 h p k 0 else 0) = fun _=>(0:Int):= by
   funext k
   by_cases c:k < h.Holds.length
   ·rw [if_pos c]; rfl
   ·rw [if_neg c]
  rw [this]; rfl
 have l1:loop (T3 ⟨h⟩ (enc p)) (0,arr (fun k=>if k < h.Holds.length then G1 h p k 0 else 0)) = _:=l1
 rw [e0] at l1
 rw [l1]; rfl
theorem C3v {n:Nat} {p:Nat→Bool}:(first (fun i=>if p i then none else some ()) n).isNone = (List.range n).all p:= by
 cases hf:first (fun i=>if p i then none else some ()) n with
 | none =>
  have h0:=L2.mp hf
  symm
  rw [Option.isNone_none,List.all_eq_true]
  intro i hi
  have:=h0 i (List.mem_range.mp hi)
  cases hp:p i with
  | true=>rfl
  | false=>rw [hp] at this; exact absurd this (by simp)
 | some u =>
  obtain ⟨i,hi,h1,_⟩:=A0b hf
  symm
  rw [Option.isNone_some,List.all_eq_false]
  refine ⟨i,List.mem_range.mpr hi,?_⟩
  cases hp:p i with
  | true=>rw [hp] at h1; exact absurd h1 (by simp)
  | false=>decide
theorem A8o {b:Int→Option (Int ⊕ (Bool ⊕ Unit))} (n:Nat) (p:Nat→Bool) (hn:n < 9223372036854775808)
  (hs:∀i:Nat,i < n→b (i:Int) = some (if p i then .inl (w64 ((i:Int) + 1)) else .inr (.inl false))) (he:b (n:Int) = some (.inr (.inr ()))) :
  loop b 0 = some (if (List.range n).all p then .inr () else .inl false):= by
 rw [B1j n (fun i=>if p i then none else some (.inl false)) (.inr ()) hn (fun i hi _=>by rw [hs i hi]; cases p i <;> rfl) he,← C3v]
 have:(fun (i:Nat)=>if p i then none else some (Sum.inl false:Bool ⊕ Unit)) = fun (i:Nat)=>(if p i then none else some ()).map fun _=>Sum.inl false:= by
  funext i; cases p i <;> rfl
 rw [this,A5m]
 cases first (fun (i:Nat)=>if p i then none else some ()) n <;> rfl
def R6 (h:RoHouse) (p:List Int):Bool:=(List.range h.Holds.length).all fun k=>decide (G1 h p k p.length≤h.Holds[k]!)
theorem D5f {h:RoHouse} (ok:HOk h) {p:List Int} (pv:PV h p):A2b ⟨h⟩ (enc p) = some (R6 h p):= by
 have hh:=ok.holds
 unfold A2b
 rw [C7v ok pv]
 simp only [Option.bind_some]
 rw [A8o (b:=Y1 ⟨h⟩ (B1i h p)) 4 (fun k=>if k < h.Holds.length then decide (G1 h p k p.length≤h.Holds[k]!) else true) (by omega) (fun k hk=>by
  unfold Y1 B1i
  rw [if_pos (by rw [decide_eq_true_eq]; omega),D02 _ k hk]
  simp only [Option.bind_some]
  by_cases c:k < h.Holds.length
  ·rw [if_pos c,if_pos (by rw [decide_eq_true_eq]; exact Int.ofNat_lt.mpr c),F5 c,if_pos c]
   simp only [Option.bind_some]
   by_cases q:G1 h p k p.length≤h.Holds[k]!
   ·rw [decide_eq_true q,decide_eq_false (show ¬ (G1 h p k p.length > h.Holds[k]!) by omega)]; rfl
   ·rw [decide_eq_false q,decide_eq_true (show (G1 h p k p.length > h.Holds[k]!) by omega)]; rfl
  ·rw [if_neg c,if_neg (by rw [decide_eq_true_eq]; intro q; exact c (Int.ofNat_lt.mp q)),if_neg c]; rfl) (by
  unfold Y1
  rw [if_neg (by rw [decide_eq_true_eq]; omega)])]
 simp only [Option.bind_some]
 have e1:(List.range 4).all (fun k=>if k < h.Holds.length then decide (G1 h p k p.length≤h.Holds[k]!) else true) = R6 h p:= by
  unfold R6
  rw [Bool.eq_iff_iff,List.all_eq_true,List.all_eq_true]
  constructor
  ·intro q k hk
   have:=q k (List.mem_range.mpr (by have:=List.mem_range.mp hk; omega))
   rwa [if_pos (List.mem_range.mp hk)] at this
  ·intro q k _
   by_cases c:k < h.Holds.length
   ·rw [if_pos c]; exact q k (List.mem_range.mpr c)
   ·rw [if_neg c]
 rw [e1]
 cases R6 h p <;> rfl
def dear (h:RoHouse) (p:List Int) (c:Int) (i:Nat):Int:=if i < p.length∧p[i]! ≠ -1∧(plc h p i).Dear = true∧h.Figures[i]!.Class = c then 1 else 0
def K0 (h:RoHouse) (p:List Int) (c:Int) (n:Nat):Int:=iter (fun i s=>s + dear h p c i) n 0
theorem A1b (h:RoHouse) (p:List Int) (c:Int) (n:Nat):K0 h p c (n + 1) = K0 h p c n + dear h p c n:=rfl
theorem D7i (h:RoHouse) (p:List Int) (c:Int) (i:Nat):0≤dear h p c i∧dear h p c i≤1:= by
 unfold dear
 split <;> omega
theorem A6y (h:RoHouse) (p:List Int) (c:Int):∀n,0≤K0 h p c n∧K0 h p c n≤n
 | 0=>by unfold K0 iter; omega
 | n + 1=>by
  have ih:=A6y h p c n
  have:=D7i h p c n
  rw [A1b]; omega
theorem C2u (h:RoHouse) (p:List Int) (c:Int):∀n,K0 h p c (p.length + n) = K0 h p c p.length
 | 0=>rfl
 | n + 1=>by
  rw [← Nat.add_assoc,A1b,C2u h p c n]
  unfold dear
  rw [if_neg (by omega)]; omega
def W3 (b:List Int) (c:Int) (n:Nat):Int:=iter (fun i s=>s + if b[i]! == c then 1 else 0) n 0
theorem A3d (b:List Int) (c:Int) (n:Nat):W3 b c (n + 1) = W3 b c n + if b[n]! == c then 1 else 0:=rfl
theorem C0i (b:List Int) (c:Int):∀n,0≤W3 b c n∧W3 b c n≤n
 | 0=>by unfold W3 iter; omega
 | n + 1=>by
  have ih:=C0i b c n
  rw [A3d]
  split <;> omega
theorem C0j (b:List Int) (c:Int) {m:Nat}:∀{n:Nat},m≤n→W3 b c m≤W3 b c n
 | 0,h=>by have:m = 0:= by omega
           subst this; omega
 | n + 1,h=>by
  by_cases e:m = n + 1
  ·subst e; omega
  ·have ih:=C0j b c (m:=m) (n:=n) (by omega)
   rw [A3d]
   split <;> omega
def A1x (h:RoHouse) (p:List Int):Bool:=(List.range 10).all fun c=>decide (W3 h.Bill (c:Int) h.Bill.length≤K0 h p (c:Int) p.length)
def gd (m:List (Int × Int)) (c:Int):Int:=(kget m c).getD 0
theorem C5z (m:List (Int × Int)) (k v c:Int):gd (kset m k v) c = if c = k then v else gd m c:= by
 unfold gd
 rw [C4o]
 by_cases h:c = k
 ·rw [if_pos h,if_pos h]; rfl
 ·rw [if_neg h,if_neg h]
theorem prom1 {h:RoHouse} (ok:HOk h) {p:List Int} (pv:PV h p):∃m,loop (P4 ⟨h⟩ (enc p)) (0,[]) = some m∧∀ c,gd m c = K0 h p c p.length:= by
 have h5:=ok.figures
 have hp:=ok.places
 have hl:=pv.len
 refine C06 (b:=P4 ⟨h⟩ (enc p)) (fun i s=>s.1 = (i:Int)∧∀ c,gd s.2 c = K0 h p c i) 5 (fun m=>∀ c,gd m c = K0 h p c p.length) (by omega) ?_ ?_ (0,[]) ⟨rfl,fun c=>rfl⟩
 ·rintro i ⟨i',m⟩ hi ⟨h1,h2⟩
  simp only at h1 h2
  subst h1
  unfold P4
  simp only []
  rw [if_pos (by rw [decide_eq_true_eq]; omega),A9g p i hi]
  simp only [Option.bind_some]
  rw [E0 (n:=(i:Int) + 1) (by omega)]
  have same:∀c,(∀ c,dear h p c i = 0)→gd m c = K0 h p c (i + 1):=fun c hd=>by rw [A1b,hd c,Int.add_zero]; exact h2 c
  by_cases c1:i < p.length
  ·have hb:=pv.bd i c1
   have he:e p i = p[i]! + 1:= by unfold e; rw [if_pos c1]
   by_cases hs:p[i]! = -1
   ·rw [if_neg (by rw [decide_eq_true_eq]; omega)]
    exact ⟨_,rfl,rfl,fun c=>same c fun c=>by unfold dear; rw [if_neg (fun hq=>hq.2.1 hs)]⟩
   ·obtain ⟨q,hq1,hq2,hq3⟩:=shown pv c1 hs
    rw [if_pos (by rw [decide_eq_true_eq]; omega),he,E0 (by omega),show p[i]! + 1 - 1 = (q:Int) by omega,F5 hq2]
    simp only [Option.bind_some]
    cases hd:h.Places[q]!.Dear with
    | false =>
     rw [if_neg (by decide)]
     exact ⟨_,rfl,rfl,fun c=>same c fun c=>by unfold dear; rw [hq3,hd,if_neg (fun z=>absurd z.2.2.1 (by decide))]⟩
    | true =>
     rw [if_pos rfl,F5 (show i < h.Figures.length by omega)]
     simp only [Option.bind_some]
     refine ⟨_,rfl,rfl,fun c=>?_⟩
     have b1:=A6y h p h.Figures[i]!.Class i
     have h3:=h2 h.Figures[i]!.Class
     have h3:(kget m h.Figures[i]!.Class).getD 0 = K0 h p h.Figures[i]!.Class i:=h3
     rw [C5z,h3,E0 (by omega),A1b]
     unfold dear
     rw [hq3,hd]
     by_cases hc:c = h.Figures[i]!.Class
     ·subst hc
      rw [if_pos rfl,if_pos ⟨c1,hs,by trivial,rfl⟩]
     ·rw [if_neg hc,if_neg (fun z=>hc z.2.2.2.symm),Int.add_zero]; exact h2 c
  ·have he:e p i = 0:= by unfold e; rw [if_neg c1]
   rw [he,if_neg (by decide)]
   exact ⟨_,rfl,rfl,fun c=>same c fun c=>by unfold dear; rw [if_neg (fun hq=>c1 hq.1)]⟩
 ·rintro ⟨i',m⟩ ⟨h1,h2⟩
  simp only at h1 h2
  subst h1
  unfold P4
  simp only []
  rw [if_neg (show ¬ decide (((5:Nat):Int) < 5) = true by rw [decide_eq_true_eq]; omega)]
  refine ⟨m,rfl,fun c=>?_⟩
  have:=C2u h p c (5 - p.length)
  rw [show p.length + (5 - p.length) = 5 by omega] at this
  rw [h2 c,this]
theorem B6d {h:RoHouse} (ok:HOk h) (p:List Int):A1x h p = true↔∀ i,i < h.Bill.length→W3 h.Bill h.Bill[i]! (i + 1)≤K0 h p h.Bill[i]! p.length:= by
 unfold A1x
 rw [List.all_eq_true]
 constructor
 ·intro q i hi
  have hb:=ok.class_ _ (G5 hi)
  have:=q h.Bill[i]!.toNat (List.mem_range.mpr (by omega))
  rw [decide_eq_true_eq,show ((h.Bill[i]!.toNat:Nat):Int) = h.Bill[i]! by omega] at this
  have m:=C0j h.Bill h.Bill[i]! (m:=i + 1) (n:=h.Bill.length) (by omega)
  omega
 ·intro q c _
  rw [decide_eq_true_eq]
  have key:∀n,n≤h.Bill.length→W3 h.Bill (c:Int) n≤K0 h p (c:Int) p.length:= by
   intro n
   induction n with
   | zero=>intro _; exact (A6y h p (c:Int) p.length).1
   | succ n ih =>
    intro hn
    by_cases e:h.Bill[n]! = (c:Int)
    ·have:=q n (by omega)
     rwa [e] at this
    ·rw [A3d,if_neg (by rw [beq_iff_eq]; exact e),Int.add_zero]
     exact ih (by omega)
  exact key _ (Nat.le_refl _)
theorem prom2 {h:RoHouse} (ok:HOk h) {p:List Int} {m:List (Int × Int)} (pl:p.length≤5) (hm:∀c,gd m c = K0 h p c p.length):∃r,loop (P5 ⟨h⟩) (0,m) = some r∧(match r with | .inl v=>v = false∧A1x h p = false | .inr _=>A1x h p = true):= by
 have hb3:=ok.bill
 refine B74 (b:=P5 ⟨h⟩) (fun i s=>s.1 = (i:Int)∧(∀ c,gd s.2 c = K0 h p c p.length - W3 h.Bill c i)∧∀ j,j < i→W3 h.Bill h.Bill[j]! (j + 1)≤K0 h p h.Bill[j]! p.length) h.Bill.length (fun r=>match r with | .inl v=>v = false∧A1x h p = false | .inr _=>A1x h p = true) (by omega) ?_ ?_ (0,m) ⟨rfl,fun c=>by rw [hm c]; show _ = _ - (0:Int); omega,fun j hj=>absurd hj (Nat.not_lt_zero j)⟩
 ·rintro i ⟨i',m'⟩ hi ⟨h1,h2,h3⟩
  simp only at h1 h2
  subst h1
  unfold P5
  simp only []
  rw [if_pos (by simpa using hi),F5 hi]
  simp only [Option.bind_some]
  have b1:=A6y h p h.Bill[i]! p.length
  have b2:=C0i h.Bill h.Bill[i]! i
  have h4:=h2 h.Bill[i]!
  have h5:(kget m' h.Bill[i]!).getD 0 = K0 h p h.Bill[i]! p.length - W3 h.Bill h.Bill[i]! i:=h4
  have e1:W3 h.Bill h.Bill[i]! (i + 1) = W3 h.Bill h.Bill[i]! i + 1:= by rw [A3d,if_pos (beq_self_eq_true _)]
  rw [h5,E0 (n:=K0 h p h.Bill[i]! p.length - W3 h.Bill h.Bill[i]! i - 1) (by omega),E0 (n:=(i:Int) + 1) (by omega)]
  have g1:=C5z m' h.Bill[i]! (K0 h p h.Bill[i]! p.length - W3 h.Bill h.Bill[i]! i - 1) h.Bill[i]!
  rw [if_pos rfl] at g1
  have g2:(kget (kset m' h.Bill[i]! (K0 h p h.Bill[i]! p.length - W3 h.Bill h.Bill[i]! i - 1)) h.Bill[i]!).getD 0 = K0 h p h.Bill[i]! p.length - W3 h.Bill h.Bill[i]! i - 1:=g1
  rw [g2]
  by_cases c:K0 h p h.Bill[i]! p.length - W3 h.Bill h.Bill[i]! i - 1 < 0
  ·right
   rw [if_pos (by rw [decide_eq_true_eq]; exact c)]
   refine ⟨_,rfl,rfl,?_⟩
   cases hk:A1x h p with
   | false=>rfl
   | true =>
    have:=(B6d ok p).mp hk i hi
    omega
  ·left
   rw [if_neg (by rw [decide_eq_true_eq]; exact c)]
   refine ⟨_,rfl,rfl,fun c=>?_,fun j hj=>?_⟩
   ·rw [C5z,A3d]
    by_cases hc:c = h.Bill[i]!
    ·rw [if_pos hc,hc,if_pos (beq_self_eq_true _)]; omega
    ·rw [if_neg hc,if_neg (by rw [beq_iff_eq]; exact fun q=>hc q.symm),Int.add_zero]; exact h2 c
   ·by_cases hji:j = i
    ·subst hji; omega
    ·exact h3 j (by omega)
 ·rintro ⟨i',m'⟩ ⟨h1,_,h3⟩
  simp only at h1
  subst h1
  unfold P5
  simp only []
  rw [if_neg (by simp)]
  exact ⟨_,rfl,(B6d ok p).mpr h3⟩
theorem C78 {h:RoHouse} (ok:HOk h) {p:List Int} (pv:PV h p):Y2 ⟨h⟩ (enc p) = some (A1x h p):= by
 have h5:=ok.figures
 have hl:=pv.len
 unfold Y2
 obtain ⟨m,e1,hm⟩:=prom1 ok pv
 obtain ⟨r,e2,hr⟩:=prom2 ok (by omega) hm
 by_cases hz:((enc p).x0 == 0 && ((enc p).x1 == 0 && ((enc p).x2 == 0 && ((enc p).x3 == 0 && ((enc p).x4 == 0 && true))))) = true
 ·rw [if_pos hz]
  have hall:∀i,i < 5→e p i = 0:= by
   simp only [Bool.and_eq_true,beq_iff_eq] at hz
   intro i hi
   match i,hi with
   | 0,_=>exact hz.1
   | 1,_=>exact hz.2.1
   | 2,_=>exact hz.2.2.1
   | 3,_=>exact hz.2.2.2.1
   | 4,_=>exact hz.2.2.2.2.1
  have ht:∀c,∀ n,K0 h p c n = 0:= by
   intro c n
   induction n with
   | zero=>rfl
   | succ n ih =>
    rw [A1b,ih]
    unfold dear
    rw [if_neg (show ¬ (n < p.length∧p[n]! ≠ -1∧(plc h p n).Dear = true∧h.Figures[n]!.Class = c) from fun q=>by
     have q1:=q.1
     have:=hall n (by omega)
     unfold e at this
     rw [if_pos q.1] at this
     exact q.2.1 (by omega))]
    rfl
  by_cases hb:h.Bill.length = 0
  ·have:A1x h p = true:=(B6d ok p).mpr fun i hi=>by omega
   rw [this,hb]; rfl
  ·have:A1x h p = false:= by
    cases hk:A1x h p with
    | false=>rfl
    | true =>
     have:=(B6d ok p).mp hk 0 (by omega)
     rw [ht,A3d,if_pos (beq_self_eq_true _)] at this
     have:(0:Int) + 1≤0:=this
     omega
   rw [this]
   congr 1
   show ((h.Bill.length:Int) == 0) = false
   exact beq_eq_false_iff_ne.mpr (by omega)
 ·rw [if_neg hz,e1]
  simp only [Option.bind_some]
  rw [e2]
  simp only [Option.bind_some]
  cases r with
  | inl v=>rw [hr.1,hr.2]
  | inr m=>rw [hr]
theorem B9y {h:RoHouse} (ok:HOk h) {p:List Int} (pv:PV h p) (last:Bool):N1 ⟨h⟩ (enc p) last = some (R6 h p && (!last || A1x h p)):= by
 unfold N1
 rw [D5f ok pv,C78 ok pv]
 cases last <;> cases R6 h p <;> cases A1x h p <;> rfl
def A47 (h:RoHouse) (p:List Int) (n:Nat):Int:=iter (fun i s=>s + if i < p.length∧p[i]! ≠ -1 then h.Figures[i]!.Worth else 0) n 0
theorem A72 (h:RoHouse) (p:List Int) (n:Nat):A47 h p (n + 1) = A47 h p n + if n < p.length∧p[n]! ≠ -1 then h.Figures[n]!.Worth else 0:=rfl
theorem A9a {h:RoHouse} (ok:HOk h) {p:List Int} (pv:PV h p):∀n,0≤A47 h p n∧A47 h p n≤100 * n
 | 0=>by unfold A47 iter; omega
 | n + 1=>by
  have ih:=A9a ok pv n
  rw [A72]
  by_cases c:n < p.length∧p[n]! ≠ -1
  ·have:=(ok.figure _ (G5 (show n < h.Figures.length by rw [← pv.len]; exact c.1))).worth
   rw [if_pos c]; omega
  ·rw [if_neg c]; omega
theorem C21 (h:RoHouse) (p:List Int):∀n,A47 h p (p.length + n) = A47 h p p.length
 | 0=>rfl
 | n + 1=>by
  rw [← Nat.add_assoc,A72,C21 h p n,if_neg (by omega)]; omega
def worth (h:RoHouse) (p:List Int):Int:=A47 h p p.length
theorem C8z {h:RoHouse} (ok:HOk h) {p:List Int} (pv:PV h p):U6 ⟨h⟩ (enc p) = some (worth h p):= by
 have h5:=ok.figures
 have hp:=ok.places
 have hl:=pv.len
 unfold U6
 have l1:loop (T4 ⟨h⟩ (enc p)) (0,0) = some (worth h p):=I8 (b:=T4 ⟨h⟩ (enc p)) (fun i=>(A47 h p i,(i:Int))) 5 (by omega) (fun i hi=>by
  have b1:=A9a ok pv i
  unfold T4
  simp only []
  rw [if_pos (by rw [decide_eq_true_eq]; omega),A9g p i hi]
  simp only [Option.bind_some]
  rw [E0 (n:=(i:Int) + 1) (by omega),A72]
  by_cases c:i < p.length∧p[i]! ≠ -1
  ·have hb:=pv.bd i c.1
   have hw:=(ok.figure _ (G5 (show i < h.Figures.length by rw [← pv.len]; exact c.1))).worth
   have he:e p i > 0:= by unfold e; rw [if_pos c.1]; have:=c.2; omega
   rw [if_pos (by rw [decide_eq_true_eq]; exact he),F5 (show i < h.Figures.length by have:=c.1; omega),if_pos c]
   simp only [Option.bind_some]
   rw [E0 (by omega)]; rfl
  ·have he:¬ e p i > 0:= by
    unfold e
    by_cases c1:i < p.length
    ·rw [if_pos c1]
     have:p[i]! = -1:=Classical.byContradiction fun hq=>c ⟨c1,hq⟩
     omega
    ·rw [if_neg c1]; omega
   rw [if_neg (by rw [decide_eq_true_eq]; exact he),if_neg c,Int.add_zero]; rfl) (by
  unfold T4
  simp only []
  rw [if_neg (show ¬ decide (((5:Nat):Int) < 5) = true by rw [decide_eq_true_eq]; omega)]
  have:=C21 h p (5 - p.length)
  rw [show p.length + (5 - p.length) = 5 by omega] at this
  rw [this]; rfl)
 rw [l1]; rfl
def W2 (h:RoHouse) (l:Nat) (p:List Int) (i:Nat):Bool:=p[i]! == -1 || L5 (warm h p[i]!.toNat l) h.Figures[i]! == 1
def A4b (h:RoHouse) (l:Nat) (p:List Int):Bool:=(List.range p.length).all (W2 h l p)
def V5 (h:RoHouse) (l:Nat) (p:List Int):Bool:=A4b h l p && (R6 h p && A1x h p)
def B6a (p:List Int) (i:Nat):Prop:=i < p.length∧p[i]! ≠ -1
def left (h:RoHouse) (l:Nat) (p:List Int) (i:Nat):Int:=A3a ((warm h p[i]!.toNat l).Lo - h.Figures[i]!.Cracks) (h.Figures[i]!.Slumps - (warm h p[i]!.toNat l).Hi)
instance (p:List Int) (i:Nat):Decidable (B6a p i):=inferInstanceAs (Decidable (_∧_))
end Rm
end
section
set_option maxRecDepth 100000
set_option maxHeartbeats 0
namespace Rm
open Go Am Go.Proofs.YtbheamjhjgoccaaDoor.Cd
def N4 (a0:RoHouse):Option Bool :=
 (T6 a0).bind fun x1 =>
 some (x1.2.2 == 0)
theorem O5 {c:Sc} {H:A7} {a0:RoHouse} {r:Bool} (h:N4 a0 = some r) :
  F1 tab c H (.fn (.func 43) [] []) [(.agg (A2 a0))] [.b r]:= by
 unfold N4 at h
 refine cE rfl rfl<|sg 0 rfl<|A0 (F3 (cs:=A2 a0) rfl rfl rfl) rfl<|qm rfl<|es (ra1 rfl)<|s0<|oB h fun x1 hx1 h=>A0 (C2 rfl rfl rfl) rfl<|B4 (rs:=[.i x1.1,.i x1.2.1,.i x1.2.2]) rfl rfl (A1 (C8 rfl) B5) ((V8 hx1).frz)<|qm rfl<|A0 (A6 rfl rfl) rfl<|A0 (A6 rfl rfl) rfl<|A0 (A6 rfl rfl) rfl<|qm rfl<|qm rfl<|qm rfl<|es (ra1 rfl)<|s0<|qm rfl<|A0 (F7 rfl rfl) rfl<|qm rfl<|es (ra1 rfl)<|C6 ?_
 obtain rfl:=os h
 exact retq trivial (B1 rfl B9) (A4 rfl B8) (A3 A5 B3)
end Rm
end
section
namespace Rm
open Go Am
theorem B1v {a b:Int} (ha:0≤a) (hb:0 < b):∃r,C2e a b = some r∧0≤r∧r < b:= by
 unfold C2e
 rw [if_neg (by omega)]
 exact ⟨a.tmod b,rfl,Int.tmod_nonneg _ ha,Int.tmod_lt_of_pos _ hb⟩
theorem B7f (h:RoHouse):N4 h = some ((check h).2.2 == 0):= by
 unfold N4
 rw [S9]; rfl
theorem A30 (l:List Int) (v:Int) (j:Nat):(l++[v])[j]! = if j < l.length then l[j]! else if j = l.length then v else default:= by
 by_cases c:j < l.length
 ·rw [if_pos c,getElem!_pos (l++[v]) j (by rw [List.length_append]; omega),getElem!_pos l j c,List.getElem_append_left c]
 ·rw [if_neg c]
  by_cases c2:j = l.length
  ·subst c2
   rw [if_pos rfl,getElem!_pos (l++[v]) l.length (by rw [List.length_append]; simp),List.getElem_append_right (Nat.le_refl _)]
   simp
  ·rw [if_neg c2,getElem!_neg (l++[v]) j (by rw [List.length_append]; simp; omega)]
theorem B7e {l:List Int} {v:Int} {j:Nat} (hj:j < l.length):R5 (l++[v]) j = R5 l j:= by
 unfold R5
 rw [A30,if_pos hj,List.take_append_of_le_length (by omega)]
theorem B7d (l:List Int) (v:Int):R5 (l++[v]) l.length = (v != -1 && l.any (· == v)):= by
 unfold R5
 rw [A30,if_neg (Nat.lt_irrefl _),if_pos rfl,List.take_left' rfl]
theorem B3u (l:List Int):dup l = false↔∀ i,i < l.length→R5 l i = false:= by
 unfold dup
 constructor
 ·intro h i hi
  cases hf:first (fun i=>if R5 l i then some () else none) l.length with
  | some u=>rw [hf] at h; cases h
  | none =>
   have:=L2.mp hf i hi
   cases ht:R5 l i with
   | false=>rfl
   | true=>rw [ht] at this; exact absurd this (by simp)
 ·intro h
  rw [L2.mpr fun i hi=>by rw [h i hi]; rfl]; rfl
structure AnyOk (h:RoHouse) (safe:Bool) (p:RoPlan):Prop where
 pv:PV h p.At
 lit:∃l:Nat,p.Lit = l∧l < 2 ^ h.Stoves.toNat
 dup:dup p.At = false
 safe:safe = true→A4b h p.Lit.toNat p.At = true
theorem B7g {n:Int} (h:(Lit.int .u8 n).wf = true):0≤n∧n < 256:= by
 rw [Lit.wf,Bool.and_eq_true,decide_eq_true_eq,decide_eq_true_eq] at h
 have h1:IntKind.u8.min = 0:=rfl
 have h2:IntKind.u8.max = 255:=rfl
 omega
end Rm
end
section
set_option maxRecDepth 100000
set_option maxHeartbeats 0
namespace Rm
open Go Am Go.Proofs.YtbheamjhjgoccaaDoor.Cd
end Rm
end
section
namespace Rm
open Go Am
section
variable {α σ ρ:Type}
def A68 (f:α→σ→Option (σ ⊕ ρ)):List α→σ→Option (σ ⊕ ρ)
 | [],s=>some (.inl s)
 | a :: l,s=>(f a s).bind fun x=>match x with
  | .inl s'=>A68 f l s'
  | .inr r=>some (.inr r)
theorem B1d (f:α→σ→Option (σ ⊕ ρ)) (m:List α):∀(l:List α) (s:σ),A68 f (l++m) s = (A68 f l s).bind fun x=>match x with
  | .inl s'=>A68 f m s'
  | .inr r=>some (.inr r)
 | [],s=>rfl
 | a :: l,s=>by
  show (f a s).bind _ = ((f a s).bind _).bind _
  cases f a s with
  | none=>rfl
  | some x=>cases x with
   | inl s'=>exact B1d f m l s'
   | inr r=>rfl
end
def A0p (h:RoHouse) (l:Nat) (q:List Int) (p:Nat):Bool:=!(q.any (· == (p:Int))) && L5 (warm h p l) h.Figures[q.length]! == 1
def cand (h:RoHouse) (l:Nat) (q:List Int):List Int:=(((List.range h.Places.length).filter (A0p h l q)).map fun (p:Nat)=>(p:Int))++[-1]
def DF (h:RoHouse) (l:Nat):Nat→List Int→List (List Int)
 | 0,q=>[q]
 | d + 1,q=>(cand h l q).flatMap fun v=>DF h l d (q++[v])
structure BG (h:RoHouse) (q:List Int):Prop where
 len:q.length≤h.Figures.length
 bd:∀i,i < q.length→-1≤q[i]!∧q[i]! < (h.Places.length:Int)
theorem C0f {h:RoHouse} {l:Nat} {q:List Int} {v:Int} (hv:v ∈ cand h l q):v = -1∨∃ p:Nat,v = p∧p < h.Places.length∧A0p h l q p = true:= by
 unfold cand at hv
 rw [List.mem_append,List.mem_map] at hv
 rcases hv with ⟨p,hp,rfl⟩ | hv
 ·rw [List.mem_filter,List.mem_range] at hp
  exact .inr ⟨p,rfl,hp.1,hp.2⟩
 ·exact .inl (List.mem_singleton.mp hv)
theorem BG.snoc {h:RoHouse} {l:Nat} {q:List Int} (b:BG h q) (hq:q.length < h.Figures.length) {v:Int} (hv:v ∈ cand h l q):BG h (q++[v]):= by
 refine ⟨by rw [List.length_append]; simp; omega,fun i hi=>?_⟩
 rw [A30]
 by_cases c:i < q.length
 ·rw [if_pos c]; exact b.bd i c
 ·rw [List.length_append,List.length_singleton] at hi
  rw [if_neg c,if_pos (by omega)]
  rcases C0f hv with rfl | ⟨p,rfl,hp,_⟩ <;> omega
theorem C86 {h:RoHouse} {l:Nat}:∀(d:Nat) (q p:List Int),p ∈ DF h l d q→p.length = q.length + d
 | 0,q,p,hp=>by rw [List.mem_singleton.mp hp]; rfl
 | d + 1,q,p,hp=>by
  unfold DF at hp
  rw [List.mem_flatMap] at hp
  obtain ⟨v,_,hp⟩:=hp
  rw [C86 d _ p hp,List.length_append,List.length_singleton]; omega
theorem C2t (p:List Int) {n:Nat} (h:n < p.length):p.take (n + 1) = p.take n++[p[n]!]:= by
 rw [List.take_add_one,List.getElem?_eq_getElem h,getElem!_pos p n h]; rfl
theorem B9p {h:RoHouse} {l:Nat}:∀(d:Nat) (q p:List Int),p ∈ DF h l d q→p.take q.length = q
 | 0,q,p,hp=>by rw [List.mem_singleton.mp hp,List.take_length]
 | d + 1,q,p,hp=>by
  unfold DF at hp
  rw [List.mem_flatMap] at hp
  obtain ⟨v,_,hp⟩:=hp
  have:=B9p d _ p hp
  rw [List.length_append,List.length_singleton] at this
  have h2:=congrArg (List.take q.length) this
  rw [List.take_take,Nat.min_eq_left (by omega),List.take_left' rfl] at h2
  exact h2
theorem C0h (h:RoHouse) (p:List Int) (k:Nat) {m:Nat}:∀n,n≤m→G1 h (p.take m) k n = G1 h p k n
 | 0,_=>rfl
 | n + 1,hn=>by
  rw [O1,O1,C0h h p k n (by omega)]
  congr 1
  unfold con plc
  rw [C8u p (show n < m by omega),List.length_take]
  by_cases c:n < p.length∧p[n]! ≠ -1∧bit (h.Places[p[n]!.toNat]!).Joists.toNat k = true
  ·rw [if_pos c,if_pos ⟨by have:=c.1; omega,c.2⟩]
  ·rw [if_neg c,if_neg (fun q=>c ⟨by have:=q.1; omega,q.2⟩)]
theorem D9d {h:RoHouse} (ok:HOk h) {p:List Int} (hl:p.length≤h.Figures.length) (k i:Nat):0≤con h p k i:= by
 unfold con
 by_cases c:i < p.length∧p[i]! ≠ -1∧bit (plc h p i).Joists.toNat k = true
 ·rw [if_pos c]
  have:=(ok.figure _ (G5 (show i < h.Figures.length by have:=c.1; omega))).weight
  omega
 ·rw [if_neg c]; omega
theorem C0g {h:RoHouse} (ok:HOk h) {p:List Int} (hl:p.length≤h.Figures.length) (k:Nat) {m:Nat}:∀{n:Nat},m≤n→G1 h p k m≤G1 h p k n
 | 0,hm=>by
  have:m = 0:= by omega
  subst this; omega
 | n + 1,hm=>by
  by_cases e:m = n + 1
  ·subst e; omega
  ·have ih:=C0g ok hl k (m:=m) (n:=n) (by omega)
   have:=D9d ok hl k n
   rw [O1]; omega
theorem C9o {h:RoHouse} (ok:HOk h) {p:List Int} (hl:p.length≤h.Figures.length) {m:Nat} (hm:m≤p.length) (hh:R6 h p = true):R6 h (p.take m) = true:= by
 unfold R6 at hh ⊢
 rw [List.all_eq_true] at hh ⊢
 intro k hk
 have h1:=hh k hk
 rw [decide_eq_true_eq] at h1 ⊢
 have h2:=C0h h p k (m:=m) m (Nat.le_refl _)
 have h3:=C0g ok hl k hm
 rw [List.length_take,Nat.min_eq_left hm]
 omega
theorem D34 {h:RoHouse} (ok:HOk h) {l:Nat} {d:Nat} {q:List Int} (hl:q.length + d≤h.Figures.length) (hh:R6 h q = false) {g:List Int→Bool} (hg:∀p,g p = true→R6 h p = true):(DF h l d q).filter g = []:= by
 rw [List.filter_eq_nil_iff]
 intro p hp hgp
 have h1:=C86 d q p hp
 have h2:=C9o ok (p:=p) (by omega) (m:=q.length) (by omega) (hg p hgp)
 rw [B9p d q p hp,hh] at h2
 cases h2
def pad (h:RoHouse) (q:List Int):List Int:=q++List.replicate (h.Figures.length - q.length) (-1)
theorem B37 {h:RoHouse} {q:List Int} (hq:q.length≤h.Figures.length):(pad h q).length = h.Figures.length:= by
 unfold pad
 rw [List.length_append,List.length_replicate]; omega
theorem C6e {h:RoHouse} {q:List Int} (hq:q.length≤h.Figures.length) {i:Nat} (hi:i < h.Figures.length):(pad h q)[i]! = if i < q.length then q[i]! else -1:= by
 have hl:=B37 hq
 rw [getElem!_pos (pad h q) i (by omega)]
 unfold pad
 by_cases c:i < q.length
 ·rw [if_pos c,List.getElem_append_left c,getElem!_pos q i c]
 ·rw [if_neg c,List.getElem_append_right (by omega),List.getElem_replicate]
theorem C7e {h:RoHouse} {q:List Int} (hq:q.length≤h.Figures.length) (i:Nat):e (pad h q) i = e q i:= by
 unfold e
 rw [B37 hq]
 by_cases c:i < h.Figures.length
 ·rw [if_pos c,C6e hq c]
  by_cases c2:i < q.length
  ·rw [if_pos c2,if_pos c2]
  ·rw [if_neg c2,if_neg c2]; rfl
 ·rw [if_neg c,if_neg (by omega)]
theorem D7l {h:RoHouse} {q:List Int} (hq:q.length≤h.Figures.length):enc (pad h q) = enc q:= by
 unfold enc
 rw [C7e hq,C7e hq,C7e hq,C7e hq,C7e hq]
theorem E0a {h:RoHouse} {q:List Int} (b:BG h q):PV h (pad h q):= by
 refine ⟨B37 b.len,fun i hi=>?_⟩
 rw [B37 b.len] at hi
 rw [C6e b.len hi]
 by_cases c:i < q.length
 ·rw [if_pos c]; exact b.bd i c
 ·rw [if_neg c]; omega
theorem D7g {h:RoHouse} {q:List Int} (hq:q.length≤h.Figures.length) (k i:Nat):con h (pad h q) k i = con h q k i:= by
 unfold con plc
 rw [B37 hq]
 by_cases c:i < h.Figures.length
 ·rw [C6e hq c]
  by_cases c2:i < q.length
  ·rw [if_pos c2]
   by_cases c3:q[i]! ≠ -1∧bit (h.Places[q[i]!.toNat]!).Joists.toNat k = true
   ·rw [if_pos ⟨c,c3⟩,if_pos ⟨c2,c3⟩]
   ·rw [if_neg (fun z=>c3 z.2),if_neg (fun z=>c3 z.2)]
  ·rw [if_neg c2,if_neg (fun z=>z.2.1 rfl),if_neg (fun z=>c2 z.1)]
 ·rw [if_neg (fun z=>c z.1),if_neg (fun z=>absurd z.1 (by omega))]
theorem C32 {h:RoHouse} {q:List Int} (hq:q.length≤h.Figures.length) (k:Nat):∀n,G1 h (pad h q) k n = G1 h q k n
 | 0=>rfl
 | n + 1=>by rw [O1,O1,C32 hq k n,D7g hq]
theorem D2w {h:RoHouse} {q:List Int} (hq:q.length≤h.Figures.length):R6 h (pad h q) = R6 h q:= by
 unfold R6
 congr 1
 funext k
 rw [B37 hq,C32 hq]
 have:=B41 h q k (h.Figures.length - q.length)
 rw [show q.length + (h.Figures.length - q.length) = h.Figures.length by omega] at this
 rw [this]
theorem C9r {h:RoHouse} (ok:HOk h) {q:List Int} (b:BG h q):N1 ⟨h⟩ (enc q) false = some (R6 h q):= by
 have:=B9y ok (E0a b) false
 rw [D7l b.len,D2w b.len] at this
 rw [this]
 cases R6 h q <;> rfl
theorem B5w (q:List Int) (v:Int):Ar5.set (enc q) (q.length:Int) (v + 1) = enc (q++[v]):= by
 have h1:=D07 (q++[v]) (i:=q.length) (by rw [List.length_append]; simp)
 rw [List.take_left' rfl,A30,if_neg (Nat.lt_irrefl _),if_pos rfl] at h1
 rw [h1]
 congr 1
 rw [List.take_of_length_le (by rw [List.length_append]; simp)]
theorem D44 (q:List Int):enc (q++[-1]) = enc q:= by
 have hz:∀i,e (q++[-1]) i = e q i:= by
  intro i
  unfold e
  rw [List.length_append,List.length_singleton,A30]
  by_cases c:i < q.length
  ·rw [if_pos (by omega),if_pos c,if_pos c]
  ·rw [if_neg c,if_neg c]
   by_cases c2:i = q.length
   ·rw [if_pos (by omega),if_pos c2]; rfl
   ·rw [if_neg (by omega)]
 unfold enc
 rw [hz,hz,hz,hz,hz]
theorem set_set (a:Ar5 Int) (i v w:Int):Ar5.set (Ar5.set a i v) i w = Ar5.set a i w:= by
 unfold Ar5.set
 simp only [Ar5.mk.injEq]
 refine ⟨?_,?_,?_,?_,?_⟩ <;> (split <;> rfl)
def B8i (u:Int) (q:List Int):Prop:=∃ n:Nat,u = n∧n < 32∧∀ p:Nat,p < 5→bit n p = q.any (· == (p:Int))
theorem D2j:∀l:Nat,l < 32→∀ s:Nat,s < 5→B4h .i64 (l:Int) (s:Int) = some ((l / 2 ^ s:Nat):Int):= by decide +kernel
theorem D2g:∀x:Nat,x < 32→(B4z (x:Int) 1 == 1) = (x % 2 == 1):= by decide +kernel
theorem shl5:∀n:Nat,n < 5→B4g .i64 1 (n:Int) = some ((2 ^ n:Nat):Int):= by decide +kernel
theorem D8c:∀u:Nat,u < 32→∀ p:Nat,p < 5→orI (u:Int) ((2 ^ p:Nat):Int) = ((u ||| 2 ^ p:Nat):Int)∧(u ||| 2 ^ p) < 32:= by decide +kernel
theorem D9z:∀u:Nat,u < 32→∀ p:Nat,p < 5→∀ t:Nat,t < 5→bit (u ||| 2 ^ p) t = (bit u t || t == p):= by decide +kernel
theorem D30 {u:Int} {q:List Int} (hu:B8i u q) {p:Nat} (hp:p < 5):B8i (orI u ((2 ^ p:Nat):Int)) (q++[(p:Int)]):= by
 obtain ⟨n,rfl,hn,hb⟩:=hu
 obtain ⟨h1,h2⟩:=D8c n hn p hp
 refine ⟨_,h1,h2,fun t ht=>?_⟩
 rw [D9z n hn p hp t ht,hb t ht,List.any_append,List.any_cons,List.any_nil,Bool.or_false]
 congr 1
 rw [Bool.eq_iff_iff,beq_iff_eq,beq_iff_eq]
 omega
theorem D3z {u:Int} {q:List Int} (hu:B8i u q):B8i u (q++[-1]):= by
 obtain ⟨n,rfl,hn,hb⟩:=hu
 refine ⟨n,rfl,hn,fun t ht=>?_⟩
 rw [hb t ht,List.any_append,List.any_cons,List.any_nil,Bool.or_false]
 have:((-1:Int) == (t:Int)) = false:=beq_eq_false_iff_ne.mpr (by omega)
 rw [this,Bool.or_false]
def okB (h:RoHouse) (p:List Int):Bool:=R6 h p && A1x h p
section
variable {σ ρ:Type}
theorem B8e {h:RoHouse} (ok:HOk h) {l:Nat} (hl16:l < 16) (body:room_plan→σ→Option (σ ⊕ ρ)):∀(d:Nat) (q:List Int) (s:σ) (X:σ ⊕ ρ) (u:Int),q.length + d = h.Figures.length→BG h q→B8i u q →
  A68 (fun p s=>body ⟨(l:Int),enc p⟩ s) ((DF h l d q).filter (okB h)) s = some X→∀ k,d < k→∃ p',A8x ⟨h⟩ (l:Int) body k (q.length:Int) u (enc q) s = some (p',X)∧(X.isLeft = true→p' = enc q)
 | 0,q,s,X,u,hl,b,hu,hf,k,hk=>by
  obtain ⟨k,rfl⟩:∃m,k = m + 1:=⟨k - 1,by omega⟩
  refine ⟨enc q,?_,fun _=>rfl⟩
  unfold A8x
  rw [if_pos (show ((q.length:Int) == (List.length h.Figures:Int)) = true by rw [beq_iff_eq]; omega),B9y ok (p:=q) ⟨by omega,b.bd⟩ true]
  simp only [Option.bind_some,Bool.not_true,Bool.false_or]
  have e1:(R6 h q && A1x h q) = okB h q:=rfl
  rw [e1]
  unfold DF at hf
  cases ho:okB h q with
  | false =>
   rw [List.filter_cons,ho,if_neg (by decide)] at hf
   have hf:some (Sum.inl s) = some X:=hf
   rw [← Option.some.inj hf,if_neg (by decide)]
  | true =>
   rw [List.filter_cons,ho,if_pos rfl] at hf
   rw [if_pos rfl]
   have hf:(body ⟨(l:Int),enc q⟩ s).bind _ = some X:=hf
   cases hb:body ⟨(l:Int),enc q⟩ s with
   | none=>rw [hb] at hf; exact absurd hf (by simp)
   | some x =>
    rw [hb] at hf
    cases x with
    | inl s' =>
     have:some (Sum.inl s') = some X:=hf
     rw [← Option.some.inj this]; rfl
    | inr r =>
     have:some (Sum.inr r) = some X:=hf
     rw [← Option.some.inj this]; rfl
 | d + 1,q,s,X,u,hl,b,hu,hf,k,hk=>by
  obtain ⟨k,rfl⟩:∃m,k = m + 1:=⟨k - 1,by omega⟩
  have hp:=ok.places
  have hf5:=ok.figures
  have hq:q.length < h.Figures.length:= by omega
  have hlen:∀v:Int,((q++[v]).length:Int) = w64 ((q.length:Int) + 1):=fun v=>by
   rw [List.length_append,List.length_singleton,E0 (by omega)]; rfl
  have hidx:∀a:Ar5 Int,∃ z,idx (Ar5.l a) (q.length:Int) = some z:=fun a=>by
   refine ⟨_,F5 (l:=Ar5.l a) (i:=q.length) (show q.length < 5 by omega)⟩
  unfold A8x
  rw [if_neg (show ¬ ((q.length:Int) == (List.length h.Figures:Int)) = true by rw [beq_iff_eq]; omega)]
  have hf:A68 (fun p s=>body ⟨(l:Int),enc p⟩ s) (((((List.range h.Places.length).drop 0).filter (A0p h l q)).map fun (p:Nat)=>(p:Int)).flatMap (fun v=>(DF h l d (q++[v])).filter (okB h))++(DF h l d (q++[-1])).filter (okB h)) s = some X:= by
   unfold DF cand at hf
   rw [List.filter_flatMap,List.flatMap_append,List.flatMap_cons,List.flatMap_nil,List.append_nil] at hf
   exact hf
  obtain ⟨o,ho,hJ⟩:=B74 (b:=B8d ⟨h⟩ (l:Int) (A8x ⟨h⟩ (l:Int) body k) (q.length:Int) u)
   (fun i x=>x.1 = (i:Int)∧(∀ y:Int,Ar5.set x.2.1 (q.length:Int) y = Ar5.set (enc q) (q.length:Int) y)∧A68 (fun p s=>body ⟨(l:Int),enc p⟩ s) (((((List.range h.Places.length).drop i).filter (A0p h l q)).map fun (p:Nat)=>(p:Int)).flatMap (fun v=>(DF h l d (q++[v])).filter (okB h))++(DF h l d (q++[-1])).filter (okB h)) x.2.2 = some X)
   h.Places.length
   (fun o=>match o with | .inl (_,r)=>X = .inr r | .inr (p',s')=>(∀ y:Int,Ar5.set p' (q.length:Int) y = Ar5.set (enc q) (q.length:Int) y)∧A68 (fun p s=>body ⟨(l:Int),enc p⟩ s) ((DF h l d (q++[-1])).filter (okB h)) s' = some X)
   (by omega) (by
    rintro i ⟨n,p,s⟩ hi ⟨e1,e2,e3⟩
    simp only at e1 e2 e3
    subst e1
    obtain ⟨un,hun,hun2,hub⟩:=hu
    rw [List.drop_eq_getElem_cons (by rw [List.length_range]; exact hi),List.getElem_range,List.filter_cons] at e3
    unfold B8d
    simp only []
    rw [if_pos (show decide ((i:Int) < (List.length h.Places:Int)) = true by rw [decide_eq_true_eq]; omega),hun,D2j un hun2 i (by omega)]
    simp only [Option.bind_some]
    rw [D2g _ (Nat.lt_of_le_of_lt (Nat.div_le_self _ _) hun2)]
    have hbit:(un / 2 ^ i % 2 == 1) = q.any (· == (i:Int)):=hub i (by omega)
    rw [hbit]
    have hguard:(if q.any (· == (i:Int)) = true then some true else (O9 ⟨h⟩ (q.length:Int) (i:Int) (l:Int)).bind fun z=>some (z != 1)) = some (!A0p h l q i):= by
     unfold A0p
     cases q.any (· == (i:Int))
     ·rw [if_neg (by decide),B9v ok hq hi hl16]
      simp only [Option.bind_some,Bool.not_false,Bool.true_and]; rfl
     ·rfl
    rw [hguard]
    simp only [Option.bind_some]
    rw [E0 (n:=(i:Int) + 1) (by omega)]
    cases hfr:A0p h l q i with
    | false =>
     rw [hfr,if_neg (by decide)] at e3
     rw [Bool.not_false,if_pos rfl]
     exact .inl ⟨_,rfl,rfl,e2,e3⟩
    | true =>
     rw [hfr,if_pos rfl,List.map_cons,List.flatMap_cons,List.append_assoc,B1d] at e3
     rw [Bool.not_true,if_neg (by decide)]
     obtain ⟨z,hz⟩:=hidx p
     rw [hz]
     simp only [Option.bind_some]
     have hmem:((i:Nat):Int) ∈ cand h l q:= by
      unfold cand
      rw [List.mem_append,List.mem_map]
      exact .inl ⟨i,List.mem_filter.mpr ⟨List.mem_range.mpr hi,hfr⟩,rfl⟩
     have b2:=b.snoc hq hmem
     rw [e2,B5w,C9r ok b2]
     simp only [Option.bind_some]
     cases hh:R6 h (q++[(i:Int)]) with
     | false =>
      rw [if_neg (by decide)]
      have hpr:(DF h l d (q++[(i:Int)])).filter (okB h) = []:=D34 ok (by rw [List.length_append,List.length_singleton]; omega) hh fun p hp=>by
       unfold okB at hp
       rw [Bool.and_eq_true] at hp
       exact hp.1
      rw [hpr] at e3
      exact .inl ⟨_,rfl,rfl,fun y=>by rw [← B5w,set_set],e3⟩
     | true =>
      rw [if_pos rfl,shl5 i (by omega)]
      simp only [Option.bind_some]
      have hu2:=D30 (p:=i) ⟨un,rfl,hun2,hub⟩ (by omega)
      cases hx:A68 (fun p s=>body ⟨(l:Int),enc p⟩ s) ((DF h l d (q++[(i:Int)])).filter (okB h)) s with
      | none=>rw [hx] at e3; exact absurd e3 (by simp)
      | some x =>
       rw [hx] at e3
       obtain ⟨p1,hp1,hp2⟩:=B8e ok hl16 body d (q++[(i:Int)]) s x _ (by rw [List.length_append,List.length_singleton]; omega) b2 hu2 hx k (by omega)
       rw [hlen] at hp1
       rw [hp1]
       simp only [Option.bind_some]
       cases x with
       | inl s' =>
        have hp2:=hp2 rfl
        exact .inl ⟨_,rfl,rfl,fun y=>by rw [hp2,← B5w,set_set],e3⟩
       | inr r =>
        have e3:some (Sum.inr r) = some X:=e3
        exact .inr ⟨_,rfl,(Option.some.inj e3).symm⟩) (by
    rintro ⟨n,p,s⟩ ⟨e1,e2,e3⟩
    simp only at e1 e2 e3
    subst e1
    rw [List.drop_of_length_le (by rw [List.length_range]; exact Nat.le_refl _)] at e3
    unfold B8d
    simp only []
    rw [if_neg (show ¬ decide (((h.Places.length:Nat):Int) < (List.length h.Places:Int)) = true by simp)]
    exact ⟨_,rfl,e2,e3⟩) (0,enc q,s) ⟨rfl,fun _=>rfl,hf⟩
  rw [ho]
  simp only [Option.bind_some]
  rcases o with ⟨p',r⟩ | ⟨p',s'⟩
  ·have hJ:X = .inr r:=hJ
   subst hJ
   exact ⟨p',rfl,fun z=>by cases z⟩
  ·obtain ⟨g1,g2⟩:=hJ
   obtain ⟨z,hz⟩:=hidx p'
   simp only []
   rw [hz]
   simp only [Option.bind_some]
   have g3:Ar5.set p' (q.length:Int) 0 = enc (q++[-1]):= by rw [g1,← B5w]; rfl
   rw [g3]
   have b2:BG h (q++[-1]):=b.snoc (l:=l) hq (by unfold cand; rw [List.mem_append]; exact .inr (List.mem_singleton.mpr rfl))
   obtain ⟨p1,hp1,hp2⟩:=B8e ok hl16 body d (q++[-1]) s' X u (by rw [List.length_append,List.length_singleton]; omega) b2 (D3z hu) g2 k (by omega)
   rw [hlen] at hp1
   exact ⟨p1,hp1,fun hX=>by rw [hp2 hX,D44]⟩
end
def A0l (h:RoHouse) (l:Nat):List (Nat × List Int):=((DF h l h.Figures.length []).filter (okB h)).map fun p=>(l,p)
def O3 (h:RoHouse):List (Nat × List Int):=(List.range (2 ^ h.Stoves.toNat)).flatMap (A0l h)
section
variable {α β σ ρ:Type}
theorem C4a (f:β→σ→Option (σ ⊕ ρ)) (g:α→β):∀(l:List α) (s:σ),A68 f (l.map g) s = A68 (fun a s=>f (g a) s) l s
 | [],_=>rfl
 | a :: l,s=>by
  show (f (g a) s).bind _ = (f (g a) s).bind _
  congr 1
  funext x
  cases x with
  | inl s'=>exact C4a f g l s'
  | inr r=>rfl
theorem D0s:B8i 0 []:=⟨0,rfl,by decide,by decide⟩
theorem B1s {h:RoHouse} (ok:HOk h) (body:room_plan→σ→Option (σ ⊕ ρ)) {s:σ} {X:σ ⊕ ρ} (hf:A68 (fun (x:Nat × List Int) s=>body ⟨(x.1:Int),enc x.2⟩ s) (O3 h) s = some X):A57 ⟨h⟩ σ ρ body s = some X:= by
 have hpw:=A6r ok
 have hf5:=ok.figures
 unfold A57
 rw [show B4g .i64 1 (room_house.mk h).RoHouse.Stoves = some ((2 ^ h.Stoves.toNat:Nat):Int) from D8p ok]
 simp only [Option.bind_some]
 have hf:A68 (fun (x:Nat × List Int) s=>body ⟨(x.1:Int),enc x.2⟩ s) (((List.range (2 ^ h.Stoves.toNat)).drop 0).flatMap (A0l h)) s = some X:=hf
 obtain ⟨o,ho,hJ⟩:=B74 (b:=C4q ⟨h⟩ ((2 ^ h.Stoves.toNat:Nat):Int) body)
  (fun i x=>x.1 = (i:Int)∧A68 (fun (x:Nat × List Int) s=>body ⟨(x.1:Int),enc x.2⟩ s) (((List.range (2 ^ h.Stoves.toNat)).drop i).flatMap (A0l h)) x.2 = some X)
  (2 ^ h.Stoves.toNat) (fun o=>match o with | .inl r=>X = .inr r | .inr s'=>X = .inl s') (by omega) (by
   rintro i ⟨n,s⟩ hi ⟨e1,e2⟩
   simp only at e1 e2
   subst e1
   rw [List.drop_eq_getElem_cons (by rw [List.length_range]; exact hi),List.getElem_range,List.flatMap_cons,B1d] at e2
   unfold C4q
   simp only []
   rw [if_pos (by rw [decide_eq_true_eq]; omega)]
   cases hx:A68 (fun (x:Nat × List Int) s=>body ⟨(x.1:Int),enc x.2⟩ s) (A0l h i) s with
   | none=>rw [hx] at e2; exact absurd e2 (by simp)
   | some x =>
    rw [hx] at e2
    unfold A0l at hx
    rw [C4a] at hx
    obtain ⟨p',hp',_⟩:=B8e ok (show i < 16 by omega) body h.Figures.length [] s x 0 (by simp) ⟨Nat.zero_le _,fun j hj=>absurd hj (Nat.not_lt_zero j)⟩ D0s hx 64 (by omega)
    have hp':A8x ⟨h⟩ (i:Int) body 64 0 0 ⟨0,0,0,0,0⟩ s = some (p',x):=hp'
    rw [hp']
    simp only [Option.bind_some]
    rw [E0 (by omega)]
    cases x with
    | inl s'=>exact .inl ⟨_,rfl,rfl,e2⟩
    | inr r =>
     have e2:some (Sum.inr r) = some X:=e2
     exact .inr ⟨_,rfl,(Option.some.inj e2).symm⟩) (by
   rintro ⟨n,s⟩ ⟨e1,e2⟩
   simp only at e1 e2
   subst e1
   rw [List.drop_of_length_le (by rw [List.length_range]; exact Nat.le_refl _)] at e2
   have e2:some (Sum.inl s) = some X:=e2
   unfold C4q
   simp only []
   rw [if_neg (by simp)]
   exact ⟨_,rfl,(Option.some.inj e2).symm⟩) (0,s) ⟨rfl,hf⟩
 rw [ho]
 simp only [Option.bind_some]
 cases o with
 | inl r =>
  have hJ:X = .inr r:=hJ
  rw [hJ]
 | inr s' =>
  have hJ:X = .inl s':=hJ
  rw [hJ]
end
theorem D32 {h:RoHouse} {l:Nat} {P:List Int→Prop} (hP:∀q v,q.length < h.Figures.length→v ∈ cand h l q→P q→P (q++[v])):∀(d:Nat) (q p:List Int),q.length + d≤h.Figures.length→P q→p ∈ DF h l d q→P p
 | 0,q,p,_,hq,hp=>by rw [List.mem_singleton.mp hp]; exact hq
 | d + 1,q,p,hl,hq,hp=>by
  unfold DF at hp
  rw [List.mem_flatMap] at hp
  obtain ⟨v,hv,hp⟩:=hp
  exact D32 hP d (q++[v]) p (by rw [List.length_append,List.length_singleton]; omega) (hP q v (by omega) hv hq) hp
theorem C8l (h:RoHouse) (l:Nat) {q:List Int} {v:Int} {j:Nat} (hj:j < q.length):W2 h l (q++[v]) j = W2 h l q j:= by
 unfold W2
 rw [A30,if_pos hj]
structure PG (h:RoHouse) (l:Nat) (p:List Int):Prop where
 bg:BG h p
 safe:∀i,i < p.length→W2 h l p i = true
 once:∀i,i < p.length→R5 p i = false
theorem PG.snoc {h:RoHouse} {l:Nat} {q:List Int} {v:Int} (hq:q.length < h.Figures.length) (hv:v ∈ cand h l q) (g:PG h l q):PG h l (q++[v]):= by
 refine ⟨g.bg.snoc hq hv,fun i hi=>?_,fun i hi=>?_⟩
 ·rw [List.length_append,List.length_singleton] at hi
  by_cases c:i < q.length
  ·rw [C8l h l c]; exact g.safe i c
  ·rw [show i = q.length by omega]
   unfold W2
   rw [A30,if_neg (Nat.lt_irrefl _),if_pos rfl]
   rcases C0f hv with rfl | ⟨p,rfl,_,hf⟩
   ·rfl
   ·unfold A0p at hf
    rw [Bool.and_eq_true] at hf
    rw [Int.toNat_natCast,hf.2,Bool.or_true]
 ·rw [List.length_append,List.length_singleton] at hi
  by_cases c:i < q.length
  ·rw [B7e c]; exact g.once i c
  ·rw [show i = q.length by omega,B7d]
   rcases C0f hv with rfl | ⟨p,rfl,_,hf⟩
   ·rfl
   ·unfold A0p at hf
    rw [Bool.and_eq_true,Bool.not_eq_true'] at hf
    rw [hf.1,Bool.and_false]
theorem C3q {h:RoHouse} {l:Nat} {p:List Int} (hp:p ∈ DF h l h.Figures.length []):PG h l p∧PV h p:= by
 have h1:PG h l p:=D32 (P:=PG h l) (fun q v hq hv g=>g.snoc hq hv) _ [] p (by simp) ⟨⟨Nat.zero_le _,fun j hj=>absurd hj (Nat.not_lt_zero j)⟩,fun j hj=>absurd hj (Nat.not_lt_zero j),fun j hj=>absurd hj (Nat.not_lt_zero j)⟩ hp
 have h2:=C86 _ _ _ hp
 exact ⟨h1,by rw [h2]; simp,h1.bg.bd⟩
theorem B98 {h:RoHouse} {l:Nat} {p:List Int} (hp:p ∈ DF h l h.Figures.length []):V5 h l p = okB h p:= by
 have g:=(C3q hp).1
 unfold V5 okB
 have:A4b h l p = true:= by
  unfold A4b
  rw [List.all_eq_true]
  intro i hi
  exact g.safe i (List.mem_range.mp hi)
 rw [this,Bool.true_and]
def mkP (x:Nat × List Int):RoPlan:=RoPlan.mk (x.1:Int) x.2
section
variable {α σ ρ:Type}
theorem C0u {f:α→σ→Option (σ ⊕ ρ)} (g:σ→α→σ):∀(l:List α) (s:σ),(∀ a ∈ l,∀ s,f a s = some (.inl (g s a)))→A68 f l s = some (.inl (l.foldl g s))
 | [],s,_=>rfl
 | a :: l,s,h=>by
  show (f a s).bind _ = _
  rw [h a (List.mem_cons_self ..) s]
  exact C0u g l (g s a) fun b hb=>h b (List.mem_cons_of_mem _ hb)
end
theorem B5n {h:RoHouse} {x:Nat × List Int} (hx:x ∈ O3 h):x.1 < 2 ^ h.Stoves.toNat∧x.2 ∈ DF h x.1 h.Figures.length []∧okB h x.2 = true:= by
 unfold O3 at hx
 rw [List.mem_flatMap] at hx
 obtain ⟨l,hl,hx⟩:=hx
 unfold A0l at hx
 rw [List.mem_map] at hx
 obtain ⟨p,hp,rfl⟩:=hx
 rw [List.mem_filter] at hp
 exact ⟨List.mem_range.mp hl,hp.1,hp.2⟩
theorem A5u {h:RoHouse} {x:Nat × List Int} (hx:x ∈ O3 h):PV h x.2:=(C3q (B5n hx).2.1).2
def better1 (h:RoHouse) (b x:Nat × List Int):Nat × List Int:=if worth h x.2 > worth h b.2 then x else b
def T8 (h:RoHouse) (x:Nat × List Int) (l:List (Nat × List Int)):Nat × List Int:=l.foldl (better1 h) x
theorem A78 (h:RoHouse):∀(l:List (Nat × List Int)) (x:Nat × List Int),T8 h x l = x∨T8 h x l ∈ l
 | [],x=>.inl rfl
 | y :: l,x=>by
  show T8 h (better1 h x y) l = x∨_
  rcases A78 h l (better1 h x y) with e | e
  ·unfold better1 at e
   split at e
   ·refine .inr ?_
    show T8 h (better1 h x y) l ∈ y :: l
    unfold better1
    rw [if_pos (by assumption),e]; exact List.mem_cons_self ..
   ·refine .inl ?_
    unfold better1
    rw [if_neg (by assumption),e]
  ·exact .inr (List.mem_cons_of_mem _ e)
def stB (h:RoHouse) (x:Nat × List Int):Int × room_plan:=(worth h x.2,⟨(x.1:Int),enc x.2⟩)
def goB (h:RoHouse) (s:Int × room_plan) (x:Nat × List Int):Int × room_plan:=if worth h x.2 > s.1 then stB h x else s
theorem D5e (h:RoHouse):∀(l:List (Nat × List Int)) (x:Nat × List Int),l.foldl (goB h) (stB h x) = stB h (T8 h x l)
 | [],_=>rfl
 | y :: l,x=>by
  show l.foldl (goB h) (goB h (stB h x) y) = stB h (T8 h (better1 h x y) l)
  have e:goB h (stB h x) y = stB h (better1 h x y):= by
   unfold goB better1 stB
   split <;> rfl
  rw [e,D5e h l]
theorem D2f {h:RoHouse} (ok:HOk h):A57 ⟨h⟩ (Int × room_plan) Unit (A39 h) ((-1),(room_plan.mk 0 (Ar5.mk 0 0 0 0 0))) = some (.inl ((O3 h).foldl (goB h) (-1,⟨0,⟨0,0,0,0,0⟩⟩))):= by
 apply B1s ok
 apply C0u
 intro x hx s
 show A39 h ⟨(x.1:Int),enc x.2⟩ s = _
 unfold A39
 rw [C8z ok (A5u hx)]
 simp only [Option.bind_some]
 unfold goB
 by_cases c:worth h x.2 > s.1
 ·rw [if_pos (by rw [decide_eq_true_eq]; exact c),if_pos c]; rfl
 ·rw [if_neg (by rw [decide_eq_true_eq]; exact c),if_neg c]
def A3c (h:RoHouse):RoPlan × Int × Int :=
 if (check h).2.2 != 0 then (⟨0,[]⟩,0,(check h).2.2) else
 match O3 h with
 | []=>(⟨0,[]⟩,0,9)
 | x :: l=>(mkP (T8 h x l),worth h (T8 h x l).2,0)
theorem D7k (p:List Int) (h5:p.length≤5):cpy (List.replicate p.length (0:Int)) (Ar5.l (enc p)) = p.map (· + 1):= by
 have hl:(Ar5.l (enc p)).length = 5:=rfl
 unfold cpy
 rw [List.length_replicate,hl,Nat.min_eq_right h5,List.drop_of_length_le (by rw [List.length_replicate]; exact Nat.le_refl _),List.append_nil]
 apply List.ext_getElem?
 intro i
 by_cases c:i < p.length
 ·have hi5:i < 5:= by omega
  have h1:=B2x (A9g p i hi5)
  rw [Int.toNat_natCast] at h1
  rw [List.getElem?_take_of_lt c,h1,List.getElem?_map,List.getElem?_eq_getElem c]
  unfold e
  rw [if_pos c,getElem!_pos p i c]; rfl
 ·rw [List.getElem?_eq_none (by rw [List.length_take]; omega),List.getElem?_eq_none (by rw [List.length_map]; omega)]
theorem B9n {h:RoHouse} (hb:NB h):T2 h = some (A3c h):= by
 unfold T2 A3c
 rw [V2 h hb]
 simp only [Option.bind_some]
 by_cases e0:(check h).2.2 = 0
 ·have ok:=S4 e0
  have h5:=ok.figures
  have hp5:=ok.places
  rw [if_neg (by simp [e0]),if_neg (by simp [e0]),D2f ok]
  simp only [Option.bind_some]
  cases hA:O3 h with
  | nil=>rfl
  | cons x l =>
   have hpv:∀y,y ∈ x :: l→PV h y.2:=fun y hy=>A5u (by rw [hA]; exact hy)
   have hx:=A9a ok (hpv x (List.mem_cons_self ..)) x.2.length
   have e1:(x :: l).foldl (goB h) (-1,⟨0,⟨0,0,0,0,0⟩⟩) = stB h (T8 h x l):= by
    show l.foldl (goB h) (goB h (-1,⟨0,⟨0,0,0,0,0⟩⟩) x) = _
    have:goB h (-1,⟨0,⟨0,0,0,0,0⟩⟩) x = stB h x:= by
     unfold goB
     rw [if_pos]
     show A47 h x.2 x.2.length > -1
     omega
    rw [this,D5e]
   rw [e1]
   have hm:T8 h x l ∈ x :: l:= by
    rcases A78 h l x with e | e
    ·rw [e]; exact List.mem_cons_self ..
    ·exact List.mem_cons_of_mem _ e
   have hp:=hpv _ hm
   show _ = some (mkP (T8 h x l),worth h (T8 h x l).2,0)
   generalize T8 h x l = b at hp ⊢
   have hw:=A9a ok hp b.2.length
   have hlen:=hp.len
   unfold stB
   simp only []
   rw [if_neg (by rw [decide_eq_true_eq]; show ¬ A47 h b.2 b.2.length < 0; omega)]
   have hmk:C4t 8 (List.length h.Figures:Int) (0:Int) = some (List.replicate b.2.length 0):= by
    unfold C4t
    rw [if_pos (by omega),Int.toNat_natCast,hlen]
   rw [hmk]
   simp only [Option.bind_some]
   have hc:=D7k b.2 (by omega)
   have l1:loop (A6g (worth h b.2,⟨(b.1:Int),enc b.2⟩) (List.replicate b.2.length 0)) (0,b.2.map (· + 1)) = some b.2:= by
    have hmm:(b.2.map (· + 1)).map (· - 1) = b.2:= by
     rw [List.map_map]
     have:((fun x:Int=>x - 1)∘fun x=>x + 1) = id:= by funext x; simp only [Function.comp,id]; omega
     rw [this,List.map_id]
    refine C07 (fun x:Int=>x - 1) (b.2.map (· + 1)) (by rw [List.length_map]; omega) (fun i m hi hm1 hm2=>?_) ?_
    ·rw [List.length_map] at hi
     have hbd:=hp.bd i hi
     have hg:(b.2.map (· + 1))[i]! = b.2[i]! + 1:= by
      rw [getElem!_pos (b.2.map (· + 1)) i (by rw [List.length_map]; exact hi),List.getElem_map,getElem!_pos b.2 i hi]
     rw [hg] at hm2 ⊢
     unfold A6g
     simp only []
     rw [hc,List.length_map,if_pos (by rw [decide_eq_true_eq]; omega),B59 hm2]
     simp only [Option.bind_some]
     rw [E0 (n:=(i:Int) + 1) (by omega),E0 (by omega)]; rfl
    ·unfold A6g
     simp only []
     rw [hc,List.length_map,if_neg (by simp),hmm]
   rw [hc,l1]; rfl
 ·rw [if_pos (bne_iff_ne.mpr e0),if_pos (bne_iff_ne.mpr e0)]
def a5 (m:Nat→Int):Ar5 Int:=⟨m 0,m 1,m 2,m 3,m 4⟩
end Rm
end
section
set_option maxRecDepth 100000
set_option maxHeartbeats 0
namespace Rm
open Go Am Go.Proofs.YtbheamjhjgoccaaDoor.Cd
def A2k (a0:Span) (a1:Int):Option Int :=
 (C2e a1 (w64 ((w64 (a0.Hi - a0.Lo)) + 1))).bind fun x1 =>
 some (w64 (a0.Lo + x1))
theorem A4o {c:Sc} {H:A7} {a0:Span} {a1:Int} {r:Int} (h:A2k a0 a1 = some r) :
  F1 tab c H (.fn (.func 48) [] []) [(.agg (D5 a0)),.i a1] [.i r]:= by
 unfold A2k at h
 refine cE rfl rfl<|sg 0 rfl<|A0 (F3 (cs:=D5 a0) rfl rfl rfl) rfl<|qm rfl<|es (ra2 rfl rfl)<|s0<|oB h fun x1 hx1 h=>A0 (C4 rfl) rfl<|A0 (C3 rfl rfl rfl) rfl<|qm rfl<|A0 (C4 rfl) rfl<|A0 (C3 rfl rfl rfl) rfl<|A0 (C4 rfl) rfl<|A0 (C3 rfl rfl rfl) rfl<|A0 (U8 rfl rfl) rfl<|A0 (E1 rfl rfl) rfl<|A0 (C1l rfl rfl hx1) rfl<|A0 (E1 rfl rfl) rfl<|qm rfl<|es (ra1 rfl)<|C6 ?_
 obtain rfl:=os h
 exact retq trivial (B1 rfl B9) (A4 rfl B8) (A3 A5 B3)
def A2j (a0:RoHouse) (a1:(Ar2 Int)):Option RoHouse :=
 (idx (Ar2.l a1) 0).bind fun x1 =>
 (A2k a0.Weather (w64 x1)).bind fun x2 =>
 (S7 x2 a0.Weather.Hi).bind fun x3 =>
 (idx (Ar2.l a1) 1).bind fun x4 =>
 (A2k x3 (w64 x4)).bind fun x5 =>
 (S7 x2 x5).bind fun x6 =>
 some (RoHouse.mk x6 a0.Stoves a0.Holds a0.Places a0.Figures a0.Bill)
theorem B2a {c:Sc} {H:A7} {a0:RoHouse} {a1:(Ar2 Int)} {r:RoHouse} (h:A2j a0 a1 = some r) :
  F1 tab c H (.fn (.func 59) [] []) [(.agg (A2 a0)),(.agg ((A8g A0z) a1))] [(.agg (A2 r))]:= by
 unfold A2j at h
 refine cE rfl rfl<|sg 0 rfl<|A0 (F3 (cs:=A2 a0) rfl rfl rfl) rfl<|A0 (F3 (cs:=(A8g A0z) a1) rfl rfl rfl) rfl<|A0 A8r rfl<|es (ra3 rfl rfl rfl)<|s0<|oB h fun x1 hx1 h=>oB h fun x2 hx2 h=>A0 (C4 rfl) rfl<|A0 (E3 (ds:=D5 a0.Weather) rfl rfl rfl rfl) rfl<|A0 (Y7 (e:=Ar2.l a1) rfl rfl rfl hx1) rfl<|A0 (V7 (f:=A0z) (g:=fun n=>(.lit (.int .u8 n))) (e:=Ar2.l a1) (fun _=>rfl) rfl (D9 rfl) rfl hx1) rfl<|A0 (A25 rfl) rfl<|B4 (rs:=[.i x2]) rfl rfl (A1 (C8 rfl) (A1 rfl B5)) ((A4o hx2).frz)<|qm rfl<|es (ra4 rfl rfl rfl rfl)<|s0<|oB h fun x3 hx3 h=>oB h fun x4 hx4 h=>oB h fun x5 hx5 h=>oB h fun x6 hx6 h=>qm rfl<|A0 (C4 rfl) rfl<|A0 (C4 rfl) rfl<|A0 (C3 rfl rfl rfl) rfl<|Y0 (rs:=[(.agg (D5 x3))]) rfl rfl (K9 rfl (K9 rfl A26)) (A1 rfl (A1 rfl B5)) ((Q5 hx3).frz)<|A0 (Y7 (e:=Ar2.l a1) rfl rfl rfl hx4) rfl<|A0 (V7 (f:=A0z) (g:=fun n=>(.lit (.int .u8 n))) (e:=Ar2.l a1) (fun _=>rfl) rfl (D9 rfl) rfl hx4) rfl<|A0 (A25 rfl) rfl<|B4 (rs:=[.i x5]) rfl rfl (A1 (C8 rfl) (A1 rfl B5)) ((A4o hx5).frz)<|qm rfl<|B4 (rs:=[(.agg (D5 x6))]) rfl rfl (A1 rfl (A1 rfl B5)) ((Q5 hx6).frz)<|A0 (C4 rfl) rfl<|F0 (C7 (ds:=(A2 (RoHouse.mk x6 a0.Stoves a0.Holds a0.Places a0.Figures a0.Bill))) rfl rfl rfl rfl (C0 rfl) rfl) rfl<|es (ra2 rfl rfl)<|s0<|A0 (C2 rfl rfl rfl) rfl<|F0 (C7 (ds:=(A2 (RoHouse.mk x6 a0.Stoves a0.Holds a0.Places a0.Figures a0.Bill))) rfl rfl rfl rfl (C0 rfl) rfl) rfl<|es (ra1 rfl)<|C6 ?_
 obtain rfl:=os h
 exact retq trivial (G0 (E3 (ds:=A2 (RoHouse.mk x6 a0.Stoves a0.Holds a0.Places a0.Figures a0.Bill)) rfl rfl rfl rfl) B9) (A4 (I5 rfl) B8) (A3 (H6 rfl) B3)
end Rm
end
section
namespace Rm
open Go Am
def A9u (h:RoHouse) (w:Span):RoHouse:=⟨w,h.Stoves,h.Holds,h.Places,h.Figures,h.Bill⟩
theorem B6s (w:Span) (hw:-400≤w.Lo∧w.Lo≤w.Hi∧w.Hi≤400) {n:Int} (hn:0≤n):∃d,A2k w n = some d∧w.Lo≤d∧d≤w.Hi:= by
 unfold A2k
 rw [E0 (n:=w.Hi - w.Lo) (by omega),E0 (by omega)]
 obtain ⟨r,e1,r0,r1⟩:=B1v (a:=n) (b:=w.Hi - w.Lo + 1) hn (by omega)
 rw [e1]
 simp only [Option.bind_some]
 rw [E0 (by omega)]
 exact ⟨_,rfl,by omega,by omega⟩
theorem C30 {h:RoHouse} (ok:HOk h) {a b:Int} (ha:0≤a∧a < 256) (hb:0≤b∧b < 256):∃w,A2j h ⟨a,b⟩ = some (A9u h w)∧h.Weather.Lo≤w.Lo∧w.Lo≤w.Hi∧w.Hi≤h.Weather.Hi:= by
 have hw:=ok.w
 unfold A2j
 obtain ⟨lo,e1,l0,l1⟩:=B6s h.Weather (by omega) ha.1
 obtain ⟨hi,e2,h0,h1⟩:=B6s ⟨lo,h.Weather.Hi⟩ (by simp only []; omega) hb.1
 have i0:idx (Ar2.l (⟨a,b⟩:Ar2 Int)) 0 = some a:=rfl
 have i1:idx (Ar2.l (⟨a,b⟩:Ar2 Int)) 1 = some b:=rfl
 rw [i0]
 simp only [Option.bind_some]
 rw [E0 (n:=a) (by omega),e1]
 simp only [Option.bind_some]
 have es:∀x y,S7 x y = some ⟨x,y⟩:=fun _ _=>rfl
 rw [es,i1]
 simp only [Option.bind_some]
 rw [E0 (n:=b) (by omega),e2]
 simp only [Option.bind_some]
 rw [es]
 exact ⟨⟨lo,hi⟩,rfl,l0,h0,h1⟩
theorem C0d {h:RoHouse} (e0:(check h).2.2 = 0):(O3 h = []∧A3c h = (⟨0,[]⟩,0,9))∨∃ b,b ∈ O3 h∧A3c h = (mkP b,worth h b.2,0):= by
 unfold A3c
 rw [if_neg (by simp [e0])]
 cases hA:O3 h with
 | nil=>exact .inl ⟨rfl,rfl⟩
 | cons x l =>
  right
  refine ⟨T8 h x l,?_,rfl⟩
  rcases A78 h l x with e | e
  ·rw [e]; exact List.mem_cons_self ..
  ·exact List.mem_cons_of_mem _ e
theorem D33 {h:RoHouse} {l:Nat}:∀(d:Nat) (q p:List Int),p.length = q.length + d→p.take q.length = q→(∀ i,q.length≤i→i < p.length→p[i]! ∈ cand h l (p.take i))→p ∈ DF h l d q
 | 0,q,p,hl,ht,_=>by
  unfold DF
  rw [List.take_of_length_le (by omega)] at ht
  rw [ht]; exact List.mem_singleton.mpr rfl
 | d + 1,q,p,hl,ht,hc=>by
  unfold DF
  rw [List.mem_flatMap]
  have h1:=hc q.length (Nat.le_refl _) (by omega)
  rw [ht] at h1
  refine ⟨p[q.length]!,h1,D33 d _ p (by rw [List.length_append,List.length_singleton]; omega) ?_ fun i hi hp=>hc i (by rw [List.length_append,List.length_singleton] at hi; omega) hp⟩
  rw [List.length_append,List.length_singleton,C2t p (by omega),ht]
theorem D7c {h:RoHouse} {l:Nat} {p:List Int} (pv:PV h p) (hd:dup p = false) {i:Nat} (hi:i < p.length) (hs:W2 h l p i = true):p[i]! ∈ cand h l (p.take i):= by
 unfold cand
 rw [List.mem_append]
 by_cases c:p[i]! = -1
 ·right; rw [c]; exact List.mem_singleton.mpr rfl
 ·left
  obtain ⟨q,hq1,hq2,_⟩:=shown pv hi c
  rw [hq1,List.mem_map]
  refine ⟨q,?_,rfl⟩
  rw [List.mem_filter,List.mem_range]
  refine ⟨hq2,?_⟩
  have ht:=(B3u p).mp hd i hi
  unfold R5 at ht
  unfold W2 at hs
  have hb:(p[i]! == -1) = false:=beq_eq_false_iff_ne.mpr c
  rw [bne,hb,Bool.not_false,Bool.true_and] at ht
  rw [hb,Bool.false_or,hq1,Int.toNat_natCast] at hs
  unfold A0p
  rw [List.length_take,Nat.min_eq_left (by omega),hs,← hq1,ht]; rfl
theorem C5l {h:RoHouse} {l:Nat} {p:List Int} (pv:PV h p) (hl:l < 2 ^ h.Stoves.toNat) (hd:dup p = false) (ha:V5 h l p = true):(l,p) ∈ O3 h:= by
 unfold V5 at ha
 rw [Bool.and_eq_true] at ha
 unfold O3
 rw [List.mem_flatMap]
 refine ⟨l,List.mem_range.mpr hl,?_⟩
 unfold A0l
 rw [List.mem_map]
 refine ⟨p,?_,rfl⟩
 rw [List.mem_filter]
 refine ⟨D33 _ _ _ (by rw [pv.len]; simp) rfl fun i _ hi=>D7c pv hd hi ?_,ha.2⟩
 have:=ha.1
 unfold A4b at this
 rw [List.all_eq_true] at this
 exact this i (List.mem_range.mpr hi)
theorem B97 {h:RoHouse} {l:Nat} {p:List Int}:(l,p) ∈ O3 h↔PV h p∧l < 2 ^ h.Stoves.toNat∧dup p = false∧V5 h l p = true:= by
 constructor
 ·intro hx
  have hm:=B5n hx
  have hp:=C3q hm.2.1
  exact ⟨hp.2,hm.1,(B3u _).mpr hp.1.once,by rw [B98 hm.2.1]; exact hm.2.2⟩
 ·rintro ⟨a,b,c,d⟩
  exact C5l a b c d
structure NmOk (l:List ByteArray):Prop where
 each:∀s ∈ l,A7m s = true
 two:l.Pairwise fun a b=>eqS a b = false
theorem D46 (a b:ByteArray):eqS a b = eqS b a:= by
 unfold eqS
 rw [Bool.eq_iff_iff,beq_iff_eq,beq_iff_eq]
 exact eq_comm
theorem NmOk.reverse {l:List ByteArray} (h:NmOk l):NmOk l.reverse :=
 ⟨fun s hs=>h.each s (List.mem_reverse.mp hs),by
  rw [List.pairwise_reverse]
  exact h.two.imp fun {a b} e=>by rw [D46]; exact e⟩
def ltv (a b:Int):Bool:=b == -1 || (a != -1 && decide (a < b))
def C5o:List Int→List Int→Bool
 | a :: p,b :: q=>if a == b then C5o p q else ltv a b
 | _,_=>false
theorem C60:∀(q a b:List Int),C5o (q++a) (q++b) = C5o a b
 | [],_,_=>rfl
 | x :: q,a,b=>by
  show (if x == x then C5o (q++a) (q++b) else ltv x x) = _
  rw [if_pos (by simp),C60 q]
theorem C6z:∀a:List Int,C5o a a = false
 | []=>rfl
 | x :: q=>by
  show (if x == x then C5o q q else ltv x x) = _
  rw [if_pos (by simp),C6z q]
theorem D5s {a b:Int} (h:ltv a b = true) (hn:a ≠ b):ltv b a = false:= by
 unfold ltv at h ⊢
 rw [Bool.or_eq_true,beq_iff_eq,Bool.and_eq_true,bne_iff_ne,decide_eq_true_eq] at h
 rw [Bool.or_eq_false_iff,beq_eq_false_iff_ne,Bool.and_eq_false_iff,decide_eq_false_iff_not]
 rcases h with h | h
 ·refine ⟨by omega,.inl ?_⟩
  rw [h]; rfl
 ·exact ⟨h.1,.inr (by omega)⟩
theorem C69 (h:RoHouse) (l:Nat) (q:List Int):(cand h l q).Pairwise fun a b=>a ≠ b∧ltv a b = true:= by
 unfold cand
 rw [List.pairwise_append]
 refine ⟨?_,List.pairwise_singleton _ _,fun a ha b hb=>?_⟩
 ·rw [List.pairwise_map]
  refine (List.pairwise_lt_range.filter _).imp fun {a b} hab=>⟨by omega,?_⟩
  unfold ltv
  rw [Bool.or_eq_true,Bool.and_eq_true,bne_iff_ne,decide_eq_true_eq]
  exact .inr ⟨by omega,by omega⟩
 ·rw [List.mem_singleton.mp hb]
  rw [List.mem_map] at ha
  obtain ⟨p,_,rfl⟩:=ha
  exact ⟨by omega,rfl⟩
theorem B88 {p q:List Int} (h:p.take q.length = q):∃s,p = q++s:=⟨p.drop q.length,by rw [← List.take_append_drop q.length p,h]; simp⟩
theorem C3r (h:RoHouse) (l:Nat):∀(d:Nat) (q:List Int),(DF h l d q).Pairwise fun a b=>C5o b a = false
 | 0,q=>List.pairwise_singleton _ _
 | d + 1,q=>by
  unfold DF
  rw [List.pairwise_flatMap]
  refine ⟨fun v _=>C3r h l d _,(C69 h l q).imp fun {v w} hvw x hx y hy=>?_⟩
  obtain ⟨s,rfl⟩:=B88 (B9p d _ x hx)
  obtain ⟨t,rfl⟩:=B88 (B9p d _ y hy)
  rw [List.append_assoc,List.append_assoc,C60]
  show (if w == v then C5o t s else ltv w v) = false
  rw [if_neg (by rw [beq_iff_eq]; exact fun e=>hvw.1 e.symm)]
  exact D5s hvw.2 hvw.1
def C88 (x y:Nat × List Int):Bool:=if x.1 != y.1 then decide (x.1 < y.1) else C5o x.2 y.2
theorem D4m (x:Nat × List Int):C88 x x = false:= by
 unfold C88
 rw [if_neg (by simp),C6z]
theorem C6w (h:RoHouse):(O3 h).Pairwise fun a b=>C88 b a = false:= by
 unfold O3
 rw [List.pairwise_flatMap]
 refine ⟨fun l _=>?_,List.pairwise_lt_range.imp fun {v w} hvw x hx y hy=>?_⟩
 ·unfold A0l
  rw [List.pairwise_map]
  refine ((C3r h l _ _).filter _).imp fun {a b} hab=>?_
  unfold C88
  rw [if_neg (by simp)]; exact hab
 ·unfold A0l at hx hy
  rw [List.mem_map] at hx hy
  obtain ⟨p,_,rfl⟩:=hx
  obtain ⟨q,_,rfl⟩:=hy
  unfold C88
  rw [if_pos (by rw [bne_iff_ne]; show w ≠ v; omega),decide_eq_false_iff_not]
  show ¬ w < v
  omega
theorem C13 (h:RoHouse):∀(l:List (Nat × List Int)) (x:Nat × List Int),T8 h x l = x∨worth h (T8 h x l).2 > worth h x.2
 | [],x=>.inl rfl
 | y :: l,x=>by
  show T8 h (better1 h x y) l = x∨worth h (T8 h (better1 h x y) l).2 > _
  have ih:=C13 h l (better1 h x y)
  unfold better1 at ih ⊢
  by_cases c:worth h y.2 > worth h x.2
  ·rw [if_pos c] at ih ⊢
   right
   rcases ih with e | e
   ·rw [e]; exact c
   ·omega
  ·rw [if_neg c] at ih ⊢
   exact ih
theorem B1r (h:RoHouse) {R:Nat × List Int→Nat × List Int→Prop} (hr:∀a,R a a):∀(l:List (Nat × List Int)) (x:Nat × List Int),(x :: l).Pairwise R→∀ y ∈ x :: l,worth h y.2 < worth h (T8 h x l).2∨(worth h y.2 = worth h (T8 h x l).2∧R (T8 h x l) y)
 | [],x,_,y,hy=>by rw [List.mem_singleton.mp hy]; exact .inr ⟨rfl,hr _⟩
 | z :: l,x,hp,y,hy=>by
  rw [List.pairwise_cons] at hp
  have hp2:=List.pairwise_cons.mp hp.2
  show worth h y.2 < worth h (T8 h (better1 h x z) l).2∨(worth h y.2 = worth h (T8 h (better1 h x z) l).2∧R (T8 h (better1 h x z) l) y)
  have hs:=C13 h l (better1 h x z)
  by_cases c:worth h z.2 > worth h x.2
  ·have e:better1 h x z = z:= by unfold better1; rw [if_pos c]
   rw [e] at hs ⊢
   rcases List.mem_cons.mp hy with rfl | hy
   ·left
    rcases hs with e | e
    ·rw [e]; exact c
    ·omega
   ·exact B1r h hr l z hp.2 y hy
  ·have e:better1 h x z = x:= by unfold better1; rw [if_neg c]
   rw [e] at hs ⊢
   have hx:(x :: l).Pairwise R:=List.pairwise_cons.mpr ⟨fun w hw=>hp.1 w (List.mem_cons_of_mem _ hw),hp2.2⟩
   rcases List.mem_cons.mp hy with rfl | hy
   ·exact B1r h hr l y hx y (List.mem_cons_self ..)
   ·rcases List.mem_cons.mp hy with rfl | hy
    ·rcases hs with e | e
     ·rw [e]
      by_cases c2:worth h y.2 < worth h x.2
      ·exact .inl c2
      ·exact .inr ⟨by omega,hp.1 y (List.mem_cons_self ..)⟩
     ·left; omega
    ·exact B1r h hr l x hx y (List.mem_cons_of_mem _ hy)
theorem D4o {h:RoHouse} (e0:(check h).2.2 = 0) {y:Nat × List Int} (hy:y ∈ O3 h):∃b,b ∈ O3 h∧A3c h = (mkP b,worth h b.2,0)∧(worth h y.2 < worth h b.2∨(worth h y.2 = worth h b.2∧C88 y b = false)):= by
 unfold A3c
 rw [if_neg (by simp [e0])]
 have hs:=C6w h
 cases hA:O3 h with
 | nil=>rw [hA] at hy; cases hy
 | cons x l =>
  rw [hA] at hy hs
  refine ⟨T8 h x l,?_,rfl,B1r h (R:=fun a b=>C88 b a = false) D4m l x hs y hy⟩
  rcases A78 h l x with e | e
  ·rw [e]; exact List.mem_cons_self ..
  ·exact List.mem_cons_of_mem _ e
structure SameBut (h g:RoHouse):Prop where
 weather:g.Weather = h.Weather
 stoves:g.Stoves = h.Stoves
 holds:g.Holds = h.Holds
 places:g.Places = h.Places
 bill:g.Bill = h.Bill
 len:g.Figures.length = h.Figures.length
 fig:∀i,i < h.Figures.length→(g.Figures[i]!).Cracks = (h.Figures[i]!).Cracks∧(g.Figures[i]!).Slumps = (h.Figures[i]!).Slumps∧(g.Figures[i]!).Weight = (h.Figures[i]!).Weight∧(g.Figures[i]!).Class = (h.Figures[i]!).Class
def B2f (f:Nat→Int) (n:Nat):Int:=iter (fun i s=>s + f i) n 0
theorem A8d (f:Nat→Int) (n:Nat):B2f f (n + 1) = B2f f n + f n:=rfl
theorem A6x {f g:Nat→Int}:∀{n:Nat},(∀ i,i < n→f i = g i)→B2f f n = B2f g n
 | 0,_=>rfl
 | n + 1,h=>by rw [A8d,A8d,A6x fun i hi=>h i (by omega),h n (by omega)]
section
variable {h:RoHouse} {p:List Int}
theorem B12 (p:List Int):dup p = false↔p.Pairwise fun a b=>b = -1∨a ≠ b:= by
 rw [B3u,List.pairwise_iff_getElem]
 constructor
 ·intro h i j hi hj hij
  have:=h j hj
  unfold R5 at this
  rw [Bool.and_eq_false_iff,bne,Bool.not_eq_false',beq_iff_eq,List.any_eq_false,getElem!_pos p j hj] at this
  rcases this with e | e
  ·exact .inl e
  ·right
   have:=e p[i] (by rw [List.mem_take_iff_getElem]; exact ⟨i,by omega,rfl⟩)
   rwa [beq_iff_eq] at this
 ·intro h j hj
  unfold R5
  rw [Bool.and_eq_false_iff,bne,Bool.not_eq_false',beq_iff_eq,List.any_eq_false]
  by_cases c:p[j]! = -1
  ·exact .inl c
  ·right
   intro x hx
   rw [List.mem_take_iff_getElem] at hx
   obtain ⟨i,hi,rfl⟩:=hx
   rw [beq_iff_eq]
   have:=h i j (by omega) hj (by omega)
   rw [getElem!_pos p j hj] at c ⊢
   exact this.resolve_left c
end
end Rm
end
section
set_option maxRecDepth 100000
set_option maxHeartbeats 0
namespace Rm
open Go Am Go.Proofs.YtbheamjhjgoccaaDoor.Cd
def Z7 (a0:RoHouse) (a1:(List Int)) (s1:(Int × (List Int))):Option ((Int × (List Int)) ⊕ (List Int)) :=
 if (decide (s1.1 < (List.length a0.Bill:Int))) = true then
  (A5n a1 s1.1).bind fun x4 =>
  if (!x4) = true then
  (idx a0.Bill s1.1).bind fun x6 =>
  (app 8 s1.2 [x6]).bind fun x7 =>
  some (.inl ((w64 (s1.1 + 1)),x7))
  else
  some (.inl ((w64 (s1.1 + 1)),s1.2))
 else
  some (.inr s1.2)
def A1l (a0:RoHouse) (a1:(List Int)):Option RoHouse :=
 (loop (Z7 a0 a1) (0,([]:List Int))).bind fun (o8:(List Int)) =>
 some (RoHouse.mk a0.Weather a0.Stoves a0.Holds a0.Places a0.Figures o8)
theorem B0u {c:Sc} {H:A7} {a0:RoHouse} {a1:(List Int)} {r:RoHouse} (h:A1l a0 a1 = some r) :
  F1 tab c H (.fn (.func 55) [] []) [(.agg (A2 a0)),(.seq 1 (List.map cI a1))] [(.agg [.i r.Weather.Lo,.i r.Weather.Hi,.i r.Stoves,(.seq 1 (List.map cI r.Holds)),(.seq 4 (List.map B7 r.Places)),(.seq 6 (List.map A9 r.Figures)),(.fresh 1 (List.map cI r.Bill))])]:= by
 unfold A1l at h
 refine cE rfl rfl<|sg 0 rfl<|A0 (F3 (cs:=A2 a0) rfl rfl rfl) rfl<|A0 A8r rfl<|es (ra3 rfl rfl rfl)<|sg 4 rfl<|A0 B18 rfl<|es (ra4 rfl rfl rfl rfl)<|B6<|s0<|qm rfl<|es (ra5 rfl rfl rfl rfl rfl)<|C5<|oB h fun o8 ho8 h=>wl (fun s1=>[(1,(.seq 1 (List.map cI a1))),(2,(.ptr (H.length + 0) 0)),(4,(.ptr (H.length + 3) 0)),(5,(.asl (H.length + 4) (List.length s1.2))),(6,.i s1.1)]) (fun (q2:Unit) s1=>[(.cells (A2 a0)),(.arr 1 false (List.map cI ([]:List Int))),(.arr 6 false (List.map A9 ([]:List RoFigure))),(.cells [.i 0,.i 0,.i 0,(.asl (H.length + 1) (List.length ([]:List Int))),(.seq 4 (List.map B7 ([]:List RoPlace))),(.asl (H.length + 2) (List.length ([]:List RoFigure))),(.seq 1 (List.map cI ([]:List Int)))]),(.arr 1 false (List.map cI s1.2))]) 5 (fun r e s' H'=>PX 0 [(2,(.ptr (H.length + 0) 0)),(4,(.ptr (H.length + 3) 0)),(5,(.asl (H.length + 4) (List.length r)))] (H++[(.cells (A2 a0)),(.arr 1 false (List.map cI ([]:List Int))),(.arr 6 false (List.map A9 ([]:List RoFigure))),(.cells [.i 0,.i 0,.i 0,(.asl (H.length + 1) (List.length ([]:List Int))),(.seq 4 (List.map B7 ([]:List RoPlace))),(.asl (H.length + 2) (List.length ([]:List RoFigure))),(.seq 1 (List.map cI ([]:List Int)))]),(.arr 1 false (List.map cI r))]) e s' H') () ho8 rfl rfl (fun _ _=>rfl) (fun _=>rfl) rfl (fun s1=>(bdc G7 (bdc (D4 rfl) (bdc (D4 rfl) (bdc (A48 rfl) (bdc A5 bdn)))))) (fun q2 s1 ys1 hs1=>?_) ?_
 ·unfold Z7 at hs1
  refine B6<|s0<|qm rfl<|A0 (C4 rfl) rfl<|A0 (C3 rfl rfl rfl) rfl<|A0 (D8 (f:=cI) rfl) rfl<|A0 (F8 rfl rfl) rfl<|es (ra6 rfl rfl rfl rfl rfl rfl)<|wi hs1 rfl (fun hc3 hs1=>?_) fun hc3 hs1=>?_
  ·refine C1<|B6<|C5<|s0<|oB hs1 fun x4 hx4 hs1=>qm rfl<|qm rfl<|B4 (rs:=[.b x4]) rfl rfl (A1 rfl (A1 rfl B5)) ((A7y hx4).frz)<|A0 (N5 rfl) rfl<|es (ra6 rfl rfl rfl rfl rfl rfl)<|wi hs1 rfl (fun hc5 hs1=>?_) fun hc5 hs1=>?_
   ·refine r0<|oB hs1 fun x6 hx6 hs1=>oB hs1 fun x7 hx7 hs1=>qm rfl<|A0 (C4 rfl) rfl<|A0 (C3 rfl rfl rfl) rfl<|qm rfl<|A0 (E6 (f:=cI) rfl rfl hx6) rfl<|A0 (E9 rfl rfl) rfl<|A0 (J5 (rows:=List.map cI [x6]) rfl rfl (E2 (fun _=>rfl) _)) rfl<|A5a (V6 (f:=cI) rfl rfl rfl rfl R8 (fun _=>rfl) hx7) rfl<|qm rfl<|en (ra5 rfl rfl rfl rfl rfl)<|r0<|qm rfl<|A0 (E1 rfl rfl) rfl<|qm rfl<|en (ra5 rfl rfl rfl rfl rfl) ?_
    cases hs1
    exact lnT () rfl (su5 rfl rfl rfl rfl rfl)
   ·refine C1<|r0<|qm rfl<|A0 (E1 rfl rfl) rfl<|qm rfl<|en (ra5 rfl rfl rfl rfl rfl) ?_
    cases hs1
    exact lnT () rfl (su5 rfl rfl rfl rfl rfl)
  ·refine E4 ?_
   obtain rfl:=os hs1
   exact lx rfl px (su3 rfl rfl rfl)
 ·rintro e s' H' - ⟨rfl,rfl,rfl⟩
  refine s0<|qm rfl<|A0 (C4 rfl) rfl<|F0 (C7 (ds:=[.i a0.Weather.Lo,.i a0.Weather.Hi,.i a0.Stoves,(.seq 1 (List.map cI a0.Holds)),(.seq 4 (List.map B7 a0.Places)),(.seq 6 (List.map A9 a0.Figures)),(.asl (H.length + 4) (List.length o8))]) rfl rfl rfl rfl (U9 (Nat.le_add_right _ _)) rfl) rfl<|es (ra2 rfl rfl)<|s0<|A0 (E3 (ds:=[.i a0.Weather.Lo,.i a0.Weather.Hi,.i a0.Stoves,(.seq 1 (List.map cI a0.Holds)),(.seq 4 (List.map B7 a0.Places)),(.seq 6 (List.map A9 a0.Figures)),(.asl (H.length + 4) (List.length o8))]) rfl rfl rfl rfl) rfl<|F0 (C7 (ds:=[.i a0.Weather.Lo,.i a0.Weather.Hi,.i a0.Stoves,(.seq 1 (List.map cI a0.Holds)),(.seq 4 (List.map B7 a0.Places)),(.seq 6 (List.map A9 a0.Figures)),(.asl (H.length + 4) (List.length o8))]) rfl rfl rfl rfl (U9 (Nat.le_add_right _ _)) rfl) rfl<|es (ra1 rfl)<|C6 ?_
  obtain rfl:=os h
  exact retq trivial (G0 (E3 (ds:=[.i a0.Weather.Lo,.i a0.Weather.Hi,.i a0.Stoves,(.seq 1 (List.map cI a0.Holds)),(.seq 4 (List.map B7 a0.Places)),(.seq 6 (List.map A9 a0.Figures)),(.asl (H.length + 4) (List.length o8))]) rfl rfl rfl rfl) B9) (A4 (D12 (A7x rfl (A7x rfl (A7x rfl (A7x rfl (A7x rfl (A7x rfl (A7x (D57 rfl (List.length_map _)) D56)))))))) B8) (A3 (H6 rfl) B3)
end Rm
end
section
namespace Rm
open Go Am
def A5x (b:List Int) (S:Nat):List Int:=((List.range b.length).filter fun i=>!bit S i).map fun i=>b[i]!
theorem D0v {h:RoHouse} (ok:HOk h) {l:List Int} (hl:l.length≤3) {S:Nat} (hS:∀i:Nat,i < h.Bill.length→l.any (· == (i:Int)) = bit S i):A1l h l = some (A7i h (A5x h.Bill S)):= by
 have hb:=ok.bill
 have hle:∀i,(((List.range i).filter fun i=>!bit S i).map fun i=>h.Bill[i]!).length≤i:=fun i=>by
  rw [List.length_map]
  have:=List.length_filter_le (fun i=>!bit S i) (List.range i)
  rwa [List.length_range] at this
 unfold A1l
 have l1:loop (Z7 h l) (0,[]) = some (A5x h.Bill S):=I8 (b:=Z7 h l) (fun i=>((i:Int),((List.range i).filter fun i=>!bit S i).map fun i=>h.Bill[i]!)) h.Bill.length (r:=A5x h.Bill S) (by omega) (fun i hi=>by
  have hli:=hle i
  unfold Z7
  simp only []
  rw [if_pos (by simpa using hi),C51 _ _ (by omega),hS i hi]
  simp only [Option.bind_some]
  rw [E0 (n:=(i:Int) + 1) (by omega),List.range_succ,List.filter_append,List.map_append,List.filter_cons,List.filter_nil]
  cases bit S i with
  | true=>rw [Bool.not_true,if_neg (by decide),if_neg (by decide),List.map_nil,List.append_nil]; rfl
  | false =>
   rw [Bool.not_false,if_pos rfl,if_pos rfl,F5 hi]
   simp only [Option.bind_some]
   rw [A3b (by omega) (by simp only [List.length_singleton]; omega)]; rfl) (by
  unfold Z7
  simp only []
  rw [if_neg (by simp)]; rfl)
 rw [l1]; rfl
end Rm
end
section
set_option maxRecDepth 100000
set_option maxHeartbeats 0
namespace Rm
open Go Am Go.Proofs.YtbheamjhjgoccaaDoor.Cd
def X7 (a1:law05_Easier) (s15:(Int × (List Int))):Option ((Int × (List Int)) ⊕ (List Int)) :=
 if (decide (s15.1 < (List.length s15.2:Int))) = true then
  (idx s15.2 s15.1).bind fun x18 =>
  (idx s15.2 s15.1).bind fun x19 =>
  some (.inl ((w64 (s15.1 + 1)),(A6l s15.2 s15.1 (A3a 2000 (w64 (x18 + (w64 a1.Holds)))))))
 else
  some (.inr s15.2)
def X8 (a1:law05_Easier) (s31:(Int × (List RoFigure))):Option ((Int × (List RoFigure)) ⊕ (List RoFigure)) :=
 if (decide (s31.1 < (List.length s31.2:Int))) = true then
  (idx s31.2 s31.1).bind fun x34 =>
  (idx (A6l s31.2 s31.1 (RoFigure.mk x34.Name x34.Class x34.Weight (A1h (-100) (w64 (x34.Cracks - (w64 a1.Bears)))) x34.Slumps x34.Worth)) s31.1).bind fun x35 =>
  some (.inl ((w64 (s31.1 + 1)),(A6l (A6l s31.2 s31.1 (RoFigure.mk x34.Name x34.Class x34.Weight (A1h (-100) (w64 (x34.Cracks - (w64 a1.Bears)))) x34.Slumps x34.Worth)) s31.1 (RoFigure.mk x35.Name x35.Class x35.Weight x35.Cracks (A3a 100 (w64 (x35.Slumps + (w64 a1.Bears)))) x35.Worth))))
 else
  some (.inr s31.2)
def A33 (a0:RoHouse) (a1:law05_Easier):Option Bool :=
 (T2 a0).bind fun x1 =>
 if (x1.2.2 != 0) = true then
  (N4 a0).bind fun x3 =>
  (if (((!x3) || (x1.2.2 == 9)) && (x1.2.1 == 0)) = true then
  (M0).bind fun x7 =>
  some x7
  else
  some false).bind fun x8 =>
  some x8
 else
  (N4 a0).bind fun x9 =>
  if (!x9) = true then
  some false
  else
  ((app 8 ([]:List Int) a0.Holds).bind fun x12 =>
   (app 56 ([]:List RoFigure) a0.Figures).bind fun x13 =>
   ((loop (X7 a1) (0,x12)).bind fun (o20:(List Int)) =>
   some o20).bind fun (p14:(List Int)) =>
   (N4 (RoHouse.mk a0.Weather a0.Stoves p14 a0.Places x13 a0.Bill)).bind fun x21 =>
   if (!x21) = true then
   some (.inr ())
   else
   (T2 (RoHouse.mk a0.Weather a0.Stoves p14 a0.Places x13 a0.Bill)).bind fun x23 =>
   if ((x23.2.2 != 0) || (decide (x23.2.1 < x1.2.1))) = true then
    some (.inl false)
   else
    some (.inr ())).bind fun (p11:(Bool ⊕ Unit)) =>
  match p11 with
  | (.inl vp11_0) =>
   some vp11_0
  | (.inr vp11_1) =>
   ((app 8 ([]:List Int) a0.Holds).bind fun x28 =>
   (app 56 ([]:List RoFigure) a0.Figures).bind fun x29 =>
   ((loop (X8 a1) (0,x29)).bind fun (o36:(List RoFigure)) =>
    some o36).bind fun (p30:(List RoFigure)) =>
   (N4 (RoHouse.mk a0.Weather a0.Stoves x28 a0.Places p30 a0.Bill)).bind fun x37 =>
   if (!x37) = true then
    some (.inr ())
   else
    (T2 (RoHouse.mk a0.Weather a0.Stoves x28 a0.Places p30 a0.Bill)).bind fun x39 =>
    if ((x39.2.2 != 0) || (decide (x39.2.1 < x1.2.1))) = true then
    some (.inl false)
    else
    some (.inr ())).bind fun (p27:(Bool ⊕ Unit)) =>
   match p27 with
   | (.inl vp27_0) =>
   some vp27_0
   | (.inr vp27_1) =>
   ((app 8 ([]:List Int) a0.Holds).bind fun x44 =>
    (app 56 ([]:List RoFigure) a0.Figures).bind fun x45 =>
    ((A2j (RoHouse.mk a0.Weather a0.Stoves x44 a0.Places x45 a0.Bill) a1.Weather).bind fun x47 =>
    some x47).bind fun (p46:RoHouse) =>
    (N4 p46).bind fun x48 =>
    if (!x48) = true then
    some (.inr ())
    else
    (T2 p46).bind fun x50 =>
    if ((x50.2.2 != 0) || (decide (x50.2.1 < x1.2.1))) = true then
     some (.inl false)
    else
     some (.inr ())).bind fun (p43:(Bool ⊕ Unit)) =>
   match p43 with
   | (.inl vp43_0) =>
    some vp43_0
   | (.inr vp43_1) =>
    ((app 8 ([]:List Int) a0.Holds).bind fun x55 =>
    (app 56 ([]:List RoFigure) a0.Figures).bind fun x56 =>
    ((A1l (RoHouse.mk a0.Weather a0.Stoves x55 a0.Places x56 a0.Bill) [(Int.tmod (w64 a1.Less) 3)]).bind fun x58 =>
     some x58).bind fun (p57:RoHouse) =>
    (N4 p57).bind fun x59 =>
    if (!x59) = true then
     some (.inr ())
    else
     (T2 p57).bind fun x61 =>
     if ((x61.2.2 != 0) || (decide (x61.2.1 < x1.2.1))) = true then
     some (.inl false)
     else
     some (.inr ())).bind fun (p54:(Bool ⊕ Unit)) =>
    match p54 with
    | (.inl vp54_0) =>
    some vp54_0
    | (.inr vp54_1) =>
    ((app 8 ([]:List Int) a0.Holds).bind fun x66 =>
     (app 56 ([]:List RoFigure) a0.Figures).bind fun x67 =>
     ((app 56 x67 [a1.Further]).bind fun x69 =>
     some x69).bind fun (p68:(List RoFigure)) =>
     (N4 (RoHouse.mk a0.Weather a0.Stoves x66 a0.Places p68 a0.Bill)).bind fun x70 =>
     if (!x70) = true then
     some (.inr ())
     else
     (T2 (RoHouse.mk a0.Weather a0.Stoves x66 a0.Places p68 a0.Bill)).bind fun x72 =>
     if ((x72.2.2 != 0) || (decide (x72.2.1 < x1.2.1))) = true then
      some (.inl false)
     else
      some (.inr ())).bind fun (p65:(Bool ⊕ Unit)) =>
    match p65 with
    | (.inl vp65_0) =>
     some vp65_0
    | (.inr vp65_1) =>
     (M0).bind fun x76 =>
     some x76
theorem B4e {c:Sc} {H:A7} (hscv:A0j c H = true) {a0:RoHouse} {a1:law05_Easier} {r:Bool} (h:A33 a0 a1 = some r) :
  F1 tab c H (.fn (.func 13) [] []) [(.agg (A2 a0)),(.agg (E8 a1))] [.b r]:= by
 unfold A33 at h
 refine cE rfl rfl<|sg 0 rfl<|A0 (F3 (cs:=A2 a0) rfl rfl rfl) rfl<|A0 (F3 (cs:=E8 a1) rfl rfl rfl) rfl<|qm rfl<|es (ra2 rfl rfl)<|sg 2 rfl<|oB h fun x1 hx1 h=>A0 (C2 rfl rfl rfl) rfl<|B4 (rs:=[(.agg (B2 x1.1)),.i x1.2.1,.i x1.2.2]) rfl rfl (A1 (C8 rfl) B5) (V0 (A4h hscv) hx1)<|qm rfl<|A0 (A6 rfl rfl) rfl<|A0 (A6 rfl rfl) rfl<|A0 (A6 rfl rfl) rfl<|A0 D6 rfl<|F0 (C7 (ds:=(B2 x1.1)) rfl rfl rfl rfl (C0 rfl) rfl) rfl<|qm rfl<|qm rfl<|es (ra4 rfl rfl rfl rfl)<|B6<|s0<|qm rfl<|A0 (G2 rfl rfl) rfl<|es (ra5 rfl rfl rfl rfl rfl)<|wi h rfl (fun hc2 h=>?_) fun hc2 h=>?_
 ·refine s0<|oB h fun x3 hx3 h=>oB h fun x8 hx8 h=>A0 (C2 rfl rfl rfl) rfl<|B4 (rs:=[.b x3]) rfl rfl (A1 (C8 rfl) B5) ((O5 hx3).frz)<|A0 (N5 rfl) rfl<|qm rfl<|gp 3 30 (.b ((!x3) || (x1.2.2 == 9))) 27 rfl rfl (fun hg4=>?_) (fun hg4=>?_) ?_
  ·exact nF rfl hg4 rfl<|nF rfl hg4 rfl<|A0 (D0 rfl hg4 rfl) rfl<|ge 3 (by rw [hg4]; rfl) rfl rfl
  ·exact gF rfl hg4<|qm rfl<|gF rfl hg4<|A0 (F7 rfl rfl) rfl<|A0 (D1 rfl hg4 rfl) rfl<|ge 3 (by rw [hg4]; rfl) rfl rfl
  refine qm rfl<|gp 3 34 (.b (((!x3) || (x1.2.2 == 9)) && (x1.2.1 == 0))) 31 rfl rfl (fun hg5=>?_) (fun hg5=>?_) ?_
  ·exact gT rfl hg5<|qm rfl<|gT rfl hg5<|A0 (F7 rfl rfl) rfl<|A0 (D0 rfl hg5 rfl) rfl<|ge 3 (by rw [hg5]; rfl) rfl rfl
  ·exact nT rfl hg5 rfl<|nT rfl hg5 rfl<|A0 (D1 rfl hg5 rfl) rfl<|ge 3 (by rw [hg5]; rfl) rfl rfl
  refine qm rfl<|gp 2 37 (.b x8) 35 rfl rfl (fun hg6=>?_) (fun hg6=>?_) ?_
  ·refine oB (bt hx8 hg6) fun x7 hx7 hx8=>?_
   obtain rfl:=os hx8
   exact gT rfl hg6<|B4 (rs:=[.b x7]) rfl rfl B5 ((M2 (A4h hscv) hx7).frz)<|A0 (D0 rfl hg6 rfl) rfl<|ge 2 rfl rfl rfl
  ·obtain rfl:=os (bf hx8 hg6)
   exact I0 (F2 rfl (by rw [hg6]; rfl)) rfl<|A0 (D1 rfl hg6 rfl) rfl<|ge 2 rfl rfl rfl
  refine qm rfl<|es (ra1 rfl)<|C6 ?_
  obtain rfl:=os h
  exact retq trivial (B1 rfl B9) (A4 rfl B8) (A3 A5 B3)
 ·refine C1<|B6<|s0<|oB h fun x9 hx9 h=>A0 (C2 rfl rfl rfl) rfl<|B4 (rs:=[.b x9]) rfl rfl (A1 (C8 rfl) B5) ((O5 hx9).frz)<|A0 (N5 rfl) rfl<|es (ra4 rfl rfl rfl rfl)<|wi h rfl (fun hc10 h=>?_) fun hc10 h=>?_
  ·refine s0<|qm rfl<|es (ra1 rfl)<|C6 ?_
   obtain rfl:=os h
   exact retq trivial (B1 rfl B9) (A4 rfl B8) (A3 A5 B3)
  ·refine C1<|B6<|s0<|qm rfl<|es (ra4 rfl rfl rfl rfl)<|C5<|A6k 3 rfl [(2,(.ptr (H.length + 0) 0)),(3,(.ptr (H.length + 1) 0)),(6,.i x1.2.1),(8,.i 0)] (fun S hS=>K5 (live:=[2,3,6,8]) rfl (by decide) (Sub.trans (su4 rfl rfl rfl rfl) hS))<|B6<|s0<|qm rfl<|A0 (F9 (v:=(.b true)) rfl rfl rfl) rfl<|es (ra5 rfl rfl rfl rfl rfl)<|H9 rfl rfl<|C1<|B6<|oB h fun p11 hp11 h=>A1q (Q1:=fun e s' H'=>(match p11 with | (.inl v)=>e = .ret∧RetQ H [.tmp 4] [.b v] e s' H' | (.inr v)=>e = .normal∧s' = [(2,(.ptr (H.length + 0) 0)),(3,(.ptr (H.length + 1) 0)),(6,.i x1.2.1),(8,.i 0)]∧∃ g,H' = (H++([(.cells (A2 a0)),(.cells (E8 a1)),(.cells (B2 x1.1))]++g)):Prop)) ?_ ?_
   ·refine C5<|sg 3 rfl<|A0 (C2 rfl rfl rfl) rfl<|A0 A8r rfl<|F0 (C7 (ds:=(A2 a0)) rfl rfl rfl rfl (C0 rfl) rfl) rfl<|es (ra5 rfl rfl rfl rfl rfl)<|sg 6 rfl<|oB hp11 fun x12 hx12 hp11=>oB hp11 fun x13 hx13 hp11=>A0 (A2m (rows:=List.map cI []) rfl rfl (E2 (fun _=>rfl) _)) rfl<|A0 (C4 rfl) rfl<|S8 [6,7] (W5 [6,7] rfl I6 rfl rfl) (seen0 rfl) (C3 rfl rfl rfl) rfl<|A64 [7,0] [(.cells (A2 a0)),(.cells (E8 a1)),(.cells (B2 x1.1)),(.arr 1 false (List.map cI ([]:List Int))),(.arr 6 false (List.map A9 ([]:List RoFigure))),(.cells (A2 a0)),(.arr 1 false (List.map cI x12)),.dead] (W5 [7] rfl (A0y rfl X4 I6) rfl rfl) (seen0 rfl) (V6 (f:=cI) rfl rfl rfl rfl R8 (fun _=>rfl) hx12) rfl rfl rfl<|A0 (A2m (rows:=List.map A9 []) rfl rfl (E2 (fun _=>rfl) _)) rfl<|A0 (C4 rfl) rfl<|S8 [6,7] (W5 [6,7] rfl I6 rfl rfl) (A6j (b:=H.length + 0) rfl (A0x (Q7 _ rfl) A3y)) (C3 rfl rfl rfl) rfl<|A5a (V6 (f:=A9) rfl rfl rfl rfl R8 (fun _=>rfl) hx13) rfl<|A0 (C4 rfl) rfl<|F0 (C7 (ds:=[.i a0.Weather.Lo,.i a0.Weather.Hi,.i a0.Stoves,(.asl (H.length + 6) (List.length x12)),(.seq 4 (List.map B7 a0.Places)),(.seq 6 (List.map A9 a0.Figures)),(.seq 1 (List.map cI a0.Bill))]) rfl rfl rfl rfl (U9 (Nat.add_le_add_left (Nat.le_of_ble_eq_true rfl) _)) rfl) rfl<|A0 (C4 rfl) rfl<|F0 (C7 (ds:=[.i a0.Weather.Lo,.i a0.Weather.Hi,.i a0.Stoves,(.asl (H.length + 6) (List.length x12)),(.seq 4 (List.map B7 a0.Places)),(.asl (H.length + 7) (List.length x13)),(.seq 1 (List.map cI a0.Bill))]) rfl rfl rfl rfl (U9 (Nat.add_le_add_left (Nat.le_of_ble_eq_true rfl) _)) rfl) rfl<|es (ra5 rfl rfl rfl rfl rfl)<|B6<|s0<|qm rfl<|es (ra6 rfl rfl rfl rfl rfl rfl)<|oB hp11 fun p14 hp14 hp11=>A1q (Q1:=fun e s' H'=>e = .normal∧s' = [(2,(.ptr (H.length + 0) 0)),(3,(.ptr (H.length + 1) 0)),(6,.i x1.2.1),(8,.i 0),(9,(.ptr (H.length + 5) 0))]∧H' = (H++[(.cells (A2 a0)),(.cells (E8 a1)),(.cells (B2 x1.1)),(.arr 1 false (List.map cI ([]:List Int))),(.arr 6 false (List.map A9 ([]:List RoFigure))),(.cells [.i a0.Weather.Lo,.i a0.Weather.Hi,.i a0.Stoves,(.asl (H.length + 6) (List.length p14)),(.seq 4 (List.map B7 a0.Places)),(.asl (H.length + 7) (List.length x13)),(.seq 1 (List.map cI a0.Bill))]),(.arr 1 false (List.map cI p14)),(.arr 6 false (List.map A9 x13))])) ?_ ?_
    ·refine C5<|s0<|A0 (F9 (v:=(.b true)) rfl rfl rfl) rfl<|qm rfl<|es (ra7 rfl rfl rfl rfl rfl rfl rfl)<|H9 rfl rfl<|s0<|qm rfl<|es (ra6 rfl rfl rfl rfl rfl rfl)<|C5<|oB hp14 fun o20 ho20 hp14=>wl (fun s15=>[(2,(.ptr (H.length + 0) 0)),(3,(.ptr (H.length + 1) 0)),(6,.i x1.2.1),(8,.i 0),(9,(.ptr (H.length + 5) 0)),(10,.i s15.1)]) (fun (q16:Unit) s15=>[(.cells (A2 a0)),(.cells (E8 a1)),(.cells (B2 x1.1)),(.arr 1 false (List.map cI ([]:List Int))),(.arr 6 false (List.map A9 ([]:List RoFigure))),(.cells [.i a0.Weather.Lo,.i a0.Weather.Hi,.i a0.Stoves,(.asl (H.length + 6) (List.length s15.2)),(.seq 4 (List.map B7 a0.Places)),(.asl (H.length + 7) (List.length x13)),(.seq 1 (List.map cI a0.Bill))]),(.arr 1 false (List.map cI s15.2)),(.arr 6 false (List.map A9 x13))]) 8 (fun r e s' H'=>PX 3 [(2,(.ptr (H.length + 0) 0)),(3,(.ptr (H.length + 1) 0)),(6,.i x1.2.1),(8,.i 0),(9,(.ptr (H.length + 5) 0))] (H++[(.cells (A2 a0)),(.cells (E8 a1)),(.cells (B2 x1.1)),(.arr 1 false (List.map cI ([]:List Int))),(.arr 6 false (List.map A9 ([]:List RoFigure))),(.cells [.i a0.Weather.Lo,.i a0.Weather.Hi,.i a0.Stoves,(.asl (H.length + 6) (List.length r)),(.seq 4 (List.map B7 a0.Places)),(.asl (H.length + 7) (List.length x13)),(.seq 1 (List.map cI a0.Bill))]),(.arr 1 false (List.map cI r)),(.arr 6 false (List.map A9 x13))]) e s' H') () ho20 rfl rfl (fun _ _=>rfl) (fun _=>rfl) rfl (fun s15=>(bdc (D4 rfl) (bdc (D4 rfl) (bdc A5 (bdc A5 (bdc (D4 rfl) (bdc A5 bdn))))))) (fun q16 s15 ys15 hs15=>?_) ?_
     ·unfold X7 at hs15
      refine B6<|s0<|qm rfl<|A0 (C4 rfl) rfl<|A0 (C3 (x:=(.asl (H.length + 6) (List.length s15.2))) rfl rfl rfl) rfl<|A0 (C90 (f:=cI) rfl rfl rfl) rfl<|A0 (F8 rfl rfl) rfl<|es (ra7 rfl rfl rfl rfl rfl rfl rfl)<|wi hs15 rfl (fun hc17 hs15=>?_) fun hc17 hs15=>?_
      ·refine C1<|B6<|C5<|r0<|oB hs15 fun x18 hx18 hs15=>oB hs15 fun x19 hx19 hs15=>A0 (C4 rfl) rfl<|A0 (C3 (x:=(.asl (H.length + 6) (List.length s15.2))) rfl rfl rfl) rfl<|qm rfl<|A0 (C4 rfl) rfl<|A0 (C3 (x:=(.asl (H.length + 6) (List.length s15.2))) rfl rfl rfl) rfl<|qm rfl<|A0 (C1h (f:=cI) rfl rfl rfl rfl hx18) rfl<|A0 (B91 (x:=(.i x18)) rfl rfl (List.length_map _) (B3k hx18) rfl) rfl<|A0 (C4 rfl) rfl<|A0 (C3 rfl rfl rfl) rfl<|A0 (A25 rfl) rfl<|A0 (E1 rfl rfl) rfl<|A0 (C7z rfl rfl) rfl<|A0 (C1h (f:=cI) rfl rfl rfl rfl hx19) rfl<|F0 (B6l (ds:=cI (A3a 2000 (w64 (x18 + (w64 a1.Holds))))) rfl rfl rfl rfl rfl (List.length_map _) (B3k hx19) rfl rfl) rfl ?_
       rw [B6g]
       rw [show List.length s15.2 = List.length (A6l s15.2 s15.1 (A3a 2000 (w64 (x18 + (w64 a1.Holds))))) from (A9s _ _ _).symm]
       refine en (ra6 rfl rfl rfl rfl rfl rfl)<|r0<|qm rfl<|A0 (E1 rfl rfl) rfl<|qm rfl<|en (ra6 rfl rfl rfl rfl rfl rfl) ?_
       cases hs15
       exact lnT () rfl (su6 rfl rfl rfl rfl rfl rfl)
      ·refine E4 ?_
       obtain rfl:=os hs15
       exact lx rfl px (su5 rfl rfl rfl rfl rfl)
     ·rintro e s' H' - ⟨rfl,rfl,rfl⟩
      obtain rfl:=os hp14
      exact me (And.intro rfl (And.intro rfl rfl)) (su5 rfl rfl rfl rfl rfl)
    ·rintro e s' H' ⟨rfl,rfl,rfl⟩
     refine B6<|s0<|oB hp11 fun x21 hx21 hp11=>A0 (E3 (ds:=[.i a0.Weather.Lo,.i a0.Weather.Hi,.i a0.Stoves,(.asl (H.length + 6) (List.length p14)),(.seq 4 (List.map B7 a0.Places)),(.asl (H.length + 7) (List.length x13)),(.seq 1 (List.map cI a0.Bill))]) rfl rfl rfl rfl) rfl<|B4 (rs:=[.b x21]) rfl rfl (A1 (A9h (G3 rfl (G3 rfl (G3 rfl (G3 (A4f rfl (List.length_map _)) (G3 rfl (G3 (A4f rfl (List.length_map _)) (G3 rfl B2s)))))))) B5) ((O5 hx21).frz)<|A0 (N5 rfl) rfl<|es (ra6 rfl rfl rfl rfl rfl rfl)<|wi hp11 rfl (fun hc22 hp11=>?_) fun hc22 hp11=>?_
     ·refine E4 ?_
      obtain rfl:=os hp11
      exact me (And.intro rfl (And.intro rfl ⟨[(.arr 1 false (List.map cI ([]:List Int))),(.arr 6 false (List.map A9 ([]:List RoFigure))),(.cells [.i a0.Weather.Lo,.i a0.Weather.Hi,.i a0.Stoves,(.asl (H.length + 6) (List.length p14)),(.seq 4 (List.map B7 a0.Places)),(.asl (H.length + 7) (List.length x13)),(.seq 1 (List.map cI a0.Bill))]),(.arr 1 true (List.map cI p14)),(.arr 6 true (List.map A9 x13))],rfl⟩)) (su4 rfl rfl rfl rfl)
     ·refine C1<|sg 8 rfl<|oB hp11 fun x23 hx23 hp11=>A0 (E3 (ds:=[.i a0.Weather.Lo,.i a0.Weather.Hi,.i a0.Stoves,(.asl (H.length + 6) (List.length p14)),(.seq 4 (List.map B7 a0.Places)),(.asl (H.length + 7) (List.length x13)),(.seq 1 (List.map cI a0.Bill))]) rfl rfl rfl rfl) rfl<|B4 (rs:=[(.agg (B2 x23.1)),.i x23.2.1,.i x23.2.2]) rfl rfl (A1 (A9h (G3 rfl (G3 rfl (G3 rfl (G3 (A4f rfl (List.length_map _)) (G3 rfl (G3 (A4f rfl (List.length_map _)) (G3 rfl B2s)))))))) B5) (V0 (D6y (k:=3) (l:=[]) rfl (A4h (l:=[]) hscv) rfl) hx23)<|qm rfl<|A0 (A6 rfl rfl) rfl<|A0 (A6 rfl rfl) rfl<|A0 (A6 rfl rfl) rfl<|A0 D6 rfl<|F0 (C7 (ds:=(B2 x23.1)) rfl rfl rfl rfl (C0 rfl) rfl) rfl<|qm rfl<|qm rfl<|es (ra6 rfl rfl rfl rfl rfl rfl)<|s0<|qm rfl<|A0 (G2 rfl rfl) rfl<|qm rfl<|gp 4 156 (.b ((x23.2.2 != 0) || (decide (x23.2.1 < x1.2.1)))) 152 rfl rfl (fun hg24=>?_) (fun hg24=>?_) ?_
      ·exact nF rfl hg24 rfl<|nF rfl hg24 rfl<|nF rfl hg24 rfl<|A0 (D0 rfl hg24 rfl) rfl<|ge 4 (by rw [hg24]; rfl) rfl rfl
      ·exact gF rfl hg24<|qm rfl<|gF rfl hg24<|qm rfl<|gF rfl hg24<|A0 (F8 rfl rfl) rfl<|A0 (D1 rfl hg24 rfl) rfl<|ge 4 (by rw [hg24]; rfl) rfl rfl
      refine es (ra5 rfl rfl rfl rfl rfl)<|wi hp11 rfl (fun hc25 hp11=>?_) fun hc25 hp11=>?_
      ·refine s0<|qm rfl<|es (ra1 rfl)<|C6 ?_
       obtain rfl:=os hp11
       exact me (And.intro rfl (retq trivial (B1 rfl B9) (A4 rfl B8) (A3 A5 B3))) (Sub.refl _)
      ·refine C1 ?_
       obtain rfl:=os hp11
       exact me (And.intro rfl (And.intro rfl ⟨[(.arr 1 false (List.map cI ([]:List Int))),(.arr 6 false (List.map A9 ([]:List RoFigure))),(.cells [.i a0.Weather.Lo,.i a0.Weather.Hi,.i a0.Stoves,(.asl (H.length + 6) (List.length p14)),(.seq 4 (List.map B7 a0.Places)),(.asl (H.length + 7) (List.length x13)),(.seq 1 (List.map cI a0.Bill))]),(.arr 1 true (List.map cI p14)),(.arr 6 true (List.map A9 x13)),(.cells (B2 x23.1))],rfl⟩)) (su4 rfl rfl rfl rfl)
   ·rcases p11 with vp11_0 | vp11_1
    ·rintro e s' H' ⟨rfl,hret⟩
     refine UnQ.out rfl ?_
     cases h
     exact hret
    ·rintro e s' H' ⟨rfl,rfl,g26,rfl⟩
     refine r0<|qm rfl<|A0 (F9 (v:=(.i 1)) rfl rfl rfl) rfl<|qm rfl<|en (ra4 rfl rfl rfl rfl)<|UnQ.nextT (live:=[2,3,6,8]) [(2,(.ptr (H.length + 0) 0)),(3,(.ptr (H.length + 1) 0)),(6,.i x1.2.1),(8,.i 1)] (H++[(.cells (A2 a0)),(.cells (E8 a1)),(.cells (B2 x1.1))]) (su4 rfl rfl rfl rfl) rfl (by decide) (B03 _ _ _ _ rfl rfl) (bdc (D4 rfl) (bdc (D4 rfl) (bdc A5 (bdc A5 bdn))))<|A6k 3 rfl [(2,(.ptr (H.length + 0) 0)),(3,(.ptr (H.length + 1) 0)),(6,.i x1.2.1),(8,.i 1)] (fun S hS=>K5 (live:=[2,3,6,8]) rfl (by decide) (Sub.trans (su4 rfl rfl rfl rfl) hS))<|B6<|s0<|qm rfl<|A0 (F9 (v:=(.b true)) rfl rfl rfl) rfl<|es (ra5 rfl rfl rfl rfl rfl)<|H9 rfl rfl<|C1<|B6<|oB h fun p27 hp27 h=>A1q (Q1:=fun e s' H'=>(match p27 with | (.inl v)=>e = .ret∧RetQ H [.tmp 4] [.b v] e s' H' | (.inr v)=>e = .normal∧s' = [(2,(.ptr (H.length + 0) 0)),(3,(.ptr (H.length + 1) 0)),(6,.i x1.2.1),(8,.i 1)]∧∃ g,H' = (H++([(.cells (A2 a0)),(.cells (E8 a1)),(.cells (B2 x1.1))]++g)):Prop)) ?_ ?_
     ·refine C5<|sg 3 rfl<|A0 (C2 rfl rfl rfl) rfl<|A0 A8r rfl<|F0 (C7 (ds:=(A2 a0)) rfl rfl rfl rfl (C0 rfl) rfl) rfl<|es (ra5 rfl rfl rfl rfl rfl)<|sg 6 rfl<|oB hp27 fun x28 hx28 hp27=>oB hp27 fun x29 hx29 hp27=>A0 (A2m (rows:=List.map cI []) rfl rfl (E2 (fun _=>rfl) _)) rfl<|A0 (C4 rfl) rfl<|S8 [6,7] (W5 [6,7] rfl I6 rfl rfl) (seen0 rfl) (C3 rfl rfl rfl) rfl<|A64 [7,0] [(.cells (A2 a0)),(.cells (E8 a1)),(.cells (B2 x1.1)),(.arr 1 false (List.map cI ([]:List Int))),(.arr 6 false (List.map A9 ([]:List RoFigure))),(.cells (A2 a0)),(.arr 1 false (List.map cI x28)),.dead] (W5 [7] rfl (A0y rfl X4 I6) rfl rfl) (seen0 rfl) (V6 (f:=cI) rfl rfl rfl rfl R8 (fun _=>rfl) hx28) rfl rfl rfl<|A0 (A2m (rows:=List.map A9 []) rfl rfl (E2 (fun _=>rfl) _)) rfl<|A0 (C4 rfl) rfl<|S8 [6,7] (W5 [6,7] rfl I6 rfl rfl) (A6j (b:=H.length + 0) rfl (A0x (Q7 _ rfl) A3y)) (C3 rfl rfl rfl) rfl<|A5a (V6 (f:=A9) rfl rfl rfl rfl R8 (fun _=>rfl) hx29) rfl<|A0 (C4 rfl) rfl<|F0 (C7 (ds:=[.i a0.Weather.Lo,.i a0.Weather.Hi,.i a0.Stoves,(.asl (H.length + 6) (List.length x28)),(.seq 4 (List.map B7 a0.Places)),(.seq 6 (List.map A9 a0.Figures)),(.seq 1 (List.map cI a0.Bill))]) rfl rfl rfl rfl (U9 (Nat.add_le_add_left (Nat.le_of_ble_eq_true rfl) _)) rfl) rfl<|A0 (C4 rfl) rfl<|F0 (C7 (ds:=[.i a0.Weather.Lo,.i a0.Weather.Hi,.i a0.Stoves,(.asl (H.length + 6) (List.length x28)),(.seq 4 (List.map B7 a0.Places)),(.asl (H.length + 7) (List.length x29)),(.seq 1 (List.map cI a0.Bill))]) rfl rfl rfl rfl (U9 (Nat.add_le_add_left (Nat.le_of_ble_eq_true rfl) _)) rfl) rfl<|es (ra5 rfl rfl rfl rfl rfl)<|B6<|s0<|qm rfl<|es (ra6 rfl rfl rfl rfl rfl rfl)<|oB hp27 fun p30 hp30 hp27=>A1q (Q1:=fun e s' H'=>e = .normal∧s' = [(2,(.ptr (H.length + 0) 0)),(3,(.ptr (H.length + 1) 0)),(6,.i x1.2.1),(8,.i 1),(9,(.ptr (H.length + 5) 0))]∧H' = (H++[(.cells (A2 a0)),(.cells (E8 a1)),(.cells (B2 x1.1)),(.arr 1 false (List.map cI ([]:List Int))),(.arr 6 false (List.map A9 ([]:List RoFigure))),(.cells [.i a0.Weather.Lo,.i a0.Weather.Hi,.i a0.Stoves,(.asl (H.length + 6) (List.length x28)),(.seq 4 (List.map B7 a0.Places)),(.asl (H.length + 7) (List.length p30)),(.seq 1 (List.map cI a0.Bill))]),(.arr 1 false (List.map cI x28)),(.arr 6 false (List.map A9 p30))])) ?_ ?_
      ·refine C5<|s0<|A0 (F9 (v:=(.b false)) rfl rfl rfl) rfl<|qm rfl<|es (ra7 rfl rfl rfl rfl rfl rfl rfl)<|Q9 rfl rfl<|s0<|A0 (F9 (v:=(.b true)) rfl rfl rfl) rfl<|qm rfl<|es (ra7 rfl rfl rfl rfl rfl rfl rfl)<|H9 rfl rfl<|s0<|qm rfl<|es (ra6 rfl rfl rfl rfl rfl rfl)<|C5<|oB hp30 fun o36 ho36 hp30=>wl (fun s31=>[(2,(.ptr (H.length + 0) 0)),(3,(.ptr (H.length + 1) 0)),(6,.i x1.2.1),(8,.i 1),(9,(.ptr (H.length + 5) 0)),(11,.i s31.1)]) (fun (q32:Unit) s31=>[(.cells (A2 a0)),(.cells (E8 a1)),(.cells (B2 x1.1)),(.arr 1 false (List.map cI ([]:List Int))),(.arr 6 false (List.map A9 ([]:List RoFigure))),(.cells [.i a0.Weather.Lo,.i a0.Weather.Hi,.i a0.Stoves,(.asl (H.length + 6) (List.length x28)),(.seq 4 (List.map B7 a0.Places)),(.asl (H.length + 7) (List.length s31.2)),(.seq 1 (List.map cI a0.Bill))]),(.arr 1 false (List.map cI x28)),(.arr 6 false (List.map A9 s31.2))]) 8 (fun r e s' H'=>PX 5 [(2,(.ptr (H.length + 0) 0)),(3,(.ptr (H.length + 1) 0)),(6,.i x1.2.1),(8,.i 1),(9,(.ptr (H.length + 5) 0))] (H++[(.cells (A2 a0)),(.cells (E8 a1)),(.cells (B2 x1.1)),(.arr 1 false (List.map cI ([]:List Int))),(.arr 6 false (List.map A9 ([]:List RoFigure))),(.cells [.i a0.Weather.Lo,.i a0.Weather.Hi,.i a0.Stoves,(.asl (H.length + 6) (List.length x28)),(.seq 4 (List.map B7 a0.Places)),(.asl (H.length + 7) (List.length r)),(.seq 1 (List.map cI a0.Bill))]),(.arr 1 false (List.map cI x28)),(.arr 6 false (List.map A9 r))]) e s' H') () ho36 rfl rfl (fun _ _=>rfl) (fun _=>rfl) rfl (fun s31=>(bdc (D4 rfl) (bdc (D4 rfl) (bdc A5 (bdc A5 (bdc (D4 rfl) (bdc A5 bdn))))))) (fun q32 s31 ys31 hs31=>?_) ?_
       ·unfold X8 at hs31
        refine B6<|s0<|qm rfl<|A0 (C4 rfl) rfl<|A0 (C3 (x:=(.asl (H.length + 7) (List.length s31.2))) rfl rfl rfl) rfl<|A0 (C90 (f:=A9) rfl rfl rfl) rfl<|A0 (F8 rfl rfl) rfl<|es (ra7 rfl rfl rfl rfl rfl rfl rfl)<|wi hs31 rfl (fun hc33 hs31=>?_) fun hc33 hs31=>?_
        ·refine C1<|B6<|C5<|s0<|oB hs31 fun x34 hx34 hs31=>A0 (C4 rfl) rfl<|A0 (C3 (x:=(.asl (H.length + 7) (List.length s31.2))) rfl rfl rfl) rfl<|qm rfl<|A0 (C1h (f:=A9) rfl rfl rfl rfl hx34) rfl<|qm rfl<|es (ra7 rfl rfl rfl rfl rfl rfl rfl)<|s0<|oB hs31 fun x35 hx35 hs31=>qm rfl<|qm rfl<|A0 (P2 rfl rfl) rfl<|A0 (D1x rfl) rfl<|A0 (B91 (x:=(.i x34.Cracks)) rfl rfl (List.length_map _) (B3k hx34) rfl) rfl<|A0 (C4 rfl) rfl<|A0 (C3 rfl rfl rfl) rfl<|A0 (A25 rfl) rfl<|A0 (U8 rfl rfl) rfl<|A0 (C7z rfl rfl) rfl<|A0 (P2 rfl rfl) rfl<|A0 (D1x rfl) rfl<|F0 (B6l (ds:=A9 (RoFigure.mk x34.Name x34.Class x34.Weight (A1h (-100) (w64 (x34.Cracks - (w64 a1.Bears)))) x34.Slumps x34.Worth)) rfl rfl rfl rfl rfl (List.length_map _) (B3k hx34) rfl rfl) rfl ?_
         rw [B6g]
         rw [show List.length s31.2 = List.length (A6l s31.2 s31.1 (RoFigure.mk x34.Name x34.Class x34.Weight (A1h (-100) (w64 (x34.Cracks - (w64 a1.Bears)))) x34.Slumps x34.Worth)) from (A9s _ _ _).symm]
         refine es (ra7 rfl rfl rfl rfl rfl rfl rfl)<|r0<|qm rfl<|qm rfl<|A0 (P2 rfl rfl) rfl<|A0 (D1x rfl) rfl<|A0 (B91 (x:=(.i x35.Slumps)) rfl rfl (List.length_map _) (B3k hx35) rfl) rfl<|A0 (C4 rfl) rfl<|A0 (C3 rfl rfl rfl) rfl<|A0 (A25 rfl) rfl<|A0 (E1 rfl rfl) rfl<|A0 (C7z rfl rfl) rfl<|A0 (P2 rfl rfl) rfl<|A0 (D1x rfl) rfl<|F0 (B6l (ds:=A9 (RoFigure.mk x35.Name x35.Class x35.Weight x35.Cracks (A3a 100 (w64 (x35.Slumps + (w64 a1.Bears)))) x35.Worth)) rfl rfl rfl rfl rfl (List.length_map _) (B3k hx35) rfl rfl) rfl ?_
         rw [B6g]
         rw [show List.length (A6l s31.2 s31.1 (RoFigure.mk x34.Name x34.Class x34.Weight (A1h (-100) (w64 (x34.Cracks - (w64 a1.Bears)))) x34.Slumps x34.Worth)) = List.length (A6l (A6l s31.2 s31.1 (RoFigure.mk x34.Name x34.Class x34.Weight (A1h (-100) (w64 (x34.Cracks - (w64 a1.Bears)))) x34.Slumps x34.Worth)) s31.1 (RoFigure.mk x35.Name x35.Class x35.Weight x35.Cracks (A3a 100 (w64 (x35.Slumps + (w64 a1.Bears)))) x35.Worth)) from (A9s _ _ _).symm]
         refine en (ra6 rfl rfl rfl rfl rfl rfl)<|r0<|qm rfl<|A0 (E1 rfl rfl) rfl<|qm rfl<|en (ra6 rfl rfl rfl rfl rfl rfl) ?_
         cases hs31
         exact lnT () rfl (su6 rfl rfl rfl rfl rfl rfl)
        ·refine E4 ?_
         obtain rfl:=os hs31
         exact lx rfl px (su5 rfl rfl rfl rfl rfl)
       ·rintro e s' H' - ⟨rfl,rfl,rfl⟩
        obtain rfl:=os hp30
        exact me (And.intro rfl (And.intro rfl rfl)) (su5 rfl rfl rfl rfl rfl)
      ·rintro e s' H' ⟨rfl,rfl,rfl⟩
       refine B6<|s0<|oB hp27 fun x37 hx37 hp27=>A0 (E3 (ds:=[.i a0.Weather.Lo,.i a0.Weather.Hi,.i a0.Stoves,(.asl (H.length + 6) (List.length x28)),(.seq 4 (List.map B7 a0.Places)),(.asl (H.length + 7) (List.length p30)),(.seq 1 (List.map cI a0.Bill))]) rfl rfl rfl rfl) rfl<|B4 (rs:=[.b x37]) rfl rfl (A1 (A9h (G3 rfl (G3 rfl (G3 rfl (G3 (A4f rfl (List.length_map _)) (G3 rfl (G3 (A4f rfl (List.length_map _)) (G3 rfl B2s)))))))) B5) ((O5 hx37).frz)<|A0 (N5 rfl) rfl<|es (ra6 rfl rfl rfl rfl rfl rfl)<|wi hp27 rfl (fun hc38 hp27=>?_) fun hc38 hp27=>?_
       ·refine E4 ?_
        obtain rfl:=os hp27
        exact me (And.intro rfl (And.intro rfl ⟨[(.arr 1 false (List.map cI ([]:List Int))),(.arr 6 false (List.map A9 ([]:List RoFigure))),(.cells [.i a0.Weather.Lo,.i a0.Weather.Hi,.i a0.Stoves,(.asl (H.length + 6) (List.length x28)),(.seq 4 (List.map B7 a0.Places)),(.asl (H.length + 7) (List.length p30)),(.seq 1 (List.map cI a0.Bill))]),(.arr 1 true (List.map cI x28)),(.arr 6 true (List.map A9 p30))],rfl⟩)) (su4 rfl rfl rfl rfl)
       ·refine C1<|sg 8 rfl<|oB hp27 fun x39 hx39 hp27=>A0 (E3 (ds:=[.i a0.Weather.Lo,.i a0.Weather.Hi,.i a0.Stoves,(.asl (H.length + 6) (List.length x28)),(.seq 4 (List.map B7 a0.Places)),(.asl (H.length + 7) (List.length p30)),(.seq 1 (List.map cI a0.Bill))]) rfl rfl rfl rfl) rfl<|B4 (rs:=[(.agg (B2 x39.1)),.i x39.2.1,.i x39.2.2]) rfl rfl (A1 (A9h (G3 rfl (G3 rfl (G3 rfl (G3 (A4f rfl (List.length_map _)) (G3 rfl (G3 (A4f rfl (List.length_map _)) (G3 rfl B2s)))))))) B5) (V0 (D6y (k:=3) (l:=[]) rfl (A4h (l:=[]) hscv) rfl) hx39)<|qm rfl<|A0 (A6 rfl rfl) rfl<|A0 (A6 rfl rfl) rfl<|A0 (A6 rfl rfl) rfl<|A0 D6 rfl<|F0 (C7 (ds:=(B2 x39.1)) rfl rfl rfl rfl (C0 rfl) rfl) rfl<|qm rfl<|qm rfl<|es (ra6 rfl rfl rfl rfl rfl rfl)<|s0<|qm rfl<|A0 (G2 rfl rfl) rfl<|qm rfl<|gp 4 156 (.b ((x39.2.2 != 0) || (decide (x39.2.1 < x1.2.1)))) 152 rfl rfl (fun hg40=>?_) (fun hg40=>?_) ?_
        ·exact nF rfl hg40 rfl<|nF rfl hg40 rfl<|nF rfl hg40 rfl<|A0 (D0 rfl hg40 rfl) rfl<|ge 4 (by rw [hg40]; rfl) rfl rfl
        ·exact gF rfl hg40<|qm rfl<|gF rfl hg40<|qm rfl<|gF rfl hg40<|A0 (F8 rfl rfl) rfl<|A0 (D1 rfl hg40 rfl) rfl<|ge 4 (by rw [hg40]; rfl) rfl rfl
        refine es (ra5 rfl rfl rfl rfl rfl)<|wi hp27 rfl (fun hc41 hp27=>?_) fun hc41 hp27=>?_
        ·refine s0<|qm rfl<|es (ra1 rfl)<|C6 ?_
         obtain rfl:=os hp27
         exact me (And.intro rfl (retq trivial (B1 rfl B9) (A4 rfl B8) (A3 A5 B3))) (Sub.refl _)
        ·refine C1 ?_
         obtain rfl:=os hp27
         exact me (And.intro rfl (And.intro rfl ⟨[(.arr 1 false (List.map cI ([]:List Int))),(.arr 6 false (List.map A9 ([]:List RoFigure))),(.cells [.i a0.Weather.Lo,.i a0.Weather.Hi,.i a0.Stoves,(.asl (H.length + 6) (List.length x28)),(.seq 4 (List.map B7 a0.Places)),(.asl (H.length + 7) (List.length p30)),(.seq 1 (List.map cI a0.Bill))]),(.arr 1 true (List.map cI x28)),(.arr 6 true (List.map A9 p30)),(.cells (B2 x39.1))],rfl⟩)) (su4 rfl rfl rfl rfl)
     ·rcases p27 with vp27_0 | vp27_1
      ·rintro e s' H' ⟨rfl,hret⟩
       refine UnQ.out rfl ?_
       cases h
       exact hret
      ·rintro e s' H' ⟨rfl,rfl,g42,rfl⟩
       refine r0<|qm rfl<|A0 (F9 (v:=(.i 2)) rfl rfl rfl) rfl<|qm rfl<|en (ra4 rfl rfl rfl rfl)<|UnQ.nextT (live:=[2,3,6,8]) [(2,(.ptr (H.length + 0) 0)),(3,(.ptr (H.length + 1) 0)),(6,.i x1.2.1),(8,.i 2)] (H++[(.cells (A2 a0)),(.cells (E8 a1)),(.cells (B2 x1.1))]) (su4 rfl rfl rfl rfl) rfl (by decide) (B03 _ _ _ _ rfl rfl) (bdc (D4 rfl) (bdc (D4 rfl) (bdc A5 (bdc A5 bdn))))<|A6k 3 rfl [(2,(.ptr (H.length + 0) 0)),(3,(.ptr (H.length + 1) 0)),(6,.i x1.2.1),(8,.i 2)] (fun S hS=>K5 (live:=[2,3,6,8]) rfl (by decide) (Sub.trans (su4 rfl rfl rfl rfl) hS))<|B6<|s0<|qm rfl<|A0 (F9 (v:=(.b true)) rfl rfl rfl) rfl<|es (ra5 rfl rfl rfl rfl rfl)<|H9 rfl rfl<|C1<|B6<|oB h fun p43 hp43 h=>A1q (Q1:=fun e s' H'=>(match p43 with | (.inl v)=>e = .ret∧RetQ H [.tmp 4] [.b v] e s' H' | (.inr v)=>e = .normal∧s' = [(2,(.ptr (H.length + 0) 0)),(3,(.ptr (H.length + 1) 0)),(6,.i x1.2.1),(8,.i 2)]∧∃ g,H' = (H++([(.cells (A2 a0)),(.cells (E8 a1)),(.cells (B2 x1.1))]++g)):Prop)) ?_ ?_
       ·refine C5<|sg 3 rfl<|A0 (C2 rfl rfl rfl) rfl<|A0 A8r rfl<|F0 (C7 (ds:=(A2 a0)) rfl rfl rfl rfl (C0 rfl) rfl) rfl<|es (ra5 rfl rfl rfl rfl rfl)<|sg 6 rfl<|oB hp43 fun x44 hx44 hp43=>oB hp43 fun x45 hx45 hp43=>A0 (A2m (rows:=List.map cI []) rfl rfl (E2 (fun _=>rfl) _)) rfl<|A0 (C4 rfl) rfl<|S8 [6,7] (W5 [6,7] rfl I6 rfl rfl) (seen0 rfl) (C3 rfl rfl rfl) rfl<|A64 [7,0] [(.cells (A2 a0)),(.cells (E8 a1)),(.cells (B2 x1.1)),(.arr 1 false (List.map cI ([]:List Int))),(.arr 6 false (List.map A9 ([]:List RoFigure))),(.cells (A2 a0)),(.arr 1 false (List.map cI x44)),.dead] (W5 [7] rfl (A0y rfl X4 I6) rfl rfl) (seen0 rfl) (V6 (f:=cI) rfl rfl rfl rfl R8 (fun _=>rfl) hx44) rfl rfl rfl<|A0 (A2m (rows:=List.map A9 []) rfl rfl (E2 (fun _=>rfl) _)) rfl<|A0 (C4 rfl) rfl<|S8 [6,7] (W5 [6,7] rfl I6 rfl rfl) (A6j (b:=H.length + 0) rfl (A0x (Q7 _ rfl) A3y)) (C3 rfl rfl rfl) rfl<|A5a (V6 (f:=A9) rfl rfl rfl rfl R8 (fun _=>rfl) hx45) rfl<|A0 (C4 rfl) rfl<|F0 (C7 (ds:=[.i a0.Weather.Lo,.i a0.Weather.Hi,.i a0.Stoves,(.asl (H.length + 6) (List.length x44)),(.seq 4 (List.map B7 a0.Places)),(.seq 6 (List.map A9 a0.Figures)),(.seq 1 (List.map cI a0.Bill))]) rfl rfl rfl rfl (U9 (Nat.add_le_add_left (Nat.le_of_ble_eq_true rfl) _)) rfl) rfl<|A0 (C4 rfl) rfl<|F0 (C7 (ds:=[.i a0.Weather.Lo,.i a0.Weather.Hi,.i a0.Stoves,(.asl (H.length + 6) (List.length x44)),(.seq 4 (List.map B7 a0.Places)),(.asl (H.length + 7) (List.length x45)),(.seq 1 (List.map cI a0.Bill))]) rfl rfl rfl rfl (U9 (Nat.add_le_add_left (Nat.le_of_ble_eq_true rfl) _)) rfl) rfl<|es (ra5 rfl rfl rfl rfl rfl)<|B6<|s0<|qm rfl<|es (ra6 rfl rfl rfl rfl rfl rfl)<|oB hp43 fun p46 hp46 hp43=>A1q (Q1:=fun e s' H'=>e = .normal∧s' = [(2,(.ptr (H.length + 0) 0)),(3,(.ptr (H.length + 1) 0)),(6,.i x1.2.1),(8,.i 2),(9,(.ptr (H.length + 5) 0))]∧H' = (H++[(.cells (A2 a0)),(.cells (E8 a1)),(.cells (B2 x1.1)),(.arr 1 false (List.map cI ([]:List Int))),(.arr 6 false (List.map A9 ([]:List RoFigure))),(.cells (A2 p46)),(.arr 1 true (List.map cI x44)),(.arr 6 true (List.map A9 x45))])) ?_ ?_
        ·refine C5<|s0<|A0 (F9 (v:=(.b false)) rfl rfl rfl) rfl<|qm rfl<|es (ra7 rfl rfl rfl rfl rfl rfl rfl)<|Q9 rfl rfl<|s0<|A0 (F9 (v:=(.b false)) rfl rfl rfl) rfl<|qm rfl<|es (ra7 rfl rfl rfl rfl rfl rfl rfl)<|Q9 rfl rfl<|s0<|A0 (F9 (v:=(.b true)) rfl rfl rfl) rfl<|qm rfl<|es (ra7 rfl rfl rfl rfl rfl rfl rfl)<|H9 rfl rfl<|r0<|oB hp46 fun x47 hx47 hp46=>A0 (E3 (ds:=[.i a0.Weather.Lo,.i a0.Weather.Hi,.i a0.Stoves,(.asl (H.length + 6) (List.length x44)),(.seq 4 (List.map B7 a0.Places)),(.asl (H.length + 7) (List.length x45)),(.seq 1 (List.map cI a0.Bill))]) rfl rfl rfl rfl) rfl<|A0 (C4 rfl) rfl<|A0 (E3 (ds:=(A8g A0z) a1.Weather) rfl rfl rfl rfl) rfl<|B4 (rs:=[(.agg (A2 x47))]) rfl rfl (A1 (A9h (G3 rfl (G3 rfl (G3 rfl (G3 (A4f rfl (List.length_map _)) (G3 rfl (G3 (A4f rfl (List.length_map _)) (G3 rfl B2s)))))))) (A1 (C8 rfl) B5)) ((B2a hx47).frz)<|F0 (C7 (ds:=(A2 x47)) rfl rfl rfl rfl (C0 rfl) rfl) rfl<|en (ra5 rfl rfl rfl rfl rfl) ?_
         obtain rfl:=os hp46
         exact me (And.intro rfl (And.intro rfl rfl)) (su5 rfl rfl rfl rfl rfl)
        ·rintro e s' H' ⟨rfl,rfl,rfl⟩
         refine B6<|s0<|oB hp43 fun x48 hx48 hp43=>A0 (C2 rfl rfl rfl) rfl<|B4 (rs:=[.b x48]) rfl rfl (A1 (C8 rfl) B5) ((O5 hx48).frz)<|A0 (N5 rfl) rfl<|es (ra6 rfl rfl rfl rfl rfl rfl)<|wi hp43 rfl (fun hc49 hp43=>?_) fun hc49 hp43=>?_
         ·refine E4 ?_
          obtain rfl:=os hp43
          exact me (And.intro rfl (And.intro rfl ⟨[(.arr 1 false (List.map cI ([]:List Int))),(.arr 6 false (List.map A9 ([]:List RoFigure))),(.cells (A2 p46)),(.arr 1 true (List.map cI x44)),(.arr 6 true (List.map A9 x45))],rfl⟩)) (su4 rfl rfl rfl rfl)
         ·refine C1<|sg 8 rfl<|oB hp43 fun x50 hx50 hp43=>A0 (C2 rfl rfl rfl) rfl<|B4 (rs:=[(.agg (B2 x50.1)),.i x50.2.1,.i x50.2.2]) rfl rfl (A1 (C8 rfl) B5) (V0 (D6y (k:=3) (l:=[]) rfl (A4h (l:=[]) hscv) rfl) hx50)<|qm rfl<|A0 (A6 rfl rfl) rfl<|A0 (A6 rfl rfl) rfl<|A0 (A6 rfl rfl) rfl<|A0 D6 rfl<|F0 (C7 (ds:=(B2 x50.1)) rfl rfl rfl rfl (C0 rfl) rfl) rfl<|qm rfl<|qm rfl<|es (ra6 rfl rfl rfl rfl rfl rfl)<|s0<|qm rfl<|A0 (G2 rfl rfl) rfl<|qm rfl<|gp 4 156 (.b ((x50.2.2 != 0) || (decide (x50.2.1 < x1.2.1)))) 152 rfl rfl (fun hg51=>?_) (fun hg51=>?_) ?_
          ·exact nF rfl hg51 rfl<|nF rfl hg51 rfl<|nF rfl hg51 rfl<|A0 (D0 rfl hg51 rfl) rfl<|ge 4 (by rw [hg51]; rfl) rfl rfl
          ·exact gF rfl hg51<|qm rfl<|gF rfl hg51<|qm rfl<|gF rfl hg51<|A0 (F8 rfl rfl) rfl<|A0 (D1 rfl hg51 rfl) rfl<|ge 4 (by rw [hg51]; rfl) rfl rfl
          refine es (ra5 rfl rfl rfl rfl rfl)<|wi hp43 rfl (fun hc52 hp43=>?_) fun hc52 hp43=>?_
          ·refine s0<|qm rfl<|es (ra1 rfl)<|C6 ?_
           obtain rfl:=os hp43
           exact me (And.intro rfl (retq trivial (B1 rfl B9) (A4 rfl B8) (A3 A5 B3))) (Sub.refl _)
          ·refine C1 ?_
           obtain rfl:=os hp43
           exact me (And.intro rfl (And.intro rfl ⟨[(.arr 1 false (List.map cI ([]:List Int))),(.arr 6 false (List.map A9 ([]:List RoFigure))),(.cells (A2 p46)),(.arr 1 true (List.map cI x44)),(.arr 6 true (List.map A9 x45)),(.cells (B2 x50.1))],rfl⟩)) (su4 rfl rfl rfl rfl)
       ·rcases p43 with vp43_0 | vp43_1
        ·rintro e s' H' ⟨rfl,hret⟩
         refine UnQ.out rfl ?_
         cases h
         exact hret
        ·rintro e s' H' ⟨rfl,rfl,g53,rfl⟩
         refine r0<|qm rfl<|A0 (F9 (v:=(.i 3)) rfl rfl rfl) rfl<|qm rfl<|en (ra4 rfl rfl rfl rfl)<|UnQ.nextT (live:=[2,3,6,8]) [(2,(.ptr (H.length + 0) 0)),(3,(.ptr (H.length + 1) 0)),(6,.i x1.2.1),(8,.i 3)] (H++[(.cells (A2 a0)),(.cells (E8 a1)),(.cells (B2 x1.1))]) (su4 rfl rfl rfl rfl) rfl (by decide) (B03 _ _ _ _ rfl rfl) (bdc (D4 rfl) (bdc (D4 rfl) (bdc A5 (bdc A5 bdn))))<|A6k 3 rfl [(2,(.ptr (H.length + 0) 0)),(3,(.ptr (H.length + 1) 0)),(6,.i x1.2.1),(8,.i 3)] (fun S hS=>K5 (live:=[2,3,6,8]) rfl (by decide) (Sub.trans (su4 rfl rfl rfl rfl) hS))<|B6<|s0<|qm rfl<|A0 (F9 (v:=(.b true)) rfl rfl rfl) rfl<|es (ra5 rfl rfl rfl rfl rfl)<|H9 rfl rfl<|C1<|B6<|oB h fun p54 hp54 h=>A1q (Q1:=fun e s' H'=>(match p54 with | (.inl v)=>e = .ret∧RetQ H [.tmp 4] [.b v] e s' H' | (.inr v)=>e = .normal∧s' = [(2,(.ptr (H.length + 0) 0)),(3,(.ptr (H.length + 1) 0)),(6,.i x1.2.1),(8,.i 3)]∧∃ g,H' = (H++([(.cells (A2 a0)),(.cells (E8 a1)),(.cells (B2 x1.1))]++g)):Prop)) ?_ ?_
         ·refine C5<|sg 3 rfl<|A0 (C2 rfl rfl rfl) rfl<|A0 A8r rfl<|F0 (C7 (ds:=(A2 a0)) rfl rfl rfl rfl (C0 rfl) rfl) rfl<|es (ra5 rfl rfl rfl rfl rfl)<|sg 6 rfl<|oB hp54 fun x55 hx55 hp54=>oB hp54 fun x56 hx56 hp54=>A0 (A2m (rows:=List.map cI []) rfl rfl (E2 (fun _=>rfl) _)) rfl<|A0 (C4 rfl) rfl<|S8 [6,7] (W5 [6,7] rfl I6 rfl rfl) (seen0 rfl) (C3 rfl rfl rfl) rfl<|A64 [7,0] [(.cells (A2 a0)),(.cells (E8 a1)),(.cells (B2 x1.1)),(.arr 1 false (List.map cI ([]:List Int))),(.arr 6 false (List.map A9 ([]:List RoFigure))),(.cells (A2 a0)),(.arr 1 false (List.map cI x55)),.dead] (W5 [7] rfl (A0y rfl X4 I6) rfl rfl) (seen0 rfl) (V6 (f:=cI) rfl rfl rfl rfl R8 (fun _=>rfl) hx55) rfl rfl rfl<|A0 (A2m (rows:=List.map A9 []) rfl rfl (E2 (fun _=>rfl) _)) rfl<|A0 (C4 rfl) rfl<|S8 [6,7] (W5 [6,7] rfl I6 rfl rfl) (A6j (b:=H.length + 0) rfl (A0x (Q7 _ rfl) A3y)) (C3 rfl rfl rfl) rfl<|A5a (V6 (f:=A9) rfl rfl rfl rfl R8 (fun _=>rfl) hx56) rfl<|A0 (C4 rfl) rfl<|F0 (C7 (ds:=[.i a0.Weather.Lo,.i a0.Weather.Hi,.i a0.Stoves,(.asl (H.length + 6) (List.length x55)),(.seq 4 (List.map B7 a0.Places)),(.seq 6 (List.map A9 a0.Figures)),(.seq 1 (List.map cI a0.Bill))]) rfl rfl rfl rfl (U9 (Nat.add_le_add_left (Nat.le_of_ble_eq_true rfl) _)) rfl) rfl<|A0 (C4 rfl) rfl<|F0 (C7 (ds:=[.i a0.Weather.Lo,.i a0.Weather.Hi,.i a0.Stoves,(.asl (H.length + 6) (List.length x55)),(.seq 4 (List.map B7 a0.Places)),(.asl (H.length + 7) (List.length x56)),(.seq 1 (List.map cI a0.Bill))]) rfl rfl rfl rfl (U9 (Nat.add_le_add_left (Nat.le_of_ble_eq_true rfl) _)) rfl) rfl<|es (ra5 rfl rfl rfl rfl rfl)<|B6<|s0<|qm rfl<|es (ra6 rfl rfl rfl rfl rfl rfl)<|oB hp54 fun p57 hp57 hp54=>A1q (Q1:=fun e s' H'=>e = .normal∧s' = [(2,(.ptr (H.length + 0) 0)),(3,(.ptr (H.length + 1) 0)),(6,.i x1.2.1),(8,.i 3),(9,(.ptr (H.length + 5) 0))]∧H' = (H++[(.cells (A2 a0)),(.cells (E8 a1)),(.cells (B2 x1.1)),(.arr 1 false (List.map cI ([]:List Int))),(.arr 6 false (List.map A9 ([]:List RoFigure))),(.cells (A2 p57)),(.arr 1 true (List.map cI x55)),(.arr 6 true (List.map A9 x56))])) ?_ ?_
          ·refine C5<|s0<|A0 (F9 (v:=(.b false)) rfl rfl rfl) rfl<|qm rfl<|es (ra7 rfl rfl rfl rfl rfl rfl rfl)<|Q9 rfl rfl<|s0<|A0 (F9 (v:=(.b false)) rfl rfl rfl) rfl<|qm rfl<|es (ra7 rfl rfl rfl rfl rfl rfl rfl)<|Q9 rfl rfl<|s0<|A0 (F9 (v:=(.b false)) rfl rfl rfl) rfl<|qm rfl<|es (ra7 rfl rfl rfl rfl rfl rfl rfl)<|Q9 rfl rfl<|s0<|A0 (F9 (v:=(.b true)) rfl rfl rfl) rfl<|qm rfl<|es (ra7 rfl rfl rfl rfl rfl rfl rfl)<|H9 rfl rfl<|r0<|oB hp57 fun x58 hx58 hp57=>A0 (E3 (ds:=[.i a0.Weather.Lo,.i a0.Weather.Hi,.i a0.Stoves,(.asl (H.length + 6) (List.length x55)),(.seq 4 (List.map B7 a0.Places)),(.asl (H.length + 7) (List.length x56)),(.seq 1 (List.map cI a0.Bill))]) rfl rfl rfl rfl) rfl<|A0 (C4 rfl) rfl<|A0 (C3 rfl rfl rfl) rfl<|A0 (A25 rfl) rfl<|A0 (F9 (v:=(.i (Int.tmod (w64 a1.Less) 3))) rfl rfl rfl) rfl<|A0 (J5 (rows:=List.map cI [(Int.tmod (w64 a1.Less) 3)]) rfl rfl (E2 (fun _=>rfl) _)) rfl<|B4 (rs:=[(.agg (A2 x58))]) rfl rfl (A1 (A9h (G3 rfl (G3 rfl (G3 rfl (G3 (A4f rfl (List.length_map _)) (G3 rfl (G3 (A4f rfl (List.length_map _)) (G3 rfl B2s)))))))) (A1 rfl B5)) ((B0u hx58).frz)<|F0 (C7 (ds:=(A2 x58)) rfl rfl rfl rfl (C0 rfl) rfl) rfl<|en (ra5 rfl rfl rfl rfl rfl) ?_
           obtain rfl:=os hp57
           exact me (And.intro rfl (And.intro rfl rfl)) (su5 rfl rfl rfl rfl rfl)
          ·rintro e s' H' ⟨rfl,rfl,rfl⟩
           refine B6<|s0<|oB hp54 fun x59 hx59 hp54=>A0 (C2 rfl rfl rfl) rfl<|B4 (rs:=[.b x59]) rfl rfl (A1 (C8 rfl) B5) ((O5 hx59).frz)<|A0 (N5 rfl) rfl<|es (ra6 rfl rfl rfl rfl rfl rfl)<|wi hp54 rfl (fun hc60 hp54=>?_) fun hc60 hp54=>?_
           ·refine E4 ?_
            obtain rfl:=os hp54
            exact me (And.intro rfl (And.intro rfl ⟨[(.arr 1 false (List.map cI ([]:List Int))),(.arr 6 false (List.map A9 ([]:List RoFigure))),(.cells (A2 p57)),(.arr 1 true (List.map cI x55)),(.arr 6 true (List.map A9 x56))],rfl⟩)) (su4 rfl rfl rfl rfl)
           ·refine C1<|sg 8 rfl<|oB hp54 fun x61 hx61 hp54=>A0 (C2 rfl rfl rfl) rfl<|B4 (rs:=[(.agg (B2 x61.1)),.i x61.2.1,.i x61.2.2]) rfl rfl (A1 (C8 rfl) B5) (V0 (D6y (k:=3) (l:=[]) rfl (A4h (l:=[]) hscv) rfl) hx61)<|qm rfl<|A0 (A6 rfl rfl) rfl<|A0 (A6 rfl rfl) rfl<|A0 (A6 rfl rfl) rfl<|A0 D6 rfl<|F0 (C7 (ds:=(B2 x61.1)) rfl rfl rfl rfl (C0 rfl) rfl) rfl<|qm rfl<|qm rfl<|es (ra6 rfl rfl rfl rfl rfl rfl)<|s0<|qm rfl<|A0 (G2 rfl rfl) rfl<|qm rfl<|gp 4 156 (.b ((x61.2.2 != 0) || (decide (x61.2.1 < x1.2.1)))) 152 rfl rfl (fun hg62=>?_) (fun hg62=>?_) ?_
            ·exact nF rfl hg62 rfl<|nF rfl hg62 rfl<|nF rfl hg62 rfl<|A0 (D0 rfl hg62 rfl) rfl<|ge 4 (by rw [hg62]; rfl) rfl rfl
            ·exact gF rfl hg62<|qm rfl<|gF rfl hg62<|qm rfl<|gF rfl hg62<|A0 (F8 rfl rfl) rfl<|A0 (D1 rfl hg62 rfl) rfl<|ge 4 (by rw [hg62]; rfl) rfl rfl
            refine es (ra5 rfl rfl rfl rfl rfl)<|wi hp54 rfl (fun hc63 hp54=>?_) fun hc63 hp54=>?_
            ·refine s0<|qm rfl<|es (ra1 rfl)<|C6 ?_
             obtain rfl:=os hp54
             exact me (And.intro rfl (retq trivial (B1 rfl B9) (A4 rfl B8) (A3 A5 B3))) (Sub.refl _)
            ·refine C1 ?_
             obtain rfl:=os hp54
             exact me (And.intro rfl (And.intro rfl ⟨[(.arr 1 false (List.map cI ([]:List Int))),(.arr 6 false (List.map A9 ([]:List RoFigure))),(.cells (A2 p57)),(.arr 1 true (List.map cI x55)),(.arr 6 true (List.map A9 x56)),(.cells (B2 x61.1))],rfl⟩)) (su4 rfl rfl rfl rfl)
         ·rcases p54 with vp54_0 | vp54_1
          ·rintro e s' H' ⟨rfl,hret⟩
           refine UnQ.out rfl ?_
           cases h
           exact hret
          ·rintro e s' H' ⟨rfl,rfl,g64,rfl⟩
           refine r0<|qm rfl<|A0 (F9 (v:=(.i 4)) rfl rfl rfl) rfl<|qm rfl<|en (ra4 rfl rfl rfl rfl)<|UnQ.nextT (live:=[2,3,6,8]) [(2,(.ptr (H.length + 0) 0)),(3,(.ptr (H.length + 1) 0)),(6,.i x1.2.1),(8,.i 4)] (H++[(.cells (A2 a0)),(.cells (E8 a1)),(.cells (B2 x1.1))]) (su4 rfl rfl rfl rfl) rfl (by decide) (B03 _ _ _ _ rfl rfl) (bdc (D4 rfl) (bdc (D4 rfl) (bdc A5 (bdc A5 bdn))))<|A6k 3 rfl [(2,(.ptr (H.length + 0) 0)),(3,(.ptr (H.length + 1) 0)),(6,.i x1.2.1),(8,.i 4)] (fun S hS=>K5 (live:=[2,3,6,8]) rfl (by decide) (Sub.trans (su4 rfl rfl rfl rfl) hS))<|B6<|s0<|qm rfl<|A0 (F9 (v:=(.b true)) rfl rfl rfl) rfl<|es (ra5 rfl rfl rfl rfl rfl)<|H9 rfl rfl<|C1<|B6<|oB h fun p65 hp65 h=>A1q (Q1:=fun e s' H'=>(match p65 with | (.inl v)=>e = .ret∧RetQ H [.tmp 4] [.b v] e s' H' | (.inr v)=>e = .normal∧s' = [(2,(.ptr (H.length + 0) 0)),(3,(.ptr (H.length + 1) 0)),(6,.i x1.2.1),(8,.i 4)]∧∃ g,H' = (H++([(.cells (A2 a0)),(.cells (E8 a1)),(.cells (B2 x1.1))]++g)):Prop)) ?_ ?_
           ·refine C5<|sg 3 rfl<|A0 (C2 rfl rfl rfl) rfl<|A0 A8r rfl<|F0 (C7 (ds:=(A2 a0)) rfl rfl rfl rfl (C0 rfl) rfl) rfl<|es (ra5 rfl rfl rfl rfl rfl)<|sg 6 rfl<|oB hp65 fun x66 hx66 hp65=>oB hp65 fun x67 hx67 hp65=>A0 (A2m (rows:=List.map cI []) rfl rfl (E2 (fun _=>rfl) _)) rfl<|A0 (C4 rfl) rfl<|S8 [6,7] (W5 [6,7] rfl I6 rfl rfl) (seen0 rfl) (C3 rfl rfl rfl) rfl<|A64 [7,0] [(.cells (A2 a0)),(.cells (E8 a1)),(.cells (B2 x1.1)),(.arr 1 false (List.map cI ([]:List Int))),(.arr 6 false (List.map A9 ([]:List RoFigure))),(.cells (A2 a0)),(.arr 1 false (List.map cI x66)),.dead] (W5 [7] rfl (A0y rfl X4 I6) rfl rfl) (seen0 rfl) (V6 (f:=cI) rfl rfl rfl rfl R8 (fun _=>rfl) hx66) rfl rfl rfl<|A0 (A2m (rows:=List.map A9 []) rfl rfl (E2 (fun _=>rfl) _)) rfl<|A0 (C4 rfl) rfl<|S8 [6,7] (W5 [6,7] rfl I6 rfl rfl) (A6j (b:=H.length + 0) rfl (A0x (Q7 _ rfl) A3y)) (C3 rfl rfl rfl) rfl<|A5a (V6 (f:=A9) rfl rfl rfl rfl R8 (fun _=>rfl) hx67) rfl<|A0 (C4 rfl) rfl<|F0 (C7 (ds:=[.i a0.Weather.Lo,.i a0.Weather.Hi,.i a0.Stoves,(.asl (H.length + 6) (List.length x66)),(.seq 4 (List.map B7 a0.Places)),(.seq 6 (List.map A9 a0.Figures)),(.seq 1 (List.map cI a0.Bill))]) rfl rfl rfl rfl (U9 (Nat.add_le_add_left (Nat.le_of_ble_eq_true rfl) _)) rfl) rfl<|A0 (C4 rfl) rfl<|F0 (C7 (ds:=[.i a0.Weather.Lo,.i a0.Weather.Hi,.i a0.Stoves,(.asl (H.length + 6) (List.length x66)),(.seq 4 (List.map B7 a0.Places)),(.asl (H.length + 7) (List.length x67)),(.seq 1 (List.map cI a0.Bill))]) rfl rfl rfl rfl (U9 (Nat.add_le_add_left (Nat.le_of_ble_eq_true rfl) _)) rfl) rfl<|es (ra5 rfl rfl rfl rfl rfl)<|B6<|s0<|qm rfl<|es (ra6 rfl rfl rfl rfl rfl rfl)<|oB hp65 fun p68 hp68 hp65=>A1q (Q1:=fun e s' H'=>e = .normal∧s' = [(2,(.ptr (H.length + 0) 0)),(3,(.ptr (H.length + 1) 0)),(6,.i x1.2.1),(8,.i 4),(9,(.ptr (H.length + 5) 0))]∧H' = (H++[(.cells (A2 a0)),(.cells (E8 a1)),(.cells (B2 x1.1)),(.arr 1 false (List.map cI ([]:List Int))),(.arr 6 false (List.map A9 ([]:List RoFigure))),(.cells [.i a0.Weather.Lo,.i a0.Weather.Hi,.i a0.Stoves,(.asl (H.length + 6) (List.length x66)),(.seq 4 (List.map B7 a0.Places)),(.asl (H.length + 7) (List.length p68)),(.seq 1 (List.map cI a0.Bill))]),(.arr 1 false (List.map cI x66)),(.arr 6 false (List.map A9 p68))])) ?_ ?_
            ·refine C5<|s0<|A0 (F9 (v:=(.b false)) rfl rfl rfl) rfl<|qm rfl<|es (ra7 rfl rfl rfl rfl rfl rfl rfl)<|Q9 rfl rfl<|s0<|A0 (F9 (v:=(.b false)) rfl rfl rfl) rfl<|qm rfl<|es (ra7 rfl rfl rfl rfl rfl rfl rfl)<|Q9 rfl rfl<|s0<|A0 (F9 (v:=(.b false)) rfl rfl rfl) rfl<|qm rfl<|es (ra7 rfl rfl rfl rfl rfl rfl rfl)<|Q9 rfl rfl<|s0<|A0 (F9 (v:=(.b false)) rfl rfl rfl) rfl<|qm rfl<|es (ra7 rfl rfl rfl rfl rfl rfl rfl)<|Q9 rfl rfl<|s0<|A0 (F9 (v:=(.b true)) rfl rfl rfl) rfl<|qm rfl<|es (ra6 rfl rfl rfl rfl rfl rfl)<|H9 rfl rfl<|r0<|oB hp68 fun x69 hx69 hp68=>A0 (C4 rfl) rfl<|A0 (C3 (x:=(.asl (H.length + 7) (List.length x67))) rfl rfl rfl) rfl<|A0 (C4 rfl) rfl<|A0 (E3 (ds:=A9 a1.Further) rfl rfl rfl rfl) rfl<|A0 (J5 (rows:=List.map A9 [a1.Further]) rfl rfl (E2 (fun _=>rfl) _)) rfl<|A5a (V6 (f:=A9) rfl rfl rfl rfl R8 (fun _=>rfl) hx69) rfl<|A0 (C4 rfl) rfl<|F0 (C7 (ds:=[.i a0.Weather.Lo,.i a0.Weather.Hi,.i a0.Stoves,(.asl (H.length + 6) (List.length x66)),(.seq 4 (List.map B7 a0.Places)),(.asl (H.length + 7) (List.length x69)),(.seq 1 (List.map cI a0.Bill))]) rfl rfl rfl rfl (U9 (Nat.add_le_add_left (Nat.le_of_ble_eq_true rfl) _)) rfl) rfl<|en (ra5 rfl rfl rfl rfl rfl) ?_
             obtain rfl:=os hp68
             exact me (And.intro rfl (And.intro rfl rfl)) (su5 rfl rfl rfl rfl rfl)
            ·rintro e s' H' ⟨rfl,rfl,rfl⟩
             refine B6<|s0<|oB hp65 fun x70 hx70 hp65=>A0 (E3 (ds:=[.i a0.Weather.Lo,.i a0.Weather.Hi,.i a0.Stoves,(.asl (H.length + 6) (List.length x66)),(.seq 4 (List.map B7 a0.Places)),(.asl (H.length + 7) (List.length p68)),(.seq 1 (List.map cI a0.Bill))]) rfl rfl rfl rfl) rfl<|B4 (rs:=[.b x70]) rfl rfl (A1 (A9h (G3 rfl (G3 rfl (G3 rfl (G3 (A4f rfl (List.length_map _)) (G3 rfl (G3 (A4f rfl (List.length_map _)) (G3 rfl B2s)))))))) B5) ((O5 hx70).frz)<|A0 (N5 rfl) rfl<|es (ra6 rfl rfl rfl rfl rfl rfl)<|wi hp65 rfl (fun hc71 hp65=>?_) fun hc71 hp65=>?_
             ·refine E4 ?_
              obtain rfl:=os hp65
              exact me (And.intro rfl (And.intro rfl ⟨[(.arr 1 false (List.map cI ([]:List Int))),(.arr 6 false (List.map A9 ([]:List RoFigure))),(.cells [.i a0.Weather.Lo,.i a0.Weather.Hi,.i a0.Stoves,(.asl (H.length + 6) (List.length x66)),(.seq 4 (List.map B7 a0.Places)),(.asl (H.length + 7) (List.length p68)),(.seq 1 (List.map cI a0.Bill))]),(.arr 1 true (List.map cI x66)),(.arr 6 true (List.map A9 p68))],rfl⟩)) (su4 rfl rfl rfl rfl)
             ·refine C1<|sg 8 rfl<|oB hp65 fun x72 hx72 hp65=>A0 (E3 (ds:=[.i a0.Weather.Lo,.i a0.Weather.Hi,.i a0.Stoves,(.asl (H.length + 6) (List.length x66)),(.seq 4 (List.map B7 a0.Places)),(.asl (H.length + 7) (List.length p68)),(.seq 1 (List.map cI a0.Bill))]) rfl rfl rfl rfl) rfl<|B4 (rs:=[(.agg (B2 x72.1)),.i x72.2.1,.i x72.2.2]) rfl rfl (A1 (A9h (G3 rfl (G3 rfl (G3 rfl (G3 (A4f rfl (List.length_map _)) (G3 rfl (G3 (A4f rfl (List.length_map _)) (G3 rfl B2s)))))))) B5) (V0 (D6y (k:=3) (l:=[]) rfl (A4h (l:=[]) hscv) rfl) hx72)<|qm rfl<|A0 (A6 rfl rfl) rfl<|A0 (A6 rfl rfl) rfl<|A0 (A6 rfl rfl) rfl<|A0 D6 rfl<|F0 (C7 (ds:=(B2 x72.1)) rfl rfl rfl rfl (C0 rfl) rfl) rfl<|qm rfl<|qm rfl<|es (ra6 rfl rfl rfl rfl rfl rfl)<|s0<|qm rfl<|A0 (G2 rfl rfl) rfl<|qm rfl<|gp 4 156 (.b ((x72.2.2 != 0) || (decide (x72.2.1 < x1.2.1)))) 152 rfl rfl (fun hg73=>?_) (fun hg73=>?_) ?_
              ·exact nF rfl hg73 rfl<|nF rfl hg73 rfl<|nF rfl hg73 rfl<|A0 (D0 rfl hg73 rfl) rfl<|ge 4 (by rw [hg73]; rfl) rfl rfl
              ·exact gF rfl hg73<|qm rfl<|gF rfl hg73<|qm rfl<|gF rfl hg73<|A0 (F8 rfl rfl) rfl<|A0 (D1 rfl hg73 rfl) rfl<|ge 4 (by rw [hg73]; rfl) rfl rfl
              refine es (ra5 rfl rfl rfl rfl rfl)<|wi hp65 rfl (fun hc74 hp65=>?_) fun hc74 hp65=>?_
              ·refine s0<|qm rfl<|es (ra1 rfl)<|C6 ?_
               obtain rfl:=os hp65
               exact me (And.intro rfl (retq trivial (B1 rfl B9) (A4 rfl B8) (A3 A5 B3))) (Sub.refl _)
              ·refine C1 ?_
               obtain rfl:=os hp65
               exact me (And.intro rfl (And.intro rfl ⟨[(.arr 1 false (List.map cI ([]:List Int))),(.arr 6 false (List.map A9 ([]:List RoFigure))),(.cells [.i a0.Weather.Lo,.i a0.Weather.Hi,.i a0.Stoves,(.asl (H.length + 6) (List.length x66)),(.seq 4 (List.map B7 a0.Places)),(.asl (H.length + 7) (List.length p68)),(.seq 1 (List.map cI a0.Bill))]),(.arr 1 true (List.map cI x66)),(.arr 6 true (List.map A9 p68)),(.cells (B2 x72.1))],rfl⟩)) (su4 rfl rfl rfl rfl)
           ·rcases p65 with vp65_0 | vp65_1
            ·rintro e s' H' ⟨rfl,hret⟩
             refine UnQ.out rfl ?_
             cases h
             exact hret
            ·rintro e s' H' ⟨rfl,rfl,g75,rfl⟩
             refine r0<|qm rfl<|A0 (F9 (v:=(.i 5)) rfl rfl rfl) rfl<|qm rfl<|en (ra4 rfl rfl rfl rfl)<|UnQ.nextT (live:=[2,3,6,8]) [(2,(.ptr (H.length + 0) 0)),(3,(.ptr (H.length + 1) 0)),(6,.i x1.2.1),(8,.i 5)] (H++[(.cells (A2 a0)),(.cells (E8 a1)),(.cells (B2 x1.1))]) (su4 rfl rfl rfl rfl) rfl (by decide) (B03 _ _ _ _ rfl rfl) (bdc (D4 rfl) (bdc (D4 rfl) (bdc A5 (bdc A5 bdn))))<|A6k 3 rfl [(2,(.ptr (H.length + 0) 0)),(3,(.ptr (H.length + 1) 0)),(6,.i x1.2.1),(8,.i 5)] (fun S hS=>K5 (live:=[2,3,6,8]) rfl (by decide) (Sub.trans (su4 rfl rfl rfl rfl) hS))<|B6<|s0<|qm rfl<|A0 (F9 (v:=(.b false)) rfl rfl rfl) rfl<|es (ra5 rfl rfl rfl rfl rfl)<|Q9 rfl rfl<|E4<|UnQ.out rfl<|s0<|oB h fun x76 hx76 h=>B4 (rs:=[.b x76]) rfl rfl B5 ((M2 (A4h hscv) hx76).frz)<|qm rfl<|es (ra1 rfl)<|C6 ?_
             obtain rfl:=os h
             exact retq trivial (B1 rfl B9) (A4 rfl B8) (A3 A5 B3)
end Rm
end
section
namespace Rm
open Go Am
theorem B7b {f g:Nat→Int} (n:Nat) (hg:∀i,i < n→f i = g i):∀d,(∀ i,n≤i→i < n + d→f i = 0)→B2f f (n + d) = B2f g n
 | 0,_=>A6x hg
 | d + 1,h=>by
  rw [← Nat.add_assoc,A8d,B7b n hg d fun i h1 h2=>h i h1 (by omega),h (n + d) (by omega) (by omega)]; omega
structure Easy (h u:RoHouse):Prop where
 weather:h.Weather.Lo≤u.Weather.Lo∧u.Weather.Hi≤h.Weather.Hi
 stoves:u.Stoves = h.Stoves
 hlen:u.Holds.length = h.Holds.length
 holds:∀k,k < h.Holds.length→h.Holds[k]!≤u.Holds[k]!
 places:u.Places = h.Places
 bill:∀c,W3 u.Bill c u.Bill.length≤W3 h.Bill c h.Bill.length
 flen:h.Figures.length≤u.Figures.length
 fig:∀i,i < h.Figures.length→(u.Figures[i]!).Class = (h.Figures[i]!).Class∧(u.Figures[i]!).Weight = (h.Figures[i]!).Weight∧(u.Figures[i]!).Worth = (h.Figures[i]!).Worth∧(u.Figures[i]!).Cracks≤(h.Figures[i]!).Cracks∧(h.Figures[i]!).Slumps≤(u.Figures[i]!).Slumps
def ext (p:List Int) (d:Nat):List Int:=p++List.replicate d (-1)
theorem D1b (p:List Int) (d:Nat):(ext p d).length = p.length + d:= by
 unfold ext
 rw [List.length_append,List.length_replicate]
theorem D1a (p:List Int) (d:Nat) {i:Nat} (hi:i < p.length + d):(ext p d)[i]! = if i < p.length then p[i]! else -1:= by
 have hl:=D1b p d
 rw [getElem!_pos (ext p d) i (by omega)]
 unfold ext
 by_cases c:i < p.length
 ·rw [if_pos c,List.getElem_append_left c,getElem!_pos p i c]
 ·rw [if_neg c,List.getElem_append_right (by omega),List.getElem_replicate]
theorem C5e {w v:Span} (h:w.Lo≤v.Lo∧v.Hi≤w.Hi) (ws:List Span) (l:Nat):∀n,(G9 w ws l n).Lo≤(G9 v ws l n).Lo∧(G9 v ws l n).Hi≤(G9 w ws l n).Hi
 | 0=>h
 | n + 1=>by
  have ih:=C5e h ws l n
  have e:∀w,G9 w ws l (n + 1) = if bit l n then B0b (G9 w ws l n) ws[n]! else G9 w ws l n:=fun _=>rfl
  rw [e,e]
  cases bit l n with
  | false=>exact ih
  | true =>
   show (G9 w ws l n).Lo + _≤(G9 v ws l n).Lo + _∧(G9 v ws l n).Hi + _≤(G9 w ws l n).Hi + _
   omega
theorem D2s {w:Span} {f:RoFigure}:(L5 w f == 1) = true↔f.Cracks≤w.Lo∧w.Hi≤f.Slumps:= by
 unfold L5
 rw [beq_iff_eq]
 constructor
 ·intro q
  by_cases c:f.Cracks≤w.Lo∧w.Hi≤f.Slumps
  ·exact c
  ·rw [if_neg c] at q
   split at q <;> cases q
 ·intro c
  rw [if_pos c]
section
variable {h u:RoHouse} {p:List Int}
theorem D7j (e:Easy h u) {l:Nat} (hx:(l,p) ∈ O3 h):(l,ext p (u.Figures.length - h.Figures.length)) ∈ O3 u∧worth u (ext p (u.Figures.length - h.Figures.length)) = worth h p:= by
 obtain ⟨pv,hl,hd,ha⟩:=B97.mp hx
 have pl:=pv.len
 have hf:=e.flen
 generalize hdd:u.Figures.length - h.Figures.length = d
 have el:=D1b p d
 have egl:∀i,i < p.length→(ext p d)[i]! = p[i]!:=fun i hi=>by rw [D1a p d (by omega),if_pos hi]
 have egr:∀i,p.length≤i→i < p.length + d→(ext p d)[i]! = -1:=fun i h1 h2=>by rw [D1a p d h2,if_neg (by omega)]
 have pv':PV u (ext p d):=⟨by rw [el]; omega,fun i hi=>by
  rw [el] at hi
  rw [e.places]
  by_cases c:i < p.length
  ·rw [egl i c]; exact pv.bd i c
  ·rw [egr i (by omega) hi]; omega⟩
 have hcar:∀k,G1 u (ext p d) k (ext p d).length = G1 h p k p.length:=fun k=>by
  rw [el]
  refine B7b p.length (fun i hi=>?_) d fun i h1 h2=>?_
  ·unfold con plc
   rw [egl i hi,e.places,el,(e.fig i (by omega)).2.1]
   by_cases c:p[i]! ≠ -1∧bit (h.Places[p[i]!.toNat]!).Joists.toNat k = true
   ·rw [if_pos ⟨by omega,c⟩,if_pos ⟨hi,c⟩]
   ·rw [if_neg (fun q=>c q.2),if_neg (fun q=>c q.2)]
  ·unfold con
   rw [egr i h1 h2,if_neg (fun q=>q.2.1 rfl)]
 have hthe:∀c,K0 u (ext p d) c (ext p d).length = K0 h p c p.length:=fun c=>by
  rw [el]
  refine B7b p.length (fun i hi=>?_) d fun i h1 h2=>?_
  ·unfold dear plc
   rw [egl i hi,e.places,el,(e.fig i (by omega)).1]
   by_cases q:p[i]! ≠ -1∧(h.Places[p[i]!.toNat]!).Dear = true∧(h.Figures[i]!).Class = c
   ·rw [if_pos ⟨by omega,q⟩,if_pos ⟨hi,q⟩]
   ·rw [if_neg (fun z=>q z.2),if_neg (fun z=>q z.2)]
  ·unfold dear
   rw [egr i h1 h2,if_neg (fun q=>q.2.1 rfl)]
 refine ⟨C5l pv' (by rw [e.stoves]; exact hl) ?_ ?_,?_⟩
 ·rw [B12]
  unfold ext
  rw [List.pairwise_append]
  refine ⟨(B12 p).mp hd,?_,fun a _ b hb=>.inl (List.eq_of_mem_replicate hb)⟩
  exact List.pairwise_of_forall_mem_list fun a _ b hb=>.inl (List.eq_of_mem_replicate hb)
 ·unfold V5 at ha ⊢
  rw [Bool.and_eq_true,Bool.and_eq_true] at ha ⊢
  obtain ⟨h1,h2,h3⟩:=ha
  refine ⟨?_,?_,?_⟩
  ·unfold A4b at h1 ⊢
   rw [List.all_eq_true] at h1 ⊢
   intro i hi
   rw [List.mem_range,el] at hi
   by_cases c:i < p.length
   ·have:=h1 i (List.mem_range.mpr c)
    unfold W2 at this ⊢
    rw [egl i c]
    rw [Bool.or_eq_true] at this ⊢
    rcases this with q | q
    ·exact .inl q
    ·right
     rw [D2s] at q ⊢
     have hfi:=(e.fig i (by omega)).2.2.2
     have hw:(warm h p[i]!.toNat l).Lo≤(warm u p[i]!.toNat l).Lo∧(warm u p[i]!.toNat l).Hi≤(warm h p[i]!.toNat l).Hi:= by
      unfold warm
      rw [e.places,e.stoves]
      exact C5e e.weather _ l _
     omega
   ·unfold W2
    rw [egr i (by omega) hi]; rfl
  ·unfold R6 at h2 ⊢
   rw [List.all_eq_true] at h2 ⊢
   intro k hk
   rw [e.hlen,List.mem_range] at hk
   have:=h2 k (List.mem_range.mpr hk)
   rw [decide_eq_true_eq] at this ⊢
   rw [hcar]
   have:=e.holds k hk
   omega
  ·unfold A1x at h3 ⊢
   rw [List.all_eq_true] at h3 ⊢
   intro c hc
   have:=h3 c hc
   rw [decide_eq_true_eq] at this ⊢
   rw [hthe]
   have:=e.bill (c:Int)
   omega
 ·unfold worth
  rw [el]
  refine B7b p.length (fun i hi=>?_) d fun i h1 h2=>?_
  ·rw [egl i hi,el,(e.fig i (by omega)).2.2.1]
   by_cases c:p[i]! ≠ -1
   ·rw [if_pos ⟨by omega,c⟩,if_pos ⟨hi,c⟩]
   ·rw [if_neg (fun q=>c q.2),if_neg (fun q=>c q.2)]
  ·rw [egr i h1 h2,if_neg (fun q=>q.2 rfl)]
theorem B0f (hu:NB u) (e:Easy h u) {b:Nat × List Int} (hb:b ∈ O3 h) (z:Int) (hz:z = worth h b.2) :
  (N4 u).bind (fun x=>if (!x) = true then some (Sum.inr ()) else (T2 u).bind fun y=>if ((y.2.2 != 0) || (decide (y.2.1 < z))) = true then some (Sum.inl false) else some (Sum.inr ())) = some (Sum.inr ():Bool ⊕ Unit):= by
 subst hz
 rw [B7f]
 simp only [Option.bind_some]
 by_cases e0:(check u).2.2 = 0
 ·rw [if_neg (by simp [e0]),B9n hu]
  simp only [Option.bind_some]
  obtain ⟨h1,h2⟩:=D7j e (l:=b.1) (p:=b.2) hb
  obtain ⟨c,_,c2,c3⟩:=D4o e0 h1
  rw [c2]
  simp only at c3 ⊢
  rw [if_neg]
  rw [Bool.or_eq_true,decide_eq_true_eq,bne_self_eq_false]
  rintro (q | q)
  ·cases q
  ·omega
 ·rw [if_pos (by simp [e0])]
end
theorem B7n (b:List Int) (c:Int):∀n,n≤b.length→W3 b c n = ((b.take n).count c:Int)
 | 0,_=>rfl
 | n + 1,hn=>by
  rw [A3d,B7n b c n (by omega),C2t b (by omega),List.count_append,List.count_singleton]
  cases b[n]! == c <;> simp
theorem D7f {a b:List Int} (h:a.Sublist b) (c:Int):W3 a c a.length≤W3 b c b.length:= by
 rw [B7n a c _ (Nat.le_refl _),B7n b c _ (Nat.le_refl _),List.take_length,List.take_length]
 exact Int.ofNat_le.mpr (h.count_le c)
theorem C9a (b:List Int) (S:Nat):(A5x b S).Sublist b:= by
 have e:(List.range b.length).map (fun i=>b[i]!) = b:= by
  apply List.ext_getElem
  ·rw [List.length_map,List.length_range]
  ·intro i h1 h2
   rw [List.getElem_map,List.getElem_range,getElem!_pos b i h2]
 have:=(List.filter_sublist (p:=fun i=>!bit S i) (l:=List.range b.length)).map fun i=>b[i]!
 rw [e] at this
 exact this
theorem D3t {α:Type} (m:List α) (i:Int) (a b:α):A6l (A6l m i a) i b = A6l m i b:= by
 unfold A6l
 rw [List.set_set]
theorem D1p {α:Type} [Inhabited α] (f:α→α) (l:List α) {i:Nat} (hi:i < l.length):(l.map f)[i]! = f l[i]!:= by
 rw [getElem!_pos (l.map f) i (by rw [List.length_map]; exact hi),List.getElem_map,getElem!_pos l i hi]
def EB (x:law05_Easier):Prop:=(0≤x.Holds∧x.Holds < 256)∧(0≤x.Bears∧x.Bears < 256)∧(0≤x.Less∧x.Less < 256)∧(0≤x.Weather.x0∧x.Weather.x0 < 256)∧(0≤x.Weather.x1∧x.Weather.x1 < 256)∧x.Further.Name.size < 9223372036854775808
theorem set3:∀t:Nat,t < 3→∀ i:Nat,i < 3→([(t:Int)].any (· == (i:Int))) = bit (2 ^ t) i:= by decide +kernel
theorem B9m {h:RoHouse} (hb:NB h) {x:law05_Easier} (qx:EB x):A33 h x = some true:= by
 obtain ⟨xh,xb,xl,xw0,xw1,xn⟩:=qx
 unfold A33
 rw [B9n hb,B7f]
 simp only [Option.bind_some]
 by_cases e0:(check h).2.2 = 0
 ·have ok:=S4 e0
  have h5:=ok.figures
  have h4:=ok.holds
  rcases C0d e0 with ⟨a1,a2⟩ | ⟨b,hbm,a2⟩
  ·rw [a2]
   simp only []
   rw [if_pos (by decide),e0,if_pos (by decide),Z9]; rfl
  ·rw [a2]
   simp only []
   rw [if_neg (by decide),if_neg (by simp [e0]),A3b (l:=([]:List Int)) (by omega) (by simp; omega),A3b (l:=([]:List RoFigure)) (by omega) (by simp; omega),List.nil_append,List.nil_append]
   simp only [Option.bind_some]
   have l1:loop (X7 x) (0,h.Holds) = some (h.Holds.map fun n=>A3a 2000 (n + x.Holds)):= by
    refine C07 (fun n=>A3a 2000 (n + x.Holds)) h.Holds (by omega) (fun i m hi hm1 hm2=>?_) ?_
    ·have hbd:=ok.hold _ (G5 hi)
     unfold X7
     simp only []
     rw [if_pos (by rw [decide_eq_true_eq]; omega),B59 hm2]
     simp only [Option.bind_some]
     rw [E0 (n:=(i:Int) + 1) (by omega),E0 (n:=x.Holds) (by omega),E0 (by omega)]; rfl
    ·unfold X7
     simp only []
     rw [List.length_map,if_neg (by simp)]
   have l2:loop (X8 x) (0,h.Figures) = some (h.Figures.map fun f=>⟨f.Name,f.Class,f.Weight,A1h (-100) (f.Cracks - x.Bears),A3a 100 (f.Slumps + x.Bears),f.Worth⟩):= by
    refine C07 (fun f:RoFigure=>(⟨f.Name,f.Class,f.Weight,A1h (-100) (f.Cracks - x.Bears),A3a 100 (f.Slumps + x.Bears),f.Worth⟩:RoFigure)) h.Figures (by omega) (fun i m hi hm1 hm2=>?_) ?_
    ·have hbd:=(ok.figure _ (G5 hi)).bears
     unfold X8
     simp only []
     rw [if_pos (by rw [decide_eq_true_eq]; omega),B59 hm2]
     simp only [Option.bind_some]
     rw [B59 (m:=A6l m (i:Int) _) (i:=i) (x:=⟨(h.Figures[i]!).Name,(h.Figures[i]!).Class,(h.Figures[i]!).Weight,A1h (-100) (w64 ((h.Figures[i]!).Cracks - (w64 x.Bears))),(h.Figures[i]!).Slumps,(h.Figures[i]!).Worth⟩) (by
      unfold A6l
      rw [Int.toNat_natCast,List.getElem?_set_self (by omega)])]
     simp only [Option.bind_some]
     rw [D3t,E0 (n:=(i:Int) + 1) (by omega),E0 (n:=x.Bears) (by omega),E0 (n:=(h.Figures[i]!).Cracks - x.Bears) (by omega),E0 (n:=(h.Figures[i]!).Slumps + x.Bears) (by omega)]; rfl
    ·unfold X8
     simp only []
     rw [List.length_map,if_neg (by simp)]
   have hself:∀c,W3 h.Bill c h.Bill.length≤W3 h.Bill c h.Bill.length:=fun _=>Int.le_refl _
   have hfig:∀i,i < h.Figures.length→(h.Figures[i]!).Class = (h.Figures[i]!).Class∧(h.Figures[i]!).Weight = (h.Figures[i]!).Weight∧(h.Figures[i]!).Worth = (h.Figures[i]!).Worth∧(h.Figures[i]!).Cracks≤(h.Figures[i]!).Cracks∧(h.Figures[i]!).Slumps≤(h.Figures[i]!).Slumps:=fun _ _=>⟨rfl,rfl,rfl,Int.le_refl _,Int.le_refl _⟩
   have s1:=B0f (h:=h) (u:=⟨h.Weather,h.Stoves,h.Holds.map fun n=>A3a 2000 (n + x.Holds),h.Places,h.Figures,h.Bill⟩) hb ⟨⟨Int.le_refl _,Int.le_refl _⟩,rfl,List.length_map _,fun k hk=>by
    have hbd:=ok.hold _ (G5 hk)
    show _≤(h.Holds.map fun n=>A3a 2000 (n + x.Holds))[k]!
    rw [D1p _ _ hk]
    unfold A3a
    split <;> omega,rfl,hself,Nat.le_refl _,hfig⟩ hbm _ rfl
   have s2:=B0f (h:=h) (u:=⟨h.Weather,h.Stoves,h.Holds,h.Places,h.Figures.map fun f=>⟨f.Name,f.Class,f.Weight,A1h (-100) (f.Cracks - x.Bears),A3a 100 (f.Slumps + x.Bears),f.Worth⟩,h.Bill⟩) ⟨hb.1,fun v hv=>by
    have hv:v ∈ h.Figures.map _:=hv
    rw [List.mem_map] at hv
    obtain ⟨f,hf,rfl⟩:=hv
    exact hb.2 f hf⟩ ⟨⟨Int.le_refl _,Int.le_refl _⟩,rfl,rfl,fun k hk=>Int.le_refl _,rfl,hself,Nat.le_of_eq (List.length_map _).symm,fun i hi=>by
    have hbd:=(ok.figure _ (G5 hi)).bears
    have em:((⟨h.Weather,h.Stoves,h.Holds,h.Places,h.Figures.map fun f=>⟨f.Name,f.Class,f.Weight,A1h (-100) (f.Cracks - x.Bears),A3a 100 (f.Slumps + x.Bears),f.Worth⟩,h.Bill⟩:RoHouse).Figures)[i]! = ⟨(h.Figures[i]!).Name,(h.Figures[i]!).Class,(h.Figures[i]!).Weight,A1h (-100) ((h.Figures[i]!).Cracks - x.Bears),A3a 100 ((h.Figures[i]!).Slumps + x.Bears),(h.Figures[i]!).Worth⟩:=D1p _ _ hi
    rw [em]
    refine ⟨rfl,rfl,rfl,?_,?_⟩
    ·show A1h (-100) ((h.Figures[i]!).Cracks - x.Bears)≤_
     unfold A1h
     split <;> omega
    ·show _≤A3a 100 ((h.Figures[i]!).Slumps + x.Bears)
     unfold A3a
     split <;> omega⟩ hbm _ rfl
   rw [l1,l2]
   simp only [Option.bind_some]
   rw [s1]
   simp only [Option.bind_some]
   rw [s2]
   simp only [Option.bind_some]
   obtain ⟨w,w1,w2,w3,w4⟩:=C30 ok (a:=x.Weather.x0) (b:=x.Weather.x1) xw0 xw1
   have w1:A2j (RoHouse.mk h.Weather h.Stoves h.Holds h.Places h.Figures h.Bill) x.Weather = some (A9u h w):=w1
   have s3:=B0f (h:=h) (u:=A9u h w) hb ⟨⟨w2,w4⟩,rfl,rfl,fun k hk=>Int.le_refl _,rfl,hself,Nat.le_refl _,hfig⟩ hbm _ rfl
   rw [w1]
   simp only [Option.bind_some]
   rw [s3]
   simp only [Option.bind_some]
   have hbl:=ok.bill
   obtain ⟨t,ht,ht3⟩:∃t:Nat,Int.tmod (w64 x.Less) 3 = (t:Int)∧t < 3:= by
    rw [E0 (by omega)]
    have h0:=Int.tmod_nonneg 3 xl.1
    have h1:=Int.tmod_lt_of_pos x.Less (b:=3) (by omega)
    exact ⟨(Int.tmod x.Less 3).toNat,by omega,by omega⟩
   have hw:=D0v ok (l:=[(t:Int)]) (by simp) (S:=2 ^ t) (fun i hi=>set3 t ht3 i (by omega))
   have hw:A1l (RoHouse.mk h.Weather h.Stoves h.Holds h.Places h.Figures h.Bill) [(t:Int)] = some (A7i h (A5x h.Bill (2 ^ t))):=hw
   have s4:=B0f (h:=h) (u:=A7i h (A5x h.Bill (2 ^ t))) hb ⟨⟨Int.le_refl _,Int.le_refl _⟩,rfl,rfl,fun k hk=>Int.le_refl _,rfl,fun c=>D7f (C9a _ _) c,Nat.le_refl _,hfig⟩ hbm _ rfl
   rw [ht,hw]
   simp only [Option.bind_some]
   rw [s4]
   simp only [Option.bind_some]
   rw [A3b (by omega) (by simp; omega)]
   simp only [Option.bind_some]
   have s5:=B0f (h:=h) (u:=⟨h.Weather,h.Stoves,h.Holds,h.Places,h.Figures++[x.Further],h.Bill⟩) ⟨hb.1,fun v hv=>by
    have hv:v ∈ h.Figures++[x.Further]:=hv
    rw [List.mem_append] at hv
    rcases hv with hv | hv
    ·exact hb.2 v hv
    ·rw [List.mem_singleton.mp hv]; exact xn⟩ ⟨⟨Int.le_refl _,Int.le_refl _⟩,rfl,rfl,fun k hk=>Int.le_refl _,rfl,hself,by show _≤(h.Figures++[x.Further]).length; rw [List.length_append]; omega,fun i hi=>by
    have e:(h.Figures++[x.Further])[i]! = h.Figures[i]!:= by
     rw [getElem!_pos _ i (by rw [List.length_append]; omega),List.getElem_append_left hi,getElem!_pos h.Figures i hi]
    show ((h.Figures++[x.Further])[i]!).Class = _∧((h.Figures++[x.Further])[i]!).Weight = _∧((h.Figures++[x.Further])[i]!).Worth = _∧((h.Figures++[x.Further])[i]!).Cracks≤_∧_≤((h.Figures++[x.Further])[i]!).Slumps
    rw [e]; exact hfig i hi⟩ hbm _ rfl
   rw [s5]
   simp only [Option.bind_some]
   rw [Z9]; rfl
 ·have hbo:A3c h = (⟨0,[]⟩,0,(check h).2.2):= by unfold A3c; rw [if_pos (bne_iff_ne.mpr e0)]
  rw [hbo,if_pos (bne_iff_ne.mpr e0),beq_eq_false_iff_ne.mpr e0]
  simp only [Bool.not_false,Bool.true_or,beq_self_eq_true,Bool.and_self,if_true]
  rw [Z9]; rfl
def C2n:List Sh:=[.int .u8,.int .u8,.int .u8,.int .u8,.int .u8,.str,.int .i64,.int .i64,.int .i64,.int .i64,.int .i64]
theorem D29 (r:List AV) (h:SatL C2n r):∃x:law05_Easier,r = E8 x∧EB x:= by
 unfold C2n at h
 simp only [SatL,Sat] at h
 obtain ⟨x0,q0,rfl,⟨n0,rfl,h0⟩,x1,q1,rfl,⟨n1,rfl,h1⟩,x2,q2,rfl,⟨n2,rfl,h2⟩,x3,q3,rfl,⟨n3,rfl,h3⟩,x4,q4,rfl,⟨n4,rfl,h4⟩,x5,q5,rfl,⟨s,rfl,hs⟩,x6,q6,rfl,⟨n6,rfl,_⟩,x7,q7,rfl,⟨n7,rfl,_⟩,x8,q8,rfl,⟨n8,rfl,_⟩,x9,q9,rfl,⟨n9,rfl,_⟩,x10,q10,rfl,⟨n10,rfl,_⟩,rfl⟩:=h
 refine ⟨⟨n0,n1,n2,⟨n3,n4⟩,⟨s,n6,n7,n8,n9,n10⟩⟩,rfl,B7g h0,B7g h1,B7g h2,B7g h3,B7g h4,?_⟩
 simp only [maxLen] at hs
 show s.size < 9223372036854775808
 omega
end Rm
end
