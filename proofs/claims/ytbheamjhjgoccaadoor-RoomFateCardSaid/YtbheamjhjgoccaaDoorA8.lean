/- Texts that the claim stands on, one behind another. -/
import Derived.Test.YtbheamjhjgoccaaDoorA7
set_option linter.unusedVariables false
set_option linter.unusedSimpArgs false
set_option linter.unnecessarySimpa false
section
set_option maxRecDepth 100000
set_option maxHeartbeats 0
namespace Rm
open Go Am Go.Proofs.YtbheamjhjgoccaaDoor.Cd
def A57  (x2:room_plan) (s3:Unit):Option (Unit ⊕ Unit) :=
 some (.inr ())
def A8x (a0:room_house):Option Bool :=
 (A7s a0 Unit Unit A57 ()).bind fun (o4:(Unit ⊕ Unit)) =>
 match o4 with
 | (.inl vo4_5) =>
  some false
 | (.inr vo4_6) =>
  some true
theorem B6c {c:Sc} {H:A6} (hscv:Z6 c H = true) (hcl:clH H.length H = true) {a0:room_house} {b0:Nat} (hb0:hcells H b0 = some [.i a0.RoHouse.Weather.Lo,.i a0.RoHouse.Weather.Hi,.i a0.RoHouse.Stoves,(.seq 1 (List.map cI a0.RoHouse.Holds)),(.seq 4 (List.map C3 a0.RoHouse.Places)),(.seq 6 (List.map B3 a0.RoHouse.Figures)),(.seq 1 (List.map cI a0.RoHouse.Bill)),(.xseq 2 [[.b false,(.fn (.func 112) [] [])],[.b true,(.fn (.func 113) [] [])]])]) {r:Bool} (h:A8x a0 = some r) :
  E7 tab c H (.fn (.func 97) [] []) [.ptr b0 0] [.b r]:= by
 unfold A8x at h
 refine cE rfl rfl<|sg 0 rfl<|A0 D5 rfl<|es (ra2 rfl rfl)<|B8<|s0<|qm rfl<|P5 (as2:=[.ptr b0 0]) (H1:=(H++[(.cells (cB false))])) rfl rfl (A1 rfl B5) rfl rfl rfl (V9 rfl)<|sg 1 rfl<|A0 (E8 (cs:=[.ptr b0 0]) rfl rfl rfl) rfl<|qm rfl<|es (ra1 rfl)<|s0<|A0 (A7f rfl rfl) rfl<|qm rfl<|es (ra1 rfl)<|C5<|InlQ.mk trivial ⟨_,_,_,[(.fn (.func 116) [] [(.ptr (H.length + 1) 0)])],_,(A9 rfl B7),(A4 rfl B6),(X2 (N5 (B9y (N5 (X0 rfl)))) (D3 rfl J3)),?_⟩
 refine es (ra2 rfl rfl)<|C6<|oB h fun o4 ho4 h=>?_
 have hb0_lt:=A3q hb0
 refine C6c (σ:=Unit) (ρ:=Unit) (k:=2) (ea:=(fun (x2:room_plan)=>(.agg (A8 x2)))) (body:=A57) (pre:=fun H1=>hcells H1 (H.length + 1) = some [.ptr b0 0]∧hcells H1 b0 = some (B7l a0)) (C1p (t:=a0) (b1:=H.length + 1) (bt:=b0)) B3e [(2,(.ptr (H.length + 0) 0))] (fun s3=>[(.cells (cB false)),(.cells [.ptr b0 0])]) (fun (vo4_6:Unit)=>[(.cells (cB true)),(.cells [.ptr b0 0])]) (fun _=>.ret) ho4 (fun _=>rfl) rfl (fun S hS=>Q4 (live:=[2]) rfl (by decide) (Sub.trans (su1 rfl) hS)) rfl (fun _=>rfl) (fun _=>rfl) hcl (by rw [Bool.and_eq_true,Bool.and_eq_true]; exact ⟨⟨by kernel_rfl,by kernel_rfl⟩,(by simp [clH,clS,AO.cl,AV.cl,clL,clM,clR,A3m,A87,A23,A5i,N2,cI,cB,cS,J5,freeL,AV.free,freeR,Nat.blt,S3,A4l,J8,W4,I7,T4,K7,W3,O7,A0h,K0,Q0,A2j,A4m] <;> omega)⟩) (fun _=>(by simp [clH,clS,AO.cl,AV.cl,clL,clM,clR,A3m,A87,A23,A5i,N2,cI,cB,cS,J5,freeL,AV.free,freeR,Nat.blt,S3,A4l,J8,W4,I7,T4,K7,W3,O7,A0h,K0,Q0,A2j,A4m] <;> omega)) (fun _=>(by simp [clH,clS,AO.cl,AV.cl,clL,clM,clR,A3m,A87,A23,A5i,N2,cI,cB,cS,J5,freeL,AV.free,freeR,Nat.blt,S3,A4l,J8,W4,I7,T4,K7,W3,O7,A0h,K0,Q0,A2j,A4m] <;> omega)) (fun _=>(by simp [clH,clS,AO.cl,AV.cl,clL,clM,clR,A3m,A87,A23,A5i,N2,cI,cB,cS,J5,freeL,AV.free,freeR,Nat.blt,S3,A4l,J8,W4,I7,T4,K7,W3,O7,A0h,K0,Q0,A2j,A4m] <;> omega)) ⟨fun _ _=>(And.intro (D9 rfl) (N1 hb0 _)),fun _ _=>(And.intro (D9 rfl) (N1 hb0 _))⟩ (A22 hscv) (fun c x2 s3 o hs3 y0_2 y1_2=>?_) ?_
 ·unfold A57 at hs3
  refine C1<|⟨_,rfl,rfl,rfl,?_⟩
  refine C6<|s0<|F2 (D0 (ds:=(cB true)) rfl rfl rfl rfl (B9 rfl) rfl) rfl<|es .n<|C5 ?_
  cases hs3
  exact ⟨_,rfl,rfl,rfl⟩
 ·rcases o4 with vo4_5 | vo4_6
  ·refine s0<|F2 (D0 (ds:=(cB false)) rfl rfl rfl rfl (B9 rfl) rfl) rfl<|es (ra1 rfl)<|C5 ?_
   obtain rfl:=os h
   exact retq trivial (F8 (C2 (x:=(.b false)) rfl rfl rfl) B7) (A4 rfl B6) (A2 A5 B2)
  ·obtain rfl:=os h
   exact retq trivial (F8 (C2 (x:=(.b true)) rfl rfl rfl) B7) (A4 rfl B6) (A2 A5 B2)
def A0e (a0:Int):Option Int :=
 if (a0 == 0) = true then
  some 64
 else
  (B3v .u64 (IntKind.u64.wrap ((O6 .u64 a0 (IntKind.u64.wrap (0 - a0))) * 285870213051353865)) 58).bind fun x2 =>
  (idx gl1 x2).bind fun x3 =>
  some (w64 x3)
theorem A7h {c:Sc} {H:A6} {a0:Int} {r:Int} (h:A0e a0 = some r) :
  E7 tab c H (.fn (.func 126) [] []) [(.lit (.int .u64 a0))] [.i r]:= by
 unfold A0e at h
 refine cE rfl rfl<|s0<|qm rfl<|es (ra1 rfl)<|B8<|s0<|qm rfl<|A0 (F5 rfl rfl) rfl<|es (ra2 rfl rfl)<|wi h rfl (fun hc1 h=>?_) fun hc1 h=>?_
 ·refine s0<|qm rfl<|es (ra1 rfl)<|C5 ?_
  obtain rfl:=os h
  exact retq trivial (A9 rfl B7) (A4 rfl B6) (A2 A5 B2)
 ·refine C1<|s0<|oB h fun x2 hx2 h=>oB h fun x3 hx3 h=>qm rfl<|qm rfl<|A0 (D7g rfl rfl) rfl<|A0 (H7 (v:=(.lit (.int .u64 (O6 .u64 a0 (IntKind.u64.wrap (0 - a0)))))) rfl rfl rfl) rfl<|A0 (H7 (v:=(.lit (.int .u64 (IntKind.u64.wrap ((O6 .u64 a0 (IntKind.u64.wrap (0 - a0))) * 285870213051353865))))) rfl rfl rfl) rfl<|A0 (B1v rfl rfl hx2) rfl<|A0 (D68 (e:=gl1) (g:=fun n=>(.lit (.int .u8 n))) rfl rfl rfl hx3) rfl<|A0 (D5e (g:=fun n=>(.lit (.int .u8 n))) rfl hx3) rfl<|A0 (A4z rfl) rfl<|qm rfl<|es (ra1 rfl)<|C5 ?_
  obtain rfl:=os h
  exact retq trivial (A9 rfl B7) (A4 rfl B6) (A2 A5 B2)
def A1m (a0:Int):Option Int :=
 (A0e a0).bind fun x1 =>
 some x1
theorem A8l {c:Sc} {H:A6} {a0:Int} {r:Int} (h:A1m a0 = some r) :
  E7 tab c H (.fn (.func 118) [] []) [(.lit (.int .u64 a0))] [.i r]:= by
 unfold A1m at h
 refine cE rfl rfl<|s0<|qm rfl<|es (ra1 rfl)<|B8<|A21 rfl rfl<|C1<|s0<|oB h fun x1 hx1 h=>qm rfl<|B4 (rs:=[.i x1]) rfl rfl (A1 rfl B5) ((A7h hx1).frz)<|qm rfl<|es (ra1 rfl)<|C5 ?_
 obtain rfl:=os h
 exact retq trivial (A9 rfl B7) (A4 rfl B6) (A2 A5 B2)
def B6s  (s1:(Int × (List Int))):Option ((Int × (List Int)) ⊕ (List Int)) :=
 if (s1.1 != 0) = true then
  (A1m (IntKind.u64.wrap s1.1)).bind fun x4 =>
  (app 8 s1.2 [x4]).bind fun x5 =>
  some (.inl ((B47 s1.1 (w64 (s1.1 - 1))),x5))
 else
  some (.inr s1.2)
def B72 (a0:Int):Option (List Int) :=
 (loop B6s (a0,([]:List Int))).bind fun (o6:(List Int)) =>
 some o6
theorem C50 {c:Sc} {H:A6} {a0:Int} {r:(List Int)} (h:B72 a0 = some r) :
  E7 tab c H (.fn (.func 95) [] []) [.i a0] [(.fresh 1 (List.map cI r))]:= by
 unfold B72 at h
 refine cE rfl rfl<|sg 0 rfl<|A0 B32 rfl<|es (ra2 rfl rfl)<|B8<|C6<|oB h fun o6 ho6 h=>wl (fun s1=>[(0,.i s1.1),(2,(.asl (H.length + 0) (List.length s1.2)))]) (fun (q2:Unit) s1=>[(.arr 1 false (List.map cI s1.2))]) 1 (fun r e s' H'=>PX 0 [(2,(.asl (H.length + 0) (List.length r)))] (H++[(.arr 1 false (List.map cI r))]) e s' H') () ho6 rfl rfl (fun _ _=>rfl) (fun _=>rfl) rfl (fun s1=>(bdc A5 (bdc (A7a rfl) bdn))) (fun q2 s1 ys1 hs1=>?_) ?_
 ·unfold B6s at hs1
  refine B8<|s0<|qm rfl<|A0 (F7 rfl rfl) rfl<|es (ra3 rfl rfl rfl)<|wi hs1 rfl (fun hc3 hs1=>?_) fun hc3 hs1=>?_
  ·refine C1<|B8<|C6<|r0<|oB hs1 fun x4 hx4 hs1=>oB hs1 fun x5 hx5 hs1=>qm rfl<|qm rfl<|A0 (A4z rfl) rfl<|B4 (rs:=[.i x4]) rfl rfl (A1 rfl B5) ((A8l hx4).frz)<|A0 (K8 (rows:=List.map cI [x4]) rfl rfl (F4 (fun _=>rfl) _)) rfl<|A8p (A5t (f:=cI) rfl rfl rfl rfl A2v (fun _=>rfl) hx5) rfl<|qm rfl<|en (ra2 rfl rfl)<|r0<|qm rfl<|qm rfl<|A0 (T3 rfl rfl) rfl<|A0 (H7 (v:=(.i (B47 s1.1 (w64 (s1.1 - 1))))) rfl rfl rfl) rfl<|qm rfl<|en (ra2 rfl rfl) ?_
   cases hs1
   exact lnT () rfl (su2 rfl rfl)
  ·refine E9 ?_
   obtain rfl:=os hs1
   exact lx rfl px (su1 rfl)
 ·rintro e s' H' - ⟨rfl,rfl,rfl⟩
  refine s0<|qm rfl<|qm rfl<|es (ra1 rfl)<|C5 ?_
  obtain rfl:=os h
  exact retq trivial (A9 rfl B7) (A4 (B2q rfl (List.length_map _)) B6) (A2 A6u B2)
def A6l (a0:Int):Option Bool :=
 some (a0 != a0)
theorem B0e {c:Sc} {H:A6} {a0:Int} {r:Bool} (h:A6l a0 = some r) :
  E7 tab c H (.fn (.func 127) [] []) [.i a0] [.b r]:= by
 unfold A6l at h
 refine cE rfl rfl<|s0<|qm rfl<|es (ra1 rfl)<|s0<|qm rfl<|qm rfl<|A0 (F7 rfl rfl) rfl<|qm rfl<|es (ra1 rfl)<|C5 ?_
 obtain rfl:=os h
 exact retq trivial (A9 rfl B7) (A4 rfl B6) (A2 A5 B2)
def A7c (a0:Int) (a1:Int):Option Int :=
 (A6l a0).bind fun x1 =>
 (A6l a1).bind fun x2 =>
 if x1 = true then
  if x2 = true then
  some 0
  else
  some (-1)
 else
  if x2 = true then
  some 1
  else
  if (decide (a0 < a1)) = true then
   some (-1)
  else
   if (decide (a0 > a1)) = true then
   some 1
   else
   some 0
theorem B4q {c:Sc} {H:A6} {a0:Int} {a1:Int} {r:Int} (h:A7c a0 a1 = some r) :
  E7 tab c H (.fn (.func 119) [] []) [.i a0,.i a1] [.i r]:= by
 unfold A7c at h
 refine cE rfl rfl<|s0<|qm rfl<|es (ra2 rfl rfl)<|s0<|oB h fun x1 hx1 h=>qm rfl<|B4 (rs:=[.b x1]) rfl rfl (A1 rfl B5) ((B0e hx1).frz)<|qm rfl<|es (ra3 rfl rfl rfl)<|s0<|oB h fun x2 hx2 h=>qm rfl<|B4 (rs:=[.b x2]) rfl rfl (A1 rfl B5) ((B0e hx2).frz)<|qm rfl<|es (ra4 rfl rfl rfl rfl)<|B8<|s0<|qm rfl<|es (ra4 rfl rfl rfl rfl)<|wi h rfl (fun hc3 h=>?_) fun hc3 h=>?_
 ·refine B8<|s0<|qm rfl<|es (ra1 rfl)<|wi h rfl (fun hc4 h=>?_) fun hc4 h=>?_
  ·refine s0<|qm rfl<|es (ra1 rfl)<|C5 ?_
   obtain rfl:=os h
   exact retq trivial (A9 rfl B7) (A4 rfl B6) (A2 A5 B2)
  ·refine C1<|s0<|qm rfl<|es (ra1 rfl)<|C5 ?_
   obtain rfl:=os h
   exact retq trivial (A9 rfl B7) (A4 rfl B6) (A2 A5 B2)
 ·refine C1<|B8<|s0<|qm rfl<|es (ra3 rfl rfl rfl)<|wi h rfl (fun hc5 h=>?_) fun hc5 h=>?_
  ·refine s0<|qm rfl<|es (ra1 rfl)<|C5 ?_
   obtain rfl:=os h
   exact retq trivial (A9 rfl B7) (A4 rfl B6) (A2 A5 B2)
  ·refine C1<|B8<|s0<|qm rfl<|qm rfl<|A0 (F9 rfl rfl) rfl<|es (ra3 rfl rfl rfl)<|wi h rfl (fun hc6 h=>?_) fun hc6 h=>?_
   ·refine s0<|qm rfl<|es (ra1 rfl)<|C5 ?_
    obtain rfl:=os h
    exact retq trivial (A9 rfl B7) (A4 rfl B6) (A2 A5 B2)
   ·refine C1<|B8<|s0<|qm rfl<|qm rfl<|A0 (A0a rfl rfl) rfl<|es (ra1 rfl)<|wi h rfl (fun hc7 h=>?_) fun hc7 h=>?_
    ·refine s0<|qm rfl<|es (ra1 rfl)<|C5 ?_
     obtain rfl:=os h
     exact retq trivial (A9 rfl B7) (A4 rfl B6) (A2 A5 B2)
    ·refine C1<|s0<|qm rfl<|es (ra1 rfl)<|C5 ?_
     obtain rfl:=os h
     exact retq trivial (A9 rfl B7) (A4 rfl B6) (A2 A5 B2)
def A32 (a0:(List Int)) (a1:(List Int)) (s1:Int):Option (Int ⊕ (Int ⊕ Unit)) :=
 if (decide (s1 < (List.length a0:Int))) = true then
  (idx a0 s1).bind fun x4 =>
  if (decide (s1 ≥ (List.length a1:Int))) = true then
  some (.inr (.inl 1))
  else
  (idx a1 s1).bind fun x6 =>
  (A7c x4 x6).bind fun x7 =>
  if (x7 != 0) = true then
   some (.inr (.inl x7))
  else
   some (.inl (w64 (s1 + 1)))
 else
  some (.inr (.inr ()))
def A2h (a0:(List Int)) (a1:(List Int)):Option Int :=
 (loop (A32 a0 a1) 0).bind fun (o9:(Int ⊕ Unit)) =>
 match o9 with
 | (.inl vo9_0) =>
  some vo9_0
 | (.inr vo9_1) =>
  if (decide ((List.length a0:Int) < (List.length a1:Int))) = true then
  some (-1)
  else
  some 0
theorem A9a {c:Sc} {H:A6} {a0:(List Int)} {a1:(List Int)} {r:Int} (h:A2h a0 a1 = some r) :
  E7 tab c H (.fn (.func 96) [] []) [(.seq 1 (List.map cI a0)),(.seq 1 (List.map cI a1))] [.i r]:= by
 unfold A2h at h
 refine cE rfl rfl<|s0<|qm rfl<|es (ra2 rfl rfl)<|B8<|s0<|qm rfl<|A0 (D6 (f:=cI) rfl) rfl<|qm rfl<|es (ra5 rfl rfl rfl rfl rfl)<|C6<|oB h fun o9 ho9 h=>wl (fun s1=>[(0,(.seq 1 (List.map cI a0))),(1,(.seq 1 (List.map cI a1))),(9,(.seq 1 (List.map cI a0))),(10,(.i (List.length a0:Int))),(11,.i s1)]) (fun (q2:Unit) s1=>[]) 0 (fun r e s' H'=>(match r with | (.inl v)=>e = .ret∧RetQ H [.tmp 4] [.i v] e s' H' | (.inr v)=>PX 0 [(0,(.seq 1 (List.map cI a0))),(1,(.seq 1 (List.map cI a1)))] (H++[]) e s' H':Prop)) () ho9 rfl rfl (fun _ _=>rfl) (fun _=>rfl) rfl (fun s1=>(bdc G7 (bdc G7 (bdc G7 (bdc A5 (bdc A5 bdn)))))) (fun q2 s1 ys1 hs1=>?_) ?_
 ·unfold A32 at hs1
  refine s0<|A0 (F9 rfl rfl) rfl<|es (ra6 rfl rfl rfl rfl rfl rfl)<|B8<|wi hs1 rfl (fun hc3 hs1=>?_) fun hc3 hs1=>?_
  ·refine C1<|B8<|C6<|s0<|oB hs1 fun x4 hx4 hs1=>qm rfl<|A0 (E2 (f:=cI) rfl rfl hx4) rfl<|A0 (E4 rfl rfl) rfl<|qm rfl<|qm rfl<|es (ra7 rfl rfl rfl rfl rfl rfl rfl)<|B8<|s0<|qm rfl<|qm rfl<|A0 (D6 (f:=cI) rfl) rfl<|A0 (A93 rfl rfl) rfl<|es (ra8 rfl rfl rfl rfl rfl rfl rfl rfl)<|wi hs1 rfl (fun hc5 hs1=>?_) fun hc5 hs1=>?_
   ·refine s0<|qm rfl<|es (ra1 rfl)<|C5 ?_
    obtain rfl:=os hs1
    exact lx rfl (And.intro rfl (retq trivial (A9 rfl B7) (A4 rfl B6) (A2 A5 B2))) (Sub.refl _)
   ·refine C1<|s0<|oB hs1 fun x6 hx6 hs1=>qm rfl<|qm rfl<|A0 (E2 (f:=cI) rfl rfl hx6) rfl<|A0 (E4 rfl rfl) rfl<|qm rfl<|es (ra7 rfl rfl rfl rfl rfl rfl rfl)<|s0<|oB hs1 fun x7 hx7 hs1=>qm rfl<|qm rfl<|B4 (rs:=[.i x7]) rfl rfl (A1 rfl (A1 rfl B5)) ((B4q hx7).frz)<|qm rfl<|es (ra6 rfl rfl rfl rfl rfl rfl)<|s0<|qm rfl<|A0 (F7 rfl rfl) rfl<|es (ra7 rfl rfl rfl rfl rfl rfl rfl)<|wi hs1 rfl (fun hc8 hs1=>?_) fun hc8 hs1=>?_
    ·refine s0<|qm rfl<|qm rfl<|es (ra1 rfl)<|C5 ?_
     obtain rfl:=os hs1
     exact lx rfl (And.intro rfl (retq trivial (A9 rfl B7) (A4 rfl B6) (A2 A5 B2))) (Sub.refl _)
    ·refine C1<|r0<|A0 (E1 rfl rfl) rfl<|qm rfl<|en (ra5 rfl rfl rfl rfl rfl) ?_
     cases hs1
     exact lnT () rfl (su5 rfl rfl rfl rfl rfl)
  ·refine E9 ?_
   obtain rfl:=os hs1
   exact lx rfl px (su2 rfl rfl)
 ·rcases o9 with vo9_0 | vo9_1
  ·rintro e s' H' - ⟨rfl,hret⟩
   cases h
   exact hret
  ·rintro e s' H' - ⟨rfl,rfl,rfl⟩
   refine B8<|s0<|qm rfl<|A0 (D6 (f:=cI) rfl) rfl<|qm rfl<|A0 (D6 (f:=cI) rfl) rfl<|A0 (F9 rfl rfl) rfl<|es (ra1 rfl)<|wi h rfl (fun hc10 h=>?_) fun hc10 h=>?_
   ·refine s0<|qm rfl<|es (ra1 rfl)<|C5 ?_
    obtain rfl:=os h
    exact retq trivial (A9 rfl B7) (A4 rfl B6) (A2 A5 B2)
   ·refine C1<|s0<|qm rfl<|es (ra1 rfl)<|C5 ?_
    obtain rfl:=os h
    exact retq trivial (A9 rfl B7) (A4 rfl B6) (A2 A5 B2)
end Rm
end
section
set_option maxRecDepth 100000
namespace Rm
open Go Am Go.Proofs.YtbheamjhjgoccaaDoor.Cd
def C8n (t:RoHouse) (b:List Int):RoHouse:=⟨t.Weather,t.Stoves,t.Holds,t.Places,t.Figures,b⟩
def B2w (a0:RoHouse) (set:Int) (s:Int × List Int):Option ((Int × List Int) ⊕ List Int) :=
 if (decide (s.1 < (List.length a0.Bill:Int))) = true then
  (idx a0.Bill s.1).bind fun n =>
  (B3v .i64 set s.1).bind fun q =>
  if (B47 q 1 == 0) = true then
   (app 8 s.2 [n]).bind fun b =>
   some (.inl (w64 (s.1 + 1),b))
  else some (.inl (w64 (s.1 + 1),s.2))
 else some (.inr s.2)
def A9y (l breaks:List Int) (found:Bool):Option Bool :=
 if found = true then
  if (decide ((l.length:Int) > (breaks.length:Int))) = true then some true
  else if ((l.length:Int) == (breaks.length:Int)) = true then
   (A2h l breaks).bind fun z=>some (decide (z > 0))
  else some false
 else some false
def A8w (a0:RoHouse) (n:Int) (s:Int × Bool × List Int):Option ((Int × Bool × List Int) ⊕ List Int) :=
 if (decide (s.1 < n)) = true then
  (B72 s.1).bind fun l =>
  (A9y l s.2.2 s.2.1).bind fun skip =>
  if skip = true then some (.inl (w64 (s.1 + 1),s.2.1,s.2.2))
  else
   (loop (B2w a0 s.1) (0,[])).bind fun b =>
   (A8x ⟨C8n a0 b⟩).bind fun k =>
   if k = true then some (.inl (w64 (s.1 + 1),true,l))
   else some (.inl (w64 (s.1 + 1),s.2.1,s.2.2))
 else some (.inr s.2.2)
def A66 (a0:RoHouse):Option (List Int × Int) :=
 (Q7 a0).bind fun x1 =>
 if (x1.2.2 != 0) = true then some (([]:List Int),x1.2.2)
 else
  (B3u .i64 1 (List.length a0.Bill:Int)).bind fun n =>
  (loop (A8w a0 n) (0,false,([]:List Int))).bind fun o =>
  some (o,0)
def B14 (t:RoHouse) (v:AV):List AV:=[.i t.Weather.Lo,.i t.Weather.Hi,.i t.Stoves,(.seq 1 (List.map cI t.Holds)),(.seq 4 (List.map C3 t.Places)),(.seq 6 (List.map B3 t.Figures)),v,.xseq 2 [[.b false,(.fn (.func 112) [] [])],[.b true,(.fn (.func 113) [] [])]]]
def arB (p:Bool) (r:List Int):AO:=.arr 1 p (r.map cI)
def tlB (g:List (List Int)):List AO:=g.map (arB true)
def lB (t:RoHouse) (v:AV) (g:List AO):List AO:=.cells (A3 t) :: .cells (A3 t) :: .cells (B14 t v) :: g
section
variable {T:Tab} {s:C9} {H0 H:A6} {l:List AO} {c:Sc} {n0 N:Nat} {hc:List (Option (List Nat))} {ops:List AOper} {R:C9→A6→Prop}
theorem gU {d:Nat} {op:AOp} {t:Nat} {w:Bool} {hid:List Nat} {hida:List (Nat × List Nat)} {inc src:Nat} (hw:wanted s (some (t,w)) = some false) (hwr:writes op = true) (k:M7 T c n0 ops ((d,.tup []) :: s) H (none :: hc) R) :
  M7 T c n0 (⟨some d,op,some (t,w),hid,hida,inc,src⟩ :: ops) s H hc R:=G8 hw hwr k
theorem gV {d:Nat} {op:AOp} {t:Nat} {w:Bool} {hid:List Nat} {hida:List (Nat × List Nat)} {inc src:Nat} (hw:wanted s (some (t,w)) = some false) (hwr:writes op = false) (k:M7 T c n0 ops ((d,.tup []) :: s) H hc R) :
  M7 T c n0 (⟨some d,op,some (t,w),hid,hida,inc,src⟩ :: ops) s H hc R:=D1g hw hwr k
theorem fvc {H1 H2:A6} {v v':AV} {l l':List AV} (h:frv H v = some (v',H1)) (k:A04 H1 l = some (l',H2)):A04 H (v :: l) = some (v' :: l',H2):= by simp only [A04,h,k]
end
theorem D37 {N:Nat}:∀g:List (List Int),clH N (tlB g) = true
 | []=>rfl
 | r :: g=>by
  have ih:=D37 (N:=N) g
  unfold tlB clH at ih ⊢
  rw [List.map_cons,List.all_cons,ih,Bool.and_true]
  unfold arB
  simp only [AO.cl]
  exact A3m (fun x=>rfl) r
theorem E0l {N:Nat} (t:RoHouse) (b:List Int) (g:List (List Int)):clH N (lB t (.seq 1 (b.map cI)) (tlB g)) = true:= by
 have h:=D37 (N:=N) g
 unfold lB clH at h ⊢
 simp only [List.all_cons,h,Bool.and_true]
 simp [AO.cl,clL_free _ (K7 t),B14,clL,AV.cl,clR,J5,cI,freeL,AV.free,J8,I7]
theorem B83 {c:Sc} {H:A6} (hscv:Z6 c H = true) (hcl:clH H.length H = true) {a0:RoHouse} {r:((List Int) × Int)} (h:A66 a0 = some r) :
  E7 tab c H (.fn (.func 36) [] []) [(.agg (A3 a0))] [(.seq 1 (List.map cI r.1)),.i r.2]:= by
 unfold A66 at h
 refine cE rfl rfl<|sg 0 rfl<|A0 (E8 (cs:=A3 a0) rfl rfl rfl) rfl<|qm rfl<|qm rfl<|es (ra2 rfl rfl)<|s0<|A0 (C0 rfl rfl rfl) rfl<|P5 (as2:=[(.agg (A3 a0))]) (H1:=(H++[(.cells (A3 a0))])) rfl rfl (A1 (D1 rfl) B5) rfl rfl rfl (V9 rfl)<|sg 1 rfl<|A0 (E8 (cs:=A3 a0) rfl rfl rfl) rfl<|qm rfl<|qm rfl<|es (ra1 rfl)<|s0<|oB h fun x1 hx1 h=>A0 (C0 rfl rfl rfl) rfl<|B4 (rs:=[.i x1.1,.i x1.2.1,.i x1.2.2]) rfl rfl (A1 (D1 rfl) B5) ((R7 hx1).frz)<|qm rfl<|A0 (A7 rfl rfl) rfl<|A0 (A7 rfl rfl) rfl<|A0 (A7 rfl rfl) rfl<|qm rfl<|qm rfl<|qm rfl<|es (ra2 rfl rfl)<|sg 2 rfl<|A0 (C0 rfl rfl rfl) rfl<|A0 (G3 (cs:=[.b false,(.fn (.func 112) [] [])]) rfl rfl) rfl<|A0 (G3 (cs:=[.b true,(.fn (.func 113) [] [])]) rfl rfl) rfl<|A0 (A7n (rows:=[[.b false,(.fn (.func 112) [] [])],[.b true,(.fn (.func 113) [] [])]]) rfl rfl) rfl<|A0 (G3 (cs:=B14 a0 (.seq 1 (List.map cI a0.Bill))) rfl rfl) rfl<|A0 (E8 (cs:=B14 a0 (.seq 1 (List.map cI a0.Bill))) rfl rfl rfl) rfl<|qm rfl<|qm rfl<|qm rfl<|es (ra2 rfl rfl)<|C5<|InlQ.mk trivial ⟨_,_,_,[(.ptr (H.length + 2) 0),.i x1.2.2],_,(A9 rfl (A9 rfl B7)),(A4 rfl (A4 rfl B6)),(X2 (N5 (X0 rfl)) (D3 rfl (D3 rfl J3))),?_⟩
 refine qm rfl<|A0 (A7 rfl rfl) rfl<|A0 (A7 rfl rfl) rfl<|qm rfl<|qm rfl<|es (ra4 rfl rfl rfl rfl)<|B8<|s0<|qm rfl<|A0 (F7 rfl rfl) rfl<|es (ra5 rfl rfl rfl rfl rfl)<|wi h rfl (fun hc2 h=>?_) fun hc2 h=>?_
 ·refine s0<|qm rfl<|qm rfl<|qm rfl<|es (ra2 rfl rfl)<|C5 ?_
  obtain rfl:=os h
  exact retq trivial (A9 rfl (A9 rfl B7)) (A4 rfl (A4 rfl B6)) (A2 G7 (A2 A5 B2))
 refine oB h fun n hn h=>oB h fun o ho h=>?_
 refine C1<|s0<|qm rfl<|es (ra4 rfl rfl rfl rfl)<|B8<|s0<|A0 (C4 rfl) rfl<|A0 (C2 rfl rfl rfl) rfl<|A0 (D6 (f:=cI) rfl) rfl<|A0 (B53 rfl rfl hn) rfl<|qm rfl<|es (ra6 rfl rfl rfl rfl rfl rfl)<|C6 ?_
 refine A77 (D6d (γ:=List Int × List (List Int)) (live:=[1,2,4,5,21,22]) (body:=A8w a0 n) (fun x=>[(1,.ptr (H.length + 0) 0),(2,.seq 1 (x.2.2.map cI)),(4,.ptr (H.length + 2) 0),(5,.b x.2.1),(21,.i n),(22,.i x.1)]) (fun g x=>H++lB a0 (.seq 1 (g.1.map cI)) (tlB g.2))
  (fun r e s' H'=>e = .exit 0∧s' = [(2,.seq 1 (r.map cI))]∧∃ l',H' = H++l') (fun _=>rfl) (by decide) ?_ ho (a0.Bill,[])) ?_
 ·intro g x o' hb
  unfold A8w at hb
  refine s0<|A0 (F9 rfl rfl) rfl<|es (ra7 rfl rfl rfl rfl rfl rfl rfl)<|B8<|wi hb rfl (fun hc hb=>?_) fun hc hb=>?_
  ·refine oB hb fun l hl hb=>oB hb fun skip hsk hb=>?_
   refine C1<|B8<|C6<|s0<|qm rfl<|qm rfl<|es (ra7 rfl rfl rfl rfl rfl rfl rfl)<|s0<|qm rfl<|B4 (rs:=[.seq 1 (l.map cI)]) rfl rfl (A1 rfl B5) ((C50 hl).frz)<|qm rfl<|es (ra8 rfl rfl rfl rfl rfl rfl rfl rfl)<|B8<|s0<|qm rfl<|qm rfl ?_
   refine gp 19 47 (.b skip) 28 rfl rfl (fun hg1=>?_) (fun hg1=>?_) ?_
   ·unfold A9y at hsk
    rw [if_pos hg1] at hsk
    refine gT rfl hg1<|qm rfl<|gT rfl hg1<|A0 (D6 (f:=cI) rfl) rfl<|gT rfl hg1<|qm rfl<|gT rfl hg1<|A0 (D6 (f:=cI) rfl) rfl<|gT rfl hg1<|A0 (A0a rfl rfl) rfl<|gT rfl hg1<|qm rfl ?_
    cases h2:decide ((l.length:Int) > (x.2.2.length:Int)) with
    | true =>
     rw [if_pos h2] at hsk
     cases hsk
     exact nF rfl rfl rfl<|nF rfl rfl rfl<|nF rfl rfl rfl<|nF rfl rfl rfl<|nF rfl rfl rfl<|nF rfl rfl rfl<|gV rfl rfl<|gV rfl rfl<|gU rfl rfl<|gV rfl rfl<|nF rfl rfl rfl<|gT rfl hg1<|A0 (C7 rfl rfl rfl) rfl<|A0 (C7 rfl hg1 rfl) rfl<|ge 19 rfl rfl rfl
    | false =>
     rw [if_neg (by rw [h2]; decide)] at hsk
     refine gF rfl rfl<|qm rfl<|gF rfl rfl<|A0 (D6 (f:=cI) rfl) rfl<|gF rfl rfl<|qm rfl<|gF rfl rfl<|A0 (D6 (f:=cI) rfl) rfl<|gF rfl rfl<|A0 (F5 rfl rfl) rfl<|gF rfl rfl<|qm rfl ?_
     cases h3:((l.length:Int) == (x.2.2.length:Int)) with
     | true =>
      rw [if_pos h3] at hsk
      refine oB hsk fun z hz hsk=>?_
      cases hsk
      exact gT rfl rfl<|qm rfl<|gT rfl rfl<|qm rfl<|gT rfl rfl<|B4 (rs:=[.i z]) rfl rfl (A1 rfl (A1 rfl B5)) ((A9a hz).frz)<|gT rfl rfl<|A0 (A0a rfl rfl) rfl<|gF rfl rfl<|A0 (C7 rfl rfl rfl) rfl<|gT rfl hg1<|A0 (C8 rfl rfl rfl) rfl<|A0 (C7 rfl hg1 rfl) rfl<|ge 19 rfl rfl rfl
     | false =>
      rw [if_neg (by rw [h3]; decide)] at hsk
      cases hsk
      exact nT rfl rfl rfl<|nT rfl rfl rfl<|gN rfl rfl rfl<|nT rfl rfl rfl<|gF rfl rfl<|A0 (C8 rfl rfl rfl) rfl<|gT rfl hg1<|A0 (C8 rfl rfl rfl) rfl<|A0 (C7 rfl hg1 rfl) rfl<|ge 19 rfl rfl rfl
   ·unfold A9y at hsk
    rw [if_neg (by rw [hg1]; decide)] at hsk
    cases hsk
    exact nT rfl hg1 rfl<|nT rfl hg1 rfl<|nT rfl hg1 rfl<|nT rfl hg1 rfl<|nT rfl hg1 rfl<|nT rfl hg1 rfl<|gV rfl rfl<|gV rfl rfl<|gV rfl rfl<|gV rfl rfl<|gV rfl rfl<|gV rfl rfl<|gV rfl rfl<|gV rfl rfl<|gU rfl rfl<|gV rfl rfl<|gV rfl rfl<|nT rfl hg1 rfl<|A0 (C8 rfl hg1 rfl) rfl<|ge 19 rfl rfl rfl
   refine es (ra9 rfl rfl rfl rfl rfl rfl rfl rfl rfl)<|wi hb rfl (fun hc2 hb=>?_) fun hc2 hb=>?_
   ·refine E9<|r0<|A0 (E1 rfl rfl) rfl<|qm rfl<|en (ra6 rfl rfl rfl rfl rfl rfl) ?_
    cases hb
    exact ⟨rfl,su6 rfl rfl rfl rfl rfl rfl,g,rfl⟩
   refine oB hb fun b hb2 hb=>oB hb fun k hk hb=>?_
   refine C1<|sg ((tlB g.2).length + 3) rfl<|qm rfl<|A0 (S8 rfl rfl) rfl<|A0 (C4 rfl) rfl<|A0 (C4 rfl) rfl<|F2 (D5h (cs:=B14 a0 (.seq 1 (g.1.map cI))) (ds:=B14 a0 (.asl (H.length + ((tlB g.2).length + 3 + 0)) 0)) rfl rfl rfl (A7o (Nat.le_add_right _ _)) rfl) rfl<|es (ra8 rfl rfl rfl rfl rfl rfl rfl rfl) ?_
   have e1:((lB a0 (.seq 1 (g.1.map cI)) (tlB g.2)++List.replicate 1 AO.dead).set ((tlB g.2).length + 3 + 0) (.arr 1 false [])).set 2 (.cells (B14 a0 (.asl (H.length + ((tlB g.2).length + 3 + 0)) 0))) = lB a0 (.asl (H.length + ((tlB g.2).length + 3)) 0) (tlB g.2++[arB false []]):= by
    show (AO.cells _ :: AO.cells _ :: AO.cells _ :: ((tlB g.2++[AO.dead]).set (tlB g.2).length (.arr 1 false []))) = _
    rw [C7i _ _ _ rfl]; rfl
   rw [e1]
   have hlN:∀v q,(lB a0 v (tlB g.2++[q])).length = (tlB g.2).length + 4:=fun v q=>by simp [lB]
   have hget:∀v q,(lB a0 v (tlB g.2++[q]))[(tlB g.2).length + 3]? = some q:=fun v q=>D4u (tlB g.2) q rfl
   have hset:∀v q q',(lB a0 v (tlB g.2++[q])).set ((tlB g.2).length + 3) q' = lB a0 v (tlB g.2++[q']):=fun v q q'=>by
    show (AO.cells _ :: AO.cells _ :: AO.cells _ :: ((tlB g.2++[q]).set (tlB g.2).length q')) = _
    rw [C7i _ _ _ rfl]; rfl
   refine B8<|s0<|A0 (C4 rfl) rfl<|A0 (C2 rfl rfl rfl) rfl<|A0 (D6 (f:=cI) rfl) rfl<|qm rfl<|es (ra11 rfl rfl rfl rfl rfl rfl rfl rfl rfl rfl rfl)<|C6<|wl (fun y=>[(1,.ptr (H.length + 0) 0),(2,.seq 1 (x.2.2.map cI)),(4,.ptr (H.length + 2) 0),(5,.b x.2.1),(6,.i x.1),(7,.seq 1 (l.map cI)),(21,.i n),(22,.i x.1),(53,.seq 1 (a0.Bill.map cI)),(54,.i (List.length a0.Bill:Int)),(55,.i y.1)]) (fun (q2:Unit) y=>lB a0 (.asl (H.length + ((tlB g.2).length + 3)) y.2.length) (tlB g.2++[arB false y.2])) ((tlB g.2).length + 4) (fun r e s' H'=>PX 2 [(1,.ptr (H.length + 0) 0),(2,.seq 1 (x.2.2.map cI)),(4,.ptr (H.length + 2) 0),(5,.b x.2.1),(7,.seq 1 (l.map cI)),(21,.i n),(22,.i x.1)] (H++lB a0 (.asl (H.length + ((tlB g.2).length + 3)) r.length) (tlB g.2++[arB false r])) e s' H') () hb2 rfl rfl (fun _ _=>hlN _ _) (fun _=>rfl) rfl (fun y=>(bdc (D8 rfl) (bdc G7 (bdc (D8 rfl) (bdc A5 (bdc A5 (bdc G7 (bdc A5 (bdc A5 (bdc G7 (bdc A5 (bdc A5 bdn)))))))))))) (fun q2 y o' hy=>?_) ?_
   ·unfold B2w at hy
    refine s0<|A0 (F9 rfl rfl) rfl<|es (ra12 rfl rfl rfl rfl rfl rfl rfl rfl rfl rfl rfl rfl)<|B8<|wi hy rfl (fun hc3 hy=>?_) fun hc3 hy=>?_
    ·refine oB hy fun z hz hy=>oB hy fun q hq hy=>?_
     refine C1<|B8<|C6<|s0<|qm rfl<|A0 (E2 (f:=cI) rfl rfl hz) rfl<|A0 (E4 rfl rfl) rfl<|qm rfl<|qm rfl<|es (ra13 rfl rfl rfl rfl rfl rfl rfl rfl rfl rfl rfl rfl rfl)<|s0<|qm rfl<|qm rfl<|A0 (B1v rfl rfl hq) rfl<|A0 (H7 (v:=(.i (B47 q 1))) rfl rfl rfl) rfl<|A0 (F5 rfl rfl) rfl<|es (ra13 rfl rfl rfl rfl rfl rfl rfl rfl rfl rfl rfl rfl rfl)<|wi hy rfl (fun hc4 hy=>?_) fun hc4 hy=>?_
     ·refine oB hy fun w hw hy=>?_
      refine r0<|qm rfl<|qm rfl<|A0 (S8 rfl rfl) rfl<|A0 (C4 rfl) rfl<|A0 (C4 rfl) rfl<|A0 (C2 rfl rfl rfl) rfl<|qm rfl<|A0 (K8 (rows:=[[.i z]]) rfl rfl rfl) rfl<|A8p (A5t (f:=cI) (d:=y.2) (m:=[z]) rfl rfl (hget _ _) rfl A2v (fun _=>rfl) hw) rfl<|A0 (S8 rfl rfl) rfl<|A0 (C4 rfl) rfl<|A0 (C4 rfl) rfl ?_
      rw [hset]
      refine F2 (D0 (ds:=B14 a0 (.asl (H.length + ((tlB g.2).length + 3)) w.length)) rfl rfl rfl rfl (D7j ?_ ?_) rfl) rfl<|en (ra11 rfl rfl rfl rfl rfl rfl rfl rfl rfl rfl rfl)<|r0<|A0 (E1 rfl rfl) rfl<|qm rfl<|en (ra11 rfl rfl rfl rfl rfl rfl rfl rfl rfl rfl rfl) ?_
      ·simp only [AV.bd]; exact Nat.ble_eq_true_of_le (by omega)
      ·exact E07 (Nat.le_add_right _ _) (D87 hscv)
      cases hy
      exact lnT () (List.take_of_length_le (Nat.le_of_eq (hlN _ _))) (su11 rfl rfl rfl rfl rfl rfl rfl rfl rfl rfl rfl)
     ·refine C1<|r0<|A0 (E1 rfl rfl) rfl<|qm rfl<|en (ra11 rfl rfl rfl rfl rfl rfl rfl rfl rfl rfl rfl) ?_
      cases hy
      exact lnT () (List.take_of_length_le (Nat.le_of_eq (hlN _ _))) (su11 rfl rfl rfl rfl rfl rfl rfl rfl rfl rfl rfl)
    ·refine E9 ?_
     obtain rfl:=os hy
     exact lx rfl px (su7 rfl rfl rfl rfl rfl rfl rfl)
   rintro e s' H' - ⟨rfl,rfl,rfl⟩
   have hfz:A04 (H++lB a0 (.asl (H.length + ((tlB g.2).length + 3)) b.length) (tlB g.2++[arB false b])) (B14 a0 (.asl (H.length + ((tlB g.2).length + 3)) b.length)) = some (B14 a0 (.seq 1 (b.map cI)),H++lB a0 (.asl (H.length + ((tlB g.2).length + 3)) b.length) (tlB g.2++[arB true b])):= by
    have h1:frv (H++lB a0 (.asl (H.length + ((tlB g.2).length + 3)) b.length) (tlB g.2++[arB false b])) (.asl (H.length + ((tlB g.2).length + 3)) b.length) = some (.seq 1 (b.map cI),H++lB a0 (.asl (H.length + ((tlB g.2).length + 3)) b.length) (tlB g.2++[arB true b])):= by
     have:=C0a (H0:=H) (l:=lB a0 (.asl (H.length + ((tlB g.2).length + 3)) b.length) (tlB g.2++[arB false b])) (hget _ (arB false b)) (List.length_map (cI))
     rw [hset] at this
     exact this
    exact fvc rfl<|fvc rfl<|fvc rfl<|fvc rfl<|fvc rfl<|fvc rfl<|fvc h1<|fvc rfl rfl
   have e2:(lB a0 (.asl (H.length + ((tlB g.2).length + 3)) b.length) (tlB g.2++[arB true b])).set 2 (.cells (B14 a0 (.seq 1 (b.map cI)))) = lB a0 (.seq 1 (b.map cI)) (tlB (g.2++[b])):= by
    show (AO.cells _ :: AO.cells _ :: AO.cells _ :: (tlB g.2++[arB true b])) = _
    unfold lB tlB
    rw [List.map_append]; rfl
   refine B8<|E1g (D7s rfl rfl hfz rfl) ?_
   rw [e2]
   have hcan:E7 tab ⟨H.length,c.cur :: c.outer⟩ (H++lB a0 (.seq 1 (b.map cI)) (tlB (g.2++[b]))) (.fn (.func 97) [] []) [.ptr (H.length + 2) 0] [.b k]:=B6c (a0:=⟨C8n a0 b⟩) (b0:=H.length + 2) (A22 hscv) (D6m hcl (E0l a0 b _)) (D9 (l:=lB a0 (.seq 1 (b.map cI)) (tlB (g.2++[b]))) rfl) hk
   refine r0<|qm rfl<|B4 (rs:=[.b k]) rfl rfl (A1 rfl B5) (hcan.frz)<|es (ra8 rfl rfl rfl rfl rfl rfl rfl rfl) ?_
   cases k with
   | true =>
    refine L2 rfl rfl<|r0<|qm rfl<|qm rfl<|qm rfl<|en (ra6 rfl rfl rfl rfl rfl rfl)<|r0<|A0 (E1 rfl rfl) rfl<|qm rfl<|en (ra6 rfl rfl rfl rfl rfl rfl) ?_
    cases hb
    exact ⟨rfl,su6 rfl rfl rfl rfl rfl rfl,(b,g.2++[b]),rfl⟩
   | false =>
    refine A21 rfl rfl<|C1<|r0<|A0 (E1 rfl rfl) rfl<|qm rfl<|en (ra6 rfl rfl rfl rfl rfl rfl) ?_
    cases hb
    exact ⟨rfl,su6 rfl rfl rfl rfl rfl rfl,(b,g.2++[b]),rfl⟩
  ·refine E9 ?_
   cases hb
   exact ⟨rfl,_,su1 rfl,rfl,rfl,_,rfl⟩
 ·intro e s' H' q
  obtain ⟨_,rfl,rfl,l',rfl⟩:=q
  cases h
  refine s0<|qm rfl<|qm rfl<|qm rfl<|es (ra2 rfl rfl)<|C5 ?_
  exact retq trivial (A9 rfl (A9 rfl B7)) (A4 rfl (A4 rfl B6)) (A2 G7 (A2 A5 B2))
theorem B2n {c:Sc} {H:A6} (hscv:Z6 c H = true) {a0:RoHouse} {r:((List Int) × Int)} (h:A66 a0 = some r) :
  E7 tab c H (.fn (.func 36) [] []) [(.agg (A3 a0))] [(.seq 1 (List.map cI r.1)),.i r.2]:=B16 B3e (B83 (c:=⟨0,[]⟩) (H:=[]) rfl rfl h) (by simp [freeL,AV.free,K7]) (by simp [freeL,AV.free,J5,cI]) hscv
end Rm
end
section
set_option maxRecDepth 100000
set_option maxHeartbeats 0
namespace Rm
open Go Am Go.Proofs.YtbheamjhjgoccaaDoor.Cd
def I0 :Option Bool :=
 (A26 [3]).bind fun x1 =>
 (A26 ([]:List Int)).bind fun x2 =>
 (V4 x1 1 1).bind fun x3 =>
 (U4 x1 0 1 1).bind fun x4 =>
 (U4 x1 2 1 1).bind fun x5 =>
 (U3 x1).bind fun x6 =>
 (A27 1 [1,(-1),2]).bind fun x7 =>
 (A3k x1 x7).bind fun x8 =>
 (A27 1 [1,0,2]).bind fun x9 =>
 (A3i x1 x9).bind fun x10 =>
 (A26 [1,3]).bind fun x11 =>
 (A66 x11).bind fun x12 =>
 (Z4 x1).bind fun x13 =>
 (Z4 x2).bind fun x14 =>
 (B1h x1 0).bind fun x15 =>
 (A3j x1 x6.1).bind fun x16 =>
 (if (((((((((((x3.2 == 0) && (x4.2 == 0)) && (x5.2 == 0)) && (x6.2.2 == 0)) && (x8.2 == 9)) && (x10.2 == 0)) && (x12.2 == 0)) && (x13.2 == 0)) && (x14.2 == 0)) && (x15.2 == 0)) && (x16.2.2 == 0)) = true then
  (S7 45 70).bind fun x28 =>
  some ((x3.1.Lo == x28.Lo) && ((x3.1.Hi == x28.Hi) && true))
 else
  some false).bind fun x29 =>
 (if ((x29 && (x4.1 == 1)) && (x5.1 == 0)) = true then
  (A27 1 [(-1),0,2]).bind fun x33 =>
  (A43 x6.1 x33).bind fun x34 =>
  some x34
 else
  some false).bind fun x35 =>
 (if (x35 && (x6.2.1 == 12)) = true then
  (Z1 x10.1 [350,320]).bind fun x38 =>
  some x38
 else
  some false).bind fun x39 =>
 (if x39 = true then
  (Z1 x12.1 [0]).bind fun x41 =>
  some x41
 else
  some false).bind fun x42 =>
 (if x42 = true then
  (Z1 x13.1 [0]).bind fun x44 =>
  some x44
 else
  some false).bind fun x45 =>
 some ((((x45 && ((List.length x14.1:Int) == 0)) && (x15.1 == 1)) && (x16.1 == 1)) && (x16.2.1 == 0))
theorem J1 {c:Sc} {H:A6} (hscv:Z6 c H = true)  {r:Bool} (h:I0  = some r) :
  E7 tab c H (.fn (.func 23) [] []) [] [.b r]:= by
 unfold I0 at h
 refine cE rfl rfl<|s0<|qm rfl<|es .n<|sg 0 rfl<|oB h fun x1 hx1 h=>oB h fun x2 hx2 h=>A0 (K8 (rows:=List.map cI [3]) rfl rfl (F4 (fun _=>rfl) _)) rfl<|B4 (rs:=[(.agg (A3 x1))]) rfl rfl (A1 rfl B5) ((A28 hx1).frz)<|B4 (rs:=[(.agg (A3 x2))]) rfl rfl (A1 rfl B5) ((A28 hx2).frz)<|A0 D5 rfl<|A0 D5 rfl<|F2 (D0 (ds:=(A3 x1)) rfl rfl rfl rfl (B9 rfl) rfl) rfl<|F2 (D0 (ds:=(A3 x2)) rfl rfl rfl rfl (B9 rfl) rfl) rfl<|es (ra2 rfl rfl)<|sg 2 rfl<|oB h fun x3 hx3 h=>A0 (C0 rfl rfl rfl) rfl<|B4 (rs:=[(.agg (D4 x3.1)),.i x3.2]) rfl rfl (A1 (D1 rfl) (A1 rfl (A1 rfl B5))) ((A3a hx3).frz)<|qm rfl<|A0 (A7 rfl rfl) rfl<|A0 (A7 rfl rfl) rfl<|A0 D5 rfl<|F2 (D0 (ds:=(D4 x3.1)) rfl rfl rfl rfl (B9 rfl) rfl) rfl<|qm rfl<|es (ra4 rfl rfl rfl rfl)<|s0<|oB h fun x4 hx4 h=>A0 (C0 rfl rfl rfl) rfl<|B4 (rs:=[.i x4.1,.i x4.2]) rfl rfl (A1 (D1 rfl) (A1 rfl (A1 rfl (A1 rfl B5)))) ((A2b hx4).frz)<|qm rfl<|A0 (A7 rfl rfl) rfl<|A0 (A7 rfl rfl) rfl<|qm rfl<|qm rfl<|es (ra6 rfl rfl rfl rfl rfl rfl)<|s0<|oB h fun x5 hx5 h=>A0 (C0 rfl rfl rfl) rfl<|B4 (rs:=[.i x5.1,.i x5.2]) rfl rfl (A1 (D1 rfl) (A1 rfl (A1 rfl (A1 rfl B5)))) ((A2b hx5).frz)<|qm rfl<|A0 (A7 rfl rfl) rfl<|A0 (A7 rfl rfl) rfl<|qm rfl<|qm rfl<|es (ra8 rfl rfl rfl rfl rfl rfl rfl rfl)<|sg 3 rfl<|oB h fun x6 hx6 h=>A0 (C0 rfl rfl rfl) rfl<|B4 (rs:=[(.agg (B1 x6.1)),.i x6.2.1,.i x6.2.2]) rfl rfl (A1 (D1 rfl) B5) (A0u (A22 hscv) hx6)<|qm rfl<|A0 (A7 rfl rfl) rfl<|A0 (A7 rfl rfl) rfl<|A0 (A7 rfl rfl) rfl<|A0 D5 rfl<|F2 (D0 (ds:=(B1 x6.1)) rfl rfl rfl rfl (B9 rfl) rfl) rfl<|qm rfl<|qm rfl<|es (ra11 rfl rfl rfl rfl rfl rfl rfl rfl rfl rfl rfl)<|s0<|oB h fun x7 hx7 h=>?_
 refine oB h fun x8 hx8 h=>A0 (C0 rfl rfl rfl) rfl<|A0 (K8 (rows:=List.map cI [1,(-1),2]) rfl rfl (F4 (fun _=>rfl) _)) rfl<|W7 (rs:=[(.agg (B1 x7))]) rfl rfl (K4 rfl (K4 rfl A2u)) (A1 rfl (A1 rfl B5)) ((A2m hx7).frz)<|B4 (rs:=[.i x8.1,.i x8.2]) rfl rfl (A1 (D1 rfl) (A1 (D1 rfl) B5)) ((A6s hx8).frz)<|qm rfl<|A0 (A7 rfl rfl) rfl<|A0 (A7 rfl rfl) rfl<|qm rfl<|qm rfl<|es (ra12 rfl rfl rfl rfl rfl rfl rfl rfl rfl rfl rfl rfl)<|s0<|oB h fun x9 hx9 h=>oB h fun x10 hx10 h=>A0 (C0 rfl rfl rfl) rfl<|A0 (K8 (rows:=List.map cI [1,0,2]) rfl rfl (F4 (fun _=>rfl) _)) rfl<|W7 (rs:=[(.agg (B1 x9))]) rfl rfl (K4 rfl (K4 rfl A2u)) (A1 rfl (A1 rfl B5)) ((A2m hx9).frz)<|B4 (rs:=[(.seq 1 (List.map cI x10.1)),.i x10.2]) rfl rfl (A1 (D1 rfl) (A1 (D1 rfl) B5)) ((A6r hx10).frz)<|qm rfl<|A0 (A7 rfl rfl) rfl<|A0 (A7 rfl rfl) rfl<|qm rfl<|qm rfl<|es (ra14 rfl rfl rfl rfl rfl rfl rfl rfl rfl rfl rfl rfl rfl rfl)<|s0<|oB h fun x11 hx11 h=>oB h fun x12 hx12 h=>A0 (K8 (rows:=List.map cI [1,3]) rfl rfl (F4 (fun _=>rfl) _)) rfl<|B4 (rs:=[(.agg (A3 x11))]) rfl rfl (A1 rfl B5) ((A28 hx11).frz)<|B4 (rs:=[(.seq 1 (List.map cI x12.1)),.i x12.2]) rfl rfl (A1 (D1 rfl) B5) ((B2n (A22 hscv) hx12).frz)<|qm rfl<|A0 (A7 rfl rfl) rfl<|A0 (A7 rfl rfl) rfl<|qm rfl<|qm rfl<|es (.k rfl (.k rfl (.k rfl (.k rfl (.k rfl (.k rfl (.k rfl (.k rfl (.k rfl (.k rfl (.k rfl (.k rfl (.k rfl (.k rfl (.k rfl (.k rfl .n))))))))))))))))<|s0<|oB h fun x13 hx13 h=>A0 (C0 rfl rfl rfl) rfl<|B4 (rs:=[(.seq 1 (List.map cI x13.1)),.i x13.2]) rfl rfl (A1 (D1 rfl) B5) ((A2o (A22 hscv) hx13).frz)<|qm rfl<|A0 (A7 rfl rfl) rfl<|A0 (A7 rfl rfl) rfl<|qm rfl<|qm rfl<|es (.k rfl (.k rfl (.k rfl (.k rfl (.k rfl (.k rfl (.k rfl (.k rfl (.k rfl (.k rfl (.k rfl (.k rfl (.k rfl (.k rfl (.k rfl (.k rfl (.k rfl (.k rfl .n))))))))))))))))))<|s0<|oB h fun x14 hx14 h=>A0 (C0 rfl rfl rfl) rfl<|B4 (rs:=[(.seq 1 (List.map cI x14.1)),.i x14.2]) rfl rfl (A1 (D1 rfl) B5) ((A2o (A22 hscv) hx14).frz)<|qm rfl<|A0 (A7 rfl rfl) rfl<|A0 (A7 rfl rfl) rfl<|qm rfl<|qm rfl<|es (.k rfl (.k rfl (.k rfl (.k rfl (.k rfl (.k rfl (.k rfl (.k rfl (.k rfl (.k rfl (.k rfl (.k rfl (.k rfl (.k rfl (.k rfl (.k rfl (.k rfl (.k rfl (.k rfl .n)))))))))))))))))))<|s0<|oB h fun x15 hx15 h=>A0 (C0 rfl rfl rfl) rfl<|B4 (rs:=[.i x15.1,.i x15.2]) rfl rfl (A1 (D1 rfl) (A1 rfl B5)) ((B39 hx15).frz)<|qm rfl ?_
 refine A0 (A7 rfl rfl) rfl<|A0 (A7 rfl rfl) rfl<|qm rfl<|qm rfl<|es (.k rfl (.k rfl (.k rfl (.k rfl (.k rfl (.k rfl (.k rfl (.k rfl (.k rfl (.k rfl (.k rfl (.k rfl (.k rfl (.k rfl (.k rfl (.k rfl (.k rfl (.k rfl (.k rfl (.k rfl (.k rfl .n)))))))))))))))))))))<|s0<|oB h fun x16 hx16 h=>A0 (C0 rfl rfl rfl) rfl<|A0 (C0 rfl rfl rfl) rfl<|B4 (rs:=[.i x16.1,.i x16.2.1,.i x16.2.2]) rfl rfl (A1 (D1 rfl) (A1 (D1 rfl) B5)) ((A8n hx16).frz)<|qm rfl<|A0 (A7 rfl rfl) rfl<|A0 (A7 rfl rfl) rfl<|A0 (A7 rfl rfl) rfl<|qm rfl<|qm rfl<|qm rfl<|es (.k rfl (.k rfl (.k rfl (.k rfl (.k rfl (.k rfl (.k rfl (.k rfl (.k rfl (.k rfl (.k rfl (.k rfl (.k rfl (.k rfl (.k rfl (.k rfl (.k rfl (.k rfl (.k rfl (.k rfl (.k rfl (.k rfl (.k rfl .n)))))))))))))))))))))))<|s0<|oB h fun x29 hx29 h=>oB h fun x35 hx35 h=>oB h fun x39 hx39 h=>oB h fun x42 hx42 h=>oB h fun x45 hx45 h=>qm rfl<|A0 (F5 rfl rfl) rfl<|qm rfl<|gp 3 98 (.b ((x3.2 == 0) && (x4.2 == 0))) 95 rfl rfl (fun hg17=>?_) (fun hg17=>?_) ?_
 ·exact gT rfl hg17<|qm rfl<|gT rfl hg17<|A0 (F5 rfl rfl) rfl<|A0 (C7 rfl hg17 rfl) rfl<|ge 3 (by rw [hg17]; rfl) rfl rfl
 ·exact nT rfl hg17 rfl<|nT rfl hg17 rfl<|A0 (C8 rfl hg17 rfl) rfl<|ge 3 (by rw [hg17]; rfl) rfl rfl
 refine qm rfl<|gp 3 102 (.b (((x3.2 == 0) && (x4.2 == 0)) && (x5.2 == 0))) 99 rfl rfl (fun hg18=>?_) (fun hg18=>?_) ?_
 ·exact gT rfl hg18<|qm rfl<|gT rfl hg18<|A0 (F5 rfl rfl) rfl<|A0 (C7 rfl hg18 rfl) rfl<|ge 3 (by rw [hg18]; rfl) rfl rfl
 ·exact nT rfl hg18 rfl<|nT rfl hg18 rfl<|A0 (C8 rfl hg18 rfl) rfl<|ge 3 (by rw [hg18]; rfl) rfl rfl
 refine qm rfl<|gp 3 106 (.b ((((x3.2 == 0) && (x4.2 == 0)) && (x5.2 == 0)) && (x6.2.2 == 0))) 103 rfl rfl (fun hg19=>?_) (fun hg19=>?_) ?_
 ·exact gT rfl hg19<|qm rfl<|gT rfl hg19<|A0 (F5 rfl rfl) rfl<|A0 (C7 rfl hg19 rfl) rfl<|ge 3 (by rw [hg19]; rfl) rfl rfl
 ·exact nT rfl hg19 rfl<|nT rfl hg19 rfl<|A0 (C8 rfl hg19 rfl) rfl<|ge 3 (by rw [hg19]; rfl) rfl rfl
 refine qm rfl<|gp 3 110 (.b (((((x3.2 == 0) && (x4.2 == 0)) && (x5.2 == 0)) && (x6.2.2 == 0)) && (x8.2 == 9))) 107 rfl rfl (fun hg20=>?_) (fun hg20=>?_) ?_
 ·exact gT rfl hg20<|qm rfl<|gT rfl hg20<|A0 (F5 rfl rfl) rfl<|A0 (C7 rfl hg20 rfl) rfl<|ge 3 (by rw [hg20]; rfl) rfl rfl
 ·exact nT rfl hg20 rfl<|nT rfl hg20 rfl<|A0 (C8 rfl hg20 rfl) rfl<|ge 3 (by rw [hg20]; rfl) rfl rfl
 refine qm rfl<|gp 3 114 (.b ((((((x3.2 == 0) && (x4.2 == 0)) && (x5.2 == 0)) && (x6.2.2 == 0)) && (x8.2 == 9)) && (x10.2 == 0))) 111 rfl rfl (fun hg21=>?_) (fun hg21=>?_) ?_
 ·exact gT rfl hg21<|qm rfl<|gT rfl hg21<|A0 (F5 rfl rfl) rfl<|A0 (C7 rfl hg21 rfl) rfl<|ge 3 (by rw [hg21]; rfl) rfl rfl
 ·exact nT rfl hg21 rfl<|nT rfl hg21 rfl<|A0 (C8 rfl hg21 rfl) rfl<|ge 3 (by rw [hg21]; rfl) rfl rfl
 refine qm rfl<|gp 3 118 (.b (((((((x3.2 == 0) && (x4.2 == 0)) && (x5.2 == 0)) && (x6.2.2 == 0)) && (x8.2 == 9)) && (x10.2 == 0)) && (x12.2 == 0))) 115 rfl rfl (fun hg22=>?_) (fun hg22=>?_) ?_
 ·exact gT rfl hg22<|qm rfl<|gT rfl hg22<|A0 (F5 rfl rfl) rfl<|A0 (C7 rfl hg22 rfl) rfl<|ge 3 (by rw [hg22]; rfl) rfl rfl
 ·exact nT rfl hg22 rfl<|nT rfl hg22 rfl<|A0 (C8 rfl hg22 rfl) rfl<|ge 3 (by rw [hg22]; rfl) rfl rfl
 refine qm rfl<|gp 3 122 (.b ((((((((x3.2 == 0) && (x4.2 == 0)) && (x5.2 == 0)) && (x6.2.2 == 0)) && (x8.2 == 9)) && (x10.2 == 0)) && (x12.2 == 0)) && (x13.2 == 0))) 119 rfl rfl (fun hg23=>?_) (fun hg23=>?_) ?_
 ·exact gT rfl hg23<|qm rfl<|gT rfl hg23<|A0 (F5 rfl rfl) rfl<|A0 (C7 rfl hg23 rfl) rfl<|ge 3 (by rw [hg23]; rfl) rfl rfl
 ·exact nT rfl hg23 rfl<|nT rfl hg23 rfl<|A0 (C8 rfl hg23 rfl) rfl<|ge 3 (by rw [hg23]; rfl) rfl rfl
 refine qm rfl<|gp 3 126 (.b (((((((((x3.2 == 0) && (x4.2 == 0)) && (x5.2 == 0)) && (x6.2.2 == 0)) && (x8.2 == 9)) && (x10.2 == 0)) && (x12.2 == 0)) && (x13.2 == 0)) && (x14.2 == 0))) 123 rfl rfl (fun hg24=>?_) (fun hg24=>?_) ?_
 ·exact gT rfl hg24<|qm rfl<|gT rfl hg24<|A0 (F5 rfl rfl) rfl<|A0 (C7 rfl hg24 rfl) rfl<|ge 3 (by rw [hg24]; rfl) rfl rfl
 ·exact nT rfl hg24 rfl<|nT rfl hg24 rfl<|A0 (C8 rfl hg24 rfl) rfl<|ge 3 (by rw [hg24]; rfl) rfl rfl
 refine qm rfl<|gp 3 130 (.b ((((((((((x3.2 == 0) && (x4.2 == 0)) && (x5.2 == 0)) && (x6.2.2 == 0)) && (x8.2 == 9)) && (x10.2 == 0)) && (x12.2 == 0)) && (x13.2 == 0)) && (x14.2 == 0)) && (x15.2 == 0))) 127 rfl rfl (fun hg25=>?_) (fun hg25=>?_) ?_
 ·exact gT rfl hg25<|qm rfl<|gT rfl hg25<|A0 (F5 rfl rfl) rfl<|A0 (C7 rfl hg25 rfl) rfl<|ge 3 (by rw [hg25]; rfl) rfl rfl
 ·exact nT rfl hg25 rfl<|nT rfl hg25 rfl<|A0 (C8 rfl hg25 rfl) rfl<|ge 3 (by rw [hg25]; rfl) rfl rfl
 refine qm rfl<|gp 3 134 (.b (((((((((((x3.2 == 0) && (x4.2 == 0)) && (x5.2 == 0)) && (x6.2.2 == 0)) && (x8.2 == 9)) && (x10.2 == 0)) && (x12.2 == 0)) && (x13.2 == 0)) && (x14.2 == 0)) && (x15.2 == 0)) && (x16.2.2 == 0))) 131 rfl rfl (fun hg26=>?_) (fun hg26=>?_) ?_
 ·exact gT rfl hg26<|qm rfl<|gT rfl hg26<|A0 (F5 rfl rfl) rfl<|A0 (C7 rfl hg26 rfl) rfl<|ge 3 (by rw [hg26]; rfl) rfl rfl
 ·exact nT rfl hg26 rfl<|nT rfl hg26 rfl<|A0 (C8 rfl hg26 rfl) rfl<|ge 3 (by rw [hg26]; rfl) rfl rfl
 refine qm rfl<|gp 4 139 (.b x29) 135 rfl rfl (fun hg27=>?_) (fun hg27=>?_) ?_
 ·refine oB (bt hx29 hg27) fun x28 hx28 hx29=>?_
  obtain rfl:=os hx29
  exact gT rfl hg27<|A0 (C0 rfl rfl rfl) rfl<|gT rfl hg27<|W7 (rs:=[(.agg (D4 x28))]) rfl rfl (K4 rfl (K4 rfl A2u)) (A1 rfl (A1 rfl B5)) ((P9 hx28).frz)<|gT rfl hg27<|A0 (C5v (a:=D4 x3.1) (b:=D4 x28) rfl rfl rfl rfl (A2x (A2x B5i))) rfl<|A0 (C7 rfl hg27 rfl) rfl<|ge 4 rfl rfl rfl
 ·obtain rfl:=os (bf hx29 hg27)
  exact nT rfl hg27 rfl<|nT rfl hg27 rfl<|nT rfl hg27 rfl<|A0 (C8 rfl hg27 rfl) rfl<|ge 4 rfl rfl rfl
 refine qm rfl<|gp 3 143 (.b (x29 && (x4.1 == 1))) 140 rfl rfl (fun hg30=>?_) (fun hg30=>?_) ?_
 ·exact gT rfl hg30<|qm rfl<|gT rfl hg30<|A0 (F5 rfl rfl) rfl<|A0 (C7 rfl hg30 rfl) rfl<|ge 3 (by rw [hg30]; rfl) rfl rfl
 ·exact nT rfl hg30 rfl<|nT rfl hg30 rfl<|A0 (C8 rfl hg30 rfl) rfl<|ge 3 (by rw [hg30]; rfl) rfl rfl
 refine qm rfl<|gp 3 147 (.b ((x29 && (x4.1 == 1)) && (x5.1 == 0))) 144 rfl rfl (fun hg31=>?_) (fun hg31=>?_) ?_
 ·exact gT rfl hg31<|qm rfl<|gT rfl hg31<|A0 (F5 rfl rfl) rfl<|A0 (C7 rfl hg31 rfl) rfl<|ge 3 (by rw [hg31]; rfl) rfl rfl
 ·exact nT rfl hg31 rfl<|nT rfl hg31 rfl<|A0 (C8 rfl hg31 rfl) rfl<|ge 3 (by rw [hg31]; rfl) rfl rfl
 refine qm rfl<|gp 5 153 (.b x35) 148 rfl rfl (fun hg32=>?_) (fun hg32=>?_) ?_
 ·refine oB (bt hx35 hg32) fun x33 hx33 hx35=>oB hx35 fun x34 hx34 hx35=>?_
  obtain rfl:=os hx35
  exact gT rfl hg32<|A0 (C0 rfl rfl rfl) rfl<|gT rfl hg32<|A0 (K8 (rows:=List.map cI [(-1),0,2]) rfl rfl (F4 (fun _=>rfl) _)) rfl<|gT rfl hg32<|W7 (rs:=[(.agg (B1 x33))]) rfl rfl (K4 rfl (K4 rfl A2u)) (A1 rfl (A1 rfl B5)) ((A2m hx33).frz)<|gT rfl hg32<|B4 (rs:=[.b x34]) rfl rfl (A1 (D1 rfl) (A1 (D1 rfl) B5)) ((A9w hx34).frz)<|A0 (C7 rfl hg32 rfl) rfl<|ge 5 rfl rfl rfl
 ·obtain rfl:=os (bf hx35 hg32)
  exact nT rfl hg32 rfl<|nT rfl hg32 rfl<|nT rfl hg32 rfl<|G8 (E6 rfl (by rw [hg32]; rfl)) rfl<|A0 (C8 rfl hg32 rfl) rfl<|ge 5 rfl rfl rfl
 refine qm rfl<|gp 3 157 (.b (x35 && (x6.2.1 == 12))) 154 rfl rfl (fun hg36=>?_) (fun hg36=>?_) ?_
 ·exact gT rfl hg36<|qm rfl<|gT rfl hg36<|A0 (F5 rfl rfl) rfl<|A0 (C7 rfl hg36 rfl) rfl<|ge 3 (by rw [hg36]; rfl) rfl rfl
 ·exact nT rfl hg36 rfl<|nT rfl hg36 rfl<|A0 (C8 rfl hg36 rfl) rfl<|ge 3 (by rw [hg36]; rfl) rfl rfl
 refine qm rfl<|gp 4 162 (.b x39) 158 rfl rfl (fun hg37=>?_) (fun hg37=>?_) ?_
 ·refine oB (bt hx39 hg37) fun x38 hx38 hx39=>?_
  obtain rfl:=os hx39
  exact gT rfl hg37<|qm rfl<|gT rfl hg37<|A0 (K8 (rows:=List.map cI [350,320]) rfl rfl (F4 (fun _=>rfl) _)) rfl<|gT rfl hg37<|B4 (rs:=[.b x38]) rfl rfl (A1 rfl (A1 rfl B5)) ((A2n hx38).frz)<|A0 (C7 rfl hg37 rfl) rfl<|ge 4 rfl rfl rfl
 ·obtain rfl:=os (bf hx39 hg37)
  exact nT rfl hg37 rfl<|nT rfl hg37 rfl<|G8 (E6 rfl (by rw [hg37]; rfl)) rfl<|A0 (C8 rfl hg37 rfl) rfl<|ge 4 rfl rfl rfl
 refine qm rfl<|gp 4 167 (.b x42) 163 rfl rfl (fun hg40=>?_) (fun hg40=>?_) ?_
 ·refine oB (bt hx42 hg40) fun x41 hx41 hx42=>?_
  obtain rfl:=os hx42
  exact gT rfl hg40<|qm rfl<|gT rfl hg40<|A0 (K8 (rows:=List.map cI [0]) rfl rfl (F4 (fun _=>rfl) _)) rfl<|gT rfl hg40<|B4 (rs:=[.b x41]) rfl rfl (A1 rfl (A1 rfl B5)) ((A2n hx41).frz)<|A0 (C7 rfl hg40 rfl) rfl<|ge 4 rfl rfl rfl
 ·obtain rfl:=os (bf hx42 hg40)
  exact nT rfl hg40 rfl<|nT rfl hg40 rfl<|G8 (E6 rfl (by rw [hg40]; rfl)) rfl<|A0 (C8 rfl hg40 rfl) rfl<|ge 4 rfl rfl rfl
 refine qm rfl<|gp 4 172 (.b x45) 168 rfl rfl (fun hg43=>?_) (fun hg43=>?_) ?_
 ·refine oB (bt hx45 hg43) fun x44 hx44 hx45=>?_
  obtain rfl:=os hx45
  exact gT rfl hg43<|qm rfl<|gT rfl hg43<|A0 (K8 (rows:=List.map cI [0]) rfl rfl (F4 (fun _=>rfl) _)) rfl<|gT rfl hg43<|B4 (rs:=[.b x44]) rfl rfl (A1 rfl (A1 rfl B5)) ((A2n hx44).frz)<|A0 (C7 rfl hg43 rfl) rfl<|ge 4 rfl rfl rfl
 ·obtain rfl:=os (bf hx45 hg43)
  exact nT rfl hg43 rfl<|nT rfl hg43 rfl<|G8 (E6 rfl (by rw [hg43]; rfl)) rfl<|A0 (C8 rfl hg43 rfl) rfl<|ge 4 rfl rfl rfl
 refine qm rfl<|gp 4 177 (.b (x45 && ((List.length x14.1:Int) == 0))) 173 rfl rfl (fun hg46=>?_) (fun hg46=>?_) ?_
 ·exact gT rfl hg46<|qm rfl<|gT rfl hg46<|A0 (D6 (f:=cI) rfl) rfl<|gT rfl hg46<|A0 (F5 rfl rfl) rfl<|A0 (C7 rfl hg46 rfl) rfl<|ge 4 (by rw [hg46]; rfl) rfl rfl
 ·exact nT rfl hg46 rfl<|nT rfl hg46 rfl<|nT rfl hg46 rfl<|A0 (C8 rfl hg46 rfl) rfl<|ge 4 (by rw [hg46]; rfl) rfl rfl
 refine qm rfl<|gp 3 181 (.b ((x45 && ((List.length x14.1:Int) == 0)) && (x15.1 == 1))) 178 rfl rfl (fun hg47=>?_) (fun hg47=>?_) ?_
 ·exact gT rfl hg47<|qm rfl<|gT rfl hg47<|A0 (F5 rfl rfl) rfl<|A0 (C7 rfl hg47 rfl) rfl<|ge 3 (by rw [hg47]; rfl) rfl rfl
 ·exact nT rfl hg47 rfl<|nT rfl hg47 rfl<|A0 (C8 rfl hg47 rfl) rfl<|ge 3 (by rw [hg47]; rfl) rfl rfl
 refine qm rfl<|gp 3 185 (.b (((x45 && ((List.length x14.1:Int) == 0)) && (x15.1 == 1)) && (x16.1 == 1))) 182 rfl rfl (fun hg48=>?_) (fun hg48=>?_) ?_
 ·exact gT rfl hg48<|qm rfl<|gT rfl hg48<|A0 (F5 rfl rfl) rfl<|A0 (C7 rfl hg48 rfl) rfl<|ge 3 (by rw [hg48]; rfl) rfl rfl
 ·exact nT rfl hg48 rfl<|nT rfl hg48 rfl<|A0 (C8 rfl hg48 rfl) rfl<|ge 3 (by rw [hg48]; rfl) rfl rfl
 refine qm rfl<|gp 3 189 (.b ((((x45 && ((List.length x14.1:Int) == 0)) && (x15.1 == 1)) && (x16.1 == 1)) && (x16.2.1 == 0))) 186 rfl rfl (fun hg49=>?_) (fun hg49=>?_) ?_
 ·exact gT rfl hg49<|qm rfl<|gT rfl hg49<|A0 (F5 rfl rfl) rfl<|A0 (C7 rfl hg49 rfl) rfl<|ge 3 (by rw [hg49]; rfl) rfl rfl
 ·exact nT rfl hg49 rfl<|nT rfl hg49 rfl<|A0 (C8 rfl hg49 rfl) rfl<|ge 3 (by rw [hg49]; rfl) rfl rfl
 refine qm rfl<|es (ra1 rfl)<|C5 ?_
 obtain rfl:=os h
 exact retq trivial (A9 rfl B7) (A4 rfl B6) (A2 A5 B2)
end Rm
end
section
set_option maxRecDepth 100000
set_option maxHeartbeats 0
namespace Rm
open Go Am
theorem Q6:I0 = some true:= by decide +kernel
end Rm
end
section
set_option maxRecDepth 100000
set_option maxHeartbeats 0
namespace Rm
open Go Am Go.Proofs.YtbheamjhjgoccaaDoor.Cd
end Rm
end
section
namespace Rm
open Go Am
def L6 (w:Span) (f:RoFigure):Int:=if f.Cracks≤w.Lo∧w.Hi≤f.Slumps then 1 else if f.Cracks > w.Hi∨w.Lo > f.Slumps then 2 else 0
theorem B9j {h:RoHouse} (ok:HOk h) {f p l:Nat} (hf:f < h.Figures.length) (hp:p < h.Places.length) (hl:l < 16):O5 ⟨h⟩ (f:Int) (p:Int) (l:Int) = some (L6 (warm h p l) h.Figures[f]!):= by
 have b:=A9n ok hp l
 have g:=(ok.figure _ (G2 hf)).bears
 unfold O5
 rw [B3r ok hp hl,F1 hf]
 simp only [Option.bind_some]
 generalize warm h p l = w at b ⊢
 generalize h.Figures[f]! = r at g ⊢
 unfold L6 A5s B1z
 by_cases c1:r.Cracks≤w.Lo
 ·by_cases c2:w.Hi≤r.Slumps
  ·simp [c1,c2,show ¬ (r.Cracks > w.Lo) by omega,show ¬ (r.Slumps < w.Hi) by omega]
  ·by_cases c3:w.Lo > r.Slumps
   ·simp [c2,c3,show ¬ (r.Cracks > w.Lo) by omega,show (r.Slumps < w.Hi) by omega,show ¬ (r.Slumps = w.Hi) by omega]
   ·simp [c2,c3,show ¬ (r.Cracks > w.Lo) by omega,show (r.Slumps < w.Hi) by omega,show ¬ (r.Slumps = w.Hi) by omega,show ¬ (r.Cracks > w.Hi) by omega]
 ·by_cases c2:w.Hi≤r.Slumps
  ·by_cases c3:r.Cracks > w.Hi
   ·simp [c1,c3,show (r.Cracks > w.Lo) by omega,show ¬ (r.Slumps < w.Hi) by omega,show ¬ (r.Cracks = w.Lo) by omega]
   ·simp [c1,c3,show (r.Cracks > w.Lo) by omega,show ¬ (r.Slumps < w.Hi) by omega,show ¬ (r.Cracks = w.Lo) by omega,show ¬ (w.Lo > r.Slumps) by omega]
  ·have h1:¬ (r.Cracks > r.Slumps):= by omega
   simp [c1,h1,show (r.Cracks > w.Lo) by omega,show (r.Slumps < w.Hi) by omega,show ¬ (r.Cracks = w.Lo) by omega,show ¬ (w.Lo > r.Slumps) by omega,show ¬ (r.Cracks > w.Hi) by omega]
theorem A5w {h:RoHouse} (ok:HOk h):1≤2 ^ h.Stoves.toNat∧2 ^ h.Stoves.toNat≤8:= by
 have:=ok.s
 exact ⟨Nat.pow_pos (by decide),Nat.le_trans (Nat.pow_le_pow_right (by decide) (show h.Stoves.toNat≤3 by omega)) (by decide)⟩
theorem D7z {h:RoHouse} (ok:HOk h):B3u .i64 1 h.Stoves = some ((2 ^ h.Stoves.toNat:Nat):Int):= by
 have:=ok.s
 have e:=shl1 h.Stoves.toNat (by omega)
 rwa [Int.toNat_of_nonneg ok.s.1] at e
theorem C8e {h:RoHouse} (ok:HOk h):A1a h.Stoves = some ((2 ^ h.Stoves.toNat:Nat):Int):= by
 have:=ok.s
 have e:=D1m h.Stoves.toNat (by omega)
 rwa [Int.toNat_of_nonneg ok.s.1] at e
def A4j (h:RoHouse) (p l:Int):Int:=if out 0 ((h.Places.length:Int) - 1) p then 4 else if out 0 (((2 ^ h.Stoves.toNat:Nat):Int) - 1) l then 7 else 0
theorem B12 {h:RoHouse} (ok:HOk h) (p l:Int):Y6 ⟨h⟩ p l = some (A4j h p l):= by
 have hp:=ok.places
 have hs:=A5w ok
 unfold Y6 A4j
 rw [E0 (by simp only []; omega),beyond1]
 simp only [Option.bind_some]
 cases out 0 ((h.Places.length:Int) - 1) p
 ·rw [D7z ok]
  simp only [Option.bind_some]
  rw [E0 (by omega),beyond1]
  cases out 0 (((2 ^ h.Stoves.toNat:Nat):Int) - 1) l <;> rfl
 ·rfl
end Rm
end
section
set_option maxRecDepth 100000
set_option maxHeartbeats 0
namespace Rm
open Go Am Go.Proofs.YtbheamjhjgoccaaDoor.Cd
end Rm
end
section
namespace Rm
open Go Am
def R4 (l:List Int) (i:Nat):Bool:=l[i]! != -1 && (l.take i).any (· == l[i]!)
def dup (l:List Int):Bool:=(first (fun i=>if R4 l i then some () else none) l.length).isSome
def e (p:List Int) (i:Nat):Int:=if i < p.length then p[i]! + 1 else 0
def enc (p:List Int):Ar5 Int:=⟨e p 0,e p 1,e p 2,e p 3,e p 4⟩
structure PV (h:RoHouse) (p:List Int):Prop where
 len:p.length = h.Figures.length
 bd:∀i,i < p.length→-1≤p[i]!∧p[i]! < (h.Places.length:Int)
def arr (f:Nat→Int):Ar4 Int:=⟨f 0,f 1,f 2,f 3⟩
theorem C3h {n:Nat} {p:Nat→Bool}:(first (fun i=>if p i then none else some ()) n).isNone = (List.range n).all p:= by
 cases hf:first (fun i=>if p i then none else some ()) n with
 | none =>
  have h0:=K6.mp hf
  symm
  rw [Option.isNone_none,List.all_eq_true]
  intro i hi
  have:=h0 i (List.mem_range.mp hi)
  cases hp:p i with
  | true=>rfl
  | false=>rw [hp] at this; exact absurd this (by simp)
 | some u =>
  obtain ⟨i,hi,h1,_⟩:=Y7 hf
  symm
  rw [Option.isNone_some,List.all_eq_false]
  refine ⟨i,List.mem_range.mpr hi,?_⟩
  cases hp:p i with
  | true=>rw [hp] at h1; exact absurd h1 (by simp)
  | false=>decide
theorem A8h {b:Int→Option (Int ⊕ (Bool ⊕ Unit))} (n:Nat) (p:Nat→Bool) (hn:n < 9223372036854775808)
  (hs:∀i:Nat,i < n→b (i:Int) = some (if p i then .inl (w64 ((i:Int) + 1)) else .inr (.inl false))) (he:b (n:Int) = some (.inr (.inr ()))) :
  loop b 0 = some (if (List.range n).all p then .inr () else .inl false):= by
 rw [B07 n (fun i=>if p i then none else some (.inl false)) (.inr ()) hn (fun i hi _=>by rw [hs i hi]; cases p i <;> rfl) he,← C3h]
 have:(fun (i:Nat)=>if p i then none else some (Sum.inl false:Bool ⊕ Unit)) = fun (i:Nat)=>(if p i then none else some ()).map fun _=>Sum.inl false:= by
  funext i; cases p i <;> rfl
 rw [this,A5a]
 cases first (fun (i:Nat)=>if p i then none else some ()) n <;> rfl
def gd (m:List (Int × Int)) (c:Int):Int:=(kget m c).getD 0
def A30 (h:RoHouse) (p:List Int) (n:Nat):Int:=iter (fun i s=>s + if i < p.length∧p[i]! ≠ -1 then h.Figures[i]!.Worth else 0) n 0
def worth (h:RoHouse) (p:List Int):Int:=A30 h p p.length
def X7 (h:RoHouse) (l:Nat) (p:List Int) (i:Nat):Bool:=p[i]! == -1 || L6 (warm h p[i]!.toNat l) h.Figures[i]! == 1
def A4i (h:RoHouse) (l:Nat) (p:List Int):Bool:=(List.range p.length).all (X7 h l p)
theorem lit16 {h:RoHouse} (ok:HOk h) {l:Nat} (hl:l < 2 ^ h.Stoves.toNat):l < 16:= by
 have:=A5w ok
 omega
def B5t (p:List Int) (i:Nat):Prop:=i < p.length∧p[i]! ≠ -1
def left (h:RoHouse) (l:Nat) (p:List Int) (i:Nat):Int:=B1z ((warm h p[i]!.toNat l).Lo - h.Figures[i]!.Cracks) (h.Figures[i]!.Slumps - (warm h p[i]!.toNat l).Hi)
instance (p:List Int) (i:Nat):Decidable (B5t p i):=inferInstanceAs (Decidable (_∧_))
end Rm
end
section
set_option maxRecDepth 100000
set_option maxHeartbeats 0
namespace Rm
open Go Am Go.Proofs.YtbheamjhjgoccaaDoor.Cd
def Y0 (a0:RoHouse):Option Bool :=
 (Y1 a0).bind fun x1 =>
 some (x1.2.2 == 0)
theorem A1n {c:Sc} {H:A6} {a0:RoHouse} {r:Bool} (h:Y0 a0 = some r) :
  E7 tab c H (.fn (.func 43) [] []) [(.agg (A3 a0))] [.b r]:= by
 unfold Y0 at h
 refine cE rfl rfl<|sg 0 rfl<|A0 (E8 (cs:=A3 a0) rfl rfl rfl) rfl<|qm rfl<|es (ra1 rfl)<|s0<|oB h fun x1 hx1 h=>A0 (C0 rfl rfl rfl) rfl<|B4 (rs:=[.i x1.1,.i x1.2.1,.i x1.2.2]) rfl rfl (A1 (D1 rfl) B5) ((A1p hx1).frz)<|qm rfl<|A0 (A7 rfl rfl) rfl<|A0 (A7 rfl rfl) rfl<|A0 (A7 rfl rfl) rfl<|qm rfl<|qm rfl<|qm rfl<|es (ra1 rfl)<|s0<|qm rfl<|A0 (F5 rfl rfl) rfl<|qm rfl<|es (ra1 rfl)<|C5 ?_
 obtain rfl:=os h
 exact retq trivial (A9 rfl B7) (A4 rfl B6) (A2 A5 B2)
end Rm
end
section
namespace Rm
open Go Am
theorem A9l {a b:Int} (ha:0≤a) (hb:0 < b):∃r,B7z a b = some r∧0≤r∧r < b:= by
 unfold B7z
 rw [if_neg (by omega)]
 exact ⟨a.tmod b,rfl,Int.tmod_nonneg _ ha,Int.tmod_lt_of_pos _ hb⟩
theorem B61 (h:RoHouse):Y0 h = some ((check h).2.2 == 0):= by
 unfold Y0
 rw [S9]; rfl
theorem C4y {h:RoHouse} (ok:HOk h) {b:Int × Int→Option ((Int × Int) ⊕ Int)} (hb:∀s,b s = if (decide (s.2 < h.Stoves)) = true then some (.inl ((w64 (2 * s.1)),(w64 (s.2 + 1)))) else some (.inr s.1)):loop b (1,0) = some ((2 ^ h.Stoves.toNat:Nat):Int):= by
 have e:=C8e ok
 unfold A1a at e
 have hbe:b = A1b h.Stoves:= by
  funext s
  rw [hb]; rfl
 rw [hbe]
 cases hl:loop (A1b h.Stoves) (1,0) with
 | none=>rw [hl] at e; cases e
 | some r=>rw [hl] at e; exact e
structure AnyOk (h:RoHouse) (safe:Bool) (p:RoPlan):Prop where
 pv:PV h p.At
 lit:∃l:Nat,p.Lit = l∧l < 2 ^ h.Stoves.toNat
 dup:dup p.At = false
 safe:safe = true→A4i h p.Lit.toNat p.At = true
theorem D1o {n:Int} (h:(Lit.int .u8 n).wf = true):0≤n∧n < 256:= by
 rw [Lit.wf,Bool.and_eq_true,decide_eq_true_eq,decide_eq_true_eq] at h
 have h1:IntKind.u8.min = 0:=rfl
 have h2:IntKind.u8.max = 255:=rfl
 omega
theorem D5i (r:List AV) (h:SatL [.int .u8,.int .u8,.int .u8] r):∃x:Ar3 Int,r = (A23 Y3) x∧((0≤x.x0∧x.x0 < 256)∧(0≤x.x1∧x.x1 < 256)∧(0≤x.x2∧x.x2 < 256)):= by
 simp only [SatL,Sat] at h
 obtain ⟨x1,q1,rfl,⟨n1,rfl,h1⟩,x2,q2,rfl,⟨n2,rfl,h2⟩,x3,q3,rfl,⟨n3,rfl,h3⟩,rfl⟩:=h
 exact ⟨⟨n1,n2,n3⟩,rfl,D1o h1,D1o h2,D1o h3⟩
end Rm
end
section
set_option maxRecDepth 100000
set_option maxHeartbeats 0
namespace Rm
open Go Am Go.Proofs.YtbheamjhjgoccaaDoor.Cd
def A19 (a0:Span) (a1:Int):Option Int :=
 (B7z a1 (w64 ((w64 (a0.Hi - a0.Lo)) + 1))).bind fun x1 =>
 some (w64 (a0.Lo + x1))
theorem A4c {c:Sc} {H:A6} {a0:Span} {a1:Int} {r:Int} (h:A19 a0 a1 = some r) :
  E7 tab c H (.fn (.func 48) [] []) [(.agg (D4 a0)),.i a1] [.i r]:= by
 unfold A19 at h
 refine cE rfl rfl<|sg 0 rfl<|A0 (E8 (cs:=D4 a0) rfl rfl rfl) rfl<|qm rfl<|es (ra2 rfl rfl)<|s0<|oB h fun x1 hx1 h=>A0 (C4 rfl) rfl<|A0 (C2 rfl rfl rfl) rfl<|qm rfl<|A0 (C4 rfl) rfl<|A0 (C2 rfl rfl rfl) rfl<|A0 (C4 rfl) rfl<|A0 (C2 rfl rfl rfl) rfl<|A0 (T3 rfl rfl) rfl<|A0 (E1 rfl rfl) rfl<|A0 (B8c rfl rfl hx1) rfl<|A0 (E1 rfl rfl) rfl<|qm rfl<|es (ra1 rfl)<|C5 ?_
 obtain rfl:=os h
 exact retq trivial (A9 rfl B7) (A4 rfl B6) (A2 A5 B2)
def A5q (a0:RoHouse) (a1:(Ar2 Int)):Option RoHouse :=
 (idx (Ar2.l a1) 0).bind fun x1 =>
 (A19 a0.Weather (w64 x1)).bind fun x2 =>
 (S7 x2 a0.Weather.Hi).bind fun x3 =>
 (idx (Ar2.l a1) 1).bind fun x4 =>
 (A19 x3 (w64 x4)).bind fun x5 =>
 (S7 x2 x5).bind fun x6 =>
 some (RoHouse.mk x6 a0.Stoves a0.Holds a0.Places a0.Figures a0.Bill)
theorem B84 {c:Sc} {H:A6} {a0:RoHouse} {a1:(Ar2 Int)} {r:RoHouse} (h:A5q a0 a1 = some r) :
  E7 tab c H (.fn (.func 59) [] []) [(.agg (A3 a0)),(.agg ((A87 Y3) a1))] [(.agg (A3 r))]:= by
 unfold A5q at h
 refine cE rfl rfl<|sg 0 rfl<|A0 (E8 (cs:=A3 a0) rfl rfl rfl) rfl<|A0 (E8 (cs:=(A87 Y3) a1) rfl rfl rfl) rfl<|A0 D49 rfl<|es (ra3 rfl rfl rfl)<|s0<|oB h fun x1 hx1 h=>oB h fun x2 hx2 h=>A0 (C4 rfl) rfl<|A0 (F0 (ds:=D4 a0.Weather) rfl rfl rfl rfl) rfl<|A0 (X3 (e:=Ar2.l a1) rfl rfl rfl hx1) rfl<|A0 (V1 (f:=Y3) (g:=fun n=>(.lit (.int .u8 n))) (e:=Ar2.l a1) (fun _=>rfl) rfl (D9 rfl) rfl hx1) rfl<|A0 (A4z rfl) rfl<|B4 (rs:=[.i x2]) rfl rfl (A1 (D1 rfl) (A1 rfl B5)) ((A4c hx2).frz)<|qm rfl<|es (ra4 rfl rfl rfl rfl)<|s0<|oB h fun x3 hx3 h=>oB h fun x4 hx4 h=>oB h fun x5 hx5 h=>oB h fun x6 hx6 h=>qm rfl<|A0 (C4 rfl) rfl<|A0 (C4 rfl) rfl<|A0 (C2 rfl rfl rfl) rfl<|W7 (rs:=[(.agg (D4 x3))]) rfl rfl (K4 rfl (K4 rfl A2u)) (A1 rfl (A1 rfl B5)) ((P9 hx3).frz)<|A0 (X3 (e:=Ar2.l a1) rfl rfl rfl hx4) rfl<|A0 (V1 (f:=Y3) (g:=fun n=>(.lit (.int .u8 n))) (e:=Ar2.l a1) (fun _=>rfl) rfl (D9 rfl) rfl hx4) rfl<|A0 (A4z rfl) rfl<|B4 (rs:=[.i x5]) rfl rfl (A1 (D1 rfl) (A1 rfl B5)) ((A4c hx5).frz)<|qm rfl<|B4 (rs:=[(.agg (D4 x6))]) rfl rfl (A1 rfl (A1 rfl B5)) ((P9 hx6).frz)<|A0 (C4 rfl) rfl<|F2 (D0 (ds:=(A3 (RoHouse.mk x6 a0.Stoves a0.Holds a0.Places a0.Figures a0.Bill))) rfl rfl rfl rfl (B9 rfl) rfl) rfl<|es (ra2 rfl rfl)<|s0<|A0 (C0 rfl rfl rfl) rfl<|F2 (D0 (ds:=(A3 (RoHouse.mk x6 a0.Stoves a0.Holds a0.Places a0.Figures a0.Bill))) rfl rfl rfl rfl (B9 rfl) rfl) rfl<|es (ra1 rfl)<|C5 ?_
 obtain rfl:=os h
 exact retq trivial (F8 (F0 (ds:=A3 (RoHouse.mk x6 a0.Stoves a0.Holds a0.Places a0.Figures a0.Bill)) rfl rfl rfl rfl) B7) (A4 (I2 rfl) B6) (A2 (G5 rfl) B2)
def A5n (a0:RoHouse) (s9:(Int × Int)):Option ((Int × Int) ⊕ Int) :=
 if (decide (s9.2 < a0.Stoves)) = true then
  some (.inl ((w64 (2 * s9.1)),(w64 (s9.2 + 1))))
 else
  some (.inr s9.1)
def V6 (s45:Int) (s50:(Int × Int)):Option ((Int × Int) ⊕ Int) :=
 if (decide (s50.2 < s45)) = true then
  some (.inl ((w64 (2 * s50.1)),(w64 (s50.2 + 1))))
 else
  some (.inr s50.1)
def A0r (a0:RoHouse) (x16:Int) (x18:Int) (x20:(Span × Int)) (s45:Int):Option (Int ⊕ (Bool ⊕ Unit)) :=
 if (decide (s45 < a0.Stoves)) = true then
  (A3v x18 s45).bind fun x48 =>
  if x48 = true then
  some (.inl (w64 (s45 + 1)))
  else
  (loop (V6 s45) (1,0)).bind fun (o53:Int) =>
  (V4 a0 x16 (w64 (x18 + o53))).bind fun x54 =>
  if (((x54.2 != 0) || (decide (x54.1.Lo < x20.1.Lo))) || (decide (x54.1.Hi < x20.1.Hi))) = true then
   some (.inr (.inl false))
  else
   some (.inl (w64 (s45 + 1)))
 else
  some (.inr (.inr ()))
def A5m (a0:RoHouse) (a1:(Ar3 Int)) (a2:(Ar3 Int)):Option Bool :=
 (Y0 a0).bind fun x1 =>
 if (((!x1) || ((List.length a0.Figures:Int) == 0)) || ((List.length a0.Places:Int) == 0)) = true then
  (U4 a0 0 0 0).bind fun x5 =>
  (if (x5.2 != 0) = true then
  (I0).bind fun x7 =>
  some x7
  else
  some false).bind fun x8 =>
  some x8
 else
  (loop (A5n a0) (1,0)).bind fun (o12:Int) =>
  (idx (Ar3.l a1) 0).bind fun x13 =>
  (B7z (w64 x13) (List.length a0.Figures:Int)).bind fun x14 =>
  (idx (Ar3.l a1) 1).bind fun x15 =>
  (B7z (w64 x15) (List.length a0.Places:Int)).bind fun x16 =>
  (idx (Ar3.l a1) 2).bind fun x17 =>
  (B7z (w64 x17) o12).bind fun x18 =>
  (U4 a0 x14 x16 x18).bind fun x19 =>
  (V4 a0 x16 x18).bind fun x20 =>
  (idx (Ar3.l a2) 0).bind fun x21 =>
  (idx (Ar3.l a2) 1).bind fun x22 =>
  (A5q a0 (Ar2.mk x21 x22)).bind fun x23 =>
  (U4 x23 x14 x16 x18).bind fun x24 =>
  if ((((((((x19.2 != 0) || (x20.2 != 0)) || (x24.2 != 0)) || (decide (x20.1.Lo > x20.1.Hi))) || (decide (x19.1 < 0))) || (decide (x19.1 > 2))) || ((x19.1 == 1) && (x24.1 != 1))) || ((x19.1 == 2) && (x24.1 != 2))) = true then
  some false
  else
  (idx (Ar3.l a2) 2).bind fun x35 =>
  (A19 x20.1 (w64 x35)).bind fun x36 =>
  (idx a0.Figures x14).bind fun x37 =>
  (if (decide (x36 ≥ x37.Cracks)) = true then
   (idx a0.Figures x14).bind fun x39 =>
   some (decide (x36≤x39.Slumps))
  else
   some false).bind fun x40 =>
  if (((x19.1 == 1) && (!x40)) || ((x19.1 == 2) && x40)) = true then
   some false
  else
   (loop (A0r a0 x16 x18 x20) 0).bind fun (o58:(Bool ⊕ Unit)) =>
   match o58 with
   | (.inl vo58_0) =>
   some vo58_0
   | (.inr vo58_1) =>
   (I0).bind fun x59 =>
   some x59
theorem B55 {c:Sc} {H:A6} (hscv:Z6 c H = true) {a0:RoHouse} {a1:(Ar3 Int)} {a2:(Ar3 Int)} {r:Bool} (h:A5m a0 a1 a2 = some r) :
  E7 tab c H (.fn (.func 12) [] []) [(.agg (A3 a0)),(.agg ((A23 Y3) a1)),(.agg ((A23 Y3) a2))] [.b r]:= by
 unfold A5m at h
 refine cE rfl rfl<|sg 0 rfl<|A0 (E8 (cs:=A3 a0) rfl rfl rfl) rfl<|A0 (E8 (cs:=(A23 Y3) a1) rfl rfl rfl) rfl<|A0 (E8 (cs:=(A23 Y3) a2) rfl rfl rfl) rfl<|qm rfl<|es (ra3 rfl rfl rfl)<|B8<|s0<|oB h fun x1 hx1 h=>A0 (C0 rfl rfl rfl) rfl<|B4 (rs:=[.b x1]) rfl rfl (A1 (D1 rfl) B5) ((A1n hx1).frz)<|A0 (Q5 rfl) rfl<|qm rfl<|gp 5 35 (.b ((!x1) || ((List.length a0.Figures:Int) == 0))) 30 rfl rfl (fun hg2=>?_) (fun hg2=>?_) ?_
 ·exact nF rfl hg2 rfl<|nF rfl hg2 rfl<|nF rfl hg2 rfl<|nF rfl hg2 rfl<|A0 (C7 rfl hg2 rfl) rfl<|ge 5 (by rw [hg2]; rfl) rfl rfl
 ·exact gF rfl hg2<|A0 (C4 rfl) rfl<|gF rfl hg2<|A0 (C2 rfl rfl rfl) rfl<|gF rfl hg2<|A0 (D6 (f:=B3) rfl) rfl<|gF rfl hg2<|A0 (F5 rfl rfl) rfl<|A0 (C8 rfl hg2 rfl) rfl<|ge 5 (by rw [hg2]; rfl) rfl rfl
 refine qm rfl<|gp 5 41 (.b (((!x1) || ((List.length a0.Figures:Int) == 0)) || ((List.length a0.Places:Int) == 0))) 36 rfl rfl (fun hg3=>?_) (fun hg3=>?_) ?_
 ·exact nF rfl hg3 rfl<|nF rfl hg3 rfl<|nF rfl hg3 rfl<|nF rfl hg3 rfl<|A0 (C7 rfl hg3 rfl) rfl<|ge 5 (by rw [hg3]; rfl) rfl rfl
 ·exact gF rfl hg3<|A0 (C4 rfl) rfl<|gF rfl hg3<|A0 (C2 rfl rfl rfl) rfl<|gF rfl hg3<|A0 (D6 (f:=C3) rfl) rfl<|gF rfl hg3<|A0 (F5 rfl rfl) rfl<|A0 (C8 rfl hg3 rfl) rfl<|ge 5 (by rw [hg3]; rfl) rfl rfl
 refine es (ra4 rfl rfl rfl rfl)<|wi h rfl (fun hc4 h=>?_) fun hc4 h=>?_
 ·refine s0<|oB h fun x5 hx5 h=>A0 (C0 rfl rfl rfl) rfl<|B4 (rs:=[.i x5.1,.i x5.2]) rfl rfl (A1 (D1 rfl) (A1 rfl (A1 rfl (A1 rfl B5)))) ((A2b hx5).frz)<|qm rfl<|A0 (A7 rfl rfl) rfl<|A0 (A7 rfl rfl) rfl<|qm rfl<|qm rfl<|es (ra1 rfl)<|s0<|oB h fun x8 hx8 h=>qm rfl<|A0 (F7 rfl rfl) rfl<|qm rfl<|gp 2 51 (.b x8) 49 rfl rfl (fun hg6=>?_) (fun hg6=>?_) ?_
  ·refine oB (bt hx8 hg6) fun x7 hx7 hx8=>?_
   obtain rfl:=os hx8
   exact gT rfl hg6<|B4 (rs:=[.b x7]) rfl rfl B5 ((J1 (A22 hscv) hx7).frz)<|A0 (C7 rfl hg6 rfl) rfl<|ge 2 rfl rfl rfl
  ·obtain rfl:=os (bf hx8 hg6)
   exact G8 (E6 rfl (by rw [hg6]; rfl)) rfl<|A0 (C8 rfl hg6 rfl) rfl<|ge 2 rfl rfl rfl
  refine qm rfl<|es (ra1 rfl)<|C5 ?_
  obtain rfl:=os h
  exact retq trivial (A9 rfl B7) (A4 rfl B6) (A2 A5 B2)
 ·refine C1<|s0<|qm rfl<|es (ra4 rfl rfl rfl rfl)<|B8<|s0<|qm rfl<|es (ra5 rfl rfl rfl rfl rfl)<|C6<|oB h fun o12 ho12 h=>wl (fun s9=>[(3,(.ptr (H.length + 0) 0)),(4,(.ptr (H.length + 1) 0)),(5,(.ptr (H.length + 2) 0)),(9,.i s9.1),(10,.i s9.2)]) (fun (q10:Unit) s9=>[(.cells (A3 a0)),(.cells ((A23 Y3) a1)),(.cells ((A23 Y3) a2))]) 3 (fun r e s' H'=>PX 0 [(3,(.ptr (H.length + 0) 0)),(4,(.ptr (H.length + 1) 0)),(5,(.ptr (H.length + 2) 0)),(9,.i r)] (H++[(.cells (A3 a0)),(.cells ((A23 Y3) a1)),(.cells ((A23 Y3) a2))]) e s' H') () ho12 rfl rfl (fun _ _=>rfl) (fun _=>rfl) rfl (fun s9=>(bdc (D8 rfl) (bdc (D8 rfl) (bdc (D8 rfl) (bdc A5 (bdc A5 bdn)))))) (fun q10 s9 ys9 hs9=>?_) ?_
  ·unfold A5n at hs9
   refine B8<|s0<|qm rfl<|A0 (C4 rfl) rfl<|A0 (C2 rfl rfl rfl) rfl<|A0 (F9 rfl rfl) rfl<|es (ra6 rfl rfl rfl rfl rfl rfl)<|wi hs9 rfl (fun hc11 hs9=>?_) fun hc11 hs9=>?_
   ·refine C1<|B8<|C6<|r0<|qm rfl<|A0 (C6p rfl rfl) rfl<|qm rfl<|en (ra5 rfl rfl rfl rfl rfl)<|r0<|qm rfl<|A0 (E1 rfl rfl) rfl<|qm rfl<|en (ra5 rfl rfl rfl rfl rfl) ?_
    cases hs9
    exact lnT () rfl (su5 rfl rfl rfl rfl rfl)
   ·refine E9 ?_
    obtain rfl:=os hs9
    exact lx rfl px (su4 rfl rfl rfl rfl)
  ·rintro e s' H' - ⟨rfl,rfl,rfl⟩
   refine s0<|oB h fun x13 hx13 h=>oB h fun x14 hx14 h=>oB h fun x15 hx15 h=>oB h fun x16 hx16 h=>oB h fun x17 hx17 h=>oB h fun x18 hx18 h=>A0 (X3 (e:=Ar3.l a1) rfl rfl rfl hx13) rfl<|A0 (V1 (f:=Y3) (g:=fun n=>(.lit (.int .u8 n))) (e:=Ar3.l a1) (fun _=>rfl) rfl (D9 rfl) rfl hx13) rfl<|A0 (A4z rfl) rfl<|A0 (C4 rfl) rfl<|A0 (C2 rfl rfl rfl) rfl<|A0 (D6 (f:=B3) rfl) rfl<|A0 (B8c rfl rfl hx14) rfl<|A0 (X3 (e:=Ar3.l a1) rfl rfl rfl hx15) rfl<|A0 (V1 (f:=Y3) (g:=fun n=>(.lit (.int .u8 n))) (e:=Ar3.l a1) (fun _=>rfl) rfl (D9 rfl) rfl hx15) rfl<|A0 (A4z rfl) rfl<|A0 (C4 rfl) rfl<|A0 (C2 rfl rfl rfl) rfl<|A0 (D6 (f:=C3) rfl) rfl<|A0 (B8c rfl rfl hx16) rfl<|A0 (X3 (e:=Ar3.l a1) rfl rfl rfl hx17) rfl<|A0 (V1 (f:=Y3) (g:=fun n=>(.lit (.int .u8 n))) (e:=Ar3.l a1) (fun _=>rfl) rfl (D9 rfl) rfl hx17) rfl<|A0 (A4z rfl) rfl<|qm rfl<|A0 (B8c rfl rfl hx18) rfl<|qm rfl<|qm rfl<|qm rfl<|es (ra5 rfl rfl rfl rfl rfl)<|s0<|oB h fun x19 hx19 h=>A0 (C0 rfl rfl rfl) rfl<|qm rfl<|qm rfl<|qm rfl<|B4 (rs:=[.i x19.1,.i x19.2]) rfl rfl (A1 (D1 rfl) (A1 rfl (A1 rfl (A1 rfl B5)))) ((A2b hx19).frz)<|qm rfl<|A0 (A7 rfl rfl) rfl<|A0 (A7 rfl rfl) rfl<|qm rfl<|qm rfl<|es (ra7 rfl rfl rfl rfl rfl rfl rfl)<|sg 3 rfl<|oB h fun x20 hx20 h=>A0 (C0 rfl rfl rfl) rfl<|qm rfl<|qm rfl<|B4 (rs:=[(.agg (D4 x20.1)),.i x20.2]) rfl rfl (A1 (D1 rfl) (A1 rfl (A1 rfl B5))) ((A3a hx20).frz)<|qm rfl<|A0 (A7 rfl rfl) rfl<|A0 (A7 rfl rfl) rfl<|A0 D5 rfl<|F2 (D0 (ds:=(D4 x20.1)) rfl rfl rfl rfl (B9 rfl) rfl) rfl<|qm rfl<|es (ra9 rfl rfl rfl rfl rfl rfl rfl rfl rfl)<|s0<|oB h fun x21 hx21 h=>oB h fun x22 hx22 h=>oB h fun x23 hx23 h=>oB h fun x24 hx24 h=>?_
   refine A0 (C0 rfl rfl rfl) rfl<|A0 (X3 (e:=Ar3.l a2) rfl rfl rfl hx21) rfl<|A0 (V1 (f:=Y3) (g:=fun n=>(.lit (.int .u8 n))) (e:=Ar3.l a2) (fun _=>rfl) rfl (D9 rfl) rfl hx21) rfl<|A0 (X3 (e:=Ar3.l a2) rfl rfl rfl hx22) rfl<|A0 (V1 (f:=Y3) (g:=fun n=>(.lit (.int .u8 n))) (e:=Ar3.l a2) (fun _=>rfl) rfl (D9 rfl) rfl hx22) rfl<|A0 (G3 (cs:=(A87 Y3) (Ar2.mk x21 x22)) rfl rfl) rfl<|B4 (rs:=[(.agg (A3 x23))]) rfl rfl (A1 (D1 rfl) (A1 (D1 rfl) B5)) ((B84 hx23).frz)<|qm rfl<|qm rfl<|qm rfl<|B4 (rs:=[.i x24.1,.i x24.2]) rfl rfl (A1 (D1 rfl) (A1 rfl (A1 rfl (A1 rfl B5)))) ((A2b hx24).frz)<|qm rfl<|A0 (A7 rfl rfl) rfl<|A0 (A7 rfl rfl) rfl<|qm rfl<|qm rfl<|es (ra11 rfl rfl rfl rfl rfl rfl rfl rfl rfl rfl rfl)<|B8<|s0<|qm rfl<|A0 (F7 rfl rfl) rfl<|qm rfl<|gp 3 113 (.b ((x19.2 != 0) || (x20.2 != 0))) 110 rfl rfl (fun hg25=>?_) (fun hg25=>?_) ?_
   ·exact nF rfl hg25 rfl<|nF rfl hg25 rfl<|A0 (C7 rfl hg25 rfl) rfl<|ge 3 (by rw [hg25]; rfl) rfl rfl
   ·exact gF rfl hg25<|qm rfl<|gF rfl hg25<|A0 (F7 rfl rfl) rfl<|A0 (C8 rfl hg25 rfl) rfl<|ge 3 (by rw [hg25]; rfl) rfl rfl
   refine qm rfl<|gp 3 117 (.b (((x19.2 != 0) || (x20.2 != 0)) || (x24.2 != 0))) 114 rfl rfl (fun hg26=>?_) (fun hg26=>?_) ?_
   ·exact nF rfl hg26 rfl<|nF rfl hg26 rfl<|A0 (C7 rfl hg26 rfl) rfl<|ge 3 (by rw [hg26]; rfl) rfl rfl
   ·exact gF rfl hg26<|qm rfl<|gF rfl hg26<|A0 (F7 rfl rfl) rfl<|A0 (C8 rfl hg26 rfl) rfl<|ge 3 (by rw [hg26]; rfl) rfl rfl
   refine qm rfl<|gp 6 124 (.b ((((x19.2 != 0) || (x20.2 != 0)) || (x24.2 != 0)) || (decide (x20.1.Lo > x20.1.Hi)))) 118 rfl rfl (fun hg27=>?_) (fun hg27=>?_) ?_
   ·exact nF rfl hg27 rfl<|nF rfl hg27 rfl<|nF rfl hg27 rfl<|nF rfl hg27 rfl<|nF rfl hg27 rfl<|A0 (C7 rfl hg27 rfl) rfl<|ge 6 (by rw [hg27]; rfl) rfl rfl
   ·exact gF rfl hg27<|A0 (C4 rfl) rfl<|gF rfl hg27<|A0 (C2 rfl rfl rfl) rfl<|gF rfl hg27<|A0 (C4 rfl) rfl<|gF rfl hg27<|A0 (C2 rfl rfl rfl) rfl<|gF rfl hg27<|A0 (A0a rfl rfl) rfl<|A0 (C8 rfl hg27 rfl) rfl<|ge 6 (by rw [hg27]; rfl) rfl rfl
   refine qm rfl<|gp 3 128 (.b (((((x19.2 != 0) || (x20.2 != 0)) || (x24.2 != 0)) || (decide (x20.1.Lo > x20.1.Hi))) || (decide (x19.1 < 0)))) 125 rfl rfl (fun hg28=>?_) (fun hg28=>?_) ?_
   ·exact nF rfl hg28 rfl<|nF rfl hg28 rfl<|A0 (C7 rfl hg28 rfl) rfl<|ge 3 (by rw [hg28]; rfl) rfl rfl
   ·exact gF rfl hg28<|qm rfl<|gF rfl hg28<|A0 (F9 rfl rfl) rfl<|A0 (C8 rfl hg28 rfl) rfl<|ge 3 (by rw [hg28]; rfl) rfl rfl
   refine qm rfl<|gp 3 132 (.b ((((((x19.2 != 0) || (x20.2 != 0)) || (x24.2 != 0)) || (decide (x20.1.Lo > x20.1.Hi))) || (decide (x19.1 < 0))) || (decide (x19.1 > 2)))) 129 rfl rfl (fun hg29=>?_) (fun hg29=>?_) ?_
   ·exact nF rfl hg29 rfl<|nF rfl hg29 rfl<|A0 (C7 rfl hg29 rfl) rfl<|ge 3 (by rw [hg29]; rfl) rfl rfl
   ·exact gF rfl hg29<|qm rfl<|gF rfl hg29<|A0 (A0a rfl rfl) rfl<|A0 (C8 rfl hg29 rfl) rfl<|ge 3 (by rw [hg29]; rfl) rfl rfl
   refine qm rfl<|gp 7 140 (.b (((((((x19.2 != 0) || (x20.2 != 0)) || (x24.2 != 0)) || (decide (x20.1.Lo > x20.1.Hi))) || (decide (x19.1 < 0))) || (decide (x19.1 > 2))) || ((x19.1 == 1) && (x24.1 != 1)))) 133 rfl rfl (fun hg30=>?_) (fun hg30=>?_) ?_
   ·exact nF rfl hg30 rfl<|nF rfl hg30 rfl<|nF rfl hg30 rfl<|nX rfl rfl<|nX rfl rfl<|nF rfl hg30 rfl<|A0 (C7 rfl hg30 rfl) rfl<|ge 7 (by rw [hg30]; rfl) rfl rfl
   ·refine gF rfl hg30<|qm rfl<|gF rfl hg30<|A0 (F5 rfl rfl) rfl<|gF rfl hg30<|qm rfl<|gq 3 139 (.b ((x19.1 == 1) && (x24.1 != 1))) 136 rfl rfl (fun hg31=>?_) (fun hg31=>?_) ?_
    ·exact gT rfl hg31<|qm rfl<|gT rfl hg31<|A0 (F7 rfl rfl) rfl<|gF rfl hg30<|A0 (C7 rfl hg31 rfl) rfl<|ge 3 (by rw [hg31]; rfl) rfl rfl
    ·exact nT rfl hg31 rfl<|nT rfl hg31 rfl<|gF rfl hg30<|A0 (C8 rfl hg31 rfl) rfl<|ge 3 (by rw [hg31]; rfl) rfl rfl
    exact A0 (C8 rfl hg30 rfl) rfl<|ge 5 (by rw [hg30]; rfl) rfl rfl
   refine qm rfl<|gp 7 148 (.b ((((((((x19.2 != 0) || (x20.2 != 0)) || (x24.2 != 0)) || (decide (x20.1.Lo > x20.1.Hi))) || (decide (x19.1 < 0))) || (decide (x19.1 > 2))) || ((x19.1 == 1) && (x24.1 != 1))) || ((x19.1 == 2) && (x24.1 != 2)))) 141 rfl rfl (fun hg32=>?_) (fun hg32=>?_) ?_
   ·exact nF rfl hg32 rfl<|nF rfl hg32 rfl<|nF rfl hg32 rfl<|nX rfl rfl<|nX rfl rfl<|nF rfl hg32 rfl<|A0 (C7 rfl hg32 rfl) rfl<|ge 7 (by rw [hg32]; rfl) rfl rfl
   ·refine gF rfl hg32<|qm rfl<|gF rfl hg32<|A0 (F5 rfl rfl) rfl<|gF rfl hg32<|qm rfl<|gq 3 147 (.b ((x19.1 == 2) && (x24.1 != 2))) 144 rfl rfl (fun hg33=>?_) (fun hg33=>?_) ?_
    ·exact gT rfl hg33<|qm rfl<|gT rfl hg33<|A0 (F7 rfl rfl) rfl<|gF rfl hg32<|A0 (C7 rfl hg33 rfl) rfl<|ge 3 (by rw [hg33]; rfl) rfl rfl
    ·exact nT rfl hg33 rfl<|nT rfl hg33 rfl<|gF rfl hg32<|A0 (C8 rfl hg33 rfl) rfl<|ge 3 (by rw [hg33]; rfl) rfl rfl
    exact A0 (C8 rfl hg32 rfl) rfl<|ge 5 (by rw [hg32]; rfl) rfl rfl
   refine es (ra8 rfl rfl rfl rfl rfl rfl rfl rfl)<|wi h rfl (fun hc34 h=>?_) fun hc34 h=>?_
   ·refine s0<|qm rfl<|es (ra1 rfl)<|C5 ?_
    obtain rfl:=os h
    exact retq trivial (A9 rfl B7) (A4 rfl B6) (A2 A5 B2)
   ·refine C1<|s0<|oB h fun x35 hx35 h=>oB h fun x36 hx36 h=>A0 (C0 rfl rfl rfl) rfl<|A0 (X3 (e:=Ar3.l a2) rfl rfl rfl hx35) rfl<|A0 (V1 (f:=Y3) (g:=fun n=>(.lit (.int .u8 n))) (e:=Ar3.l a2) (fun _=>rfl) rfl (D9 rfl) rfl hx35) rfl<|A0 (A4z rfl) rfl<|B4 (rs:=[.i x36]) rfl rfl (A1 (D1 rfl) (A1 rfl B5)) ((A4c hx36).frz)<|qm rfl<|es (ra7 rfl rfl rfl rfl rfl rfl rfl)<|s0<|oB h fun x37 hx37 h=>oB h fun x40 hx40 h=>qm rfl<|A0 (C4 rfl) rfl<|A0 (C2 rfl rfl rfl) rfl<|qm rfl<|A0 (E2 (f:=B3) rfl rfl hx37) rfl<|A0 (A20 (ds:=(List.drop 3 (B3 x37))) rfl rfl) rfl<|A0 (E4 rfl rfl) rfl<|A0 (A93 rfl rfl) rfl<|qm rfl<|gp 9 171 (.b x40) 162 rfl rfl (fun hg38=>?_) (fun hg38=>?_) ?_
    ·refine oB (bt hx40 hg38) fun x39 hx39 hx40=>?_
     obtain rfl:=os hx40
     exact gT rfl hg38<|qm rfl<|gT rfl hg38<|A0 (C4 rfl) rfl<|gT rfl hg38<|A0 (C2 rfl rfl rfl) rfl<|gT rfl hg38<|qm rfl<|gT rfl hg38<|A0 (E2 (f:=B3) rfl rfl hx39) rfl<|gT rfl hg38<|A0 (A20 (ds:=(List.drop 4 (B3 x39))) rfl rfl) rfl<|gT rfl hg38<|A0 (E4 rfl rfl) rfl<|gT rfl hg38<|A0 (B3x rfl rfl) rfl<|A0 (C7 rfl hg38 rfl) rfl<|ge 9 rfl rfl rfl
    ·obtain rfl:=os (bf hx40 hg38)
     exact nT rfl hg38 rfl<|nT rfl hg38 rfl<|nT rfl hg38 rfl<|nT rfl hg38 rfl<|nT rfl hg38 rfl<|nT rfl hg38 rfl<|nT rfl hg38 rfl<|nT rfl hg38 rfl<|A0 (C8 rfl hg38 rfl) rfl<|ge 9 rfl rfl rfl
    refine qm rfl<|es (ra6 rfl rfl rfl rfl rfl rfl)<|B8<|s0<|qm rfl<|A0 (F5 rfl rfl) rfl<|qm rfl<|gp 3 177 (.b ((x19.1 == 1) && (!x40))) 174 rfl rfl (fun hg41=>?_) (fun hg41=>?_) ?_
    ·exact gT rfl hg41<|qm rfl<|gT rfl hg41<|A0 (Q5 rfl) rfl<|A0 (C7 rfl hg41 rfl) rfl<|ge 3 (by rw [hg41]; rfl) rfl rfl
    ·exact nT rfl hg41 rfl<|nT rfl hg41 rfl<|A0 (C8 rfl hg41 rfl) rfl<|ge 3 (by rw [hg41]; rfl) rfl rfl
    refine qm rfl<|gp 6 184 (.b (((x19.1 == 1) && (!x40)) || ((x19.1 == 2) && x40))) 178 rfl rfl (fun hg42=>?_) (fun hg42=>?_) ?_
    ·exact nF rfl hg42 rfl<|nF rfl hg42 rfl<|nF rfl hg42 rfl<|nX rfl rfl<|nF rfl hg42 rfl<|A0 (C7 rfl hg42 rfl) rfl<|ge 6 (by rw [hg42]; rfl) rfl rfl
    ·refine gF rfl hg42<|qm rfl<|gF rfl hg42<|A0 (F5 rfl rfl) rfl<|gF rfl hg42<|qm rfl<|gq 2 183 (.b ((x19.1 == 2) && x40)) 181 rfl rfl (fun hg43=>?_) (fun hg43=>?_) ?_
     ·exact gT rfl hg43<|qm rfl<|gF rfl hg42<|A0 (C7 rfl hg43 rfl) rfl<|ge 2 (by rw [hg43]; rfl) rfl rfl
     ·exact nT rfl hg43 rfl<|gF rfl hg42<|A0 (C8 rfl hg43 rfl) rfl<|ge 2 (by rw [hg43]; rfl) rfl rfl
     exact A0 (C8 rfl hg42 rfl) rfl<|ge 5 (by rw [hg42]; rfl) rfl rfl
    refine es (ra5 rfl rfl rfl rfl rfl)<|wi h rfl (fun hc44 h=>?_) fun hc44 h=>?_
    ·refine s0<|qm rfl<|es (ra1 rfl)<|C5 ?_
     obtain rfl:=os h
     exact retq trivial (A9 rfl B7) (A4 rfl B6) (A2 A5 B2)
    ·refine C1<|B8<|s0<|qm rfl<|es (ra5 rfl rfl rfl rfl rfl)<|C6<|oB h fun o58 ho58 h=>wl (fun s45=>[(3,(.ptr (H.length + 0) 0)),(12,.i x16),(13,.i x18),(16,(.ptr (H.length + 3) 0)),(22,.i s45)]) (fun (q46:Unit) s45=>[(.cells (A3 a0)),(.cells ((A23 Y3) a1)),(.cells ((A23 Y3) a2)),(.cells (D4 x20.1))]) 4 (fun r e s' H'=>(match r with | (.inl v)=>e = .ret∧RetQ H [.tmp 6] [.b v] e s' H' | (.inr v)=>PX 2 [] (H++[(.cells (A3 a0)),(.cells ((A23 Y3) a1)),(.cells ((A23 Y3) a2)),(.cells (D4 x20.1))]) e s' H':Prop)) () ho58 rfl rfl (fun _ _=>rfl) (fun _=>rfl) rfl (fun s45=>(bdc (D8 rfl) (bdc A5 (bdc A5 (bdc (D8 rfl) (bdc A5 bdn)))))) (fun q46 s45 ys45 hs45=>?_) ?_
     ·unfold A0r at hs45
      refine B8<|s0<|qm rfl<|A0 (C4 rfl) rfl<|A0 (C2 rfl rfl rfl) rfl<|A0 (F9 rfl rfl) rfl<|es (ra6 rfl rfl rfl rfl rfl rfl)<|wi hs45 rfl (fun hc47 hs45=>?_) fun hc47 hs45=>?_
      ·refine C1<|B8<|C6<|B8<|s0<|oB hs45 fun x48 hx48 hs45=>qm rfl<|qm rfl<|B4 (rs:=[.b x48]) rfl rfl (A1 rfl (A1 rfl B5)) ((A5v hx48).frz)<|es (ra6 rfl rfl rfl rfl rfl rfl)<|wi hs45 rfl (fun hc49 hs45=>?_) fun hc49 hs45=>?_
       ·refine E9<|r0<|qm rfl<|A0 (E1 rfl rfl) rfl<|qm rfl<|en (ra5 rfl rfl rfl rfl rfl) ?_
        cases hs45
        exact lnT () rfl (su5 rfl rfl rfl rfl rfl)
       ·refine C1<|s0<|qm rfl<|es (ra6 rfl rfl rfl rfl rfl rfl)<|B8<|s0<|qm rfl<|es (ra7 rfl rfl rfl rfl rfl rfl rfl)<|C6<|oB hs45 fun o53 ho53 hs45=>wl (fun s50=>[(3,(.ptr (H.length + 0) 0)),(12,.i x16),(13,.i x18),(16,(.ptr (H.length + 3) 0)),(22,.i s45),(23,.i s50.1),(24,.i s50.2)]) (fun (q51:Unit) s50=>[(.cells (A3 a0)),(.cells ((A23 Y3) a1)),(.cells ((A23 Y3) a2)),(.cells (D4 x20.1))]) 4 (fun r e s' H'=>PX 4 [(3,(.ptr (H.length + 0) 0)),(12,.i x16),(13,.i x18),(16,(.ptr (H.length + 3) 0)),(22,.i s45),(23,.i r)] (H++[(.cells (A3 a0)),(.cells ((A23 Y3) a1)),(.cells ((A23 Y3) a2)),(.cells (D4 x20.1))]) e s' H') () ho53 rfl rfl (fun _ _=>rfl) (fun _=>rfl) rfl (fun s50=>(bdc (D8 rfl) (bdc A5 (bdc A5 (bdc (D8 rfl) (bdc A5 (bdc A5 (bdc A5 bdn)))))))) (fun q51 s50 ys50 hs50=>?_) ?_
        ·unfold V6 at hs50
         refine B8<|s0<|qm rfl<|qm rfl<|A0 (F9 rfl rfl) rfl<|es (ra8 rfl rfl rfl rfl rfl rfl rfl rfl)<|wi hs50 rfl (fun hc52 hs50=>?_) fun hc52 hs50=>?_
         ·refine C1<|B8<|C6<|r0<|qm rfl<|A0 (C6p rfl rfl) rfl<|qm rfl<|en (ra7 rfl rfl rfl rfl rfl rfl rfl)<|r0<|qm rfl<|A0 (E1 rfl rfl) rfl<|qm rfl<|en (ra7 rfl rfl rfl rfl rfl rfl rfl) ?_
          cases hs50
          exact lnT () rfl (su7 rfl rfl rfl rfl rfl rfl rfl)
         ·refine E9 ?_
          obtain rfl:=os hs50
          exact lx rfl px (su6 rfl rfl rfl rfl rfl rfl)
        ·rintro e s' H' - ⟨rfl,rfl,rfl⟩
         refine sg 4 rfl<|oB hs45 fun x54 hx54 hs45=>A0 (C0 rfl rfl rfl) rfl<|qm rfl<|qm rfl<|qm rfl<|A0 (E1 rfl rfl) rfl<|B4 (rs:=[(.agg (D4 x54.1)),.i x54.2]) rfl rfl (A1 (D1 rfl) (A1 rfl (A1 rfl B5))) ((A3a hx54).frz)<|qm rfl<|A0 (A7 rfl rfl) rfl<|A0 (A7 rfl rfl) rfl<|A0 D5 rfl<|F2 (D0 (ds:=(D4 x54.1)) rfl rfl rfl rfl (B9 rfl) rfl) rfl<|qm rfl<|es (ra7 rfl rfl rfl rfl rfl rfl rfl)<|s0<|qm rfl<|A0 (F7 rfl rfl) rfl<|qm rfl<|gp 6 218 (.b ((x54.2 != 0) || (decide (x54.1.Lo < x20.1.Lo)))) 212 rfl rfl (fun hg55=>?_) (fun hg55=>?_) ?_
         ·exact nF rfl hg55 rfl<|nF rfl hg55 rfl<|nF rfl hg55 rfl<|nF rfl hg55 rfl<|nF rfl hg55 rfl<|A0 (C7 rfl hg55 rfl) rfl<|ge 6 (by rw [hg55]; rfl) rfl rfl
         ·exact gF rfl hg55<|A0 (C4 rfl) rfl<|gF rfl hg55<|A0 (C2 rfl rfl rfl) rfl<|gF rfl hg55<|A0 (C4 rfl) rfl<|gF rfl hg55<|A0 (C2 rfl rfl rfl) rfl<|gF rfl hg55<|A0 (F9 rfl rfl) rfl<|A0 (C8 rfl hg55 rfl) rfl<|ge 6 (by rw [hg55]; rfl) rfl rfl
         refine qm rfl<|gp 6 225 (.b (((x54.2 != 0) || (decide (x54.1.Lo < x20.1.Lo))) || (decide (x54.1.Hi < x20.1.Hi)))) 219 rfl rfl (fun hg56=>?_) (fun hg56=>?_) ?_
         ·exact nF rfl hg56 rfl<|nF rfl hg56 rfl<|nF rfl hg56 rfl<|nF rfl hg56 rfl<|nF rfl hg56 rfl<|A0 (C7 rfl hg56 rfl) rfl<|ge 6 (by rw [hg56]; rfl) rfl rfl
         ·exact gF rfl hg56<|A0 (C4 rfl) rfl<|gF rfl hg56<|A0 (C2 rfl rfl rfl) rfl<|gF rfl hg56<|A0 (C4 rfl) rfl<|gF rfl hg56<|A0 (C2 rfl rfl rfl) rfl<|gF rfl hg56<|A0 (F9 rfl rfl) rfl<|A0 (C8 rfl hg56 rfl) rfl<|ge 6 (by rw [hg56]; rfl) rfl rfl
         refine es (ra6 rfl rfl rfl rfl rfl rfl)<|wi hs45 rfl (fun hc57 hs45=>?_) fun hc57 hs45=>?_
         ·refine s0<|qm rfl<|es (ra1 rfl)<|C5 ?_
          obtain rfl:=os hs45
          exact lx rfl (And.intro rfl (retq trivial (A9 rfl B7) (A4 rfl B6) (A2 A5 B2))) (Sub.refl _)
         ·refine C1<|r0<|qm rfl<|A0 (E1 rfl rfl) rfl<|qm rfl<|en (ra5 rfl rfl rfl rfl rfl) ?_
          cases hs45
          exact lnT () rfl (su5 rfl rfl rfl rfl rfl)
      ·refine E9 ?_
       obtain rfl:=os hs45
       exact lx rfl px (.nil _)
     ·rcases o58 with vo58_0 | vo58_1
      ·rintro e s' H' - ⟨rfl,hret⟩
       cases h
       exact hret
      ·rintro e s' H' - ⟨rfl,rfl,rfl⟩
       refine s0<|oB h fun x59 hx59 h=>B4 (rs:=[.b x59]) rfl rfl B5 ((J1 (A22 hscv) hx59).frz)<|qm rfl<|es (ra1 rfl)<|C5 ?_
       obtain rfl:=os h
       exact retq trivial (A9 rfl B7) (A4 rfl B6) (A2 A5 B2)
end Rm
end
section
namespace Rm
open Go Am
def B1x (h:RoHouse) (w:Span):RoHouse:=⟨w,h.Stoves,h.Holds,h.Places,h.Figures,h.Bill⟩
theorem C60 {h:RoHouse} (e0:(check h).2.2 = 0) {w:Span} (hw:-100≤w.Lo∧w.Lo≤w.Hi∧w.Hi≤100):(check (B1x h w)).2.2 = 0:= by
 have s1:J9 (-100) 100 h.Weather = 0:= by
  by_cases c:J9 (-100) 100 h.Weather = 0
  ·exact c
  ·unfold check at e0
   rw [if_pos (bne_iff_ne.mpr c)] at e0
   exact absurd e0 c
 have s2:J9 (-100) 100 w = 0:= by
  unfold J9
  rw [L4.mpr (show -100≤w.Lo∧w.Lo≤100 by omega),L4.mpr (show -100≤w.Hi∧w.Hi≤100 by omega),if_neg (by decide),if_neg (by omega)]
 have e2:(check (B1x h w)).2.2 = (check h).2.2:= by
  unfold check
  rw [if_neg (show ¬ (J9 (-100) 100 h.Weather != 0) = true by rw [s1]; decide),if_neg (show ¬ (J9 (-100) 100 (B1x h w).Weather != 0) = true by show ¬ (J9 (-100) 100 w != 0) = true; rw [s2]; decide)]
  rfl
 rw [e2,e0]
theorem B5a {h:RoHouse} {p l:Nat} (hp:p < h.Places.length) (hl:l < 2 ^ h.Stoves.toNat):A4j h (p:Int) (l:Int) = 0:= by
 unfold A4j
 rw [L4.mpr (show 0≤(p:Int)∧(p:Int)≤(h.Places.length:Int) - 1 by omega),L4.mpr (show 0≤(l:Int)∧(l:Int)≤((2 ^ h.Stoves.toNat:Nat):Int) - 1 by omega),if_neg (by decide),if_neg (by decide)]
theorem C3g {h:RoHouse} (hb:NB h) (e0:(check h).2.2 = 0) {p l:Nat} (hp:p < h.Places.length) (hl:l < 2 ^ h.Stoves.toNat):V4 h (p:Int) (l:Int) = some (warm h p l,0):= by
 have ok:=Q9 e0
 unfold V4
 rw [U9 h hb]
 simp only [Option.bind_some]
 rw [if_pos (by simp [e0]),B12 ok,B5a hp hl,B3r ok hp (lit16 ok hl)]; rfl
theorem D0i {h:RoHouse} (hb:NB h) (e0:(check h).2.2 = 0) {f p l:Nat} (hf:f < h.Figures.length) (hp:p < h.Places.length) (hl:l < 2 ^ h.Stoves.toNat):U4 h (f:Int) (p:Int) (l:Int) = some (L6 (warm h p l) h.Figures[f]!,0):= by
 have ok:=Q9 e0
 have h5:=ok.figures
 unfold U4
 rw [U9 h hb]
 simp only [Option.bind_some]
 rw [if_neg (by simp [e0]),E0 (by omega),beyond1,L4.mpr (show 0≤(f:Int)∧(f:Int)≤(h.Figures.length:Int) - 1 by omega)]
 simp only [Option.bind_some,Bool.false_eq_true,if_false]
 rw [B12 ok,B5a hp hl,B9j ok hf hp (lit16 ok hl)]; rfl
theorem B40 (w:Span) (ws:List Span) (l:Nat):∀n,(J4 w ws l n).Lo = w.Lo + (J4 ⟨0,0⟩ ws l n).Lo∧(J4 w ws l n).Hi = w.Hi + (J4 ⟨0,0⟩ ws l n).Hi
 | 0=>⟨(Int.add_zero _).symm,(Int.add_zero _).symm⟩
 | n + 1=>by
  have ih:=B40 w ws l n
  have e1:∀v,J4 v ws l (n + 1) = if bit l n then B0r (J4 v ws l n) ws[n]! else J4 v ws l n:=fun v=>rfl
  rw [e1,e1]
  cases bit l n
  ·exact ih
  ·rw [if_pos rfl,if_pos rfl]
   unfold B0r
   simp only []
   omega
theorem B81 {h:RoHouse} {p:RoPlace} (hp:PlOk h p) (w:Span) {l m:Nat} (hlm:∀s,bit l s = true→bit m s = true):∀n,n≤p.Warms.length→(J4 w p.Warms l n).Lo≤(J4 w p.Warms m n).Lo∧(J4 w p.Warms l n).Hi≤(J4 w p.Warms m n).Hi
 | 0,_=>⟨Int.le_refl _,Int.le_refl _⟩
 | n + 1,hn=>by
  have ih:=B81 hp w hlm n (by omega)
  have hg:=hp.warms _ (G2 (show n < p.Warms.length by omega))
  have e1:∀v,J4 w p.Warms v (n + 1) = if bit v n then B0r (J4 w p.Warms v n) p.Warms[n]! else J4 w p.Warms v n:=fun v=>rfl
  rw [e1,e1]
  cases hl:bit l n with
  | true =>
   rw [hlm n hl,if_pos rfl,if_pos rfl]
   unfold B0r
   simp only []
   omega
  | false =>
   rw [if_neg (by decide)]
   cases bit m n
   ·rw [if_neg (by decide)]; exact ih
   ·rw [if_pos rfl]
    unfold B0r
    simp only []
    omega
theorem D1x:∀n:Nat,n < 4→∀ l:Nat,l < 2 ^ n→∀ s:Nat,s < n→bit l s = false→l + 2 ^ s < 2 ^ n:= by decide +kernel
theorem D1y:∀s:Nat,s < 4→∀ t:Nat,t < 4→∀ l:Nat,l < 16→(!bit l s && bit l t && !bit (l + 2 ^ s) t) = false:= by decide +kernel
theorem D6k {l s:Nat} (hl:l < 16) (hs:4≤s):bit l s = false:= by
 unfold bit
 have:l / 2 ^ s = 0:=Nat.div_eq_of_lt (Nat.lt_of_lt_of_le hl (show 2 ^ 4≤2 ^ s from Nat.pow_le_pow_right (show 0 < 2 by decide) hs))
 rw [this]; rfl
theorem B6e (w:Span) (hw:-400≤w.Lo∧w.Lo≤w.Hi∧w.Hi≤400) {n:Int} (hn:0≤n):∃d,A19 w n = some d∧w.Lo≤d∧d≤w.Hi:= by
 unfold A19
 rw [E0 (n:=w.Hi - w.Lo) (by omega),E0 (by omega)]
 obtain ⟨r,e1,r0,r1⟩:=A9l (a:=n) (b:=w.Hi - w.Lo + 1) hn (by omega)
 rw [e1]
 simp only [Option.bind_some]
 rw [E0 (by omega)]
 exact ⟨_,rfl,by omega,by omega⟩
theorem D1v {h:RoHouse} (ok:HOk h) {a b:Int} (ha:0≤a∧a < 256) (hb:0≤b∧b < 256):∃w,A5q h ⟨a,b⟩ = some (B1x h w)∧h.Weather.Lo≤w.Lo∧w.Lo≤w.Hi∧w.Hi≤h.Weather.Hi:= by
 have hw:=ok.w
 unfold A5q
 obtain ⟨lo,e1,l0,l1⟩:=B6e h.Weather (by omega) ha.1
 obtain ⟨hi,e2,h0,h1⟩:=B6e ⟨lo,h.Weather.Hi⟩ (by simp only []; omega) hb.1
 have i0:idx (Ar2.l (⟨a,b⟩:Ar2 Int)) 0 = some a:=rfl
 have i1:idx (Ar2.l (⟨a,b⟩:Ar2 Int)) 1 = some b:=rfl
 rw [i0]
 simp only [Option.bind_some]
 rw [E0 (n:=a) (by omega),e1]
 simp only [Option.bind_some]
 have es:∀x y,S7 x y = some ⟨x,y⟩:=fun _ _=>rfl
 rw [es,i1]
 simp only [Option.bind_some]
 rw [E0 (n:=b) (by omega),e2]
 simp only [Option.bind_some]
 rw [es]
 exact ⟨⟨lo,hi⟩,rfl,l0,h0,h1⟩
theorem C24 {h:RoHouse} (hb:NB h) {x:Ar3 Int} (qx:(0≤x.x0∧x.x0 < 256)∧(0≤x.x1∧x.x1 < 256)∧(0≤x.x2∧x.x2 < 256)) {y:Ar3 Int} (qy:(0≤y.x0∧y.x0 < 256)∧(0≤y.x1∧y.x1 < 256)∧(0≤y.x2∧y.x2 < 256)):A5m h x y = some true:= by
 unfold A5m
 rw [B61]
 simp only [Option.bind_some]
 by_cases c0:(check h).2.2 = 0∧h.Figures.length ≠ 0∧h.Places.length ≠ 0
 ·obtain ⟨e0,hfn,hpn⟩:=c0
  have ok:=Q9 e0
  have hf5:=ok.figures
  have hp5:=ok.places
  have hpw:=A5w ok
  have hs:=ok.s
  have hw:=ok.w
  rw [if_neg (by rw [e0]; simp only [beq_self_eq_true,Bool.not_true,Bool.false_or,Bool.or_eq_true,beq_iff_eq]; omega),C4y ok (b:=A5n h) (fun _=>rfl)]
  have i0:idx (Ar3.l x) 0 = some x.x0:=rfl
  have i1:idx (Ar3.l x) 1 = some x.x1:=rfl
  have i2:idx (Ar3.l x) 2 = some x.x2:=rfl
  have j0:idx (Ar3.l y) 0 = some y.x0:=rfl
  have j1:idx (Ar3.l y) 1 = some y.x1:=rfl
  have j2:idx (Ar3.l y) 2 = some y.x2:=rfl
  rw [i0,i1,i2,j0,j1,j2]
  simp only [Option.bind_some]
  obtain ⟨f,e1,f0,f1⟩:=A9l (a:=x.x0) (b:=(h.Figures.length:Int)) qx.1.1 (by omega)
  obtain ⟨p,e2,p0,p1⟩:=A9l (a:=x.x1) (b:=(h.Places.length:Int)) qx.2.1.1 (by omega)
  obtain ⟨l,e3,l0,l1⟩:=A9l (a:=x.x2) (b:=((2 ^ h.Stoves.toNat:Nat):Int)) qx.2.2.1 (by omega)
  rw [E0 (n:=x.x0) (by omega),E0 (n:=x.x1) (by omega),E0 (n:=x.x2) (by omega),e1]
  simp only [Option.bind_some]
  rw [e2]
  simp only [Option.bind_some]
  rw [e3]
  simp only [Option.bind_some]
  obtain ⟨f',rfl⟩:∃f':Nat,f = f':=⟨f.toNat,by omega⟩
  obtain ⟨p',rfl⟩:∃p':Nat,p = p':=⟨p.toNat,by omega⟩
  obtain ⟨l',rfl⟩:∃l':Nat,l = l':=⟨l.toNat,by omega⟩
  have hf:f' < h.Figures.length:= by omega
  have hp:p' < h.Places.length:= by omega
  have hl:l' < 2 ^ h.Stoves.toNat:= by omega
  have hl16:=lit16 ok hl
  obtain ⟨w,eb,w0,w1,w2⟩:=D1v ok qy.1 qy.2.1
  have eb0:=C60 e0 (w:=w) (by omega)
  rw [D0i hb e0 hf hp hl,C3g hb e0 hp hl,eb]
  simp only [Option.bind_some]
  rw [D0i (h:=B1x h w) hb eb0 hf hp hl]
  simp only [Option.bind_some]
  have wb:=A9n ok hp l'
  have fb:=(ok.figure _ (G2 hf)).bears
  have g1:(warm (B1x h w) p' l').Lo = w.Lo + (J4 ⟨0,0⟩ h.Places[p']!.Warms l' h.Stoves.toNat).Lo∧(warm (B1x h w) p' l').Hi = w.Hi + (J4 ⟨0,0⟩ h.Places[p']!.Warms l' h.Stoves.toNat).Hi:=B40 w h.Places[p']!.Warms l' h.Stoves.toNat
  have g2:(warm h p' l').Lo = h.Weather.Lo + (J4 ⟨0,0⟩ h.Places[p']!.Warms l' h.Stoves.toNat).Lo∧(warm h p' l').Hi = h.Weather.Hi + (J4 ⟨0,0⟩ h.Places[p']!.Warms l' h.Stoves.toNat).Hi:=B40 h.Weather h.Places[p']!.Warms l' h.Stoves.toNat
  have wb2:=A9n (Q9 eb0) hp l'
  have hfig:(B1x h w).Figures[f']! = h.Figures[f']!:=rfl
  rw [hfig]
  have n1:L6 (warm h p' l') h.Figures[f']! = 1→L6 (warm (B1x h w) p' l') h.Figures[f']! = 1:= by
   unfold L6
   by_cases c:h.Figures[f']!.Cracks≤(warm h p' l').Lo∧(warm h p' l').Hi≤h.Figures[f']!.Slumps
   ·intro _; rw [if_pos (by omega)]
   ·rw [if_neg c]; intro q; split at q <;> exact absurd q (by decide)
  have n2:L6 (warm h p' l') h.Figures[f']! = 2→L6 (warm (B1x h w) p' l') h.Figures[f']! = 2:= by
   unfold L6
   by_cases c:h.Figures[f']!.Cracks≤(warm h p' l').Lo∧(warm h p' l').Hi≤h.Figures[f']!.Slumps
   ·rw [if_pos c]; intro q; exact absurd q (by decide)
   ·rw [if_neg c]
    by_cases c2:h.Figures[f']!.Cracks > (warm h p' l').Hi∨(warm h p' l').Lo > h.Figures[f']!.Slumps
    ·intro _; rw [if_neg (by omega),if_pos (by omega)]
    ·rw [if_neg c2]; intro q; exact absurd q (by decide)
  have n3:0≤L6 (warm h p' l') h.Figures[f']!∧L6 (warm h p' l') h.Figures[f']!≤2:= by
   unfold L6
   split
   ·omega
   ·split <;> omega
  have hcond:((((((((((0:Int) != 0) || ((0:Int) != 0)) || ((0:Int) != 0)) || (decide ((warm h p' l').Lo > (warm h p' l').Hi))) || (decide (L6 (warm h p' l') h.Figures[f']! < 0))) || (decide (L6 (warm h p' l') h.Figures[f']! > 2))) || ((L6 (warm h p' l') h.Figures[f']! == 1) && (L6 (warm (B1x h w) p' l') h.Figures[f']! != 1))) || ((L6 (warm h p' l') h.Figures[f']! == 2) && (L6 (warm (B1x h w) p' l') h.Figures[f']! != 2)))) = false:= by
   rw [decide_eq_false (show ¬ (warm h p' l').Lo > (warm h p' l').Hi by omega),decide_eq_false (show ¬ L6 (warm h p' l') h.Figures[f']! < 0 by omega),decide_eq_false (show ¬ L6 (warm h p' l') h.Figures[f']! > 2 by omega)]
   by_cases d1:L6 (warm h p' l') h.Figures[f']! = 1
   ·rw [n1 d1,d1]; rfl
   ·by_cases d2:L6 (warm h p' l') h.Figures[f']! = 2
    ·rw [n2 d2,d2]; rfl
    ·rw [beq_eq_false_iff_ne.mpr d1,beq_eq_false_iff_ne.mpr d2]; rfl
  rw [hcond]
  simp only [Bool.false_eq_true,if_false]
  obtain ⟨d,ed,d0,d1⟩:=B6e (warm h p' l') (by omega) qy.2.2.1
  rw [E0 (n:=y.x2) (by omega),ed]
  simp only [Option.bind_some]
  rw [F1 hf]
  simp only [Option.bind_some]
  have hbears:(if decide (d ≥ h.Figures[f']!.Cracks) = true then some (decide (d≤h.Figures[f']!.Slumps)) else some false) = some (decide (h.Figures[f']!.Cracks≤d) && decide (d≤h.Figures[f']!.Slumps)):= by
   by_cases c:d ≥ h.Figures[f']!.Cracks
   ·rw [if_pos (by rw [decide_eq_true_eq]; exact c),decide_eq_true (show h.Figures[f']!.Cracks≤d from c)]; rfl
   ·rw [if_neg (by rw [decide_eq_true_eq]; exact c),decide_eq_false (show ¬ h.Figures[f']!.Cracks≤d from c)]; rfl
  rw [hbears]
  simp only [Option.bind_some]
  have hc2:((L6 (warm h p' l') h.Figures[f']! == 1) && (!(decide (h.Figures[f']!.Cracks≤d) && decide (d≤h.Figures[f']!.Slumps))) || ((L6 (warm h p' l') h.Figures[f']! == 2) && (decide (h.Figures[f']!.Cracks≤d) && decide (d≤h.Figures[f']!.Slumps)))) = false:= by
   unfold L6
   by_cases c:h.Figures[f']!.Cracks≤(warm h p' l').Lo∧(warm h p' l').Hi≤h.Figures[f']!.Slumps
   ·rw [if_pos c,decide_eq_true (show h.Figures[f']!.Cracks≤d by omega),decide_eq_true (show d≤h.Figures[f']!.Slumps by omega)]; rfl
   ·rw [if_neg c]
    by_cases c2:h.Figures[f']!.Cracks > (warm h p' l').Hi∨(warm h p' l').Lo > h.Figures[f']!.Slumps
    ·rw [if_pos c2]
     rcases c2 with c2 | c2
     ·rw [decide_eq_false (show ¬ h.Figures[f']!.Cracks≤d by omega)]; rfl
     ·rw [decide_eq_false (show ¬ d≤h.Figures[f']!.Slumps by omega),Bool.and_false]; rfl
    ·rw [if_neg c2]; rfl
  rw [hc2]
  simp only [Bool.false_eq_true,if_false]
  rw [A8h (b:=A0r h (p':Int) (l':Int) (warm h p' l',0)) h.Stoves.toNat (fun _=>true) (by omega) (fun s hs'=>by
   unfold A0r
   rw [if_pos (by rw [decide_eq_true_eq]; omega),A8v hl16 (by omega)]
   simp only [Option.bind_some]
   cases hbit:bit l' s with
   | true=>rfl
   | false =>
    simp only [Bool.false_eq_true,if_false]
    have lb:=G9 (b:=V6 (s:Int)) (fun i=>(((2 ^ i:Nat):Int),(i:Int))) s (r:=((2 ^ s:Nat):Int)) (by omega) (fun i hi=>by
     unfold V6
     simp only []
     have hpp:2 ^ i≤16:=Nat.le_trans (Nat.pow_le_pow_right (by decide) (show i≤4 by omega)) (by decide)
     rw [if_pos (by simpa using hi),Nat.pow_succ]
     generalize 2 ^ i = q at hpp ⊢
     rw [E0 (by omega),E0 (by omega)]
     congr 3
     omega) (by
     unfold V6
     simp only []
     rw [if_neg (by simp)])
    have lb:loop (V6 (s:Int)) (1,0) = some ((2 ^ s:Nat):Int):=lb
    rw [lb]
    simp only [Option.bind_some]
    have m1:=D1x h.Stoves.toNat (by omega) l' hl s hs' hbit
    have m2:∀t:Nat,t < 4→bit l' t = true→bit (l' + 2 ^ s) t = true:=fun t ht hbt=>by
     have:=D1y s (by omega) t ht l' hl16
     rw [hbit,hbt] at this
     simpa using this
    generalize 2 ^ s = q at m1 m2 ⊢
    rw [E0 (by omega),show (l':Int) + ((q:Nat):Int) = ((l' + q:Nat):Int) by omega,C3g hb e0 hp m1]
    simp only [Option.bind_some]
    have mm:=B81 (ok.place _ (G2 hp)) h.Weather (l:=l') (m:=l' + q) (fun t ht=>by
     by_cases c:t < 4
     ·exact m2 t c ht
     ·rw [D6k hl16 (by omega)] at ht; cases ht) h.Stoves.toNat (by rw [A72 ok hp]; exact Nat.le_refl _)
    have mm:(warm h p' l').Lo≤(warm h p' (l' + q)).Lo∧(warm h p' l').Hi≤(warm h p' (l' + q)).Hi:=mm
    rw [if_neg (by simp only [bne_self_eq_false,Bool.false_or,Bool.or_eq_true,decide_eq_true_eq]; omega)]; rfl) (by
   unfold A0r
   rw [if_neg (by rw [decide_eq_true_eq]; omega)])]
  have hall:(List.range h.Stoves.toNat).all (fun _=>true) = true:= by simp
  rw [hall,Q6]; rfl
 ·have hcond:(((!((check h).2.2 == 0)) || ((h.Figures.length:Int) == 0)) || ((h.Places.length:Int) == 0)) = true:= by
   by_cases e0:(check h).2.2 = 0
   ·by_cases e1:h.Figures.length = 0
    ·rw [e1]; simp
    ·have:h.Places.length = 0:=Classical.byContradiction fun q=>c0 ⟨e0,e1,q⟩
     rw [this]; simp
   ·rw [beq_eq_false_iff_ne.mpr e0]; rfl
  rw [if_pos hcond]
  have key:∃z,U4 h 0 0 0 = some z∧z.2 ≠ 0:= by
   unfold U4
   rw [U9 h hb]
   simp only [Option.bind_some]
   by_cases e0:(check h).2.2 = 0
   ·have ok:=Q9 e0
    have h5:=ok.figures
    rw [if_neg (by simp [e0]),E0 (by omega),beyond1]
    simp only [Option.bind_some]
    cases ho:out 0 ((h.Figures.length:Int) - 1) 0 with
    | true=>exact ⟨_,rfl,by decide⟩
    | false =>
     have bo:=L4.mp ho
     have hz:h.Places.length = 0:=Classical.byContradiction fun q=>c0 ⟨e0,by omega,q⟩
     simp only [Bool.false_eq_true,if_false]
     rw [B12 ok]
     have:A4j h 0 0 = 4:= by
      unfold A4j
      have:out 0 ((h.Places.length:Int) - 1) 0 = true:= by
       cases ho:out 0 ((h.Places.length:Int) - 1) 0 with
       | true=>rfl
       | false=>have:=L4.mp ho; omega
      rw [this]; rfl
     rw [this]
     exact ⟨_,rfl,by decide⟩
   ·rw [if_pos (bne_iff_ne.mpr e0)]
    exact ⟨_,rfl,e0⟩
  obtain ⟨z,ez,hz⟩:=key
  rw [ez]
  simp only [Option.bind_some]
  rw [if_pos (bne_iff_ne.mpr hz),Q6]; rfl
end Rm
end
