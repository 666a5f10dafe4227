/- Texts that the claim stands on, one behind another. -/
import Derived.Test.YtbheamjhjgoccaaDoorA7
set_option linter.unusedVariables false
set_option linter.unusedSimpArgs false
set_option linter.unnecessarySimpa false
section
set_option maxRecDepth 100000
set_option maxHeartbeats 0
namespace Rm
open Go Am Go.Proofs.YtbheamjhjgoccaaDoor.Cd
def A57  (x2:room_plan) (s3:Unit):Option (Unit ⊕ Unit) :=
 some (.inr ())
def A8x (a0:room_house):Option Bool :=
 (A7s a0 Unit Unit A57 ()).bind fun (o4:(Unit ⊕ Unit)) =>
 match o4 with
 | (.inl vo4_5) =>
  some false
 | (.inr vo4_6) =>
  some true
theorem B6c {c:Sc} {H:A6} (hscv:Z6 c H = true) (hcl:clH H.length H = true) {a0:room_house} {b0:Nat} (hb0:hcells H b0 = some [.i a0.RoHouse.Weather.Lo,.i a0.RoHouse.Weather.Hi,.i a0.RoHouse.Stoves,(.seq 1 (List.map cI a0.RoHouse.Holds)),(.seq 4 (List.map C3 a0.RoHouse.Places)),(.seq 6 (List.map B3 a0.RoHouse.Figures)),(.seq 1 (List.map cI a0.RoHouse.Bill)),(.xseq 2 [[.b false,(.fn (.func 112) [] [])],[.b true,(.fn (.func 113) [] [])]])]) {r:Bool} (h:A8x a0 = some r) :
  E7 tab c H (.fn (.func 97) [] []) [.ptr b0 0] [.b r]:= by
 unfold A8x at h
 refine cE rfl rfl<|sg 0 rfl<|A0 D5 rfl<|es (ra2 rfl rfl)<|B8<|s0<|qm rfl<|P5 (as2:=[.ptr b0 0]) (H1:=(H++[(.cells (cB false))])) rfl rfl (A1 rfl B5) rfl rfl rfl (V9 rfl)<|sg 1 rfl<|A0 (E8 (cs:=[.ptr b0 0]) rfl rfl rfl) rfl<|qm rfl<|es (ra1 rfl)<|s0<|A0 (A7f rfl rfl) rfl<|qm rfl<|es (ra1 rfl)<|C5<|InlQ.mk trivial ⟨_,_,_,[(.fn (.func 116) [] [(.ptr (H.length + 1) 0)])],_,(A9 rfl B7),(A4 rfl B6),(X2 (N5 (B9y (N5 (X0 rfl)))) (D3 rfl J3)),?_⟩
 refine es (ra2 rfl rfl)<|C6<|oB h fun o4 ho4 h=>?_
 have hb0_lt:=A3q hb0
 refine C6c (σ:=Unit) (ρ:=Unit) (k:=2) (ea:=(fun (x2:room_plan)=>(.agg (A8 x2)))) (body:=A57) (pre:=fun H1=>hcells H1 (H.length + 1) = some [.ptr b0 0]∧hcells H1 b0 = some (B7l a0)) (C1p (t:=a0) (b1:=H.length + 1) (bt:=b0)) B3e [(2,(.ptr (H.length + 0) 0))] (fun s3=>[(.cells (cB false)),(.cells [.ptr b0 0])]) (fun (vo4_6:Unit)=>[(.cells (cB true)),(.cells [.ptr b0 0])]) (fun _=>.ret) ho4 (fun _=>rfl) rfl (fun S hS=>Q4 (live:=[2]) rfl (by decide) (Sub.trans (su1 rfl) hS)) rfl (fun _=>rfl) (fun _=>rfl) hcl (by rw [Bool.and_eq_true,Bool.and_eq_true]; exact ⟨⟨by kernel_rfl,by kernel_rfl⟩,(by simp [clH,clS,AO.cl,AV.cl,clL,clM,clR,A3m,A87,A23,A5i,N2,cI,cB,cS,J5,freeL,AV.free,freeR,Nat.blt,S3,A4l,J8,W4,I7,T4,K7,W3,O7,A0h,K0,Q0,A2j,A4m] <;> omega)⟩) (fun _=>(by simp [clH,clS,AO.cl,AV.cl,clL,clM,clR,A3m,A87,A23,A5i,N2,cI,cB,cS,J5,freeL,AV.free,freeR,Nat.blt,S3,A4l,J8,W4,I7,T4,K7,W3,O7,A0h,K0,Q0,A2j,A4m] <;> omega)) (fun _=>(by simp [clH,clS,AO.cl,AV.cl,clL,clM,clR,A3m,A87,A23,A5i,N2,cI,cB,cS,J5,freeL,AV.free,freeR,Nat.blt,S3,A4l,J8,W4,I7,T4,K7,W3,O7,A0h,K0,Q0,A2j,A4m] <;> omega)) (fun _=>(by simp [clH,clS,AO.cl,AV.cl,clL,clM,clR,A3m,A87,A23,A5i,N2,cI,cB,cS,J5,freeL,AV.free,freeR,Nat.blt,S3,A4l,J8,W4,I7,T4,K7,W3,O7,A0h,K0,Q0,A2j,A4m] <;> omega)) ⟨fun _ _=>(And.intro (D9 rfl) (N1 hb0 _)),fun _ _=>(And.intro (D9 rfl) (N1 hb0 _))⟩ (A22 hscv) (fun c x2 s3 o hs3 y0_2 y1_2=>?_) ?_
 ·unfold A57 at hs3
  refine C1<|⟨_,rfl,rfl,rfl,?_⟩
  refine C6<|s0<|F2 (D0 (ds:=(cB true)) rfl rfl rfl rfl (B9 rfl) rfl) rfl<|es .n<|C5 ?_
  cases hs3
  exact ⟨_,rfl,rfl,rfl⟩
 ·rcases o4 with vo4_5 | vo4_6
  ·refine s0<|F2 (D0 (ds:=(cB false)) rfl rfl rfl rfl (B9 rfl) rfl) rfl<|es (ra1 rfl)<|C5 ?_
   obtain rfl:=os h
   exact retq trivial (F8 (C2 (x:=(.b false)) rfl rfl rfl) B7) (A4 rfl B6) (A2 A5 B2)
  ·obtain rfl:=os h
   exact retq trivial (F8 (C2 (x:=(.b true)) rfl rfl rfl) B7) (A4 rfl B6) (A2 A5 B2)
def A0e (a0:Int):Option Int :=
 if (a0 == 0) = true then
  some 64
 else
  (B3v .u64 (IntKind.u64.wrap ((O6 .u64 a0 (IntKind.u64.wrap (0 - a0))) * 285870213051353865)) 58).bind fun x2 =>
  (idx gl1 x2).bind fun x3 =>
  some (w64 x3)
theorem A7h {c:Sc} {H:A6} {a0:Int} {r:Int} (h:A0e a0 = some r) :
  E7 tab c H (.fn (.func 126) [] []) [(.lit (.int .u64 a0))] [.i r]:= by
 unfold A0e at h
 refine cE rfl rfl<|s0<|qm rfl<|es (ra1 rfl)<|B8<|s0<|qm rfl<|A0 (F5 rfl rfl) rfl<|es (ra2 rfl rfl)<|wi h rfl (fun hc1 h=>?_) fun hc1 h=>?_
 ·refine s0<|qm rfl<|es (ra1 rfl)<|C5 ?_
  obtain rfl:=os h
  exact retq trivial (A9 rfl B7) (A4 rfl B6) (A2 A5 B2)
 ·refine C1<|s0<|oB h fun x2 hx2 h=>oB h fun x3 hx3 h=>qm rfl<|qm rfl<|A0 (D7g rfl rfl) rfl<|A0 (H7 (v:=(.lit (.int .u64 (O6 .u64 a0 (IntKind.u64.wrap (0 - a0)))))) rfl rfl rfl) rfl<|A0 (H7 (v:=(.lit (.int .u64 (IntKind.u64.wrap ((O6 .u64 a0 (IntKind.u64.wrap (0 - a0))) * 285870213051353865))))) rfl rfl rfl) rfl<|A0 (B1v rfl rfl hx2) rfl<|A0 (D68 (e:=gl1) (g:=fun n=>(.lit (.int .u8 n))) rfl rfl rfl hx3) rfl<|A0 (D5e (g:=fun n=>(.lit (.int .u8 n))) rfl hx3) rfl<|A0 (A4z rfl) rfl<|qm rfl<|es (ra1 rfl)<|C5 ?_
  obtain rfl:=os h
  exact retq trivial (A9 rfl B7) (A4 rfl B6) (A2 A5 B2)
def A1m (a0:Int):Option Int :=
 (A0e a0).bind fun x1 =>
 some x1
theorem A8l {c:Sc} {H:A6} {a0:Int} {r:Int} (h:A1m a0 = some r) :
  E7 tab c H (.fn (.func 118) [] []) [(.lit (.int .u64 a0))] [.i r]:= by
 unfold A1m at h
 refine cE rfl rfl<|s0<|qm rfl<|es (ra1 rfl)<|B8<|A21 rfl rfl<|C1<|s0<|oB h fun x1 hx1 h=>qm rfl<|B4 (rs:=[.i x1]) rfl rfl (A1 rfl B5) ((A7h hx1).frz)<|qm rfl<|es (ra1 rfl)<|C5 ?_
 obtain rfl:=os h
 exact retq trivial (A9 rfl B7) (A4 rfl B6) (A2 A5 B2)
def B6s  (s1:(Int × (List Int))):Option ((Int × (List Int)) ⊕ (List Int)) :=
 if (s1.1 != 0) = true then
  (A1m (IntKind.u64.wrap s1.1)).bind fun x4 =>
  (app 8 s1.2 [x4]).bind fun x5 =>
  some (.inl ((B47 s1.1 (w64 (s1.1 - 1))),x5))
 else
  some (.inr s1.2)
def B72 (a0:Int):Option (List Int) :=
 (loop B6s (a0,([]:List Int))).bind fun (o6:(List Int)) =>
 some o6
theorem C50 {c:Sc} {H:A6} {a0:Int} {r:(List Int)} (h:B72 a0 = some r) :
  E7 tab c H (.fn (.func 95) [] []) [.i a0] [(.fresh 1 (List.map cI r))]:= by
 unfold B72 at h
 refine cE rfl rfl<|sg 0 rfl<|A0 B32 rfl<|es (ra2 rfl rfl)<|B8<|C6<|oB h fun o6 ho6 h=>wl (fun s1=>[(0,.i s1.1),(2,(.asl (H.length + 0) (List.length s1.2)))]) (fun (q2:Unit) s1=>[(.arr 1 false (List.map cI s1.2))]) 1 (fun r e s' H'=>PX 0 [(2,(.asl (H.length + 0) (List.length r)))] (H++[(.arr 1 false (List.map cI r))]) e s' H') () ho6 rfl rfl (fun _ _=>rfl) (fun _=>rfl) rfl (fun s1=>(bdc A5 (bdc (A7a rfl) bdn))) (fun q2 s1 ys1 hs1=>?_) ?_
 ·unfold B6s at hs1
  refine B8<|s0<|qm rfl<|A0 (F7 rfl rfl) rfl<|es (ra3 rfl rfl rfl)<|wi hs1 rfl (fun hc3 hs1=>?_) fun hc3 hs1=>?_
  ·refine C1<|B8<|C6<|r0<|oB hs1 fun x4 hx4 hs1=>oB hs1 fun x5 hx5 hs1=>qm rfl<|qm rfl<|A0 (A4z rfl) rfl<|B4 (rs:=[.i x4]) rfl rfl (A1 rfl B5) ((A8l hx4).frz)<|A0 (K8 (rows:=List.map cI [x4]) rfl rfl (F4 (fun _=>rfl) _)) rfl<|A8p (A5t (f:=cI) rfl rfl rfl rfl A2v (fun _=>rfl) hx5) rfl<|qm rfl<|en (ra2 rfl rfl)<|r0<|qm rfl<|qm rfl<|A0 (T3 rfl rfl) rfl<|A0 (H7 (v:=(.i (B47 s1.1 (w64 (s1.1 - 1))))) rfl rfl rfl) rfl<|qm rfl<|en (ra2 rfl rfl) ?_
   cases hs1
   exact lnT () rfl (su2 rfl rfl)
  ·refine E9 ?_
   obtain rfl:=os hs1
   exact lx rfl px (su1 rfl)
 ·rintro e s' H' - ⟨rfl,rfl,rfl⟩
  refine s0<|qm rfl<|qm rfl<|es (ra1 rfl)<|C5 ?_
  obtain rfl:=os h
  exact retq trivial (A9 rfl B7) (A4 (B2q rfl (List.length_map _)) B6) (A2 A6u B2)
def A6l (a0:Int):Option Bool :=
 some (a0 != a0)
theorem B0e {c:Sc} {H:A6} {a0:Int} {r:Bool} (h:A6l a0 = some r) :
  E7 tab c H (.fn (.func 127) [] []) [.i a0] [.b r]:= by
 unfold A6l at h
 refine cE rfl rfl<|s0<|qm rfl<|es (ra1 rfl)<|s0<|qm rfl<|qm rfl<|A0 (F7 rfl rfl) rfl<|qm rfl<|es (ra1 rfl)<|C5 ?_
 obtain rfl:=os h
 exact retq trivial (A9 rfl B7) (A4 rfl B6) (A2 A5 B2)
def A7c (a0:Int) (a1:Int):Option Int :=
 (A6l a0).bind fun x1 =>
 (A6l a1).bind fun x2 =>
 if x1 = true then
  if x2 = true then
  some 0
  else
  some (-1)
 else
  if x2 = true then
  some 1
  else
  if (decide (a0 < a1)) = true then
   some (-1)
  else
   if (decide (a0 > a1)) = true then
   some 1
   else
   some 0
theorem B4q {c:Sc} {H:A6} {a0:Int} {a1:Int} {r:Int} (h:A7c a0 a1 = some r) :
  E7 tab c H (.fn (.func 119) [] []) [.i a0,.i a1] [.i r]:= by
 unfold A7c at h
 refine cE rfl rfl<|s0<|qm rfl<|es (ra2 rfl rfl)<|s0<|oB h fun x1 hx1 h=>qm rfl<|B4 (rs:=[.b x1]) rfl rfl (A1 rfl B5) ((B0e hx1).frz)<|qm rfl<|es (ra3 rfl rfl rfl)<|s0<|oB h fun x2 hx2 h=>qm rfl<|B4 (rs:=[.b x2]) rfl rfl (A1 rfl B5) ((B0e hx2).frz)<|qm rfl<|es (ra4 rfl rfl rfl rfl)<|B8<|s0<|qm rfl<|es (ra4 rfl rfl rfl rfl)<|wi h rfl (fun hc3 h=>?_) fun hc3 h=>?_
 ·refine B8<|s0<|qm rfl<|es (ra1 rfl)<|wi h rfl (fun hc4 h=>?_) fun hc4 h=>?_
  ·refine s0<|qm rfl<|es (ra1 rfl)<|C5 ?_
   obtain rfl:=os h
   exact retq trivial (A9 rfl B7) (A4 rfl B6) (A2 A5 B2)
  ·refine C1<|s0<|qm rfl<|es (ra1 rfl)<|C5 ?_
   obtain rfl:=os h
   exact retq trivial (A9 rfl B7) (A4 rfl B6) (A2 A5 B2)
 ·refine C1<|B8<|s0<|qm rfl<|es (ra3 rfl rfl rfl)<|wi h rfl (fun hc5 h=>?_) fun hc5 h=>?_
  ·refine s0<|qm rfl<|es (ra1 rfl)<|C5 ?_
   obtain rfl:=os h
   exact retq trivial (A9 rfl B7) (A4 rfl B6) (A2 A5 B2)
  ·refine C1<|B8<|s0<|qm rfl<|qm rfl<|A0 (F9 rfl rfl) rfl<|es (ra3 rfl rfl rfl)<|wi h rfl (fun hc6 h=>?_) fun hc6 h=>?_
   ·refine s0<|qm rfl<|es (ra1 rfl)<|C5 ?_
    obtain rfl:=os h
    exact retq trivial (A9 rfl B7) (A4 rfl B6) (A2 A5 B2)
   ·refine C1<|B8<|s0<|qm rfl<|qm rfl<|A0 (A0a rfl rfl) rfl<|es (ra1 rfl)<|wi h rfl (fun hc7 h=>?_) fun hc7 h=>?_
    ·refine s0<|qm rfl<|es (ra1 rfl)<|C5 ?_
     obtain rfl:=os h
     exact retq trivial (A9 rfl B7) (A4 rfl B6) (A2 A5 B2)
    ·refine C1<|s0<|qm rfl<|es (ra1 rfl)<|C5 ?_
     obtain rfl:=os h
     exact retq trivial (A9 rfl B7) (A4 rfl B6) (A2 A5 B2)
def A32 (a0:(List Int)) (a1:(List Int)) (s1:Int):Option (Int ⊕ (Int ⊕ Unit)) :=
 if (decide (s1 < (List.length a0:Int))) = true then
  (idx a0 s1).bind fun x4 =>
  if (decide (s1 ≥ (List.length a1:Int))) = true then
  some (.inr (.inl 1))
  else
  (idx a1 s1).bind fun x6 =>
  (A7c x4 x6).bind fun x7 =>
  if (x7 != 0) = true then
   some (.inr (.inl x7))
  else
   some (.inl (w64 (s1 + 1)))
 else
  some (.inr (.inr ()))
def A2h (a0:(List Int)) (a1:(List Int)):Option Int :=
 (loop (A32 a0 a1) 0).bind fun (o9:(Int ⊕ Unit)) =>
 match o9 with
 | (.inl vo9_0) =>
  some vo9_0
 | (.inr vo9_1) =>
  if (decide ((List.length a0:Int) < (List.length a1:Int))) = true then
  some (-1)
  else
  some 0
theorem A9a {c:Sc} {H:A6} {a0:(List Int)} {a1:(List Int)} {r:Int} (h:A2h a0 a1 = some r) :
  E7 tab c H (.fn (.func 96) [] []) [(.seq 1 (List.map cI a0)),(.seq 1 (List.map cI a1))] [.i r]:= by
 unfold A2h at h
 refine cE rfl rfl<|s0<|qm rfl<|es (ra2 rfl rfl)<|B8<|s0<|qm rfl<|A0 (D6 (f:=cI) rfl) rfl<|qm rfl<|es (ra5 rfl rfl rfl rfl rfl)<|C6<|oB h fun o9 ho9 h=>wl (fun s1=>[(0,(.seq 1 (List.map cI a0))),(1,(.seq 1 (List.map cI a1))),(9,(.seq 1 (List.map cI a0))),(10,(.i (List.length a0:Int))),(11,.i s1)]) (fun (q2:Unit) s1=>[]) 0 (fun r e s' H'=>(match r with | (.inl v)=>e = .ret∧RetQ H [.tmp 4] [.i v] e s' H' | (.inr v)=>PX 0 [(0,(.seq 1 (List.map cI a0))),(1,(.seq 1 (List.map cI a1)))] (H++[]) e s' H':Prop)) () ho9 rfl rfl (fun _ _=>rfl) (fun _=>rfl) rfl (fun s1=>(bdc G7 (bdc G7 (bdc G7 (bdc A5 (bdc A5 bdn)))))) (fun q2 s1 ys1 hs1=>?_) ?_
 ·unfold A32 at hs1
  refine s0<|A0 (F9 rfl rfl) rfl<|es (ra6 rfl rfl rfl rfl rfl rfl)<|B8<|wi hs1 rfl (fun hc3 hs1=>?_) fun hc3 hs1=>?_
  ·refine C1<|B8<|C6<|s0<|oB hs1 fun x4 hx4 hs1=>qm rfl<|A0 (E2 (f:=cI) rfl rfl hx4) rfl<|A0 (E4 rfl rfl) rfl<|qm rfl<|qm rfl<|es (ra7 rfl rfl rfl rfl rfl rfl rfl)<|B8<|s0<|qm rfl<|qm rfl<|A0 (D6 (f:=cI) rfl) rfl<|A0 (A93 rfl rfl) rfl<|es (ra8 rfl rfl rfl rfl rfl rfl rfl rfl)<|wi hs1 rfl (fun hc5 hs1=>?_) fun hc5 hs1=>?_
   ·refine s0<|qm rfl<|es (ra1 rfl)<|C5 ?_
    obtain rfl:=os hs1
    exact lx rfl (And.intro rfl (retq trivial (A9 rfl B7) (A4 rfl B6) (A2 A5 B2))) (Sub.refl _)
   ·refine C1<|s0<|oB hs1 fun x6 hx6 hs1=>qm rfl<|qm rfl<|A0 (E2 (f:=cI) rfl rfl hx6) rfl<|A0 (E4 rfl rfl) rfl<|qm rfl<|es (ra7 rfl rfl rfl rfl rfl rfl rfl)<|s0<|oB hs1 fun x7 hx7 hs1=>qm rfl<|qm rfl<|B4 (rs:=[.i x7]) rfl rfl (A1 rfl (A1 rfl B5)) ((B4q hx7).frz)<|qm rfl<|es (ra6 rfl rfl rfl rfl rfl rfl)<|s0<|qm rfl<|A0 (F7 rfl rfl) rfl<|es (ra7 rfl rfl rfl rfl rfl rfl rfl)<|wi hs1 rfl (fun hc8 hs1=>?_) fun hc8 hs1=>?_
    ·refine s0<|qm rfl<|qm rfl<|es (ra1 rfl)<|C5 ?_
     obtain rfl:=os hs1
     exact lx rfl (And.intro rfl (retq trivial (A9 rfl B7) (A4 rfl B6) (A2 A5 B2))) (Sub.refl _)
    ·refine C1<|r0<|A0 (E1 rfl rfl) rfl<|qm rfl<|en (ra5 rfl rfl rfl rfl rfl) ?_
     cases hs1
     exact lnT () rfl (su5 rfl rfl rfl rfl rfl)
  ·refine E9 ?_
   obtain rfl:=os hs1
   exact lx rfl px (su2 rfl rfl)
 ·rcases o9 with vo9_0 | vo9_1
  ·rintro e s' H' - ⟨rfl,hret⟩
   cases h
   exact hret
  ·rintro e s' H' - ⟨rfl,rfl,rfl⟩
   refine B8<|s0<|qm rfl<|A0 (D6 (f:=cI) rfl) rfl<|qm rfl<|A0 (D6 (f:=cI) rfl) rfl<|A0 (F9 rfl rfl) rfl<|es (ra1 rfl)<|wi h rfl (fun hc10 h=>?_) fun hc10 h=>?_
   ·refine s0<|qm rfl<|es (ra1 rfl)<|C5 ?_
    obtain rfl:=os h
    exact retq trivial (A9 rfl B7) (A4 rfl B6) (A2 A5 B2)
   ·refine C1<|s0<|qm rfl<|es (ra1 rfl)<|C5 ?_
    obtain rfl:=os h
    exact retq trivial (A9 rfl B7) (A4 rfl B6) (A2 A5 B2)
end Rm
end
section
set_option maxRecDepth 100000
namespace Rm
open Go Am Go.Proofs.YtbheamjhjgoccaaDoor.Cd
def C8n (t:RoHouse) (b:List Int):RoHouse:=⟨t.Weather,t.Stoves,t.Holds,t.Places,t.Figures,b⟩
def B2w (a0:RoHouse) (set:Int) (s:Int × List Int):Option ((Int × List Int) ⊕ List Int) :=
 if (decide (s.1 < (List.length a0.Bill:Int))) = true then
  (idx a0.Bill s.1).bind fun n =>
  (B3v .i64 set s.1).bind fun q =>
  if (B47 q 1 == 0) = true then
   (app 8 s.2 [n]).bind fun b =>
   some (.inl (w64 (s.1 + 1),b))
  else some (.inl (w64 (s.1 + 1),s.2))
 else some (.inr s.2)
def A9y (l breaks:List Int) (found:Bool):Option Bool :=
 if found = true then
  if (decide ((l.length:Int) > (breaks.length:Int))) = true then some true
  else if ((l.length:Int) == (breaks.length:Int)) = true then
   (A2h l breaks).bind fun z=>some (decide (z > 0))
  else some false
 else some false
def A8w (a0:RoHouse) (n:Int) (s:Int × Bool × List Int):Option ((Int × Bool × List Int) ⊕ List Int) :=
 if (decide (s.1 < n)) = true then
  (B72 s.1).bind fun l =>
  (A9y l s.2.2 s.2.1).bind fun skip =>
  if skip = true then some (.inl (w64 (s.1 + 1),s.2.1,s.2.2))
  else
   (loop (B2w a0 s.1) (0,[])).bind fun b =>
   (A8x ⟨C8n a0 b⟩).bind fun k =>
   if k = true then some (.inl (w64 (s.1 + 1),true,l))
   else some (.inl (w64 (s.1 + 1),s.2.1,s.2.2))
 else some (.inr s.2.2)
def A66 (a0:RoHouse):Option (List Int × Int) :=
 (Q7 a0).bind fun x1 =>
 if (x1.2.2 != 0) = true then some (([]:List Int),x1.2.2)
 else
  (B3u .i64 1 (List.length a0.Bill:Int)).bind fun n =>
  (loop (A8w a0 n) (0,false,([]:List Int))).bind fun o =>
  some (o,0)
def B14 (t:RoHouse) (v:AV):List AV:=[.i t.Weather.Lo,.i t.Weather.Hi,.i t.Stoves,(.seq 1 (List.map cI t.Holds)),(.seq 4 (List.map C3 t.Places)),(.seq 6 (List.map B3 t.Figures)),v,.xseq 2 [[.b false,(.fn (.func 112) [] [])],[.b true,(.fn (.func 113) [] [])]]]
def arB (p:Bool) (r:List Int):AO:=.arr 1 p (r.map cI)
def tlB (g:List (List Int)):List AO:=g.map (arB true)
def lB (t:RoHouse) (v:AV) (g:List AO):List AO:=.cells (A3 t) :: .cells (A3 t) :: .cells (B14 t v) :: g
section
variable {T:Tab} {s:C9} {H0 H:A6} {l:List AO} {c:Sc} {n0 N:Nat} {hc:List (Option (List Nat))} {ops:List AOper} {R:C9→A6→Prop}
theorem gU {d:Nat} {op:AOp} {t:Nat} {w:Bool} {hid:List Nat} {hida:List (Nat × List Nat)} {inc src:Nat} (hw:wanted s (some (t,w)) = some false) (hwr:writes op = true) (k:M7 T c n0 ops ((d,.tup []) :: s) H (none :: hc) R) :
  M7 T c n0 (⟨some d,op,some (t,w),hid,hida,inc,src⟩ :: ops) s H hc R:=G8 hw hwr k
theorem gV {d:Nat} {op:AOp} {t:Nat} {w:Bool} {hid:List Nat} {hida:List (Nat × List Nat)} {inc src:Nat} (hw:wanted s (some (t,w)) = some false) (hwr:writes op = false) (k:M7 T c n0 ops ((d,.tup []) :: s) H hc R) :
  M7 T c n0 (⟨some d,op,some (t,w),hid,hida,inc,src⟩ :: ops) s H hc R:=D1g hw hwr k
theorem fvc {H1 H2:A6} {v v':AV} {l l':List AV} (h:frv H v = some (v',H1)) (k:A04 H1 l = some (l',H2)):A04 H (v :: l) = some (v' :: l',H2):= by simp only [A04,h,k]
end
theorem D37 {N:Nat}:∀g:List (List Int),clH N (tlB g) = true
 | []=>rfl
 | r :: g=>by
  have ih:=D37 (N:=N) g
  unfold tlB clH at ih ⊢
  rw [List.map_cons,List.all_cons,ih,Bool.and_true]
  unfold arB
  simp only [AO.cl]
  exact A3m (fun x=>rfl) r
theorem E0l {N:Nat} (t:RoHouse) (b:List Int) (g:List (List Int)):clH N (lB t (.seq 1 (b.map cI)) (tlB g)) = true:= by
 have h:=D37 (N:=N) g
 unfold lB clH at h ⊢
 simp only [List.all_cons,h,Bool.and_true]
 simp [AO.cl,clL_free _ (K7 t),B14,clL,AV.cl,clR,J5,cI,freeL,AV.free,J8,I7]
theorem B83 {c:Sc} {H:A6} (hscv:Z6 c H = true) (hcl:clH H.length H = true) {a0:RoHouse} {r:((List Int) × Int)} (h:A66 a0 = some r) :
  E7 tab c H (.fn (.func 36) [] []) [(.agg (A3 a0))] [(.seq 1 (List.map cI r.1)),.i r.2]:= by
 unfold A66 at h
 refine cE rfl rfl<|sg 0 rfl<|A0 (E8 (cs:=A3 a0) rfl rfl rfl) rfl<|qm rfl<|qm rfl<|es (ra2 rfl rfl)<|s0<|A0 (C0 rfl rfl rfl) rfl<|P5 (as2:=[(.agg (A3 a0))]) (H1:=(H++[(.cells (A3 a0))])) rfl rfl (A1 (D1 rfl) B5) rfl rfl rfl (V9 rfl)<|sg 1 rfl<|A0 (E8 (cs:=A3 a0) rfl rfl rfl) rfl<|qm rfl<|qm rfl<|es (ra1 rfl)<|s0<|oB h fun x1 hx1 h=>A0 (C0 rfl rfl rfl) rfl<|B4 (rs:=[.i x1.1,.i x1.2.1,.i x1.2.2]) rfl rfl (A1 (D1 rfl) B5) ((R7 hx1).frz)<|qm rfl<|A0 (A7 rfl rfl) rfl<|A0 (A7 rfl rfl) rfl<|A0 (A7 rfl rfl) rfl<|qm rfl<|qm rfl<|qm rfl<|es (ra2 rfl rfl)<|sg 2 rfl<|A0 (C0 rfl rfl rfl) rfl<|A0 (G3 (cs:=[.b false,(.fn (.func 112) [] [])]) rfl rfl) rfl<|A0 (G3 (cs:=[.b true,(.fn (.func 113) [] [])]) rfl rfl) rfl<|A0 (A7n (rows:=[[.b false,(.fn (.func 112) [] [])],[.b true,(.fn (.func 113) [] [])]]) rfl rfl) rfl<|A0 (G3 (cs:=B14 a0 (.seq 1 (List.map cI a0.Bill))) rfl rfl) rfl<|A0 (E8 (cs:=B14 a0 (.seq 1 (List.map cI a0.Bill))) rfl rfl rfl) rfl<|qm rfl<|qm rfl<|qm rfl<|es (ra2 rfl rfl)<|C5<|InlQ.mk trivial ⟨_,_,_,[(.ptr (H.length + 2) 0),.i x1.2.2],_,(A9 rfl (A9 rfl B7)),(A4 rfl (A4 rfl B6)),(X2 (N5 (X0 rfl)) (D3 rfl (D3 rfl J3))),?_⟩
 refine qm rfl<|A0 (A7 rfl rfl) rfl<|A0 (A7 rfl rfl) rfl<|qm rfl<|qm rfl<|es (ra4 rfl rfl rfl rfl)<|B8<|s0<|qm rfl<|A0 (F7 rfl rfl) rfl<|es (ra5 rfl rfl rfl rfl rfl)<|wi h rfl (fun hc2 h=>?_) fun hc2 h=>?_
 ·refine s0<|qm rfl<|qm rfl<|qm rfl<|es (ra2 rfl rfl)<|C5 ?_
  obtain rfl:=os h
  exact retq trivial (A9 rfl (A9 rfl B7)) (A4 rfl (A4 rfl B6)) (A2 G7 (A2 A5 B2))
 refine oB h fun n hn h=>oB h fun o ho h=>?_
 refine C1<|s0<|qm rfl<|es (ra4 rfl rfl rfl rfl)<|B8<|s0<|A0 (C4 rfl) rfl<|A0 (C2 rfl rfl rfl) rfl<|A0 (D6 (f:=cI) rfl) rfl<|A0 (B53 rfl rfl hn) rfl<|qm rfl<|es (ra6 rfl rfl rfl rfl rfl rfl)<|C6 ?_
 refine A77 (D6d (γ:=List Int × List (List Int)) (live:=[1,2,4,5,21,22]) (body:=A8w a0 n) (fun x=>[(1,.ptr (H.length + 0) 0),(2,.seq 1 (x.2.2.map cI)),(4,.ptr (H.length + 2) 0),(5,.b x.2.1),(21,.i n),(22,.i x.1)]) (fun g x=>H++lB a0 (.seq 1 (g.1.map cI)) (tlB g.2))
  (fun r e s' H'=>e = .exit 0∧s' = [(2,.seq 1 (r.map cI))]∧∃ l',H' = H++l') (fun _=>rfl) (by decide) ?_ ho (a0.Bill,[])) ?_
 ·intro g x o' hb
  unfold A8w at hb
  refine s0<|A0 (F9 rfl rfl) rfl<|es (ra7 rfl rfl rfl rfl rfl rfl rfl)<|B8<|wi hb rfl (fun hc hb=>?_) fun hc hb=>?_
  ·refine oB hb fun l hl hb=>oB hb fun skip hsk hb=>?_
   refine C1<|B8<|C6<|s0<|qm rfl<|qm rfl<|es (ra7 rfl rfl rfl rfl rfl rfl rfl)<|s0<|qm rfl<|B4 (rs:=[.seq 1 (l.map cI)]) rfl rfl (A1 rfl B5) ((C50 hl).frz)<|qm rfl<|es (ra8 rfl rfl rfl rfl rfl rfl rfl rfl)<|B8<|s0<|qm rfl<|qm rfl ?_
   refine gp 19 47 (.b skip) 28 rfl rfl (fun hg1=>?_) (fun hg1=>?_) ?_
   ·unfold A9y at hsk
    rw [if_pos hg1] at hsk
    refine gT rfl hg1<|qm rfl<|gT rfl hg1<|A0 (D6 (f:=cI) rfl) rfl<|gT rfl hg1<|qm rfl<|gT rfl hg1<|A0 (D6 (f:=cI) rfl) rfl<|gT rfl hg1<|A0 (A0a rfl rfl) rfl<|gT rfl hg1<|qm rfl ?_
    cases h2:decide ((l.length:Int) > (x.2.2.length:Int)) with
    | true =>
     rw [if_pos h2] at hsk
     cases hsk
     exact nF rfl rfl rfl<|nF rfl rfl rfl<|nF rfl rfl rfl<|nF rfl rfl rfl<|nF rfl rfl rfl<|nF rfl rfl rfl<|gV rfl rfl<|gV rfl rfl<|gU rfl rfl<|gV rfl rfl<|nF rfl rfl rfl<|gT rfl hg1<|A0 (C7 rfl rfl rfl) rfl<|A0 (C7 rfl hg1 rfl) rfl<|ge 19 rfl rfl rfl
    | false =>
     rw [if_neg (by rw [h2]; decide)] at hsk
     refine gF rfl rfl<|qm rfl<|gF rfl rfl<|A0 (D6 (f:=cI) rfl) rfl<|gF rfl rfl<|qm rfl<|gF rfl rfl<|A0 (D6 (f:=cI) rfl) rfl<|gF rfl rfl<|A0 (F5 rfl rfl) rfl<|gF rfl rfl<|qm rfl ?_
     cases h3:((l.length:Int) == (x.2.2.length:Int)) with
     | true =>
      rw [if_pos h3] at hsk
      refine oB hsk fun z hz hsk=>?_
      cases hsk
      exact gT rfl rfl<|qm rfl<|gT rfl rfl<|qm rfl<|gT rfl rfl<|B4 (rs:=[.i z]) rfl rfl (A1 rfl (A1 rfl B5)) ((A9a hz).frz)<|gT rfl rfl<|A0 (A0a rfl rfl) rfl<|gF rfl rfl<|A0 (C7 rfl rfl rfl) rfl<|gT rfl hg1<|A0 (C8 rfl rfl rfl) rfl<|A0 (C7 rfl hg1 rfl) rfl<|ge 19 rfl rfl rfl
     | false =>
      rw [if_neg (by rw [h3]; decide)] at hsk
      cases hsk
      exact nT rfl rfl rfl<|nT rfl rfl rfl<|gN rfl rfl rfl<|nT rfl rfl rfl<|gF rfl rfl<|A0 (C8 rfl rfl rfl) rfl<|gT rfl hg1<|A0 (C8 rfl rfl rfl) rfl<|A0 (C7 rfl hg1 rfl) rfl<|ge 19 rfl rfl rfl
   ·unfold A9y at hsk
    rw [if_neg (by rw [hg1]; decide)] at hsk
    cases hsk
    exact nT rfl hg1 rfl<|nT rfl hg1 rfl<|nT rfl hg1 rfl<|nT rfl hg1 rfl<|nT rfl hg1 rfl<|nT rfl hg1 rfl<|gV rfl rfl<|gV rfl rfl<|gV rfl rfl<|gV rfl rfl<|gV rfl rfl<|gV rfl rfl<|gV rfl rfl<|gV rfl rfl<|gU rfl rfl<|gV rfl rfl<|gV rfl rfl<|nT rfl hg1 rfl<|A0 (C8 rfl hg1 rfl) rfl<|ge 19 rfl rfl rfl
   refine es (ra9 rfl rfl rfl rfl rfl rfl rfl rfl rfl)<|wi hb rfl (fun hc2 hb=>?_) fun hc2 hb=>?_
   ·refine E9<|r0<|A0 (E1 rfl rfl) rfl<|qm rfl<|en (ra6 rfl rfl rfl rfl rfl rfl) ?_
    cases hb
    exact ⟨rfl,su6 rfl rfl rfl rfl rfl rfl,g,rfl⟩
   refine oB hb fun b hb2 hb=>oB hb fun k hk hb=>?_
   refine C1<|sg ((tlB g.2).length + 3) rfl<|qm rfl<|A0 (S8 rfl rfl) rfl<|A0 (C4 rfl) rfl<|A0 (C4 rfl) rfl<|F2 (D5h (cs:=B14 a0 (.seq 1 (g.1.map cI))) (ds:=B14 a0 (.asl (H.length + ((tlB g.2).length + 3 + 0)) 0)) rfl rfl rfl (A7o (Nat.le_add_right _ _)) rfl) rfl<|es (ra8 rfl rfl rfl rfl rfl rfl rfl rfl) ?_
   have e1:((lB a0 (.seq 1 (g.1.map cI)) (tlB g.2)++List.replicate 1 AO.dead).set ((tlB g.2).length + 3 + 0) (.arr 1 false [])).set 2 (.cells (B14 a0 (.asl (H.length + ((tlB g.2).length + 3 + 0)) 0))) = lB a0 (.asl (H.length + ((tlB g.2).length + 3)) 0) (tlB g.2++[arB false []]):= by
    show (AO.cells _ :: AO.cells _ :: AO.cells _ :: ((tlB g.2++[AO.dead]).set (tlB g.2).length (.arr 1 false []))) = _
    rw [C7i _ _ _ rfl]; rfl
   rw [e1]
   have hlN:∀v q,(lB a0 v (tlB g.2++[q])).length = (tlB g.2).length + 4:=fun v q=>by simp [lB]
   have hget:∀v q,(lB a0 v (tlB g.2++[q]))[(tlB g.2).length + 3]? = some q:=fun v q=>D4u (tlB g.2) q rfl
   have hset:∀v q q',(lB a0 v (tlB g.2++[q])).set ((tlB g.2).length + 3) q' = lB a0 v (tlB g.2++[q']):=fun v q q'=>by
    show (AO.cells _ :: AO.cells _ :: AO.cells _ :: ((tlB g.2++[q]).set (tlB g.2).length q')) = _
    rw [C7i _ _ _ rfl]; rfl
   refine B8<|s0<|A0 (C4 rfl) rfl<|A0 (C2 rfl rfl rfl) rfl<|A0 (D6 (f:=cI) rfl) rfl<|qm rfl<|es (ra11 rfl rfl rfl rfl rfl rfl rfl rfl rfl rfl rfl)<|C6<|wl (fun y=>[(1,.ptr (H.length + 0) 0),(2,.seq 1 (x.2.2.map cI)),(4,.ptr (H.length + 2) 0),(5,.b x.2.1),(6,.i x.1),(7,.seq 1 (l.map cI)),(21,.i n),(22,.i x.1),(53,.seq 1 (a0.Bill.map cI)),(54,.i (List.length a0.Bill:Int)),(55,.i y.1)]) (fun (q2:Unit) y=>lB a0 (.asl (H.length + ((tlB g.2).length + 3)) y.2.length) (tlB g.2++[arB false y.2])) ((tlB g.2).length + 4) (fun r e s' H'=>PX 2 [(1,.ptr (H.length + 0) 0),(2,.seq 1 (x.2.2.map cI)),(4,.ptr (H.length + 2) 0),(5,.b x.2.1),(7,.seq 1 (l.map cI)),(21,.i n),(22,.i x.1)] (H++lB a0 (.asl (H.length + ((tlB g.2).length + 3)) r.length) (tlB g.2++[arB false r])) e s' H') () hb2 rfl rfl (fun _ _=>hlN _ _) (fun _=>rfl) rfl (fun y=>(bdc (D8 rfl) (bdc G7 (bdc (D8 rfl) (bdc A5 (bdc A5 (bdc G7 (bdc A5 (bdc A5 (bdc G7 (bdc A5 (bdc A5 bdn)))))))))))) (fun q2 y o' hy=>?_) ?_
   ·unfold B2w at hy
    refine s0<|A0 (F9 rfl rfl) rfl<|es (ra12 rfl rfl rfl rfl rfl rfl rfl rfl rfl rfl rfl rfl)<|B8<|wi hy rfl (fun hc3 hy=>?_) fun hc3 hy=>?_
    ·refine oB hy fun z hz hy=>oB hy fun q hq hy=>?_
     refine C1<|B8<|C6<|s0<|qm rfl<|A0 (E2 (f:=cI) rfl rfl hz) rfl<|A0 (E4 rfl rfl) rfl<|qm rfl<|qm rfl<|es (ra13 rfl rfl rfl rfl rfl rfl rfl rfl rfl rfl rfl rfl rfl)<|s0<|qm rfl<|qm rfl<|A0 (B1v rfl rfl hq) rfl<|A0 (H7 (v:=(.i (B47 q 1))) rfl rfl rfl) rfl<|A0 (F5 rfl rfl) rfl<|es (ra13 rfl rfl rfl rfl rfl rfl rfl rfl rfl rfl rfl rfl rfl)<|wi hy rfl (fun hc4 hy=>?_) fun hc4 hy=>?_
     ·refine oB hy fun w hw hy=>?_
      refine r0<|qm rfl<|qm rfl<|A0 (S8 rfl rfl) rfl<|A0 (C4 rfl) rfl<|A0 (C4 rfl) rfl<|A0 (C2 rfl rfl rfl) rfl<|qm rfl<|A0 (K8 (rows:=[[.i z]]) rfl rfl rfl) rfl<|A8p (A5t (f:=cI) (d:=y.2) (m:=[z]) rfl rfl (hget _ _) rfl A2v (fun _=>rfl) hw) rfl<|A0 (S8 rfl rfl) rfl<|A0 (C4 rfl) rfl<|A0 (C4 rfl) rfl ?_
      rw [hset]
      refine F2 (D0 (ds:=B14 a0 (.asl (H.length + ((tlB g.2).length + 3)) w.length)) rfl rfl rfl rfl (D7j ?_ ?_) rfl) rfl<|en (ra11 rfl rfl rfl rfl rfl rfl rfl rfl rfl rfl rfl)<|r0<|A0 (E1 rfl rfl) rfl<|qm rfl<|en (ra11 rfl rfl rfl rfl rfl rfl rfl rfl rfl rfl rfl) ?_
      ·simp only [AV.bd]; exact Nat.ble_eq_true_of_le (by omega)
      ·exact E07 (Nat.le_add_right _ _) (D87 hscv)
      cases hy
      exact lnT () (List.take_of_length_le (Nat.le_of_eq (hlN _ _))) (su11 rfl rfl rfl rfl rfl rfl rfl rfl rfl rfl rfl)
     ·refine C1<|r0<|A0 (E1 rfl rfl) rfl<|qm rfl<|en (ra11 rfl rfl rfl rfl rfl rfl rfl rfl rfl rfl rfl) ?_
      cases hy
      exact lnT () (List.take_of_length_le (Nat.le_of_eq (hlN _ _))) (su11 rfl rfl rfl rfl rfl rfl rfl rfl rfl rfl rfl)
    ·refine E9 ?_
     obtain rfl:=os hy
     exact lx rfl px (su7 rfl rfl rfl rfl rfl rfl rfl)
   rintro e s' H' - ⟨rfl,rfl,rfl⟩
   have hfz:A04 (H++lB a0 (.asl (H.length + ((tlB g.2).length + 3)) b.length) (tlB g.2++[arB false b])) (B14 a0 (.asl (H.length + ((tlB g.2).length + 3)) b.length)) = some (B14 a0 (.seq 1 (b.map cI)),H++lB a0 (.asl (H.length + ((tlB g.2).length + 3)) b.length) (tlB g.2++[arB true b])):= by
    have h1:frv (H++lB a0 (.asl (H.length + ((tlB g.2).length + 3)) b.length) (tlB g.2++[arB false b])) (.asl (H.length + ((tlB g.2).length + 3)) b.length) = some (.seq 1 (b.map cI),H++lB a0 (.asl (H.length + ((tlB g.2).length + 3)) b.length) (tlB g.2++[arB true b])):= by
     have:=C0a (H0:=H) (l:=lB a0 (.asl (H.length + ((tlB g.2).length + 3)) b.length) (tlB g.2++[arB false b])) (hget _ (arB false b)) (List.length_map (cI))
     rw [hset] at this
     exact this
    exact fvc rfl<|fvc rfl<|fvc rfl<|fvc rfl<|fvc rfl<|fvc rfl<|fvc h1<|fvc rfl rfl
   have e2:(lB a0 (.asl (H.length + ((tlB g.2).length + 3)) b.length) (tlB g.2++[arB true b])).set 2 (.cells (B14 a0 (.seq 1 (b.map cI)))) = lB a0 (.seq 1 (b.map cI)) (tlB (g.2++[b])):= by
    show (AO.cells _ :: AO.cells _ :: AO.cells _ :: (tlB g.2++[arB true b])) = _
    unfold lB tlB
    rw [List.map_append]; rfl
   refine B8<|E1g (D7s rfl rfl hfz rfl) ?_
   rw [e2]
   have hcan:E7 tab ⟨H.length,c.cur :: c.outer⟩ (H++lB a0 (.seq 1 (b.map cI)) (tlB (g.2++[b]))) (.fn (.func 97) [] []) [.ptr (H.length + 2) 0] [.b k]:=B6c (a0:=⟨C8n a0 b⟩) (b0:=H.length + 2) (A22 hscv) (D6m hcl (E0l a0 b _)) (D9 (l:=lB a0 (.seq 1 (b.map cI)) (tlB (g.2++[b]))) rfl) hk
   refine r0<|qm rfl<|B4 (rs:=[.b k]) rfl rfl (A1 rfl B5) (hcan.frz)<|es (ra8 rfl rfl rfl rfl rfl rfl rfl rfl) ?_
   cases k with
   | true =>
    refine L2 rfl rfl<|r0<|qm rfl<|qm rfl<|qm rfl<|en (ra6 rfl rfl rfl rfl rfl rfl)<|r0<|A0 (E1 rfl rfl) rfl<|qm rfl<|en (ra6 rfl rfl rfl rfl rfl rfl) ?_
    cases hb
    exact ⟨rfl,su6 rfl rfl rfl rfl rfl rfl,(b,g.2++[b]),rfl⟩
   | false =>
    refine A21 rfl rfl<|C1<|r0<|A0 (E1 rfl rfl) rfl<|qm rfl<|en (ra6 rfl rfl rfl rfl rfl rfl) ?_
    cases hb
    exact ⟨rfl,su6 rfl rfl rfl rfl rfl rfl,(b,g.2++[b]),rfl⟩
  ·refine E9 ?_
   cases hb
   exact ⟨rfl,_,su1 rfl,rfl,rfl,_,rfl⟩
 ·intro e s' H' q
  obtain ⟨_,rfl,rfl,l',rfl⟩:=q
  cases h
  refine s0<|qm rfl<|qm rfl<|qm rfl<|es (ra2 rfl rfl)<|C5 ?_
  exact retq trivial (A9 rfl (A9 rfl B7)) (A4 rfl (A4 rfl B6)) (A2 G7 (A2 A5 B2))
theorem B2n {c:Sc} {H:A6} (hscv:Z6 c H = true) {a0:RoHouse} {r:((List Int) × Int)} (h:A66 a0 = some r) :
  E7 tab c H (.fn (.func 36) [] []) [(.agg (A3 a0))] [(.seq 1 (List.map cI r.1)),.i r.2]:=B16 B3e (B83 (c:=⟨0,[]⟩) (H:=[]) rfl rfl h) (by simp [freeL,AV.free,K7]) (by simp [freeL,AV.free,J5,cI]) hscv
end Rm
end
section
set_option maxRecDepth 100000
set_option maxHeartbeats 0
namespace Rm
open Go Am Go.Proofs.YtbheamjhjgoccaaDoor.Cd
def I0 :Option Bool :=
 (A26 [3]).bind fun x1 =>
 (A26 ([]:List Int)).bind fun x2 =>
 (V4 x1 1 1).bind fun x3 =>
 (U4 x1 0 1 1).bind fun x4 =>
 (U4 x1 2 1 1).bind fun x5 =>
 (U3 x1).bind fun x6 =>
 (A27 1 [1,(-1),2]).bind fun x7 =>
 (A3k x1 x7).bind fun x8 =>
 (A27 1 [1,0,2]).bind fun x9 =>
 (A3i x1 x9).bind fun x10 =>
 (A26 [1,3]).bind fun x11 =>
 (A66 x11).bind fun x12 =>
 (Z4 x1).bind fun x13 =>
 (Z4 x2).bind fun x14 =>
 (B1h x1 0).bind fun x15 =>
 (A3j x1 x6.1).bind fun x16 =>
 (if (((((((((((x3.2 == 0) && (x4.2 == 0)) && (x5.2 == 0)) && (x6.2.2 == 0)) && (x8.2 == 9)) && (x10.2 == 0)) && (x12.2 == 0)) && (x13.2 == 0)) && (x14.2 == 0)) && (x15.2 == 0)) && (x16.2.2 == 0)) = true then
  (S7 45 70).bind fun x28 =>
  some ((x3.1.Lo == x28.Lo) && ((x3.1.Hi == x28.Hi) && true))
 else
  some false).bind fun x29 =>
 (if ((x29 && (x4.1 == 1)) && (x5.1 == 0)) = true then
  (A27 1 [(-1),0,2]).bind fun x33 =>
  (A43 x6.1 x33).bind fun x34 =>
  some x34
 else
  some false).bind fun x35 =>
 (if (x35 && (x6.2.1 == 12)) = true then
  (Z1 x10.1 [350,320]).bind fun x38 =>
  some x38
 else
  some false).bind fun x39 =>
 (if x39 = true then
  (Z1 x12.1 [0]).bind fun x41 =>
  some x41
 else
  some false).bind fun x42 =>
 (if x42 = true then
  (Z1 x13.1 [0]).bind fun x44 =>
  some x44
 else
  some false).bind fun x45 =>
 some ((((x45 && ((List.length x14.1:Int) == 0)) && (x15.1 == 1)) && (x16.1 == 1)) && (x16.2.1 == 0))
theorem J1 {c:Sc} {H:A6} (hscv:Z6 c H = true)  {r:Bool} (h:I0  = some r) :
  E7 tab c H (.fn (.func 23) [] []) [] [.b r]:= by
 unfold I0 at h
 refine cE rfl rfl<|s0<|qm rfl<|es .n<|sg 0 rfl<|oB h fun x1 hx1 h=>oB h fun x2 hx2 h=>A0 (K8 (rows:=List.map cI [3]) rfl rfl (F4 (fun _=>rfl) _)) rfl<|B4 (rs:=[(.agg (A3 x1))]) rfl rfl (A1 rfl B5) ((A28 hx1).frz)<|B4 (rs:=[(.agg (A3 x2))]) rfl rfl (A1 rfl B5) ((A28 hx2).frz)<|A0 D5 rfl<|A0 D5 rfl<|F2 (D0 (ds:=(A3 x1)) rfl rfl rfl rfl (B9 rfl) rfl) rfl<|F2 (D0 (ds:=(A3 x2)) rfl rfl rfl rfl (B9 rfl) rfl) rfl<|es (ra2 rfl rfl)<|sg 2 rfl<|oB h fun x3 hx3 h=>A0 (C0 rfl rfl rfl) rfl<|B4 (rs:=[(.agg (D4 x3.1)),.i x3.2]) rfl rfl (A1 (D1 rfl) (A1 rfl (A1 rfl B5))) ((A3a hx3).frz)<|qm rfl<|A0 (A7 rfl rfl) rfl<|A0 (A7 rfl rfl) rfl<|A0 D5 rfl<|F2 (D0 (ds:=(D4 x3.1)) rfl rfl rfl rfl (B9 rfl) rfl) rfl<|qm rfl<|es (ra4 rfl rfl rfl rfl)<|s0<|oB h fun x4 hx4 h=>A0 (C0 rfl rfl rfl) rfl<|B4 (rs:=[.i x4.1,.i x4.2]) rfl rfl (A1 (D1 rfl) (A1 rfl (A1 rfl (A1 rfl B5)))) ((A2b hx4).frz)<|qm rfl<|A0 (A7 rfl rfl) rfl<|A0 (A7 rfl rfl) rfl<|qm rfl<|qm rfl<|es (ra6 rfl rfl rfl rfl rfl rfl)<|s0<|oB h fun x5 hx5 h=>A0 (C0 rfl rfl rfl) rfl<|B4 (rs:=[.i x5.1,.i x5.2]) rfl rfl (A1 (D1 rfl) (A1 rfl (A1 rfl (A1 rfl B5)))) ((A2b hx5).frz)<|qm rfl<|A0 (A7 rfl rfl) rfl<|A0 (A7 rfl rfl) rfl<|qm rfl<|qm rfl<|es (ra8 rfl rfl rfl rfl rfl rfl rfl rfl)<|sg 3 rfl<|oB h fun x6 hx6 h=>A0 (C0 rfl rfl rfl) rfl<|B4 (rs:=[(.agg (B1 x6.1)),.i x6.2.1,.i x6.2.2]) rfl rfl (A1 (D1 rfl) B5) (A0u (A22 hscv) hx6)<|qm rfl<|A0 (A7 rfl rfl) rfl<|A0 (A7 rfl rfl) rfl<|A0 (A7 rfl rfl) rfl<|A0 D5 rfl<|F2 (D0 (ds:=(B1 x6.1)) rfl rfl rfl rfl (B9 rfl) rfl) rfl<|qm rfl<|qm rfl<|es (ra11 rfl rfl rfl rfl rfl rfl rfl rfl rfl rfl rfl)<|s0<|oB h fun x7 hx7 h=>?_
 refine oB h fun x8 hx8 h=>A0 (C0 rfl rfl rfl) rfl<|A0 (K8 (rows:=List.map cI [1,(-1),2]) rfl rfl (F4 (fun _=>rfl) _)) rfl<|W7 (rs:=[(.agg (B1 x7))]) rfl rfl (K4 rfl (K4 rfl A2u)) (A1 rfl (A1 rfl B5)) ((A2m hx7).frz)<|B4 (rs:=[.i x8.1,.i x8.2]) rfl rfl (A1 (D1 rfl) (A1 (D1 rfl) B5)) ((A6s hx8).frz)<|qm rfl<|A0 (A7 rfl rfl) rfl<|A0 (A7 rfl rfl) rfl<|qm rfl<|qm rfl<|es (ra12 rfl rfl rfl rfl rfl rfl rfl rfl rfl rfl rfl rfl)<|s0<|oB h fun x9 hx9 h=>oB h fun x10 hx10 h=>A0 (C0 rfl rfl rfl) rfl<|A0 (K8 (rows:=List.map cI [1,0,2]) rfl rfl (F4 (fun _=>rfl) _)) rfl<|W7 (rs:=[(.agg (B1 x9))]) rfl rfl (K4 rfl (K4 rfl A2u)) (A1 rfl (A1 rfl B5)) ((A2m hx9).frz)<|B4 (rs:=[(.seq 1 (List.map cI x10.1)),.i x10.2]) rfl rfl (A1 (D1 rfl) (A1 (D1 rfl) B5)) ((A6r hx10).frz)<|qm rfl<|A0 (A7 rfl rfl) rfl<|A0 (A7 rfl rfl) rfl<|qm rfl<|qm rfl<|es (ra14 rfl rfl rfl rfl rfl rfl rfl rfl rfl rfl rfl rfl rfl rfl)<|s0<|oB h fun x11 hx11 h=>oB h fun x12 hx12 h=>A0 (K8 (rows:=List.map cI [1,3]) rfl rfl (F4 (fun _=>rfl) _)) rfl<|B4 (rs:=[(.agg (A3 x11))]) rfl rfl (A1 rfl B5) ((A28 hx11).frz)<|B4 (rs:=[(.seq 1 (List.map cI x12.1)),.i x12.2]) rfl rfl (A1 (D1 rfl) B5) ((B2n (A22 hscv) hx12).frz)<|qm rfl<|A0 (A7 rfl rfl) rfl<|A0 (A7 rfl rfl) rfl<|qm rfl<|qm rfl<|es (.k rfl (.k rfl (.k rfl (.k rfl (.k rfl (.k rfl (.k rfl (.k rfl (.k rfl (.k rfl (.k rfl (.k rfl (.k rfl (.k rfl (.k rfl (.k rfl .n))))))))))))))))<|s0<|oB h fun x13 hx13 h=>A0 (C0 rfl rfl rfl) rfl<|B4 (rs:=[(.seq 1 (List.map cI x13.1)),.i x13.2]) rfl rfl (A1 (D1 rfl) B5) ((A2o (A22 hscv) hx13).frz)<|qm rfl<|A0 (A7 rfl rfl) rfl<|A0 (A7 rfl rfl) rfl<|qm rfl<|qm rfl<|es (.k rfl (.k rfl (.k rfl (.k rfl (.k rfl (.k rfl (.k rfl (.k rfl (.k rfl (.k rfl (.k rfl (.k rfl (.k rfl (.k rfl (.k rfl (.k rfl (.k rfl (.k rfl .n))))))))))))))))))<|s0<|oB h fun x14 hx14 h=>A0 (C0 rfl rfl rfl) rfl<|B4 (rs:=[(.seq 1 (List.map cI x14.1)),.i x14.2]) rfl rfl (A1 (D1 rfl) B5) ((A2o (A22 hscv) hx14).frz)<|qm rfl<|A0 (A7 rfl rfl) rfl<|A0 (A7 rfl rfl) rfl<|qm rfl<|qm rfl<|es (.k rfl (.k rfl (.k rfl (.k rfl (.k rfl (.k rfl (.k rfl (.k rfl (.k rfl (.k rfl (.k rfl (.k rfl (.k rfl (.k rfl (.k rfl (.k rfl (.k rfl (.k rfl (.k rfl .n)))))))))))))))))))<|s0<|oB h fun x15 hx15 h=>A0 (C0 rfl rfl rfl) rfl<|B4 (rs:=[.i x15.1,.i x15.2]) rfl rfl (A1 (D1 rfl) (A1 rfl B5)) ((B39 hx15).frz)<|qm rfl ?_
 refine A0 (A7 rfl rfl) rfl<|A0 (A7 rfl rfl) rfl<|qm rfl<|qm rfl<|es (.k rfl (.k rfl (.k rfl (.k rfl (.k rfl (.k rfl (.k rfl (.k rfl (.k rfl (.k rfl (.k rfl (.k rfl (.k rfl (.k rfl (.k rfl (.k rfl (.k rfl (.k rfl (.k rfl (.k rfl (.k rfl .n)))))))))))))))))))))<|s0<|oB h fun x16 hx16 h=>A0 (C0 rfl rfl rfl) rfl<|A0 (C0 rfl rfl rfl) rfl<|B4 (rs:=[.i x16.1,.i x16.2.1,.i x16.2.2]) rfl rfl (A1 (D1 rfl) (A1 (D1 rfl) B5)) ((A8n hx16).frz)<|qm rfl<|A0 (A7 rfl rfl) rfl<|A0 (A7 rfl rfl) rfl<|A0 (A7 rfl rfl) rfl<|qm rfl<|qm rfl<|qm rfl<|es (.k rfl (.k rfl (.k rfl (.k rfl (.k rfl (.k rfl (.k rfl (.k rfl (.k rfl (.k rfl (.k rfl (.k rfl (.k rfl (.k rfl (.k rfl (.k rfl (.k rfl (.k rfl (.k rfl (.k rfl (.k rfl (.k rfl (.k rfl .n)))))))))))))))))))))))<|s0<|oB h fun x29 hx29 h=>oB h fun x35 hx35 h=>oB h fun x39 hx39 h=>oB h fun x42 hx42 h=>oB h fun x45 hx45 h=>qm rfl<|A0 (F5 rfl rfl) rfl<|qm rfl<|gp 3 98 (.b ((x3.2 == 0) && (x4.2 == 0))) 95 rfl rfl (fun hg17=>?_) (fun hg17=>?_) ?_
 ·exact gT rfl hg17<|qm rfl<|gT rfl hg17<|A0 (F5 rfl rfl) rfl<|A0 (C7 rfl hg17 rfl) rfl<|ge 3 (by rw [hg17]; rfl) rfl rfl
 ·exact nT rfl hg17 rfl<|nT rfl hg17 rfl<|A0 (C8 rfl hg17 rfl) rfl<|ge 3 (by rw [hg17]; rfl) rfl rfl
 refine qm rfl<|gp 3 102 (.b (((x3.2 == 0) && (x4.2 == 0)) && (x5.2 == 0))) 99 rfl rfl (fun hg18=>?_) (fun hg18=>?_) ?_
 ·exact gT rfl hg18<|qm rfl<|gT rfl hg18<|A0 (F5 rfl rfl) rfl<|A0 (C7 rfl hg18 rfl) rfl<|ge 3 (by rw [hg18]; rfl) rfl rfl
 ·exact nT rfl hg18 rfl<|nT rfl hg18 rfl<|A0 (C8 rfl hg18 rfl) rfl<|ge 3 (by rw [hg18]; rfl) rfl rfl
 refine qm rfl<|gp 3 106 (.b ((((x3.2 == 0) && (x4.2 == 0)) && (x5.2 == 0)) && (x6.2.2 == 0))) 103 rfl rfl (fun hg19=>?_) (fun hg19=>?_) ?_
 ·exact gT rfl hg19<|qm rfl<|gT rfl hg19<|A0 (F5 rfl rfl) rfl<|A0 (C7 rfl hg19 rfl) rfl<|ge 3 (by rw [hg19]; rfl) rfl rfl
 ·exact nT rfl hg19 rfl<|nT rfl hg19 rfl<|A0 (C8 rfl hg19 rfl) rfl<|ge 3 (by rw [hg19]; rfl) rfl rfl
 refine qm rfl<|gp 3 110 (.b (((((x3.2 == 0) && (x4.2 == 0)) && (x5.2 == 0)) && (x6.2.2 == 0)) && (x8.2 == 9))) 107 rfl rfl (fun hg20=>?_) (fun hg20=>?_) ?_
 ·exact gT rfl hg20<|qm rfl<|gT rfl hg20<|A0 (F5 rfl rfl) rfl<|A0 (C7 rfl hg20 rfl) rfl<|ge 3 (by rw [hg20]; rfl) rfl rfl
 ·exact nT rfl hg20 rfl<|nT rfl hg20 rfl<|A0 (C8 rfl hg20 rfl) rfl<|ge 3 (by rw [hg20]; rfl) rfl rfl
 refine qm rfl<|gp 3 114 (.b ((((((x3.2 == 0) && (x4.2 == 0)) && (x5.2 == 0)) && (x6.2.2 == 0)) && (x8.2 == 9)) && (x10.2 == 0))) 111 rfl rfl (fun hg21=>?_) (fun hg21=>?_) ?_
 ·exact gT rfl hg21<|qm rfl<|gT rfl hg21<|A0 (F5 rfl rfl) rfl<|A0 (C7 rfl hg21 rfl) rfl<|ge 3 (by rw [hg21]; rfl) rfl rfl
 ·exact nT rfl hg21 rfl<|nT rfl hg21 rfl<|A0 (C8 rfl hg21 rfl) rfl<|ge 3 (by rw [hg21]; rfl) rfl rfl
 refine qm rfl<|gp 3 118 (.b (((((((x3.2 == 0) && (x4.2 == 0)) && (x5.2 == 0)) && (x6.2.2 == 0)) && (x8.2 == 9)) && (x10.2 == 0)) && (x12.2 == 0))) 115 rfl rfl (fun hg22=>?_) (fun hg22=>?_) ?_
 ·exact gT rfl hg22<|qm rfl<|gT rfl hg22<|A0 (F5 rfl rfl) rfl<|A0 (C7 rfl hg22 rfl) rfl<|ge 3 (by rw [hg22]; rfl) rfl rfl
 ·exact nT rfl hg22 rfl<|nT rfl hg22 rfl<|A0 (C8 rfl hg22 rfl) rfl<|ge 3 (by rw [hg22]; rfl) rfl rfl
 refine qm rfl<|gp 3 122 (.b ((((((((x3.2 == 0) && (x4.2 == 0)) && (x5.2 == 0)) && (x6.2.2 == 0)) && (x8.2 == 9)) && (x10.2 == 0)) && (x12.2 == 0)) && (x13.2 == 0))) 119 rfl rfl (fun hg23=>?_) (fun hg23=>?_) ?_
 ·exact gT rfl hg23<|qm rfl<|gT rfl hg23<|A0 (F5 rfl rfl) rfl<|A0 (C7 rfl hg23 rfl) rfl<|ge 3 (by rw [hg23]; rfl) rfl rfl
 ·exact nT rfl hg23 rfl<|nT rfl hg23 rfl<|A0 (C8 rfl hg23 rfl) rfl<|ge 3 (by rw [hg23]; rfl) rfl rfl
 refine qm rfl<|gp 3 126 (.b (((((((((x3.2 == 0) && (x4.2 == 0)) && (x5.2 == 0)) && (x6.2.2 == 0)) && (x8.2 == 9)) && (x10.2 == 0)) && (x12.2 == 0)) && (x13.2 == 0)) && (x14.2 == 0))) 123 rfl rfl (fun hg24=>?_) (fun hg24=>?_) ?_
 ·exact gT rfl hg24<|qm rfl<|gT rfl hg24<|A0 (F5 rfl rfl) rfl<|A0 (C7 rfl hg24 rfl) rfl<|ge 3 (by rw [hg24]; rfl) rfl rfl
 ·exact nT rfl hg24 rfl<|nT rfl hg24 rfl<|A0 (C8 rfl hg24 rfl) rfl<|ge 3 (by rw [hg24]; rfl) rfl rfl
 refine qm rfl<|gp 3 130 (.b ((((((((((x3.2 == 0) && (x4.2 == 0)) && (x5.2 == 0)) && (x6.2.2 == 0)) && (x8.2 == 9)) && (x10.2 == 0)) && (x12.2 == 0)) && (x13.2 == 0)) && (x14.2 == 0)) && (x15.2 == 0))) 127 rfl rfl (fun hg25=>?_) (fun hg25=>?_) ?_
 ·exact gT rfl hg25<|qm rfl<|gT rfl hg25<|A0 (F5 rfl rfl) rfl<|A0 (C7 rfl hg25 rfl) rfl<|ge 3 (by rw [hg25]; rfl) rfl rfl
 ·exact nT rfl hg25 rfl<|nT rfl hg25 rfl<|A0 (C8 rfl hg25 rfl) rfl<|ge 3 (by rw [hg25]; rfl) rfl rfl
 refine qm rfl<|gp 3 134 (.b (((((((((((x3.2 == 0) && (x4.2 == 0)) && (x5.2 == 0)) && (x6.2.2 == 0)) && (x8.2 == 9)) && (x10.2 == 0)) && (x12.2 == 0)) && (x13.2 == 0)) && (x14.2 == 0)) && (x15.2 == 0)) && (x16.2.2 == 0))) 131 rfl rfl (fun hg26=>?_) (fun hg26=>?_) ?_
 ·exact gT rfl hg26<|qm rfl<|gT rfl hg26<|A0 (F5 rfl rfl) rfl<|A0 (C7 rfl hg26 rfl) rfl<|ge 3 (by rw [hg26]; rfl) rfl rfl
 ·exact nT rfl hg26 rfl<|nT rfl hg26 rfl<|A0 (C8 rfl hg26 rfl) rfl<|ge 3 (by rw [hg26]; rfl) rfl rfl
 refine qm rfl<|gp 4 139 (.b x29) 135 rfl rfl (fun hg27=>?_) (fun hg27=>?_) ?_
 ·refine oB (bt hx29 hg27) fun x28 hx28 hx29=>?_
  obtain rfl:=os hx29
  exact gT rfl hg27<|A0 (C0 rfl rfl rfl) rfl<|gT rfl hg27<|W7 (rs:=[(.agg (D4 x28))]) rfl rfl (K4 rfl (K4 rfl A2u)) (A1 rfl (A1 rfl B5)) ((P9 hx28).frz)<|gT rfl hg27<|A0 (C5v (a:=D4 x3.1) (b:=D4 x28) rfl rfl rfl rfl (A2x (A2x B5i))) rfl<|A0 (C7 rfl hg27 rfl) rfl<|ge 4 rfl rfl rfl
 ·obtain rfl:=os (bf hx29 hg27)
  exact nT rfl hg27 rfl<|nT rfl hg27 rfl<|nT rfl hg27 rfl<|A0 (C8 rfl hg27 rfl) rfl<|ge 4 rfl rfl rfl
 refine qm rfl<|gp 3 143 (.b (x29 && (x4.1 == 1))) 140 rfl rfl (fun hg30=>?_) (fun hg30=>?_) ?_
 ·exact gT rfl hg30<|qm rfl<|gT rfl hg30<|A0 (F5 rfl rfl) rfl<|A0 (C7 rfl hg30 rfl) rfl<|ge 3 (by rw [hg30]; rfl) rfl rfl
 ·exact nT rfl hg30 rfl<|nT rfl hg30 rfl<|A0 (C8 rfl hg30 rfl) rfl<|ge 3 (by rw [hg30]; rfl) rfl rfl
 refine qm rfl<|gp 3 147 (.b ((x29 && (x4.1 == 1)) && (x5.1 == 0))) 144 rfl rfl (fun hg31=>?_) (fun hg31=>?_) ?_
 ·exact gT rfl hg31<|qm rfl<|gT rfl hg31<|A0 (F5 rfl rfl) rfl<|A0 (C7 rfl hg31 rfl) rfl<|ge 3 (by rw [hg31]; rfl) rfl rfl
 ·exact nT rfl hg31 rfl<|nT rfl hg31 rfl<|A0 (C8 rfl hg31 rfl) rfl<|ge 3 (by rw [hg31]; rfl) rfl rfl
 refine qm rfl<|gp 5 153 (.b x35) 148 rfl rfl (fun hg32=>?_) (fun hg32=>?_) ?_
 ·refine oB (bt hx35 hg32) fun x33 hx33 hx35=>oB hx35 fun x34 hx34 hx35=>?_
  obtain rfl:=os hx35
  exact gT rfl hg32<|A0 (C0 rfl rfl rfl) rfl<|gT rfl hg32<|A0 (K8 (rows:=List.map cI [(-1),0,2]) rfl rfl (F4 (fun _=>rfl) _)) rfl<|gT rfl hg32<|W7 (rs:=[(.agg (B1 x33))]) rfl rfl (K4 rfl (K4 rfl A2u)) (A1 rfl (A1 rfl B5)) ((A2m hx33).frz)<|gT rfl hg32<|B4 (rs:=[.b x34]) rfl rfl (A1 (D1 rfl) (A1 (D1 rfl) B5)) ((A9w hx34).frz)<|A0 (C7 rfl hg32 rfl) rfl<|ge 5 rfl rfl rfl
 ·obtain rfl:=os (bf hx35 hg32)
  exact nT rfl hg32 rfl<|nT rfl hg32 rfl<|nT rfl hg32 rfl<|G8 (E6 rfl (by rw [hg32]; rfl)) rfl<|A0 (C8 rfl hg32 rfl) rfl<|ge 5 rfl rfl rfl
 refine qm rfl<|gp 3 157 (.b (x35 && (x6.2.1 == 12))) 154 rfl rfl (fun hg36=>?_) (fun hg36=>?_) ?_
 ·exact gT rfl hg36<|qm rfl<|gT rfl hg36<|A0 (F5 rfl rfl) rfl<|A0 (C7 rfl hg36 rfl) rfl<|ge 3 (by rw [hg36]; rfl) rfl rfl
 ·exact nT rfl hg36 rfl<|nT rfl hg36 rfl<|A0 (C8 rfl hg36 rfl) rfl<|ge 3 (by rw [hg36]; rfl) rfl rfl
 refine qm rfl<|gp 4 162 (.b x39) 158 rfl rfl (fun hg37=>?_) (fun hg37=>?_) ?_
 ·refine oB (bt hx39 hg37) fun x38 hx38 hx39=>?_
  obtain rfl:=os hx39
  exact gT rfl hg37<|qm rfl<|gT rfl hg37<|A0 (K8 (rows:=List.map cI [350,320]) rfl rfl (F4 (fun _=>rfl) _)) rfl<|gT rfl hg37<|B4 (rs:=[.b x38]) rfl rfl (A1 rfl (A1 rfl B5)) ((A2n hx38).frz)<|A0 (C7 rfl hg37 rfl) rfl<|ge 4 rfl rfl rfl
 ·obtain rfl:=os (bf hx39 hg37)
  exact nT rfl hg37 rfl<|nT rfl hg37 rfl<|G8 (E6 rfl (by rw [hg37]; rfl)) rfl<|A0 (C8 rfl hg37 rfl) rfl<|ge 4 rfl rfl rfl
 refine qm rfl<|gp 4 167 (.b x42) 163 rfl rfl (fun hg40=>?_) (fun hg40=>?_) ?_
 ·refine oB (bt hx42 hg40) fun x41 hx41 hx42=>?_
  obtain rfl:=os hx42
  exact gT rfl hg40<|qm rfl<|gT rfl hg40<|A0 (K8 (rows:=List.map cI [0]) rfl rfl (F4 (fun _=>rfl) _)) rfl<|gT rfl hg40<|B4 (rs:=[.b x41]) rfl rfl (A1 rfl (A1 rfl B5)) ((A2n hx41).frz)<|A0 (C7 rfl hg40 rfl) rfl<|ge 4 rfl rfl rfl
 ·obtain rfl:=os (bf hx42 hg40)
  exact nT rfl hg40 rfl<|nT rfl hg40 rfl<|G8 (E6 rfl (by rw [hg40]; rfl)) rfl<|A0 (C8 rfl hg40 rfl) rfl<|ge 4 rfl rfl rfl
 refine qm rfl<|gp 4 172 (.b x45) 168 rfl rfl (fun hg43=>?_) (fun hg43=>?_) ?_
 ·refine oB (bt hx45 hg43) fun x44 hx44 hx45=>?_
  obtain rfl:=os hx45
  exact gT rfl hg43<|qm rfl<|gT rfl hg43<|A0 (K8 (rows:=List.map cI [0]) rfl rfl (F4 (fun _=>rfl) _)) rfl<|gT rfl hg43<|B4 (rs:=[.b x44]) rfl rfl (A1 rfl (A1 rfl B5)) ((A2n hx44).frz)<|A0 (C7 rfl hg43 rfl) rfl<|ge 4 rfl rfl rfl
 ·obtain rfl:=os (bf hx45 hg43)
  exact nT rfl hg43 rfl<|nT rfl hg43 rfl<|G8 (E6 rfl (by rw [hg43]; rfl)) rfl<|A0 (C8 rfl hg43 rfl) rfl<|ge 4 rfl rfl rfl
 refine qm rfl<|gp 4 177 (.b (x45 && ((List.length x14.1:Int) == 0))) 173 rfl rfl (fun hg46=>?_) (fun hg46=>?_) ?_
 ·exact gT rfl hg46<|qm rfl<|gT rfl hg46<|A0 (D6 (f:=cI) rfl) rfl<|gT rfl hg46<|A0 (F5 rfl rfl) rfl<|A0 (C7 rfl hg46 rfl) rfl<|ge 4 (by rw [hg46]; rfl) rfl rfl
 ·exact nT rfl hg46 rfl<|nT rfl hg46 rfl<|nT rfl hg46 rfl<|A0 (C8 rfl hg46 rfl) rfl<|ge 4 (by rw [hg46]; rfl) rfl rfl
 refine qm rfl<|gp 3 181 (.b ((x45 && ((List.length x14.1:Int) == 0)) && (x15.1 == 1))) 178 rfl rfl (fun hg47=>?_) (fun hg47=>?_) ?_
 ·exact gT rfl hg47<|qm rfl<|gT rfl hg47<|A0 (F5 rfl rfl) rfl<|A0 (C7 rfl hg47 rfl) rfl<|ge 3 (by rw [hg47]; rfl) rfl rfl
 ·exact nT rfl hg47 rfl<|nT rfl hg47 rfl<|A0 (C8 rfl hg47 rfl) rfl<|ge 3 (by rw [hg47]; rfl) rfl rfl
 refine qm rfl<|gp 3 185 (.b (((x45 && ((List.length x14.1:Int) == 0)) && (x15.1 == 1)) && (x16.1 == 1))) 182 rfl rfl (fun hg48=>?_) (fun hg48=>?_) ?_
 ·exact gT rfl hg48<|qm rfl<|gT rfl hg48<|A0 (F5 rfl rfl) rfl<|A0 (C7 rfl hg48 rfl) rfl<|ge 3 (by rw [hg48]; rfl) rfl rfl
 ·exact nT rfl hg48 rfl<|nT rfl hg48 rfl<|A0 (C8 rfl hg48 rfl) rfl<|ge 3 (by rw [hg48]; rfl) rfl rfl
 refine qm rfl<|gp 3 189 (.b ((((x45 && ((List.length x14.1:Int) == 0)) && (x15.1 == 1)) && (x16.1 == 1)) && (x16.2.1 == 0))) 186 rfl rfl (fun hg49=>?_) (fun hg49=>?_) ?_
 ·exact gT rfl hg49<|qm rfl<|gT rfl hg49<|A0 (F5 rfl rfl) rfl<|A0 (C7 rfl hg49 rfl) rfl<|ge 3 (by rw [hg49]; rfl) rfl rfl
 ·exact nT rfl hg49 rfl<|nT rfl hg49 rfl<|A0 (C8 rfl hg49 rfl) rfl<|ge 3 (by rw [hg49]; rfl) rfl rfl
 refine qm rfl<|es (ra1 rfl)<|C5 ?_
 obtain rfl:=os h
 exact retq trivial (A9 rfl B7) (A4 rfl B6) (A2 A5 B2)
end Rm
end
section
set_option maxRecDepth 100000
set_option maxHeartbeats 0
namespace Rm
open Go Am
theorem Q6:I0 = some true:= by decide +kernel
end Rm
end
section
set_option maxRecDepth 100000
set_option maxHeartbeats 0
namespace Rm
open Go Am Go.Proofs.YtbheamjhjgoccaaDoor.Cd
end Rm
end
section
namespace Rm
open Go Am
def L6 (w:Span) (f:RoFigure):Int:=if f.Cracks≤w.Lo∧w.Hi≤f.Slumps then 1 else if f.Cracks > w.Hi∨w.Lo > f.Slumps then 2 else 0
theorem B9j {h:RoHouse} (ok:HOk h) {f p l:Nat} (hf:f < h.Figures.length) (hp:p < h.Places.length) (hl:l < 16):O5 ⟨h⟩ (f:Int) (p:Int) (l:Int) = some (L6 (warm h p l) h.Figures[f]!):= by
 have b:=A9n ok hp l
 have g:=(ok.figure _ (G2 hf)).bears
 unfold O5
 rw [B3r ok hp hl,F1 hf]
 simp only [Option.bind_some]
 generalize warm h p l = w at b ⊢
 generalize h.Figures[f]! = r at g ⊢
 unfold L6 A5s B1z
 by_cases c1:r.Cracks≤w.Lo
 ·by_cases c2:w.Hi≤r.Slumps
  ·simp [c1,c2,show ¬ (r.Cracks > w.Lo) by omega,show ¬ (r.Slumps < w.Hi) by omega]
  ·by_cases c3:w.Lo > r.Slumps
   ·simp [c2,c3,show ¬ (r.Cracks > w.Lo) by omega,show (r.Slumps < w.Hi) by omega,show ¬ (r.Slumps = w.Hi) by omega]
   ·simp [c2,c3,show ¬ (r.Cracks > w.Lo) by omega,show (r.Slumps < w.Hi) by omega,show ¬ (r.Slumps = w.Hi) by omega,show ¬ (r.Cracks > w.Hi) by omega]
 ·by_cases c2:w.Hi≤r.Slumps
  ·by_cases c3:r.Cracks > w.Hi
   ·simp [c1,c3,show (r.Cracks > w.Lo) by omega,show ¬ (r.Slumps < w.Hi) by omega,show ¬ (r.Cracks = w.Lo) by omega]
   ·simp [c1,c3,show (r.Cracks > w.Lo) by omega,show ¬ (r.Slumps < w.Hi) by omega,show ¬ (r.Cracks = w.Lo) by omega,show ¬ (w.Lo > r.Slumps) by omega]
  ·have h1:¬ (r.Cracks > r.Slumps):= by omega
   simp [c1,h1,show (r.Cracks > w.Lo) by omega,show (r.Slumps < w.Hi) by omega,show ¬ (r.Cracks = w.Lo) by omega,show ¬ (w.Lo > r.Slumps) by omega,show ¬ (r.Cracks > w.Hi) by omega]
theorem A5w {h:RoHouse} (ok:HOk h):1≤2 ^ h.Stoves.toNat∧2 ^ h.Stoves.toNat≤8:= by
 have:=ok.s
 exact ⟨Nat.pow_pos (by decide),Nat.le_trans (Nat.pow_le_pow_right (by decide) (show h.Stoves.toNat≤3 by omega)) (by decide)⟩
theorem D7z {h:RoHouse} (ok:HOk h):B3u .i64 1 h.Stoves = some ((2 ^ h.Stoves.toNat:Nat):Int):= by
 have:=ok.s
 have e:=shl1 h.Stoves.toNat (by omega)
 rwa [Int.toNat_of_nonneg ok.s.1] at e
theorem C8e {h:RoHouse} (ok:HOk h):A1a h.Stoves = some ((2 ^ h.Stoves.toNat:Nat):Int):= by
 have:=ok.s
 have e:=D1m h.Stoves.toNat (by omega)
 rwa [Int.toNat_of_nonneg ok.s.1] at e
end Rm
end
section
set_option maxRecDepth 100000
set_option maxHeartbeats 0
namespace Rm
open Go Am Go.Proofs.YtbheamjhjgoccaaDoor.Cd
def A1t (a0:RoHouse) (a1:RoPlan) (s1:(Int × (List Int))) (s4:(Int × Int)):Option ((Int × Int) ⊕ Int) :=
 if (decide (s4.2 < (List.length a1.At:Int))) = true then
  (idx a1.At s4.2).bind fun x7 =>
  (if (x7 != (-1)) = true then
  (idx a1.At s4.2).bind fun x9 =>
  (idx a0.Places x9).bind fun x10 =>
  (A3v x10.Joists s1.1).bind fun x11 =>
  some x11
  else
  some false).bind fun x12 =>
  if x12 = true then
  (idx a0.Figures s4.2).bind fun x14 =>
  some (.inl ((w64 (s4.1 + x14.Weight)),(w64 (s4.2 + 1))))
  else
  some (.inl (s4.1,(w64 (s4.2 + 1))))
 else
  some (.inr s4.1)
def A1u (a0:RoHouse) (a1:RoPlan) (s1:(Int × (List Int))):Option ((Int × (List Int)) ⊕ (List Int)) :=
 if (decide (s1.1 < (List.length a0.Holds:Int))) = true then
  (loop (A1t a0 a1 s1) (0,0)).bind fun (o15:Int) =>
  (app 8 s1.2 [o15]).bind fun x16 =>
  some (.inl ((w64 (s1.1 + 1)),x16))
 else
  some (.inr s1.2)
def A3d (a0:RoHouse) (a1:RoPlan):Option (List Int) :=
 (loop (A1u a0 a1) (0,([]:List Int))).bind fun (o17:(List Int)) =>
 some o17
theorem A8m {c:Sc} {H:A6} {a0:RoHouse} {a1:RoPlan} {r:(List Int)} (h:A3d a0 a1 = some r) :
  E7 tab c H (.fn (.func 51) [] []) [(.agg (A3 a0)),(.agg (B1 a1))] [(.fresh 1 (List.map cI r))]:= by
 unfold A3d at h
 refine cE rfl rfl<|sg 0 rfl<|A0 (E8 (cs:=A3 a0) rfl rfl rfl) rfl<|A0 (E8 (cs:=B1 a1) rfl rfl rfl) rfl<|qm rfl<|es (ra2 rfl rfl)<|sg 2 rfl<|A0 B32 rfl<|es (ra3 rfl rfl rfl)<|B8<|s0<|qm rfl<|es (ra4 rfl rfl rfl rfl)<|C6<|oB h fun o17 ho17 h=>wl (fun s1=>[(2,(.ptr (H.length + 0) 0)),(3,(.ptr (H.length + 1) 0)),(5,(.asl (H.length + 2) (List.length s1.2))),(6,.i s1.1)]) (fun (q2:Unit) s1=>[(.cells (A3 a0)),(.cells (B1 a1)),(.arr 1 false (List.map cI s1.2))]) 3 (fun r e s' H'=>PX 0 [(5,(.asl (H.length + 2) (List.length r)))] (H++[(.cells (A3 a0)),(.cells (B1 a1)),(.arr 1 false (List.map cI r))]) e s' H') () ho17 rfl rfl (fun _ _=>rfl) (fun _=>rfl) rfl (fun s1=>(bdc (D8 rfl) (bdc (D8 rfl) (bdc (A7a rfl) (bdc A5 bdn))))) (fun q2 s1 ys1 hs1=>?_) ?_
 ·unfold A1u at hs1
  refine B8<|s0<|qm rfl<|A0 (C4 rfl) rfl<|A0 (C2 rfl rfl rfl) rfl<|A0 (D6 (f:=cI) rfl) rfl<|A0 (F9 rfl rfl) rfl<|es (ra5 rfl rfl rfl rfl rfl)<|wi hs1 rfl (fun hc3 hs1=>?_) fun hc3 hs1=>?_
  ·refine C1<|B8<|C6<|s0<|qm rfl<|es (ra5 rfl rfl rfl rfl rfl)<|B8<|s0<|qm rfl<|es (ra6 rfl rfl rfl rfl rfl rfl)<|C6<|oB hs1 fun o15 ho15 hs1=>wl (fun s4=>[(2,(.ptr (H.length + 0) 0)),(3,(.ptr (H.length + 1) 0)),(5,(.asl (H.length + 2) (List.length s1.2))),(6,.i s1.1),(7,.i s4.1),(8,.i s4.2)]) (fun (q5:Unit) s4=>[(.cells (A3 a0)),(.cells (B1 a1)),(.arr 1 false (List.map cI s1.2))]) 3 (fun r e s' H'=>PX 2 [(2,(.ptr (H.length + 0) 0)),(3,(.ptr (H.length + 1) 0)),(5,(.asl (H.length + 2) (List.length s1.2))),(6,.i s1.1),(7,.i r)] (H++[(.cells (A3 a0)),(.cells (B1 a1)),(.arr 1 false (List.map cI s1.2))]) e s' H') () ho15 rfl rfl (fun _ _=>rfl) (fun _=>rfl) rfl (fun s4=>(bdc (D8 rfl) (bdc (D8 rfl) (bdc (A7a rfl) (bdc A5 (bdc A5 (bdc A5 bdn))))))) (fun q5 s4 ys4 hs4=>?_) ?_
   ·unfold A1t at hs4
    refine B8<|s0<|qm rfl<|A0 (C4 rfl) rfl<|A0 (C2 rfl rfl rfl) rfl<|A0 (D6 (f:=cI) rfl) rfl<|A0 (F9 rfl rfl) rfl<|es (ra7 rfl rfl rfl rfl rfl rfl rfl)<|wi hs4 rfl (fun hc6 hs4=>?_) fun hc6 hs4=>?_
    ·refine C1<|B8<|C6<|s0<|oB hs4 fun x7 hx7 hs4=>oB hs4 fun x12 hx12 hs4=>A0 (C4 rfl) rfl<|A0 (C2 rfl rfl rfl) rfl<|qm rfl<|A0 (E2 (f:=cI) rfl rfl hx7) rfl<|A0 (E4 rfl rfl) rfl<|A0 (F7 rfl rfl) rfl<|qm rfl<|gp 13 42 (.b x12) 29 rfl rfl (fun hg8=>?_) (fun hg8=>?_) ?_
     ·refine oB (bt hx12 hg8) fun x9 hx9 hx12=>oB hx12 fun x10 hx10 hx12=>oB hx12 fun x11 hx11 hx12=>?_
      obtain rfl:=os hx12
      exact gT rfl hg8<|A0 (C4 rfl) rfl<|gT rfl hg8<|A0 (C2 rfl rfl rfl) rfl<|gT rfl hg8<|A0 (C4 rfl) rfl<|gT rfl hg8<|A0 (C2 rfl rfl rfl) rfl<|gT rfl hg8<|qm rfl<|gT rfl hg8<|A0 (E2 (f:=cI) rfl rfl hx9) rfl<|gT rfl hg8<|A0 (E4 rfl rfl) rfl<|gT rfl hg8<|A0 (E2 (f:=C3) rfl rfl hx10) rfl<|gT rfl hg8<|A0 (A20 (ds:=(List.drop 3 (C3 x10))) rfl rfl) rfl<|gT rfl hg8<|A0 (E4 rfl rfl) rfl<|gT rfl hg8<|qm rfl<|gT rfl hg8<|B4 (rs:=[.b x11]) rfl rfl (A1 rfl (A1 rfl B5)) ((A5v hx11).frz)<|A0 (C7 rfl hg8 rfl) rfl<|ge 13 rfl rfl rfl
     ·obtain rfl:=os (bf hx12 hg8)
      exact nT rfl hg8 rfl<|nT rfl hg8 rfl<|nT rfl hg8 rfl<|nT rfl hg8 rfl<|nT rfl hg8 rfl<|nT rfl hg8 rfl<|nT rfl hg8 rfl<|nT rfl hg8 rfl<|nT rfl hg8 rfl<|nT rfl hg8 rfl<|nT rfl hg8 rfl<|G8 (E6 rfl (by rw [hg8]; rfl)) rfl<|A0 (C8 rfl hg8 rfl) rfl<|ge 13 rfl rfl rfl
     refine es (ra7 rfl rfl rfl rfl rfl rfl rfl)<|wi hs4 rfl (fun hc13 hs4=>?_) fun hc13 hs4=>?_
     ·refine r0<|oB hs4 fun x14 hx14 hs4=>qm rfl<|A0 (C4 rfl) rfl<|A0 (C2 rfl rfl rfl) rfl<|qm rfl<|A0 (E2 (f:=B3) rfl rfl hx14) rfl<|A0 (A20 (ds:=(List.drop 2 (B3 x14))) rfl rfl) rfl<|A0 (E4 rfl rfl) rfl<|A0 (E1 rfl rfl) rfl<|qm rfl<|en (ra6 rfl rfl rfl rfl rfl rfl)<|r0<|qm rfl<|A0 (E1 rfl rfl) rfl<|qm rfl<|en (ra6 rfl rfl rfl rfl rfl rfl) ?_
      cases hs4
      exact lnT () rfl (su6 rfl rfl rfl rfl rfl rfl)
     ·refine C1<|r0<|qm rfl<|A0 (E1 rfl rfl) rfl<|qm rfl<|en (ra6 rfl rfl rfl rfl rfl rfl) ?_
      cases hs4
      exact lnT () rfl (su6 rfl rfl rfl rfl rfl rfl)
    ·refine E9 ?_
     obtain rfl:=os hs4
     exact lx rfl px (su5 rfl rfl rfl rfl rfl)
   ·rintro e s' H' - ⟨rfl,rfl,rfl⟩
    refine r0<|oB hs1 fun x16 hx16 hs1=>qm rfl<|qm rfl<|A0 (K8 (rows:=List.map cI [o15]) rfl rfl (F4 (fun _=>rfl) _)) rfl<|A8p (A5t (f:=cI) rfl rfl rfl rfl A2v (fun _=>rfl) hx16) rfl<|qm rfl<|en (ra4 rfl rfl rfl rfl)<|r0<|qm rfl<|A0 (E1 rfl rfl) rfl<|qm rfl<|en (ra4 rfl rfl rfl rfl) ?_
    cases hs1
    exact lnT () rfl (su4 rfl rfl rfl rfl)
  ·refine E9 ?_
   obtain rfl:=os hs1
   exact lx rfl px (su1 rfl)
 ·rintro e s' H' - ⟨rfl,rfl,rfl⟩
  refine s0<|qm rfl<|qm rfl<|es (ra1 rfl)<|C5 ?_
  obtain rfl:=os h
  exact retq trivial (A9 rfl B7) (A4 (B2q rfl (List.length_map _)) B6) (A2 A6u B2)
def A5x (a0:(List Int)) (a1:Int) (s1:Int):Option (Int ⊕ (Bool ⊕ Unit)) :=
 if (decide (s1 < (List.length a0:Int))) = true then
  (idx a0 s1).bind fun x4 =>
  if (x4 == a1) = true then
  some (.inr (.inl true))
  else
  some (.inl (w64 (s1 + 1)))
 else
  some (.inr (.inr ()))
def A3t (a0:(List Int)) (a1:Int):Option Bool :=
 (loop (A5x a0 a1) 0).bind fun (o6:(Bool ⊕ Unit)) =>
 match o6 with
 | (.inl vo6_0) =>
  some vo6_0
 | (.inr vo6_1) =>
  some false
theorem A7p {c:Sc} {H:A6} {a0:(List Int)} {a1:Int} {r:Bool} (h:A3t a0 a1 = some r) :
  E7 tab c H (.fn (.func 54) [] []) [(.seq 1 (List.map cI a0)),.i a1] [.b r]:= by
 unfold A3t at h
 refine cE rfl rfl<|s0<|qm rfl<|es (ra2 rfl rfl)<|B8<|s0<|qm rfl<|es (ra3 rfl rfl rfl)<|C6<|oB h fun o6 ho6 h=>wl (fun s1=>[(0,(.seq 1 (List.map cI a0))),(1,.i a1),(5,.i s1)]) (fun (q2:Unit) s1=>[]) 0 (fun r e s' H'=>(match r with | (.inl v)=>e = .ret∧RetQ H [.tmp 4] [.b v] e s' H' | (.inr v)=>PX 0 [] (H++[]) e s' H':Prop)) () ho6 rfl rfl (fun _ _=>rfl) (fun _=>rfl) rfl (fun s1=>(bdc G7 (bdc A5 (bdc A5 bdn)))) (fun q2 s1 ys1 hs1=>?_) ?_
 ·unfold A5x at hs1
  refine B8<|s0<|qm rfl<|qm rfl<|A0 (D6 (f:=cI) rfl) rfl<|A0 (F9 rfl rfl) rfl<|es (ra4 rfl rfl rfl rfl)<|wi hs1 rfl (fun hc3 hs1=>?_) fun hc3 hs1=>?_
  ·refine C1<|B8<|C6<|s0<|oB hs1 fun x4 hx4 hs1=>qm rfl<|qm rfl<|A0 (E2 (f:=cI) rfl rfl hx4) rfl<|A0 (E4 rfl rfl) rfl<|qm rfl<|A0 (F5 rfl rfl) rfl<|es (ra4 rfl rfl rfl rfl)<|wi hs1 rfl (fun hc5 hs1=>?_) fun hc5 hs1=>?_
   ·refine s0<|qm rfl<|es (ra1 rfl)<|C5 ?_
    obtain rfl:=os hs1
    exact lx rfl (And.intro rfl (retq trivial (A9 rfl B7) (A4 rfl B6) (A2 A5 B2))) (Sub.refl _)
   ·refine C1<|r0<|qm rfl<|A0 (E1 rfl rfl) rfl<|qm rfl<|en (ra3 rfl rfl rfl) ?_
    cases hs1
    exact lnT () rfl (su3 rfl rfl rfl)
  ·refine E9 ?_
   obtain rfl:=os hs1
   exact lx rfl px (.nil _)
 ·rcases o6 with vo6_0 | vo6_1
  ·rintro e s' H' - ⟨rfl,hret⟩
   cases h
   exact hret
  ·rintro e s' H' - ⟨rfl,rfl,rfl⟩
   refine s0<|qm rfl<|es (ra1 rfl)<|C5 ?_
   obtain rfl:=os h
   exact retq trivial (A9 rfl B7) (A4 rfl B6) (A2 A5 B2)
def O4 (a0:RoHouse) (a1:RoPlan) (s11:(Int × Int)):Option ((Int × Int) ⊕ Int) :=
 if ((decide (s11.2 < (List.length a1.At:Int))) && (s11.1 == 0)) = true then
  (idx a1.At s11.2).bind fun x15 =>
  (H9 x15 (-1) (w64 ((List.length a0.Places:Int) - 1))).bind fun x16 =>
  if (!x16) = true then
  some (.inl (4,(w64 (s11.2 + 1))))
  else
  some (.inl (s11.1,(w64 (s11.2 + 1))))
 else
  some (.inr s11.1)
def U8 (a1:RoPlan) (s19:(Int × Int)):Option ((Int × Int) ⊕ Int) :=
 if ((decide (s19.2 < (List.length a1.At:Int))) && (s19.1 == 0)) = true then
  (idx a1.At s19.2).bind fun x23 =>
  (if (x23 != (-1)) = true then
  (slc a1.At 0 s19.2).bind fun x25 =>
  (idx a1.At s19.2).bind fun x26 =>
  (A3t x25 x26).bind fun x27 =>
  some x27
  else
  some false).bind fun x28 =>
  if x28 = true then
  some (.inl (5,(w64 (s19.2 + 1))))
  else
  some (.inl (s19.1,(w64 (s19.2 + 1))))
 else
  some (.inr s19.1)
def A42 (a0:RoHouse) (a1:RoPlan):Option Int :=
 (Y1 a0).bind fun x1 =>
 (if (x1.2.2 == 0) = true then
  (A1a a0.Stoves).bind fun x3 =>
  (H9 a1.Lit 0 (w64 (x3 - 1))).bind fun x4 =>
  some (!x4)
 else
  some false).bind fun x5 =>
 (if x5 = true then
  some 7
  else
  some x1.2.2).bind fun (p6:Int) =>
 (if ((p6 == 0) && ((List.length a1.At:Int) != (List.length a0.Figures:Int))) = true then
  some 3
  else
  some p6).bind fun (p9:Int) =>
 (loop (O4 a0 a1) (p9,0)).bind fun (o18:Int) =>
 (loop (U8 a1) (o18,0)).bind fun (o30:Int) =>
 some o30
theorem A9v {c:Sc} {H:A6} {a0:RoHouse} {a1:RoPlan} {r:Int} (h:A42 a0 a1 = some r) :
  E7 tab c H (.fn (.func 45) [] []) [(.agg (A3 a0)),(.agg (B1 a1))] [.i r]:= by
 unfold A42 at h
 refine cE rfl rfl<|sg 0 rfl<|A0 (E8 (cs:=A3 a0) rfl rfl rfl) rfl<|A0 (E8 (cs:=B1 a1) rfl rfl rfl) rfl<|qm rfl<|es (ra2 rfl rfl)<|s0<|oB h fun x1 hx1 h=>A0 (C0 rfl rfl rfl) rfl<|B4 (rs:=[.i x1.1,.i x1.2.1,.i x1.2.2]) rfl rfl (A1 (D1 rfl) B5) ((A1p hx1).frz)<|qm rfl<|A0 (A7 rfl rfl) rfl<|A0 (A7 rfl rfl) rfl<|A0 (A7 rfl rfl) rfl<|qm rfl<|qm rfl<|qm rfl<|es (ra3 rfl rfl rfl)<|B8<|s0<|oB h fun x5 hx5 h=>qm rfl<|A0 (F5 rfl rfl) rfl<|qm rfl<|gp 9 27 (.b x5) 18 rfl rfl (fun hg2=>?_) (fun hg2=>?_) ?_
 ·refine oB (bt hx5 hg2) fun x3 hx3 hx5=>oB hx5 fun x4 hx4 hx5=>?_
  obtain rfl:=os hx5
  exact gT rfl hg2<|A0 (C4 rfl) rfl<|gT rfl hg2<|A0 (C2 rfl rfl rfl) rfl<|gT rfl hg2<|A0 (C4 rfl) rfl<|gT rfl hg2<|A0 (C2 rfl rfl rfl) rfl<|gT rfl hg2<|W7 (rs:=[.i x3]) rfl rfl (K4 rfl A2u) (A1 rfl B5) ((A6q hx3).frz)<|gT rfl hg2<|A0 (T3 rfl rfl) rfl<|gT rfl hg2<|B4 (rs:=[.b x4]) rfl rfl (A1 rfl (A1 rfl (A1 rfl B5))) ((I6 hx4).frz)<|gT rfl hg2<|A0 (Q5 rfl) rfl<|A0 (C7 rfl hg2 rfl) rfl<|ge 9 rfl rfl rfl
 ·obtain rfl:=os (bf hx5 hg2)
  exact nT rfl hg2 rfl<|nT rfl hg2 rfl<|nT rfl hg2 rfl<|nT rfl hg2 rfl<|nT rfl hg2 rfl<|nT rfl hg2 rfl<|G8 (E6 rfl (by rw [hg2]; rfl)) rfl<|nT rfl hg2 rfl<|A0 (C8 rfl hg2 rfl) rfl<|ge 9 rfl rfl rfl
 refine es (ra4 rfl rfl rfl rfl)<|oB h fun p6 hp6 h=>A90 (Q1:=fun e s' H'=>e = .normal∧s' = [(2,(.ptr (H.length + 0) 0)),(3,(.ptr (H.length + 1) 0)),(7,.i p6)]∧H' = (H++[(.cells (A3 a0)),(.cells (B1 a1))])) ?_ ?_
 ·refine wi hp6 rfl (fun hc7 hp6=>?_) fun hc7 hp6=>?_
  ·refine r0<|qm rfl<|en (ra3 rfl rfl rfl) ?_
   obtain rfl:=os hp6
   exact me (And.intro rfl (And.intro rfl rfl)) (su3 rfl rfl rfl)
  ·refine C1 ?_
   obtain rfl:=os hp6
   exact me (And.intro rfl (And.intro rfl rfl)) (su3 rfl rfl rfl)
 ·rintro e s' H' ⟨rfl,rfl,rfl⟩
  refine B8<|s0<|qm rfl<|A0 (F5 rfl rfl) rfl<|qm rfl<|gp 8 38 (.b ((p6 == 0) && ((List.length a1.At:Int) != (List.length a0.Figures:Int)))) 30 rfl rfl (fun hg8=>?_) (fun hg8=>?_) ?_
  ·exact gT rfl hg8<|A0 (C4 rfl) rfl<|gT rfl hg8<|A0 (C2 rfl rfl rfl) rfl<|gT rfl hg8<|A0 (D6 (f:=cI) rfl) rfl<|gT rfl hg8<|A0 (C4 rfl) rfl<|gT rfl hg8<|A0 (C2 rfl rfl rfl) rfl<|gT rfl hg8<|A0 (D6 (f:=B3) rfl) rfl<|gT rfl hg8<|A0 (F7 rfl rfl) rfl<|A0 (C7 rfl hg8 rfl) rfl<|ge 8 (by rw [hg8]; rfl) rfl rfl
  ·exact nT rfl hg8 rfl<|nT rfl hg8 rfl<|nT rfl hg8 rfl<|nT rfl hg8 rfl<|nT rfl hg8 rfl<|nT rfl hg8 rfl<|nT rfl hg8 rfl<|A0 (C8 rfl hg8 rfl) rfl<|ge 8 (by rw [hg8]; rfl) rfl rfl
  refine es (ra4 rfl rfl rfl rfl)<|oB h fun p9 hp9 h=>A90 (Q1:=fun e s' H'=>e = .normal∧s' = [(2,(.ptr (H.length + 0) 0)),(3,(.ptr (H.length + 1) 0)),(7,.i p9)]∧H' = (H++[(.cells (A3 a0)),(.cells (B1 a1))])) ?_ ?_
  ·refine wi hp9 rfl (fun hc10 hp9=>?_) fun hc10 hp9=>?_
   ·refine r0<|qm rfl<|en (ra3 rfl rfl rfl) ?_
    obtain rfl:=os hp9
    exact me (And.intro rfl (And.intro rfl rfl)) (su3 rfl rfl rfl)
   ·refine C1 ?_
    obtain rfl:=os hp9
    exact me (And.intro rfl (And.intro rfl rfl)) (su3 rfl rfl rfl)
  ·rintro e s' H' ⟨rfl,rfl,rfl⟩
   refine B8<|s0<|qm rfl<|es (ra4 rfl rfl rfl rfl)<|C6<|oB h fun o18 ho18 h=>wl (fun s11=>[(2,(.ptr (H.length + 0) 0)),(3,(.ptr (H.length + 1) 0)),(7,.i s11.1),(8,.i s11.2)]) (fun (q12:Unit) s11=>[(.cells (A3 a0)),(.cells (B1 a1))]) 2 (fun r e s' H'=>PX 0 [(3,(.ptr (H.length + 1) 0)),(7,.i r)] (H++[(.cells (A3 a0)),(.cells (B1 a1))]) e s' H') () ho18 rfl rfl (fun _ _=>rfl) (fun _=>rfl) rfl (fun s11=>(bdc (D8 rfl) (bdc (D8 rfl) (bdc A5 (bdc A5 bdn))))) (fun q12 s11 ys11 hs11=>?_) ?_
   ·unfold O4 at hs11
    refine B8<|s0<|qm rfl<|A0 (C4 rfl) rfl<|A0 (C2 rfl rfl rfl) rfl<|A0 (D6 (f:=cI) rfl) rfl<|A0 (F9 rfl rfl) rfl<|qm rfl<|gp 3 47 (.b ((decide (s11.2 < (List.length a1.At:Int))) && (s11.1 == 0))) 44 rfl rfl (fun hg13=>?_) (fun hg13=>?_) ?_
    ·exact gT rfl hg13<|qm rfl<|gT rfl hg13<|A0 (F5 rfl rfl) rfl<|A0 (C7 rfl hg13 rfl) rfl<|ge 3 (by rw [hg13]; rfl) rfl rfl
    ·exact nT rfl hg13 rfl<|nT rfl hg13 rfl<|A0 (C8 rfl hg13 rfl) rfl<|ge 3 (by rw [hg13]; rfl) rfl rfl
    refine es (ra5 rfl rfl rfl rfl rfl)<|wi hs11 rfl (fun hc14 hs11=>?_) fun hc14 hs11=>?_
    ·refine C1<|B8<|C6<|s0<|oB hs11 fun x15 hx15 hs11=>oB hs11 fun x16 hx16 hs11=>A0 (C4 rfl) rfl<|A0 (C2 rfl rfl rfl) rfl<|qm rfl<|A0 (E2 (f:=cI) rfl rfl hx15) rfl<|A0 (E4 rfl rfl) rfl<|A0 (C4 rfl) rfl<|A0 (C2 rfl rfl rfl) rfl<|A0 (D6 (f:=C3) rfl) rfl<|A0 (T3 rfl rfl) rfl<|B4 (rs:=[.b x16]) rfl rfl (A1 rfl (A1 rfl (A1 rfl B5))) ((I6 hx16).frz)<|A0 (Q5 rfl) rfl<|es (ra5 rfl rfl rfl rfl rfl)<|wi hs11 rfl (fun hc17 hs11=>?_) fun hc17 hs11=>?_
     ·refine r0<|qm rfl<|en (ra4 rfl rfl rfl rfl)<|r0<|qm rfl<|A0 (E1 rfl rfl) rfl<|qm rfl<|en (ra4 rfl rfl rfl rfl) ?_
      cases hs11
      exact lnT () rfl (su4 rfl rfl rfl rfl)
     ·refine C1<|r0<|qm rfl<|A0 (E1 rfl rfl) rfl<|qm rfl<|en (ra4 rfl rfl rfl rfl) ?_
      cases hs11
      exact lnT () rfl (su4 rfl rfl rfl rfl)
    ·refine E9 ?_
     obtain rfl:=os hs11
     exact lx rfl px (su2 rfl rfl)
   ·rintro e s' H' - ⟨rfl,rfl,rfl⟩
    refine B8<|s0<|qm rfl<|es (ra3 rfl rfl rfl)<|C6<|oB h fun o30 ho30 h=>wl (fun s19=>[(3,(.ptr (H.length + 1) 0)),(7,.i s19.1),(9,.i s19.2)]) (fun (q20:Unit) s19=>[(.cells (A3 a0)),(.cells (B1 a1))]) 2 (fun r e s' H'=>PX 2 [(7,.i r)] (H++[(.cells (A3 a0)),(.cells (B1 a1))]) e s' H') () ho30 rfl rfl (fun _ _=>rfl) (fun _=>rfl) rfl (fun s19=>(bdc (D8 rfl) (bdc A5 (bdc A5 bdn)))) (fun q20 s19 ys19 hs19=>?_) ?_
    ·unfold U8 at hs19
     refine B8<|s0<|qm rfl<|A0 (C4 rfl) rfl<|A0 (C2 rfl rfl rfl) rfl<|A0 (D6 (f:=cI) rfl) rfl<|A0 (F9 rfl rfl) rfl<|qm rfl<|gp 3 69 (.b ((decide (s19.2 < (List.length a1.At:Int))) && (s19.1 == 0))) 66 rfl rfl (fun hg21=>?_) (fun hg21=>?_) ?_
     ·exact gT rfl hg21<|qm rfl<|gT rfl hg21<|A0 (F5 rfl rfl) rfl<|A0 (C7 rfl hg21 rfl) rfl<|ge 3 (by rw [hg21]; rfl) rfl rfl
     ·exact nT rfl hg21 rfl<|nT rfl hg21 rfl<|A0 (C8 rfl hg21 rfl) rfl<|ge 3 (by rw [hg21]; rfl) rfl rfl
     refine es (ra4 rfl rfl rfl rfl)<|wi hs19 rfl (fun hc22 hs19=>?_) fun hc22 hs19=>?_
     ·refine C1<|B8<|C6<|s0<|oB hs19 fun x23 hx23 hs19=>oB hs19 fun x28 hx28 hs19=>A0 (C4 rfl) rfl<|A0 (C2 rfl rfl rfl) rfl<|qm rfl<|A0 (E2 (f:=cI) rfl rfl hx23) rfl<|A0 (E4 rfl rfl) rfl<|A0 (F7 rfl rfl) rfl<|qm rfl<|gp 11 89 (.b x28) 78 rfl rfl (fun hg24=>?_) (fun hg24=>?_) ?_
      ·refine oB (bt hx28 hg24) fun x25 hx25 hx28=>oB hx28 fun x26 hx26 hx28=>oB hx28 fun x27 hx27 hx28=>?_
       obtain rfl:=os hx28
       exact gT rfl hg24<|A0 (C4 rfl) rfl<|gT rfl hg24<|A0 (C2 rfl rfl rfl) rfl<|gT rfl hg24<|qm rfl<|gT rfl hg24<|A0 (B0c (f:=cI) rfl rfl rfl hx25) rfl<|gT rfl hg24<|A0 (C4 rfl) rfl<|gT rfl hg24<|A0 (C2 rfl rfl rfl) rfl<|gT rfl hg24<|qm rfl<|gT rfl hg24<|A0 (E2 (f:=cI) rfl rfl hx26) rfl<|gT rfl hg24<|A0 (E4 rfl rfl) rfl<|gT rfl hg24<|B4 (rs:=[.b x27]) rfl rfl (A1 rfl (A1 rfl B5)) ((A7p hx27).frz)<|A0 (C7 rfl hg24 rfl) rfl<|ge 11 rfl rfl rfl
      ·obtain rfl:=os (bf hx28 hg24)
       exact nT rfl hg24 rfl<|nT rfl hg24 rfl<|nT rfl hg24 rfl<|nT rfl hg24 rfl<|nT rfl hg24 rfl<|nT rfl hg24 rfl<|nT rfl hg24 rfl<|nT rfl hg24 rfl<|nT rfl hg24 rfl<|G8 (E6 rfl (by rw [hg24]; rfl)) rfl<|A0 (C8 rfl hg24 rfl) rfl<|ge 11 rfl rfl rfl
      refine es (ra4 rfl rfl rfl rfl)<|wi hs19 rfl (fun hc29 hs19=>?_) fun hc29 hs19=>?_
      ·refine r0<|qm rfl<|en (ra3 rfl rfl rfl)<|r0<|qm rfl<|A0 (E1 rfl rfl) rfl<|qm rfl<|en (ra3 rfl rfl rfl) ?_
       cases hs19
       exact lnT () rfl (su3 rfl rfl rfl)
      ·refine C1<|r0<|qm rfl<|A0 (E1 rfl rfl) rfl<|qm rfl<|en (ra3 rfl rfl rfl) ?_
       cases hs19
       exact lnT () rfl (su3 rfl rfl rfl)
     ·refine E9 ?_
      obtain rfl:=os hs19
      exact lx rfl px (su1 rfl)
    ·rintro e s' H' - ⟨rfl,rfl,rfl⟩
     refine s0<|qm rfl<|qm rfl<|es (ra1 rfl)<|C5 ?_
     obtain rfl:=os h
     exact retq trivial (A9 rfl B7) (A4 rfl B6) (A2 A5 B2)
def A2r (a0:RoHouse) (a1:RoPlan) (s1:Int) (s4:(Int × Int)):Option ((Int × Int) ⊕ Int) :=
 if (decide (s4.2 < (List.length a1.At:Int))) = true then
  (idx a1.At s4.2).bind fun x7 =>
  (if (x7 != (-1)) = true then
  (idx a1.At s4.2).bind fun x9 =>
  (idx a0.Places x9).bind fun x10 =>
  some x10.Dear
  else
  some false).bind fun x11 =>
  (if x11 = true then
  (idx a0.Figures s4.2).bind fun x13 =>
  some (x13.Class == s1)
  else
  some false).bind fun x14 =>
  if x14 = true then
  some (.inl ((w64 (s4.1 + 1)),(w64 (s4.2 + 1))))
  else
  some (.inl (s4.1,(w64 (s4.2 + 1))))
 else
  some (.inr s4.1)
def A2s (a0:RoHouse) (s1:Int) (s17:(Int × Int)):Option ((Int × Int) ⊕ Int) :=
 if (decide (s17.2 < (List.length a0.Bill:Int))) = true then
  (idx a0.Bill s17.2).bind fun x20 =>
  if (x20 == s1) = true then
  some (.inl ((w64 (s17.1 + 1)),(w64 (s17.2 + 1))))
  else
  some (.inl (s17.1,(w64 (s17.2 + 1))))
 else
  some (.inr s17.1)
def A4f (a0:RoHouse) (a1:RoPlan) (s1:Int):Option (Int ⊕ (Bool ⊕ Unit)) :=
 if (decide (s1≤9)) = true then
  (loop (A2r a0 a1 s1) (0,0)).bind fun (o16:Int) =>
  (loop (A2s a0 s1) (0,0)).bind fun (o22:Int) =>
  if (decide (o16 < o22)) = true then
  some (.inr (.inl false))
  else
  some (.inl (w64 (s1 + 1)))
 else
  some (.inr (.inr ()))
def A6h (a0:RoHouse) (a1:RoPlan):Option Bool :=
 (loop (A4f a0 a1) 0).bind fun (o24:(Bool ⊕ Unit)) =>
 match o24 with
 | (.inl vo24_0) =>
  some vo24_0
 | (.inr vo24_1) =>
  some true
theorem B35 {c:Sc} {H:A6} {a0:RoHouse} {a1:RoPlan} {r:Bool} (h:A6h a0 a1 = some r) :
  E7 tab c H (.fn (.func 47) [] []) [(.agg (A3 a0)),(.agg (B1 a1))] [.b r]:= by
 unfold A6h at h
 refine cE rfl rfl<|sg 0 rfl<|A0 (E8 (cs:=A3 a0) rfl rfl rfl) rfl<|A0 (E8 (cs:=B1 a1) rfl rfl rfl) rfl<|qm rfl<|es (ra2 rfl rfl)<|B8<|s0<|qm rfl<|es (ra3 rfl rfl rfl)<|C6<|oB h fun o24 ho24 h=>wl (fun s1=>[(2,(.ptr (H.length + 0) 0)),(3,(.ptr (H.length + 1) 0)),(5,.i s1)]) (fun (q2:Unit) s1=>[(.cells (A3 a0)),(.cells (B1 a1))]) 2 (fun r e s' H'=>(match r with | (.inl v)=>e = .ret∧RetQ H [.tmp 4] [.b v] e s' H' | (.inr v)=>PX 0 [] (H++[(.cells (A3 a0)),(.cells (B1 a1))]) e s' H':Prop)) () ho24 rfl rfl (fun _ _=>rfl) (fun _=>rfl) rfl (fun s1=>(bdc (D8 rfl) (bdc (D8 rfl) (bdc A5 bdn)))) (fun q2 s1 ys1 hs1=>?_) ?_
 ·unfold A4f at hs1
  refine B8<|s0<|qm rfl<|A0 (B3x rfl rfl) rfl<|es (ra4 rfl rfl rfl rfl)<|wi hs1 rfl (fun hc3 hs1=>?_) fun hc3 hs1=>?_
  ·refine C1<|B8<|C6<|s0<|qm rfl<|qm rfl<|es (ra5 rfl rfl rfl rfl rfl)<|B8<|s0<|qm rfl<|es (ra6 rfl rfl rfl rfl rfl rfl)<|C6<|oB hs1 fun o16 ho16 hs1=>wl (fun s4=>[(2,(.ptr (H.length + 0) 0)),(3,(.ptr (H.length + 1) 0)),(5,.i s1),(6,.i s4.1),(7,.i 0),(8,.i s4.2)]) (fun (q5:Unit) s4=>[(.cells (A3 a0)),(.cells (B1 a1))]) 2 (fun r e s' H'=>PX 2 [(2,(.ptr (H.length + 0) 0)),(3,(.ptr (H.length + 1) 0)),(5,.i s1),(6,.i r),(7,.i 0)] (H++[(.cells (A3 a0)),(.cells (B1 a1))]) e s' H') () ho16 rfl rfl (fun _ _=>rfl) (fun _=>rfl) rfl (fun s4=>(bdc (D8 rfl) (bdc (D8 rfl) (bdc A5 (bdc A5 (bdc A5 (bdc A5 bdn))))))) (fun q5 s4 ys4 hs4=>?_) ?_
   ·unfold A2r at hs4
    refine B8<|s0<|qm rfl<|A0 (C4 rfl) rfl<|A0 (C2 rfl rfl rfl) rfl<|A0 (D6 (f:=cI) rfl) rfl<|A0 (F9 rfl rfl) rfl<|es (ra7 rfl rfl rfl rfl rfl rfl rfl)<|wi hs4 rfl (fun hc6 hs4=>?_) fun hc6 hs4=>?_
    ·refine C1<|B8<|C6<|s0<|oB hs4 fun x7 hx7 hs4=>oB hs4 fun x11 hx11 hs4=>oB hs4 fun x14 hx14 hs4=>A0 (C4 rfl) rfl<|A0 (C2 rfl rfl rfl) rfl<|qm rfl<|A0 (E2 (f:=cI) rfl rfl hx7) rfl<|A0 (E4 rfl rfl) rfl<|A0 (F7 rfl rfl) rfl<|qm rfl<|gp 11 38 (.b x11) 27 rfl rfl (fun hg8=>?_) (fun hg8=>?_) ?_
     ·refine oB (bt hx11 hg8) fun x9 hx9 hx11=>oB hx11 fun x10 hx10 hx11=>?_
      obtain rfl:=os hx11
      exact gT rfl hg8<|A0 (C4 rfl) rfl<|gT rfl hg8<|A0 (C2 rfl rfl rfl) rfl<|gT rfl hg8<|A0 (C4 rfl) rfl<|gT rfl hg8<|A0 (C2 rfl rfl rfl) rfl<|gT rfl hg8<|qm rfl<|gT rfl hg8<|A0 (E2 (f:=cI) rfl rfl hx9) rfl<|gT rfl hg8<|A0 (E4 rfl rfl) rfl<|gT rfl hg8<|A0 (E2 (f:=C3) rfl rfl hx10) rfl<|gT rfl hg8<|A0 (A20 (ds:=(List.drop 1 (C3 x10))) rfl rfl) rfl<|gT rfl hg8<|A0 (E4 rfl rfl) rfl<|A0 (C7 rfl hg8 rfl) rfl<|ge 11 rfl rfl rfl
     ·obtain rfl:=os (bf hx11 hg8)
      exact nT rfl hg8 rfl<|nT rfl hg8 rfl<|nT rfl hg8 rfl<|nT rfl hg8 rfl<|nT rfl hg8 rfl<|nT rfl hg8 rfl<|nT rfl hg8 rfl<|nT rfl hg8 rfl<|nT rfl hg8 rfl<|nT rfl hg8 rfl<|A0 (C8 rfl hg8 rfl) rfl<|ge 11 rfl rfl rfl
     refine qm rfl<|gp 9 48 (.b x14) 39 rfl rfl (fun hg12=>?_) (fun hg12=>?_) ?_
     ·refine oB (bt hx14 hg12) fun x13 hx13 hx14=>?_
      obtain rfl:=os hx14
      exact gT rfl hg12<|A0 (C4 rfl) rfl<|gT rfl hg12<|A0 (C2 rfl rfl rfl) rfl<|gT rfl hg12<|qm rfl<|gT rfl hg12<|A0 (E2 (f:=B3) rfl rfl hx13) rfl<|gT rfl hg12<|A0 (A20 (ds:=(List.drop 1 (B3 x13))) rfl rfl) rfl<|gT rfl hg12<|A0 (E4 rfl rfl) rfl<|gT rfl hg12<|qm rfl<|gT rfl hg12<|A0 (F5 rfl rfl) rfl<|A0 (C7 rfl hg12 rfl) rfl<|ge 9 rfl rfl rfl
     ·obtain rfl:=os (bf hx14 hg12)
      exact nT rfl hg12 rfl<|nT rfl hg12 rfl<|nT rfl hg12 rfl<|nT rfl hg12 rfl<|nT rfl hg12 rfl<|nT rfl hg12 rfl<|nT rfl hg12 rfl<|nT rfl hg12 rfl<|A0 (C8 rfl hg12 rfl) rfl<|ge 9 rfl rfl rfl
     refine es (ra7 rfl rfl rfl rfl rfl rfl rfl)<|wi hs4 rfl (fun hc15 hs4=>?_) fun hc15 hs4=>?_
     ·refine r0<|qm rfl<|A0 (E1 rfl rfl) rfl<|qm rfl<|en (ra6 rfl rfl rfl rfl rfl rfl)<|r0<|qm rfl<|A0 (E1 rfl rfl) rfl<|qm rfl<|en (ra6 rfl rfl rfl rfl rfl rfl) ?_
      cases hs4
      exact lnT () rfl (su6 rfl rfl rfl rfl rfl rfl)
     ·refine C1<|r0<|qm rfl<|A0 (E1 rfl rfl) rfl<|qm rfl<|en (ra6 rfl rfl rfl rfl rfl rfl) ?_
      cases hs4
      exact lnT () rfl (su6 rfl rfl rfl rfl rfl rfl)
    ·refine E9 ?_
     obtain rfl:=os hs4
     exact lx rfl px (su5 rfl rfl rfl rfl rfl)
   ·rintro e s' H' - ⟨rfl,rfl,rfl⟩
    refine B8<|s0<|qm rfl<|es (ra6 rfl rfl rfl rfl rfl rfl)<|C6<|oB hs1 fun o22 ho22 hs1=>wl (fun s17=>[(2,(.ptr (H.length + 0) 0)),(3,(.ptr (H.length + 1) 0)),(5,.i s1),(6,.i o16),(7,.i s17.1),(9,.i s17.2)]) (fun (q18:Unit) s17=>[(.cells (A3 a0)),(.cells (B1 a1))]) 2 (fun r e s' H'=>PX 4 [(2,(.ptr (H.length + 0) 0)),(3,(.ptr (H.length + 1) 0)),(5,.i s1),(6,.i o16),(7,.i r)] (H++[(.cells (A3 a0)),(.cells (B1 a1))]) e s' H') () ho22 rfl rfl (fun _ _=>rfl) (fun _=>rfl) rfl (fun s17=>(bdc (D8 rfl) (bdc (D8 rfl) (bdc A5 (bdc A5 (bdc A5 (bdc A5 bdn))))))) (fun q18 s17 ys17 hs17=>?_) ?_
    ·unfold A2s at hs17
     refine B8<|s0<|qm rfl<|A0 (C4 rfl) rfl<|A0 (C2 rfl rfl rfl) rfl<|A0 (D6 (f:=cI) rfl) rfl<|A0 (F9 rfl rfl) rfl<|es (ra7 rfl rfl rfl rfl rfl rfl rfl)<|wi hs17 rfl (fun hc19 hs17=>?_) fun hc19 hs17=>?_
     ·refine C1<|B8<|C6<|s0<|oB hs17 fun x20 hx20 hs17=>A0 (C4 rfl) rfl<|A0 (C2 rfl rfl rfl) rfl<|qm rfl<|A0 (E2 (f:=cI) rfl rfl hx20) rfl<|A0 (E4 rfl rfl) rfl<|qm rfl<|A0 (F5 rfl rfl) rfl<|es (ra7 rfl rfl rfl rfl rfl rfl rfl)<|wi hs17 rfl (fun hc21 hs17=>?_) fun hc21 hs17=>?_
      ·refine r0<|qm rfl<|A0 (E1 rfl rfl) rfl<|qm rfl<|en (ra6 rfl rfl rfl rfl rfl rfl)<|r0<|qm rfl<|A0 (E1 rfl rfl) rfl<|qm rfl<|en (ra6 rfl rfl rfl rfl rfl rfl) ?_
       cases hs17
       exact lnT () rfl (su6 rfl rfl rfl rfl rfl rfl)
      ·refine C1<|r0<|qm rfl<|A0 (E1 rfl rfl) rfl<|qm rfl<|en (ra6 rfl rfl rfl rfl rfl rfl) ?_
       cases hs17
       exact lnT () rfl (su6 rfl rfl rfl rfl rfl rfl)
     ·refine E9 ?_
      obtain rfl:=os hs17
      exact lx rfl px (su5 rfl rfl rfl rfl rfl)
    ·rintro e s' H' - ⟨rfl,rfl,rfl⟩
     refine s0<|qm rfl<|qm rfl<|A0 (F9 rfl rfl) rfl<|es (ra4 rfl rfl rfl rfl)<|wi hs1 rfl (fun hc23 hs1=>?_) fun hc23 hs1=>?_
     ·refine s0<|qm rfl<|es (ra1 rfl)<|C5 ?_
      obtain rfl:=os hs1
      exact lx rfl (And.intro rfl (retq trivial (A9 rfl B7) (A4 rfl B6) (A2 A5 B2))) (Sub.refl _)
     ·refine C1<|r0<|qm rfl<|A0 (E1 rfl rfl) rfl<|qm rfl<|en (ra3 rfl rfl rfl) ?_
      cases hs1
      exact lnT () rfl (su3 rfl rfl rfl)
  ·refine E9 ?_
   obtain rfl:=os hs1
   exact lx rfl px (.nil _)
 ·rcases o24 with vo24_0 | vo24_1
  ·rintro e s' H' - ⟨rfl,hret⟩
   cases h
   exact hret
  ·rintro e s' H' - ⟨rfl,rfl,rfl⟩
   refine s0<|qm rfl<|es (ra1 rfl)<|C5 ?_
   obtain rfl:=os h
   exact retq trivial (A9 rfl B7) (A4 rfl B6) (A2 A5 B2)
def A1z (a0:RoHouse) (a1:RoPlan) (s1:(Int × Int)):Option ((Int × Int) ⊕ Int) :=
 if (decide (s1.2 < (List.length a1.At:Int))) = true then
  (idx a1.At s1.2).bind fun x4 =>
  if (x4 != (-1)) = true then
  (idx a0.Figures s1.2).bind fun x6 =>
  some (.inl ((w64 (s1.1 + x6.Worth)),(w64 (s1.2 + 1))))
  else
  some (.inl (s1.1,(w64 (s1.2 + 1))))
 else
  some (.inr s1.1)
def A0x (a0:RoHouse) (a1:RoPlan):Option Int :=
 (loop (A1z a0 a1) (0,0)).bind fun (o7:Int) =>
 some o7
theorem A29 {c:Sc} {H:A6} {a0:RoHouse} {a1:RoPlan} {r:Int} (h:A0x a0 a1 = some r) :
  E7 tab c H (.fn (.func 46) [] []) [(.agg (A3 a0)),(.agg (B1 a1))] [.i r]:= by
 unfold A0x at h
 refine cE rfl rfl<|sg 0 rfl<|A0 (E8 (cs:=A3 a0) rfl rfl rfl) rfl<|A0 (E8 (cs:=B1 a1) rfl rfl rfl) rfl<|qm rfl<|es (ra2 rfl rfl)<|s0<|qm rfl<|es (ra3 rfl rfl rfl)<|B8<|s0<|qm rfl<|es (ra4 rfl rfl rfl rfl)<|C6<|oB h fun o7 ho7 h=>wl (fun s1=>[(2,(.ptr (H.length + 0) 0)),(3,(.ptr (H.length + 1) 0)),(5,.i s1.1),(6,.i s1.2)]) (fun (q2:Unit) s1=>[(.cells (A3 a0)),(.cells (B1 a1))]) 2 (fun r e s' H'=>PX 0 [(5,.i r)] (H++[(.cells (A3 a0)),(.cells (B1 a1))]) e s' H') () ho7 rfl rfl (fun _ _=>rfl) (fun _=>rfl) rfl (fun s1=>(bdc (D8 rfl) (bdc (D8 rfl) (bdc A5 (bdc A5 bdn))))) (fun q2 s1 ys1 hs1=>?_) ?_
 ·unfold A1z at hs1
  refine B8<|s0<|qm rfl<|A0 (C4 rfl) rfl<|A0 (C2 rfl rfl rfl) rfl<|A0 (D6 (f:=cI) rfl) rfl<|A0 (F9 rfl rfl) rfl<|es (ra5 rfl rfl rfl rfl rfl)<|wi hs1 rfl (fun hc3 hs1=>?_) fun hc3 hs1=>?_
  ·refine C1<|B8<|C6<|s0<|oB hs1 fun x4 hx4 hs1=>A0 (C4 rfl) rfl<|A0 (C2 rfl rfl rfl) rfl<|qm rfl<|A0 (E2 (f:=cI) rfl rfl hx4) rfl<|A0 (E4 rfl rfl) rfl<|A0 (F7 rfl rfl) rfl<|es (ra5 rfl rfl rfl rfl rfl)<|wi hs1 rfl (fun hc5 hs1=>?_) fun hc5 hs1=>?_
   ·refine r0<|oB hs1 fun x6 hx6 hs1=>qm rfl<|A0 (C4 rfl) rfl<|A0 (C2 rfl rfl rfl) rfl<|qm rfl<|A0 (E2 (f:=B3) rfl rfl hx6) rfl<|A0 (A20 (ds:=(List.drop 5 (B3 x6))) rfl rfl) rfl<|A0 (E4 rfl rfl) rfl<|A0 (E1 rfl rfl) rfl<|qm rfl<|en (ra4 rfl rfl rfl rfl)<|r0<|qm rfl<|A0 (E1 rfl rfl) rfl<|qm rfl<|en (ra4 rfl rfl rfl rfl) ?_
    cases hs1
    exact lnT () rfl (su4 rfl rfl rfl rfl)
   ·refine C1<|r0<|qm rfl<|A0 (E1 rfl rfl) rfl<|qm rfl<|en (ra4 rfl rfl rfl rfl) ?_
    cases hs1
    exact lnT () rfl (su4 rfl rfl rfl rfl)
  ·refine E9 ?_
   obtain rfl:=os hs1
   exact lx rfl px (su1 rfl)
 ·rintro e s' H' - ⟨rfl,rfl,rfl⟩
  refine s0<|qm rfl<|qm rfl<|es (ra1 rfl)<|C5 ?_
  obtain rfl:=os h
  exact retq trivial (A9 rfl B7) (A4 rfl B6) (A2 A5 B2)
end Rm
end
section
namespace Rm
open Go Am
theorem C4e {b:Int × Int→Option ((Int × Int) ⊕ Int)} (n:Nat) (k:Int) (hk:k ≠ 0) (bad:Nat→Bool) (hn:n < 9223372036854775808)
  (hb:∀i:Nat,i < n→b (0,(i:Int)) = some (.inl (if bad i then k else 0,(i:Int) + 1)))
  (he:b (0,(n:Int)) = some (.inr 0)) (hx:∀c i:Int,c ≠ 0→b (c,i) = some (.inr c)) (c0:Int) :
  loop b (c0,0) = some (if c0 = 0 then (if (first (fun i=>if bad i then some () else none) n).isSome then k else 0) else c0):= by
 by_cases hc:c0 = 0
 ·subst hc
  rw [if_pos rfl]
  cases hf:first (fun i=>if bad i then some () else none) n with
  | none =>
   have h0:=K6.mp hf
   have h1:∀i,i < n→bad i = false:=fun i hi=>by
    have:=h0 i hi
    cases hb:bad i with
    | false=>rfl
    | true=>rw [hb] at this; exact absurd this (by simp)
   exact G9 (b:=b) (fun i=>(0,(i:Int))) n (by omega) (fun i hi=>by rw [hb i hi,h1 i hi]; rfl) he
  | some u =>
   obtain ⟨i,hi,h1,h2⟩:=Y7 hf
   have h3:bad i = true:= by
    cases hb:bad i with
    | true=>rfl
    | false=>rw [hb] at h1; exact absurd h1 (by simp)
   have h4:∀j,j < i→bad j = false:=fun j hj=>by
    have:=h2 j hj
    cases hb:bad j with
    | false=>rfl
    | true=>rw [hb] at this; exact absurd this (by simp)
   have:=G9 (b:=b) (fun j=>if j≤i then (0,(j:Int)) else (k,(j:Int))) (i + 1) (r:=k) (by omega) (fun j hj=>by
    rw [if_pos (by omega),hb j (by omega)]
    by_cases hji:j = i
    ·subst hji
     rw [h3,if_pos rfl,if_neg (show ¬ (j + 1≤j) by omega)]; rfl
    ·rw [h4 j (by omega),if_neg (by decide),if_pos (show j + 1≤i by omega)]; rfl) (by
    rw [if_neg (by omega)]
    exact hx _ _ hk)
   simp only [Option.isSome_some,if_true]
   rw [if_pos (Nat.zero_le i)] at this
   exact this
 ·rw [if_neg hc]
  exact G9 (b:=b) (fun _=>(c0,0)) 0 (by omega) (fun i hi=>absurd hi (Nat.not_lt_zero i)) (hx _ _ hc)
theorem B9v {α:Type} [Inhabited α] (l:List α) (p:α→Bool):(first (fun i=>if p l[i]! then some () else none) l.length).isSome = l.any p:= by
 rw [← C3i l p]
 have:(fun (i:Nat)=>if p l[i]! then some () else none) = fun (i:Nat)=>(if p l[i]! then some (i:Int) else none).map fun _=>():= by
  funext i; cases p l[i]! <;> rfl
 rw [this,A5a,Option.isSome_map]
theorem C5o (l:List Int) (x:Int) (hl:l.length < 9223372036854775808):A3t l x = some (l.any (· == x)):= by
 unfold A3t
 have l1:=B07 (b:=A5x l x) l.length (fun (i:Nat)=>if l[i]! == x then some (.inl true) else none) (.inr ()) hl (fun i hi _=>by
  unfold A5x
  rw [if_pos (by simpa using hi),F1 hi]
  simp only [Option.bind_some]
  cases l[i]! == x <;> rfl) (by
  unfold A5x
  rw [if_neg (by simp)])
 rw [l1]
 have ha:=B9v l (· == x)
 have:(fun (i:Nat)=>if l[i]! == x then some (Sum.inl true:Bool ⊕ Unit) else none) = fun (i:Nat)=>(if l[i]! == x then some () else none).map fun _=>Sum.inl true:= by
  funext i; cases l[i]! == x <;> rfl
 rw [this,A5a]
 cases hf:first (fun (i:Nat)=>if l[i]! == x then some () else none) l.length with
 | none=>rw [hf] at ha; rw [← ha]; rfl
 | some u=>rw [hf] at ha; rw [← ha]; rfl
def R4 (l:List Int) (i:Nat):Bool:=l[i]! != -1 && (l.take i).any (· == l[i]!)
def dup (l:List Int):Bool:=(first (fun i=>if R4 l i then some () else none) l.length).isSome
def K3 (h:RoHouse) (p:RoPlan):Int :=
 if (check h).2.2 != 0 then (check h).2.2 else
 if out 0 (((2 ^ h.Stoves.toNat:Nat):Int) - 1) p.Lit then 7 else
 if (p.At.length:Int) != (h.Figures.length:Int) then 3 else
 if p.At.any (out (-1) ((h.Places.length:Int) - 1)) then 4 else
 if dup p.At then 5 else 0
theorem B2u (h:RoHouse) (p:RoPlan) (hl:p.At.length < 9223372036854775808):A42 h p = some (K3 h p):= by
 unfold A42 K3
 rw [S9]
 simp only [Option.bind_some]
 have f2:=C4e (b:=U8 p) p.At.length 5 (by decide) (fun i=>R4 p.At i) hl (fun i hi=>by
  unfold U8
  simp only []
  rw [if_pos (by simpa using hi),F1 hi]
  simp only [Option.bind_some]
  rw [B6w (Nat.le_of_lt hi)]
  simp only [Option.bind_some]
  rw [C5o _ _ (by rw [List.length_take]; omega),E0 (by omega)]
  unfold R4
  cases p.At[i]! != -1
  ·rfl
  ·simp only [Option.bind_some,if_true,Bool.true_and]
   cases (p.At.take i).any (· == p.At[i]!) <;> rfl) (by
  unfold U8
  simp) (fun c i hc=>by
  unfold U8
  rw [if_neg (by simp [hc])])
 by_cases e0:(check h).2.2 = 0
 ·have ok:=Q9 e0
  have hs:=A5w ok
  have hp:=ok.places
  have f1:=C4e (b:=O4 h p) p.At.length 4 (by decide) (fun i=>out (-1) ((h.Places.length:Int) - 1) p.At[i]!) hl (fun i hi=>by
   unfold O4
   simp only []
   rw [if_pos (by simpa using hi),F1 hi]
   simp only [Option.bind_some]
   rw [E0 (n:=(h.Places.length:Int) - 1) (by omega),within5,E0 (by omega)]
   simp only [Option.bind_some]
   cases out (-1) ((h.Places.length:Int) - 1) p.At[i]! <;> rfl) (by
   unfold O4
   simp) (fun c i hc=>by
   unfold O4
   rw [if_neg (by simp [hc])])
  rw [e0,C8e ok]
  simp only [Option.bind_some,bne_self_eq_false,Bool.false_eq_true,if_false,beq_self_eq_true,if_true]
  rw [E0 (by omega),within5]
  simp only [Option.bind_some]
  have ha:=B9v p.At (out (-1) ((h.Places.length:Int) - 1))
  cases out 0 (((2 ^ h.Stoves.toNat:Nat):Int) - 1) p.Lit with
  | true =>
   show (loop (O4 h p) (7,0)).bind (fun o18=>(loop (U8 p) (o18,0)).bind fun o30=>some o30) = some 7
   rw [f1 7]
   simp only [Option.bind_some,show ¬ ((7:Int) = 0) by decide,if_false]
   rw [f2 7]; rfl
  | false =>
   simp only [Bool.not_false,Bool.not_true,Bool.false_eq_true,if_false,beq_self_eq_true,Bool.true_and]
   cases (p.At.length:Int) != (h.Figures.length:Int) with
   | true =>
    show (loop (O4 h p) (3,0)).bind (fun o18=>(loop (U8 p) (o18,0)).bind fun o30=>some o30) = some 3
    rw [f1 3]
    simp only [Option.bind_some,show ¬ ((3:Int) = 0) by decide,if_false]
    rw [f2 3]; rfl
   | false =>
    show (loop (O4 h p) (0,0)).bind (fun o18=>(loop (U8 p) (o18,0)).bind fun o30=>some o30) = some _
    rw [f1 0]
    simp only [Option.bind_some,if_true]
    rw [ha]
    cases p.At.any (out (-1) ((h.Places.length:Int) - 1)) with
    | true=>rw [if_pos rfl,f2 4]; rfl
    | false=>rw [if_neg (by decide),f2 0]; unfold dup; rfl
 ·have e1:((check h).2.2 == 0) = false:=beq_eq_false_iff_ne.mpr e0
  have e2:((check h).2.2 != 0) = true:=bne_iff_ne.mpr e0
  rw [e1,e2]
  simp only [Option.bind_some,Bool.false_eq_true,if_false,if_true,e1,Bool.false_and]
  have g1:loop (O4 h p) ((check h).2.2,0) = some (check h).2.2:=G9 (b:=O4 h p) (fun _=>((check h).2.2,0)) 0 (by decide) (fun i hi=>absurd hi (Nat.not_lt_zero i)) (by
   unfold O4
   simp only []
   rw [e1,Bool.and_false,if_neg (by decide)])
  rw [g1]
  simp only [Option.bind_some]
  rw [f2,if_neg e0]; rfl
def e (p:List Int) (i:Nat):Int:=if i < p.length then p[i]! + 1 else 0
def enc (p:List Int):Ar5 Int:=⟨e p 0,e p 1,e p 2,e p 3,e p 4⟩
theorem A9c (p:List Int):∀i:Nat,i < 5→idx (Ar5.l (enc p)) (i:Int) = some (e p i)
 | 0,_=>rfl
 | 1,_=>rfl
 | 2,_=>rfl
 | 3,_=>rfl
 | 4,_=>rfl
 | n + 5,h=>by omega
theorem C8j (p:List Int) {n j:Nat} (h:j < n):(p.take n)[j]! = p[j]!:= by
 by_cases c:j < p.length
 ·rw [getElem!_pos (p.take n) j (by rw [List.length_take]; omega),getElem!_pos p j c,List.getElem_take]
 ·rw [getElem!_neg (p.take n) j (by rw [List.length_take]; omega),getElem!_neg p j c]
theorem D39 (p:List Int) (n j:Nat):e (p.take n) j = if j < n then e p j else 0:= by
 unfold e
 rw [List.length_take]
 by_cases h:j < n
 ·rw [if_pos h,C8j p h]
  by_cases c:j < p.length
  ·rw [if_pos (by omega),if_pos c]
  ·rw [if_neg (by omega),if_neg c]
 ·rw [if_neg h,if_neg (by omega)]
theorem D0q (p:List Int) {i:Nat} (hi:i < p.length):Ar5.set (enc (p.take i)) (i:Int) (p[i]! + 1) = enc (p.take (i + 1)):= by
 have comp:∀j:Nat,(if (i:Int) = (j:Int) then p[i]! + 1 else e (p.take i) j) = e (p.take (i + 1)) j:= by
  intro j
  rw [D39,D39]
  by_cases h:i = j
  ·subst h
   rw [if_pos rfl,if_pos (by omega)]
   unfold e
   rw [if_pos hi]
  ·rw [if_neg (by omega)]
   by_cases c:j < i
   ·rw [if_pos c,if_pos (by omega)]
   ·rw [if_neg c,if_neg (by omega)]
 have q:=congr (congr (congr (congr (congrArg Ar5.mk (comp 0)) (comp 1)) (comp 2)) (comp 3)) (comp 4)
 exact q
structure PV (h:RoHouse) (p:List Int):Prop where
 len:p.length = h.Figures.length
 bd:∀i,i < p.length→-1≤p[i]!∧p[i]! < (h.Places.length:Int)
def plc (h:RoHouse) (p:List Int) (i:Nat):RoPlace:=h.Places[p[i]!.toNat]!
def con (h:RoHouse) (p:List Int) (k i:Nat):Int:=if i < p.length∧p[i]! ≠ -1∧bit (plc h p i).Joists.toNat k = true then h.Figures[i]!.Weight else 0
def G0 (h:RoHouse) (p:List Int) (k n:Nat):Int:=iter (fun i s=>s + con h p k i) n 0
theorem N6 (h:RoHouse) (p:List Int) (k n:Nat):G0 h p k (n + 1) = G0 h p k n + con h p k n:=rfl
theorem B4h (h:RoHouse) (p:List Int) (k:Nat):∀n,G0 h p k (p.length + n) = G0 h p k p.length
 | 0=>rfl
 | n + 1=>by
  rw [← Nat.add_assoc,N6,B4h h p k n]
  unfold con
  rw [if_neg (by omega)]; omega
theorem C8y {h:RoHouse} (ok:HOk h) {p:List Int} (pv:PV h p) (k i:Nat):0≤con h p k i∧con h p k i≤500:= by
 unfold con
 by_cases c:i < p.length∧p[i]! ≠ -1∧bit (plc h p i).Joists.toNat k = true
 ·rw [if_pos c]
  have:=(ok.figure _ (G2 (show i < h.Figures.length by rw [← pv.len]; exact c.1))).weight
  omega
 ·rw [if_neg c]; omega
theorem B4g {h:RoHouse} (ok:HOk h) {p:List Int} (pv:PV h p) (k:Nat):∀n,0≤G0 h p k n∧G0 h p k n≤500 * n
 | 0=>by unfold G0 iter; omega
 | n + 1=>by
  have ih:=B4g ok pv k n
  have:=C8y ok pv k n
  rw [N6]; omega
def arr (f:Nat→Int):Ar4 Int:=⟨f 0,f 1,f 2,f 3⟩
theorem D0l (f:Nat→Int):∀k:Nat,k < 4→idx (Ar4.l (arr f)) (k:Int) = some (f k)
 | 0,_=>rfl
 | 1,_=>rfl
 | 2,_=>rfl
 | 3,_=>rfl
 | n + 4,h=>by omega
theorem D6h (f:Nat→Int) (k:Nat) (v:Int):Ar4.set (arr f) (k:Int) v = arr (fun j=>if j = k then v else f j):= by
 have comp:∀j:Nat,(if (k:Int) = (j:Int) then v else f j) = (if j = k then v else f j):= by
  intro j
  by_cases h:j = k
  ·subst h; rw [if_pos rfl,if_pos rfl]
  ·rw [if_neg (by omega),if_neg h]
 have q:=congr (congr (congr (congrArg Ar4.mk (comp 0)) (comp 1)) (comp 2)) (comp 3)
 exact q
theorem B25 {f g:Nat→Int} (h:∀k,k < 4→f k = g k):arr f = arr g:= by
 unfold arr
 rw [h 0 (by omega),h 1 (by omega),h 2 (by omega),h 3 (by omega)]
theorem C39 {h:RoHouse} (ok:HOk h) {q:RoPlace} (hq:PlOk h q):q.Joists = (q.Joists.toNat:Int)∧q.Joists.toNat < 16:= by
 have h1:=hq.joists
 have:2 ^ h.Holds.length≤2 ^ 4:=Nat.pow_le_pow_right (by decide) ok.holds
 omega
theorem shown {h:RoHouse} {p:List Int} (pv:PV h p) {i:Nat} (hi:i < p.length) (hs:p[i]! ≠ -1):∃q:Nat,p[i]! = q∧q < h.Places.length∧plc h p i = h.Places[q]!:= by
 have:=pv.bd i hi
 refine ⟨p[i]!.toNat,by omega,by omega,rfl⟩
theorem D4y {h:RoHouse} (ok:HOk h) {p:List Int} (pv:PV h p) {i:Nat} (hi:i < p.length) (hs:p[i]! ≠ -1) (a:Ar4 Int) :
  loop (P3 ⟨h⟩ ((i:Int),a) (e p i)) (0,arr (fun k=>if k < h.Holds.length then G0 h p k i else 0)) = some (arr (fun k=>if k < h.Holds.length then G0 h p k (i + 1) else 0)):= by
 have h5:=ok.figures
 have hp:=ok.places
 have hh:=ok.holds
 have hl:=pv.len
 obtain ⟨q,hq1,hq2,hq3⟩:=shown pv hi hs
 have hj:=C39 ok (ok.place _ (G2 hq2))
 have l1:=G9 (b:=P3 ⟨h⟩ ((i:Int),a) (e p i)) (fun n=>((n:Int),arr (fun k=>if k < h.Holds.length then (if k < n then G0 h p k (i + 1) else G0 h p k i) else 0))) h.Holds.length (r:=arr (fun k=>if k < h.Holds.length then G0 h p k (i + 1) else 0)) (by omega) (fun n hn=>by
  have b1:=B4g ok pv n i
  have b2:=C8y ok pv n i
  unfold P3
  simp only []
  rw [if_pos (by simpa using hn)]
  have he:w64 (e p i - 1) = (q:Int):= by
   unfold e
   rw [if_pos hi,E0 (by omega)]; omega
  rw [he,F1 hq2]
  simp only [Option.bind_some]
  rw [hj.1,C5c _ hj.2 n (by omega)]
  simp only [Option.bind_some]
  rw [C6s _ (Nat.lt_of_le_of_lt (Nat.div_le_self _ _) hj.2),D0l _ n (by omega),F1 (show i < h.Figures.length by omega),if_pos hn,if_neg (Nat.lt_irrefl n)]
  simp only [Option.bind_some]
  have hc:con h p n i = if bit h.Places[q]!.Joists.toNat n = true then h.Figures[i]!.Weight else 0:= by
   unfold con
   rw [hq3]
   cases bit h.Places[q]!.Joists.toNat n
   ·rw [if_neg (by simp),if_neg (by simp)]
   ·rw [if_pos ⟨hi,hs,rfl⟩,if_pos rfl]
  rw [E0 (n:=(n:Int) + 1) (by omega)]
  show (if bit h.Places[q]!.Joists.toNat n = true then _ else _) = _
  cases hb:bit h.Places[q]!.Joists.toNat n with
  | true =>
   rw [hb,if_pos rfl] at hc
   rw [if_pos rfl,← hc,E0 (by omega),D6h]
   congr 3
   apply B25
   intro k hk
   by_cases hkn:k = n
   ·subst hkn
    rw [if_pos rfl,if_pos hn,if_pos (by omega),N6]
   ·rw [if_neg hkn]
    by_cases c:k < h.Holds.length
    ·rw [if_pos c,if_pos c]
     by_cases c2:k < n
     ·rw [if_pos c2,if_pos (by omega)]
     ·rw [if_neg c2,if_neg (by omega)]
    ·rw [if_neg c,if_neg c]
  | false =>
   rw [hb,if_neg (by decide)] at hc
   rw [if_neg (by decide)]
   congr 3
   apply B25
   intro k hk
   by_cases hkn:k = n
   ·subst hkn
    rw [if_pos hn,if_pos hn,if_neg (Nat.lt_irrefl k),if_pos (by omega),N6,hc]; omega
   ·by_cases c:k < h.Holds.length
    ·rw [if_pos c,if_pos c]
     by_cases c2:k < n
     ·rw [if_pos c2,if_pos (by omega)]
     ·rw [if_neg c2,if_neg (by omega)]
    ·rw [if_neg c,if_neg c]) (by
  unfold P3
  simp only []
  rw [if_neg (by simp)]
  congr 2
  apply B25
  intro k hk
  by_cases c:k < h.Holds.length
  ·rw [if_pos c,if_pos c,if_pos c]
  ·rw [if_neg c,if_neg c])
 have e0:(fun (k:Nat)=>if k < h.Holds.length then (if k < 0 then G0 h p k (i + 1) else G0 h p k i) else 0) = fun (k:Nat)=>if k < h.Holds.length then G0 h p k i else 0:= by
  funext k
  rw [if_neg (Nat.not_lt_zero k)]
 have l1:loop (P3 ⟨h⟩ ((i:Int),a) (e p i)) (0,arr (fun (k:Nat)=>if k < h.Holds.length then (if k < 0 then G0 h p k (i + 1) else G0 h p k i) else 0)) = _:=l1
 rw [e0] at l1
 exact l1
def B06 (h:RoHouse) (p:List Int):Ar4 Int:=arr (fun k=>if k < h.Holds.length then G0 h p k p.length else 0)
theorem C7k {h:RoHouse} (ok:HOk h) {p:List Int} (pv:PV h p):U5 ⟨h⟩ (enc p) = some (B06 h p):= by
 have h5:=ok.figures
 have hp:=ok.places
 have hl:=pv.len
 unfold U5
 have l1:=G9 (b:=T1 ⟨h⟩ (enc p)) (fun i=>((i:Int),arr (fun k=>if k < h.Holds.length then G0 h p k i else 0))) 5 (r:=B06 h p) (by omega) (fun i hi=>by
  unfold T1
  simp only []
  rw [if_pos (by rw [decide_eq_true_eq]; omega),A9c p i hi]
  simp only [Option.bind_some]
  have hc0:∀k,(i < p.length→p[i]! = -1)→G0 h p k (i + 1) = G0 h p k i:= by
   intro k hx
   rw [N6]
   unfold con
   rw [if_neg (fun hq=>hq.2.1 (hx hq.1))]; omega
  by_cases c:i < p.length∧p[i]! ≠ -1
  ·have hb:=pv.bd i c.1
   have hne:(e p i == 0) = false:= by
    rw [beq_eq_false_iff_ne]
    unfold e
    rw [if_pos c.1]; have:=c.2; omega
   rw [hne,if_neg (by decide),D4y ok pv c.1 c.2]
   simp only [Option.bind_some]
   rw [E0 (by omega)]; rfl
  ·have hz:(e p i == 0) = true:= by
    rw [beq_iff_eq]
    unfold e
    by_cases c1:i < p.length
    ·rw [if_pos c1]
     have:p[i]! = -1:=Classical.byContradiction fun hq=>c ⟨c1,hq⟩
     omega
    ·rw [if_neg c1]
   rw [hz,if_pos rfl,E0 (by omega)]
   have:∀k,G0 h p k (i + 1) = G0 h p k i:=fun k=>hc0 k fun c1=>Classical.byContradiction fun hq=>c ⟨c1,hq⟩
   simp only [this]
   rfl) (by
  unfold T1
  simp only []
  rw [if_neg (show ¬ decide (((5:Nat):Int) < 5) = true by rw [decide_eq_true_eq]; omega)]
  unfold B06
  congr 2
  apply B25
  intro k _
  have:=B4h h p k (5 - p.length)
  rw [show p.length + (5 - p.length) = 5 by omega] at this
  simp only [this])
 have e0:arr (fun k=>if k < h.Holds.length then G0 h p k 0 else 0) = Ar4.mk 0 0 0 0:= by
  have:(fun k=>if k < h.Holds.length then G0 h p k 0 else 0) = fun _=>(0:Int):= by
   funext k
   by_cases c:k < h.Holds.length
   ·rw [if_pos c]; rfl
   ·rw [if_neg c]
  rw [this]; rfl
 have l1:loop (T1 ⟨h⟩ (enc p)) (0,arr (fun k=>if k < h.Holds.length then G0 h p k 0 else 0)) = _:=l1
 rw [e0] at l1
 rw [l1]; rfl
def carry (h:RoHouse) (p:List Int):List Int:=(List.range h.Holds.length).map fun k=>G0 h p k p.length
theorem C56 {h:RoHouse} (ok:HOk h) {p:RoPlan} (pv:PV h p.At) (k:Nat) (hk:k < h.Holds.length) (l:List Int):loop (A1t h p ((k:Int),l)) (0,0) = some (G0 h p.At k p.At.length):= by
 have h5:=ok.figures
 have hp:=ok.places
 have hh:=ok.holds
 have hl:=pv.len
 exact G9 (b:=A1t h p ((k:Int),l)) (fun i=>(G0 h p.At k i,(i:Int))) p.At.length (by omega) (fun i hi=>by
  have b1:=B4g ok pv k i
  have b2:=C8y ok pv k i
  have hb:=pv.bd i hi
  unfold A1t
  simp only []
  rw [if_pos (by simpa using hi),F1 hi]
  simp only [Option.bind_some]
  rw [E0 (n:=(i:Int) + 1) (by omega),F1 (show i < h.Figures.length by omega),N6]
  by_cases hs:p.At[i]! = -1
  ·have hc:con h p.At k i = 0:= by unfold con; rw [if_neg (fun hq=>hq.2.1 hs)]
   rw [if_neg (by simp only [hs]; decide),hc,Int.add_zero]; rfl
  ·obtain ⟨q,hq1,hq2,hq3⟩:=shown pv hi hs
   have hj:=C39 ok (ok.place _ (G2 hq2))
   rw [if_pos (bne_iff_ne.mpr hs),hq1,F1 hq2]
   simp only [Option.bind_some]
   rw [hj.1,A8v hj.2 (by omega)]
   simp only [Option.bind_some]
   cases hb:bit h.Places[q]!.Joists.toNat k with
   | true =>
    have hc:con h p.At k i = h.Figures[i]!.Weight:= by unfold con; rw [hq3,if_pos ⟨hi,hs,hb⟩]
    rw [if_pos rfl,← hc,E0 (by omega)]; rfl
   | false =>
    have hc:con h p.At k i = 0:= by unfold con; rw [hq3,if_neg (fun hq=>by rw [hb] at hq; exact absurd hq.2.2 (by decide))]
    rw [if_neg (by decide),hc,Int.add_zero]; rfl) (by
  unfold A1t
  simp only []
  rw [if_neg (by simp)])
theorem B1g {h:RoHouse} (ok:HOk h) {p:RoPlan} (pv:PV h p.At):A3d h p = some (carry h p.At):= by
 have hh:=ok.holds
 unfold A3d
 have l1:=G9 (b:=A1u h p) (fun k=>((k:Int),(List.range k).map fun k=>G0 h p.At k p.At.length)) h.Holds.length (r:=carry h p.At) (by omega) (fun k hk=>by
  unfold A1u
  simp only []
  rw [if_pos (by simpa using hk),C56 ok pv k hk]
  simp only [Option.bind_some]
  rw [A4w (by omega) (by rw [List.length_map,List.length_range]; simp; omega),E0 (by omega)]
  simp only [Option.bind_some]
  rw [List.range_succ,List.map_append]; rfl) (by
  unfold A1u
  simp only []
  rw [if_neg (by simp)]; rfl)
 have l1:loop (A1u h p) (0,[]) = _:=l1
 rw [l1]; rfl
theorem C3h {n:Nat} {p:Nat→Bool}:(first (fun i=>if p i then none else some ()) n).isNone = (List.range n).all p:= by
 cases hf:first (fun i=>if p i then none else some ()) n with
 | none =>
  have h0:=K6.mp hf
  symm
  rw [Option.isNone_none,List.all_eq_true]
  intro i hi
  have:=h0 i (List.mem_range.mp hi)
  cases hp:p i with
  | true=>rfl
  | false=>rw [hp] at this; exact absurd this (by simp)
 | some u =>
  obtain ⟨i,hi,h1,_⟩:=Y7 hf
  symm
  rw [Option.isNone_some,List.all_eq_false]
  refine ⟨i,List.mem_range.mpr hi,?_⟩
  cases hp:p i with
  | true=>rw [hp] at h1; exact absurd h1 (by simp)
  | false=>decide
theorem A8h {b:Int→Option (Int ⊕ (Bool ⊕ Unit))} (n:Nat) (p:Nat→Bool) (hn:n < 9223372036854775808)
  (hs:∀i:Nat,i < n→b (i:Int) = some (if p i then .inl (w64 ((i:Int) + 1)) else .inr (.inl false))) (he:b (n:Int) = some (.inr (.inr ()))) :
  loop b 0 = some (if (List.range n).all p then .inr () else .inl false):= by
 rw [B07 n (fun i=>if p i then none else some (.inl false)) (.inr ()) hn (fun i hi _=>by rw [hs i hi]; cases p i <;> rfl) he,← C3h]
 have:(fun (i:Nat)=>if p i then none else some (Sum.inl false:Bool ⊕ Unit)) = fun (i:Nat)=>(if p i then none else some ()).map fun _=>Sum.inl false:= by
  funext i; cases p i <;> rfl
 rw [this,A5a]
 cases first (fun (i:Nat)=>if p i then none else some ()) n <;> rfl
def S4 (h:RoHouse) (p:List Int):Bool:=(List.range h.Holds.length).all fun k=>decide (G0 h p k p.length≤h.Holds[k]!)
theorem D4m {h:RoHouse} (ok:HOk h) {p:List Int} (pv:PV h p):A11 ⟨h⟩ (enc p) = some (S4 h p):= by
 have hh:=ok.holds
 unfold A11
 rw [C7k ok pv]
 simp only [Option.bind_some]
 rw [A8h (b:=W8 ⟨h⟩ (B06 h p)) 4 (fun k=>if k < h.Holds.length then decide (G0 h p k p.length≤h.Holds[k]!) else true) (by omega) (fun k hk=>by
  unfold W8 B06
  rw [if_pos (by rw [decide_eq_true_eq]; omega),D0l _ k hk]
  simp only [Option.bind_some]
  by_cases c:k < h.Holds.length
  ·rw [if_pos c,if_pos (by rw [decide_eq_true_eq]; exact Int.ofNat_lt.mpr c),F1 c,if_pos c]
   simp only [Option.bind_some]
   by_cases q:G0 h p k p.length≤h.Holds[k]!
   ·rw [decide_eq_true q,decide_eq_false (show ¬ (G0 h p k p.length > h.Holds[k]!) by omega)]; rfl
   ·rw [decide_eq_false q,decide_eq_true (show (G0 h p k p.length > h.Holds[k]!) by omega)]; rfl
  ·rw [if_neg c,if_neg (by rw [decide_eq_true_eq]; intro q; exact c (Int.ofNat_lt.mp q)),if_neg c]; rfl) (by
  unfold W8
  rw [if_neg (by rw [decide_eq_true_eq]; omega)])]
 simp only [Option.bind_some]
 have e1:(List.range 4).all (fun k=>if k < h.Holds.length then decide (G0 h p k p.length≤h.Holds[k]!) else true) = S4 h p:= by
  unfold S4
  rw [Bool.eq_iff_iff,List.all_eq_true,List.all_eq_true]
  constructor
  ·intro q k hk
   have:=q k (List.mem_range.mpr (by have:=List.mem_range.mp hk; omega))
   rwa [if_pos (List.mem_range.mp hk)] at this
  ·intro q k _
   by_cases c:k < h.Holds.length
   ·rw [if_pos c]; exact q k (List.mem_range.mpr c)
   ·rw [if_neg c]
 rw [e1]
 cases S4 h p <;> rfl
def dear (h:RoHouse) (p:List Int) (c:Int) (i:Nat):Int:=if i < p.length∧p[i]! ≠ -1∧(plc h p i).Dear = true∧h.Figures[i]!.Class = c then 1 else 0
def K5 (h:RoHouse) (p:List Int) (c:Int) (n:Nat):Int:=iter (fun i s=>s + dear h p c i) n 0
theorem A01 (h:RoHouse) (p:List Int) (c:Int) (n:Nat):K5 h p c (n + 1) = K5 h p c n + dear h p c n:=rfl
theorem D6q (h:RoHouse) (p:List Int) (c:Int) (i:Nat):0≤dear h p c i∧dear h p c i≤1:= by
 unfold dear
 split <;> omega
theorem A6k (h:RoHouse) (p:List Int) (c:Int):∀n,0≤K5 h p c n∧K5 h p c n≤n
 | 0=>by unfold K5 iter; omega
 | n + 1=>by
  have ih:=A6k h p c n
  have:=D6q h p c n
  rw [A01]; omega
theorem C2e (h:RoHouse) (p:List Int) (c:Int):∀n,K5 h p c (p.length + n) = K5 h p c p.length
 | 0=>rfl
 | n + 1=>by
  rw [← Nat.add_assoc,A01,C2e h p c n]
  unfold dear
  rw [if_neg (by omega)]; omega
def A1l (b:List Int) (c:Int) (n:Nat):Int:=iter (fun i s=>s + if b[i]! == c then 1 else 0) n 0
theorem A4x (b:List Int) (c:Int) (n:Nat):A1l b c (n + 1) = A1l b c n + if b[n]! == c then 1 else 0:=rfl
theorem B93 (b:List Int) (c:Int):∀n,0≤A1l b c n∧A1l b c n≤n
 | 0=>by unfold A1l iter; omega
 | n + 1=>by
  have ih:=B93 b c n
  rw [A4x]
  split <;> omega
theorem B94 (b:List Int) (c:Int) {m:Nat}:∀{n:Nat},m≤n→A1l b c m≤A1l b c n
 | 0,h=>by have:m = 0:= by omega
           subst this; omega
 | n + 1,h=>by
  by_cases e:m = n + 1
  ·subst e; omega
  ·have ih:=B94 b c (m:=m) (n:=n) (by omega)
   rw [A4x]
   split <;> omega
def A13 (h:RoHouse) (p:List Int):Bool:=(List.range 10).all fun c=>decide (A1l h.Bill (c:Int) h.Bill.length≤K5 h p (c:Int) p.length)
theorem B8o {h:RoHouse} (ok:HOk h) {p:RoPlan} (pv:PV h p.At):A6h h p = some (A13 h p.At):= by
 have h5:=ok.figures
 have hp:=ok.places
 have hb3:=ok.bill
 have hl:=pv.len
 unfold A6h
 rw [A8h (b:=A4f h p) 10 (fun c=>decide (A1l h.Bill (c:Int) h.Bill.length≤K5 h p.At (c:Int) p.At.length)) (by omega) (fun c hc=>by
  unfold A4f
  rw [if_pos (by rw [decide_eq_true_eq]; omega)]
  have l1:loop (A2r h p (c:Int)) (0,0) = some (K5 h p.At (c:Int) p.At.length):=G9 (b:=A2r h p (c:Int)) (fun i=>(K5 h p.At (c:Int) i,(i:Int))) p.At.length (by omega) (fun i hi=>by
   have b1:=A6k h p.At (c:Int) i
   have hb:=pv.bd i hi
   unfold A2r
   simp only []
   rw [if_pos (by simpa using hi),F1 hi]
   simp only [Option.bind_some]
   rw [E0 (n:=(i:Int) + 1) (by omega),E0 (by omega),F1 (show i < h.Figures.length by omega),A01]
   by_cases hs:p.At[i]! = -1
   ·have hc:dear h p.At (c:Int) i = 0:= by unfold dear; rw [if_neg (fun hq=>hq.2.1 hs)]
    rw [if_neg (by simp only [hs]; decide),hc,Int.add_zero]; rfl
   ·obtain ⟨q,hq1,hq2,hq3⟩:=shown pv hi hs
    rw [if_pos (bne_iff_ne.mpr hs),hq1,F1 hq2]
    simp only [Option.bind_some]
    unfold dear
    rw [hq3]
    cases hd:h.Places[q]!.Dear with
    | false=>rw [if_neg (by decide),if_neg (fun z=>absurd z.2.2.1 (by decide)),Int.add_zero]; rfl
    | true =>
     rw [if_pos rfl]
     simp only [Option.bind_some]
     by_cases hc:h.Figures[i]!.Class = (c:Int)
     ·rw [if_pos (by rw [beq_iff_eq]; exact hc),if_pos ⟨hi,hs,by trivial,hc⟩]; rfl
     ·rw [if_neg (by rw [beq_iff_eq]; exact hc),if_neg (fun z=>hc z.2.2.2),Int.add_zero]; rfl) (by
   unfold A2r
   simp only []
   rw [if_neg (by simp)])
  have l2:loop (A2s h (c:Int)) (0,0) = some (A1l h.Bill (c:Int) h.Bill.length):=G9 (b:=A2s h (c:Int)) (fun i=>(A1l h.Bill (c:Int) i,(i:Int))) h.Bill.length (by omega) (fun i hi=>by
   have b1:=B93 h.Bill (c:Int) i
   unfold A2s
   simp only []
   rw [if_pos (by simpa using hi),F1 hi]
   simp only [Option.bind_some]
   rw [E0 (n:=(i:Int) + 1) (by omega),E0 (by omega),A4x]
   cases h.Bill[i]! == (c:Int)
   ·rw [if_neg (by decide),if_neg (by decide),Int.add_zero]; rfl
   ·rfl) (by
   unfold A2s
   simp only []
   rw [if_neg (by simp)])
  rw [l1,l2]
  simp only [Option.bind_some]
  by_cases q:A1l h.Bill (c:Int) h.Bill.length≤K5 h p.At (c:Int) p.At.length
  ·rw [decide_eq_true q,if_neg (by rw [decide_eq_true_eq]; omega)]; rfl
  ·rw [decide_eq_false q,if_pos (by rw [decide_eq_true_eq]; omega)]; rfl) (by
  unfold A4f
  rw [if_neg (by rw [decide_eq_true_eq]; omega)])]
 simp only [Option.bind_some]
 show _ = some (A13 h p.At)
 unfold A13
 cases (List.range 10).all fun (c:Nat)=>decide (A1l h.Bill (c:Int) h.Bill.length≤K5 h p.At (c:Int) p.At.length) <;> rfl
def gd (m:List (Int × Int)) (c:Int):Int:=(kget m c).getD 0
theorem C5m (m:List (Int × Int)) (k v c:Int):gd (kset m k v) c = if c = k then v else gd m c:= by
 unfold gd
 rw [C4a]
 by_cases h:c = k
 ·rw [if_pos h,if_pos h]; rfl
 ·rw [if_neg h,if_neg h]
theorem prom1 {h:RoHouse} (ok:HOk h) {p:List Int} (pv:PV h p):∃m,loop (O9 ⟨h⟩ (enc p)) (0,[]) = some m∧∀ c,gd m c = K5 h p c p.length:= by
 have h5:=ok.figures
 have hp:=ok.places
 have hl:=pv.len
 refine C0s (b:=O9 ⟨h⟩ (enc p)) (fun i s=>s.1 = (i:Int)∧∀ c,gd s.2 c = K5 h p c i) 5 (fun m=>∀ c,gd m c = K5 h p c p.length) (by omega) ?_ ?_ (0,[]) ⟨rfl,fun c=>rfl⟩
 ·rintro i ⟨i',m⟩ hi ⟨h1,h2⟩
  simp only at h1 h2
  subst h1
  unfold O9
  simp only []
  rw [if_pos (by rw [decide_eq_true_eq]; omega),A9c p i hi]
  simp only [Option.bind_some]
  rw [E0 (n:=(i:Int) + 1) (by omega)]
  have same:∀c,(∀ c,dear h p c i = 0)→gd m c = K5 h p c (i + 1):=fun c hd=>by rw [A01,hd c,Int.add_zero]; exact h2 c
  by_cases c1:i < p.length
  ·have hb:=pv.bd i c1
   have he:e p i = p[i]! + 1:= by unfold e; rw [if_pos c1]
   by_cases hs:p[i]! = -1
   ·rw [if_neg (by rw [decide_eq_true_eq]; omega)]
    exact ⟨_,rfl,rfl,fun c=>same c fun c=>by unfold dear; rw [if_neg (fun hq=>hq.2.1 hs)]⟩
   ·obtain ⟨q,hq1,hq2,hq3⟩:=shown pv c1 hs
    rw [if_pos (by rw [decide_eq_true_eq]; omega),he,E0 (by omega),show p[i]! + 1 - 1 = (q:Int) by omega,F1 hq2]
    simp only [Option.bind_some]
    cases hd:h.Places[q]!.Dear with
    | false =>
     rw [if_neg (by decide)]
     exact ⟨_,rfl,rfl,fun c=>same c fun c=>by unfold dear; rw [hq3,hd,if_neg (fun z=>absurd z.2.2.1 (by decide))]⟩
    | true =>
     rw [if_pos rfl,F1 (show i < h.Figures.length by omega)]
     simp only [Option.bind_some]
     refine ⟨_,rfl,rfl,fun c=>?_⟩
     have b1:=A6k h p h.Figures[i]!.Class i
     have h3:=h2 h.Figures[i]!.Class
     have h3:(kget m h.Figures[i]!.Class).getD 0 = K5 h p h.Figures[i]!.Class i:=h3
     rw [C5m,h3,E0 (by omega),A01]
     unfold dear
     rw [hq3,hd]
     by_cases hc:c = h.Figures[i]!.Class
     ·subst hc
      rw [if_pos rfl,if_pos ⟨c1,hs,by trivial,rfl⟩]
     ·rw [if_neg hc,if_neg (fun z=>hc z.2.2.2.symm),Int.add_zero]; exact h2 c
  ·have he:e p i = 0:= by unfold e; rw [if_neg c1]
   rw [he,if_neg (by decide)]
   exact ⟨_,rfl,rfl,fun c=>same c fun c=>by unfold dear; rw [if_neg (fun hq=>c1 hq.1)]⟩
 ·rintro ⟨i',m⟩ ⟨h1,h2⟩
  simp only at h1 h2
  subst h1
  unfold O9
  simp only []
  rw [if_neg (show ¬ decide (((5:Nat):Int) < 5) = true by rw [decide_eq_true_eq]; omega)]
  refine ⟨m,rfl,fun c=>?_⟩
  have:=C2e h p c (5 - p.length)
  rw [show p.length + (5 - p.length) = 5 by omega] at this
  rw [h2 c,this]
theorem B5w {h:RoHouse} (ok:HOk h) (p:List Int):A13 h p = true↔∀ i,i < h.Bill.length→A1l h.Bill h.Bill[i]! (i + 1)≤K5 h p h.Bill[i]! p.length:= by
 unfold A13
 rw [List.all_eq_true]
 constructor
 ·intro q i hi
  have hb:=ok.class_ _ (G2 hi)
  have:=q h.Bill[i]!.toNat (List.mem_range.mpr (by omega))
  rw [decide_eq_true_eq,show ((h.Bill[i]!.toNat:Nat):Int) = h.Bill[i]! by omega] at this
  have m:=B94 h.Bill h.Bill[i]! (m:=i + 1) (n:=h.Bill.length) (by omega)
  omega
 ·intro q c _
  rw [decide_eq_true_eq]
  have key:∀n,n≤h.Bill.length→A1l h.Bill (c:Int) n≤K5 h p (c:Int) p.length:= by
   intro n
   induction n with
   | zero=>intro _; exact (A6k h p (c:Int) p.length).1
   | succ n ih =>
    intro hn
    by_cases e:h.Bill[n]! = (c:Int)
    ·have:=q n (by omega)
     rwa [e] at this
    ·rw [A4x,if_neg (by rw [beq_iff_eq]; exact e),Int.add_zero]
     exact ih (by omega)
  exact key _ (Nat.le_refl _)
theorem prom2 {h:RoHouse} (ok:HOk h) {p:List Int} {m:List (Int × Int)} (pl:p.length≤5) (hm:∀c,gd m c = K5 h p c p.length):∃r,loop (P0 ⟨h⟩) (0,m) = some r∧(match r with | .inl v=>v = false∧A13 h p = false | .inr _=>A13 h p = true):= by
 have hb3:=ok.bill
 refine B7p (b:=P0 ⟨h⟩) (fun i s=>s.1 = (i:Int)∧(∀ c,gd s.2 c = K5 h p c p.length - A1l h.Bill c i)∧∀ j,j < i→A1l h.Bill h.Bill[j]! (j + 1)≤K5 h p h.Bill[j]! p.length) h.Bill.length (fun r=>match r with | .inl v=>v = false∧A13 h p = false | .inr _=>A13 h p = true) (by omega) ?_ ?_ (0,m) ⟨rfl,fun c=>by rw [hm c]; show _ = _ - (0:Int); omega,fun j hj=>absurd hj (Nat.not_lt_zero j)⟩
 ·rintro i ⟨i',m'⟩ hi ⟨h1,h2,h3⟩
  simp only at h1 h2
  subst h1
  unfold P0
  simp only []
  rw [if_pos (by simpa using hi),F1 hi]
  simp only [Option.bind_some]
  have b1:=A6k h p h.Bill[i]! p.length
  have b2:=B93 h.Bill h.Bill[i]! i
  have h4:=h2 h.Bill[i]!
  have h5:(kget m' h.Bill[i]!).getD 0 = K5 h p h.Bill[i]! p.length - A1l h.Bill h.Bill[i]! i:=h4
  have e1:A1l h.Bill h.Bill[i]! (i + 1) = A1l h.Bill h.Bill[i]! i + 1:= by rw [A4x,if_pos (beq_self_eq_true _)]
  rw [h5,E0 (n:=K5 h p h.Bill[i]! p.length - A1l h.Bill h.Bill[i]! i - 1) (by omega),E0 (n:=(i:Int) + 1) (by omega)]
  have g1:=C5m m' h.Bill[i]! (K5 h p h.Bill[i]! p.length - A1l h.Bill h.Bill[i]! i - 1) h.Bill[i]!
  rw [if_pos rfl] at g1
  have g2:(kget (kset m' h.Bill[i]! (K5 h p h.Bill[i]! p.length - A1l h.Bill h.Bill[i]! i - 1)) h.Bill[i]!).getD 0 = K5 h p h.Bill[i]! p.length - A1l h.Bill h.Bill[i]! i - 1:=g1
  rw [g2]
  by_cases c:K5 h p h.Bill[i]! p.length - A1l h.Bill h.Bill[i]! i - 1 < 0
  ·right
   rw [if_pos (by rw [decide_eq_true_eq]; exact c)]
   refine ⟨_,rfl,rfl,?_⟩
   cases hk:A13 h p with
   | false=>rfl
   | true =>
    have:=(B5w ok p).mp hk i hi
    omega
  ·left
   rw [if_neg (by rw [decide_eq_true_eq]; exact c)]
   refine ⟨_,rfl,rfl,fun c=>?_,fun j hj=>?_⟩
   ·rw [C5m,A4x]
    by_cases hc:c = h.Bill[i]!
    ·rw [if_pos hc,hc,if_pos (beq_self_eq_true _)]; omega
    ·rw [if_neg hc,if_neg (by rw [beq_iff_eq]; exact fun q=>hc q.symm),Int.add_zero]; exact h2 c
   ·by_cases hji:j = i
    ·subst hji; omega
    ·exact h3 j (by omega)
 ·rintro ⟨i',m'⟩ ⟨h1,_,h3⟩
  simp only at h1
  subst h1
  unfold P0
  simp only []
  rw [if_neg (by simp)]
  exact ⟨_,rfl,(B5w ok p).mpr h3⟩
theorem C7x {h:RoHouse} (ok:HOk h) {p:List Int} (pv:PV h p):W9 ⟨h⟩ (enc p) = some (A13 h p):= by
 have h5:=ok.figures
 have hl:=pv.len
 unfold W9
 obtain ⟨m,e1,hm⟩:=prom1 ok pv
 obtain ⟨r,e2,hr⟩:=prom2 ok (by omega) hm
 by_cases hz:((enc p).x0 == 0 && ((enc p).x1 == 0 && ((enc p).x2 == 0 && ((enc p).x3 == 0 && ((enc p).x4 == 0 && true))))) = true
 ·rw [if_pos hz]
  have hall:∀i,i < 5→e p i = 0:= by
   simp only [Bool.and_eq_true,beq_iff_eq] at hz
   intro i hi
   match i,hi with
   | 0,_=>exact hz.1
   | 1,_=>exact hz.2.1
   | 2,_=>exact hz.2.2.1
   | 3,_=>exact hz.2.2.2.1
   | 4,_=>exact hz.2.2.2.2.1
  have ht:∀c,∀ n,K5 h p c n = 0:= by
   intro c n
   induction n with
   | zero=>rfl
   | succ n ih =>
    rw [A01,ih]
    unfold dear
    rw [if_neg (show ¬ (n < p.length∧p[n]! ≠ -1∧(plc h p n).Dear = true∧h.Figures[n]!.Class = c) from fun q=>by
     have q1:=q.1
     have:=hall n (by omega)
     unfold e at this
     rw [if_pos q.1] at this
     exact q.2.1 (by omega))]
    rfl
  by_cases hb:h.Bill.length = 0
  ·have:A13 h p = true:=(B5w ok p).mpr fun i hi=>by omega
   rw [this,hb]; rfl
  ·have:A13 h p = false:= by
    cases hk:A13 h p with
    | false=>rfl
    | true =>
     have:=(B5w ok p).mp hk 0 (by omega)
     rw [ht,A4x,if_pos (beq_self_eq_true _)] at this
     have:(0:Int) + 1≤0:=this
     omega
   rw [this]
   congr 1
   show ((h.Bill.length:Int) == 0) = false
   exact beq_eq_false_iff_ne.mpr (by omega)
 ·rw [if_neg hz,e1]
  simp only [Option.bind_some]
  rw [e2]
  simp only [Option.bind_some]
  cases r with
  | inl v=>rw [hr.1,hr.2]
  | inr m=>rw [hr]
theorem B9m {h:RoHouse} (ok:HOk h) {p:List Int} (pv:PV h p) (last:Bool):M9 ⟨h⟩ (enc p) last = some (S4 h p && (!last || A13 h p)):= by
 unfold M9
 rw [D4m ok pv,C7x ok pv]
 cases last <;> cases S4 h p <;> cases A13 h p <;> rfl
def A30 (h:RoHouse) (p:List Int) (n:Nat):Int:=iter (fun i s=>s + if i < p.length∧p[i]! ≠ -1 then h.Figures[i]!.Worth else 0) n 0
theorem A58 (h:RoHouse) (p:List Int) (n:Nat):A30 h p (n + 1) = A30 h p n + if n < p.length∧p[n]! ≠ -1 then h.Figures[n]!.Worth else 0:=rfl
theorem A85 {h:RoHouse} (ok:HOk h) {p:List Int} (pv:PV h p):∀n,0≤A30 h p n∧A30 h p n≤100 * n
 | 0=>by unfold A30 iter; omega
 | n + 1=>by
  have ih:=A85 ok pv n
  rw [A58]
  by_cases c:n < p.length∧p[n]! ≠ -1
  ·have:=(ok.figure _ (G2 (show n < h.Figures.length by rw [← pv.len]; exact c.1))).worth
   rw [if_pos c]; omega
  ·rw [if_neg c]; omega
theorem C2m (h:RoHouse) (p:List Int):∀n,A30 h p (p.length + n) = A30 h p p.length
 | 0=>rfl
 | n + 1=>by
  rw [← Nat.add_assoc,A58,C2m h p n,if_neg (by omega)]; omega
def worth (h:RoHouse) (p:List Int):Int:=A30 h p p.length
theorem C8o {h:RoHouse} (ok:HOk h) {p:List Int} (pv:PV h p):U6 ⟨h⟩ (enc p) = some (worth h p):= by
 have h5:=ok.figures
 have hp:=ok.places
 have hl:=pv.len
 unfold U6
 have l1:loop (T2 ⟨h⟩ (enc p)) (0,0) = some (worth h p):=G9 (b:=T2 ⟨h⟩ (enc p)) (fun i=>(A30 h p i,(i:Int))) 5 (by omega) (fun i hi=>by
  have b1:=A85 ok pv i
  unfold T2
  simp only []
  rw [if_pos (by rw [decide_eq_true_eq]; omega),A9c p i hi]
  simp only [Option.bind_some]
  rw [E0 (n:=(i:Int) + 1) (by omega),A58]
  by_cases c:i < p.length∧p[i]! ≠ -1
  ·have hb:=pv.bd i c.1
   have hw:=(ok.figure _ (G2 (show i < h.Figures.length by rw [← pv.len]; exact c.1))).worth
   have he:e p i > 0:= by unfold e; rw [if_pos c.1]; have:=c.2; omega
   rw [if_pos (by rw [decide_eq_true_eq]; exact he),F1 (show i < h.Figures.length by have:=c.1; omega),if_pos c]
   simp only [Option.bind_some]
   rw [E0 (by omega)]; rfl
  ·have he:¬ e p i > 0:= by
    unfold e
    by_cases c1:i < p.length
    ·rw [if_pos c1]
     have:p[i]! = -1:=Classical.byContradiction fun hq=>c ⟨c1,hq⟩
     omega
    ·rw [if_neg c1]; omega
   rw [if_neg (by rw [decide_eq_true_eq]; exact he),if_neg c,Int.add_zero]; rfl) (by
  unfold T2
  simp only []
  rw [if_neg (show ¬ decide (((5:Nat):Int) < 5) = true by rw [decide_eq_true_eq]; omega)]
  have:=C2m h p (5 - p.length)
  rw [show p.length + (5 - p.length) = 5 by omega] at this
  rw [this]; rfl)
 rw [l1]; rfl
theorem A50 {h:RoHouse} (ok:HOk h) {p:RoPlan} (pv:PV h p.At):A0x h p = some (worth h p.At):= by
 have h5:=ok.figures
 have hp:=ok.places
 have hl:=pv.len
 unfold A0x
 have l1:loop (A1z h p) (0,0) = some (worth h p.At):=G9 (b:=A1z h p) (fun i=>(A30 h p.At i,(i:Int))) p.At.length (by omega) (fun i hi=>by
  have b1:=A85 ok pv i
  have hw:=(ok.figure _ (G2 (show i < h.Figures.length by omega))).worth
  unfold A1z
  simp only []
  rw [if_pos (by simpa using hi),F1 hi]
  simp only [Option.bind_some]
  rw [E0 (n:=(i:Int) + 1) (by omega),A58,F1 (show i < h.Figures.length by omega)]
  simp only [Option.bind_some]
  by_cases c:p.At[i]! = -1
  ·rw [if_neg (by simp only [c]; decide),if_neg (fun q=>q.2 c),Int.add_zero]; rfl
  ·rw [if_pos (bne_iff_ne.mpr c),if_pos ⟨hi,c⟩,E0 (by omega)]; rfl) (by
  unfold A1z
  simp only []
  rw [if_neg (by simp)]; rfl)
 rw [l1]; rfl
def X7 (h:RoHouse) (l:Nat) (p:List Int) (i:Nat):Bool:=p[i]! == -1 || L6 (warm h p[i]!.toNat l) h.Figures[i]! == 1
def A4i (h:RoHouse) (l:Nat) (p:List Int):Bool:=(List.range p.length).all (X7 h l p)
theorem lit16 {h:RoHouse} (ok:HOk h) {l:Nat} (hl:l < 2 ^ h.Stoves.toNat):l < 16:= by
 have:=A5w ok
 omega
def B5t (p:List Int) (i:Nat):Prop:=i < p.length∧p[i]! ≠ -1
def left (h:RoHouse) (l:Nat) (p:List Int) (i:Nat):Int:=B1z ((warm h p[i]!.toNat l).Lo - h.Figures[i]!.Cracks) (h.Figures[i]!.Slumps - (warm h p[i]!.toNat l).Hi)
instance (p:List Int) (i:Nat):Decidable (B5t p i):=inferInstanceAs (Decidable (_∧_))
theorem C3m (h:RoHouse) (p:List Int):(carry h p).length = h.Holds.length:= by unfold carry; rw [List.length_map,List.length_range]
end Rm
end
section
set_option maxRecDepth 100000
set_option maxHeartbeats 0
namespace Rm
open Go Am Go.Proofs.YtbheamjhjgoccaaDoor.Cd
def A07 (a0:(List Int)) (a1:Int):Option Int :=
 if ((List.length a0:Int) == 0) = true then
  some 0
 else
  (B7z a1 (List.length a0:Int)).bind fun x2 =>
  (idx a0 x2).bind fun x3 =>
  some (w64 x3)
theorem A6p {c:Sc} {H:A6} {a0:(List Int)} {a1:Int} {r:Int} (h:A07 a0 a1 = some r) :
  E7 tab c H (.fn (.func 49) [] []) [(.seq 1 (List.map Y3 a0)),.i a1] [.i r]:= by
 unfold A07 at h
 refine cE rfl rfl<|s0<|qm rfl<|es (ra2 rfl rfl)<|B8<|s0<|qm rfl<|A0 (D6 (f:=Y3) rfl) rfl<|A0 (F5 rfl rfl) rfl<|es (ra3 rfl rfl rfl)<|wi h rfl (fun hc1 h=>?_) fun hc1 h=>?_
 ·refine s0<|qm rfl<|es (ra1 rfl)<|C5 ?_
  obtain rfl:=os h
  exact retq trivial (A9 rfl B7) (A4 rfl B6) (A2 A5 B2)
 ·refine C1<|s0<|oB h fun x2 hx2 h=>oB h fun x3 hx3 h=>qm rfl<|qm rfl<|qm rfl<|A0 (D6 (f:=Y3) rfl) rfl<|A0 (B8c rfl rfl hx2) rfl<|A0 (E2 (f:=Y3) rfl rfl hx3) rfl<|A0 (E4 rfl rfl) rfl<|A0 (A4z rfl) rfl<|qm rfl<|es (ra1 rfl)<|C5 ?_
  obtain rfl:=os h
  exact retq trivial (A9 rfl B7) (A4 rfl B6) (A2 A5 B2)
def Y0 (a0:RoHouse):Option Bool :=
 (Y1 a0).bind fun x1 =>
 some (x1.2.2 == 0)
theorem A1n {c:Sc} {H:A6} {a0:RoHouse} {r:Bool} (h:Y0 a0 = some r) :
  E7 tab c H (.fn (.func 43) [] []) [(.agg (A3 a0))] [.b r]:= by
 unfold Y0 at h
 refine cE rfl rfl<|sg 0 rfl<|A0 (E8 (cs:=A3 a0) rfl rfl rfl) rfl<|qm rfl<|es (ra1 rfl)<|s0<|oB h fun x1 hx1 h=>A0 (C0 rfl rfl rfl) rfl<|B4 (rs:=[.i x1.1,.i x1.2.1,.i x1.2.2]) rfl rfl (A1 (D1 rfl) B5) ((A1p hx1).frz)<|qm rfl<|A0 (A7 rfl rfl) rfl<|A0 (A7 rfl rfl) rfl<|A0 (A7 rfl rfl) rfl<|qm rfl<|qm rfl<|qm rfl<|es (ra1 rfl)<|s0<|qm rfl<|A0 (F5 rfl rfl) rfl<|qm rfl<|es (ra1 rfl)<|C5 ?_
 obtain rfl:=os h
 exact retq trivial (A9 rfl B7) (A4 rfl B6) (A2 A5 B2)
end Rm
end
section
namespace Rm
open Go Am
def N8 (l:List Int):Prop:=l.length < 9223372036854775808∧∀ x ∈ l,0≤x∧x < 256
theorem A9l {a b:Int} (ha:0≤a) (hb:0 < b):∃r,B7z a b = some r∧0≤r∧r < b:= by
 unfold B7z
 rw [if_neg (by omega)]
 exact ⟨a.tmod b,rfl,Int.tmod_nonneg _ ha,Int.tmod_lt_of_pos _ hb⟩
theorem B9r {l:List Int} (h:N8 l) (n:Nat):∃r,A07 l (n:Int) = some r∧0≤r∧r < 256:= by
 have h1:=h.1
 unfold A07
 by_cases c:l.length = 0
 ·rw [if_pos (by rw [c]; rfl)]; exact ⟨0,rfl,by omega,by omega⟩
 ·rw [if_neg (by rw [beq_iff_eq]; omega)]
  obtain ⟨r,h1,h2,h3⟩:=A9l (a:=(n:Int)) (b:=(l.length:Int)) (by omega) (by omega)
  rw [h1]
  simp only [Option.bind_some]
  rw [show r = ((r.toNat:Nat):Int) by omega,F1 (show r.toNat < l.length by omega)]
  have hb:=h.2 _ (G2 (show r.toNat < l.length by omega))
  simp only [Option.bind_some]
  rw [E0 (by omega)]
  exact ⟨_,rfl,hb.1,hb.2⟩
theorem B61 (h:RoHouse):Y0 h = some ((check h).2.2 == 0):= by
 unfold Y0
 rw [S9]; rfl
theorem A3n (l:List Int) (v:Int) (j:Nat):(l++[v])[j]! = if j < l.length then l[j]! else if j = l.length then v else default:= by
 by_cases c:j < l.length
 ·rw [if_pos c,getElem!_pos (l++[v]) j (by rw [List.length_append]; omega),getElem!_pos l j c,List.getElem_append_left c]
 ·rw [if_neg c]
  by_cases c2:j = l.length
  ·subst c2
   rw [if_pos rfl,getElem!_pos (l++[v]) l.length (by rw [List.length_append]; simp),List.getElem_append_right (Nat.le_refl _)]
   simp
  ·rw [if_neg c2,getElem!_neg (l++[v]) j (by rw [List.length_append]; simp; omega)]
theorem B60 {l:List Int} {v:Int} {j:Nat} (hj:j < l.length):R4 (l++[v]) j = R4 l j:= by
 unfold R4
 rw [A3n,if_pos hj,List.take_append_of_le_length (by omega)]
theorem B6z (l:List Int) (v:Int):R4 (l++[v]) l.length = (v != -1 && l.any (· == v)):= by
 unfold R4
 rw [A3n,if_neg (Nat.lt_irrefl _),if_pos rfl,List.take_left' rfl]
theorem B29 (l:List Int):dup l = false↔∀ i,i < l.length→R4 l i = false:= by
 unfold dup
 constructor
 ·intro h i hi
  cases hf:first (fun i=>if R4 l i then some () else none) l.length with
  | some u=>rw [hf] at h; cases h
  | none =>
   have:=K6.mp hf i hi
   cases ht:R4 l i with
   | false=>rfl
   | true=>rw [ht] at this; exact absurd this (by simp)
 ·intro h
  rw [K6.mpr fun i hi=>by rw [h i hi]; rfl]; rfl
structure AnyOk (h:RoHouse) (safe:Bool) (p:RoPlan):Prop where
 pv:PV h p.At
 lit:∃l:Nat,p.Lit = l∧l < 2 ^ h.Stoves.toNat
 dup:dup p.At = false
 safe:safe = true→A4i h p.Lit.toNat p.At = true
theorem C6o {h:RoHouse} (e0:(check h).2.2 = 0) {safe:Bool} {p:RoPlan} (a:AnyOk h safe p):K3 h p = 0:= by
 obtain ⟨l,hl1,hl2⟩:=a.lit
 have hpv:=a.pv
 unfold K3
 rw [if_neg (by simp [e0]),L4.mpr (show 0≤p.Lit∧p.Lit≤((2 ^ h.Stoves.toNat:Nat):Int) - 1 by omega),if_neg (by decide),if_neg (by simp [hpv.len])]
 have o2:p.At.any (out (-1) ((h.Places.length:Int) - 1)) = false:= by
  rw [List.any_eq_false]
  intro x hx
  obtain ⟨i,hi,rfl⟩:=A6o hx
  have:=hpv.bd i hi
  rw [L4.mpr ⟨by omega,by omega⟩]; decide
 rw [o2,if_neg (by decide),a.dup,if_neg (by decide)]
theorem D1o {n:Int} (h:(Lit.int .u8 n).wf = true):0≤n∧n < 256:= by
 rw [Lit.wf,Bool.and_eq_true,decide_eq_true_eq,decide_eq_true_eq] at h
 have h1:IntKind.u8.min = 0:=rfl
 have h2:IntKind.u8.max = 255:=rfl
 omega
theorem D8d (r:List AV) (h:SatL [.int .u8] r):∃x:Int,r = [.lit (.int .u8 x)]∧(0≤x∧x < 256):= by
 simp only [SatL,Sat] at h
 obtain ⟨x1,q1,rfl,⟨n1,rfl,hw⟩,rfl⟩:=h
 exact ⟨n1,rfl,D1o hw⟩
theorem D9a (r:List AV) (h:SatL [.int .u8] r):∃x:Int,r = Y3 x∧(0≤x∧x < 256):=D8d r h
theorem D5j (r:List AV) (h:SatL [.seq 1 [.int .u8]] r):∃xs:List Int,r = [.seq 1 (xs.map Y3)]∧N8 xs:= by
 rw [SatL] at h; obtain ⟨x,q1,rfl,hx,hq⟩:=h
 rw [SatL] at hq; subst hq
 simp only [Sat] at hx
 obtain ⟨rows,rfl,hl,hr⟩:=hx
 obtain ⟨xs,rfl,hlen,hq⟩:=A67 D9a rows hr
 simp only [maxLen] at hl
 exact ⟨xs,rfl,by omega,hq⟩
end Rm
end
section
set_option maxRecDepth 100000
set_option maxHeartbeats 0
namespace Rm
open Go Am Go.Proofs.YtbheamjhjgoccaaDoor.Cd
end Rm
end
section
namespace Rm
open Go Am
section
variable {α σ ρ:Type}
def A6w (f:α→σ→Option (σ ⊕ ρ)):List α→σ→Option (σ ⊕ ρ)
 | [],s=>some (.inl s)
 | a :: l,s=>(f a s).bind fun x=>match x with
  | .inl s'=>A6w f l s'
  | .inr r=>some (.inr r)
theorem B01 (f:α→σ→Option (σ ⊕ ρ)) (m:List α):∀(l:List α) (s:σ),A6w f (l++m) s = (A6w f l s).bind fun x=>match x with
  | .inl s'=>A6w f m s'
  | .inr r=>some (.inr r)
 | [],s=>rfl
 | a :: l,s=>by
  show (f a s).bind _ = ((f a s).bind _).bind _
  cases f a s with
  | none=>rfl
  | some x=>cases x with
   | inl s'=>exact B01 f m l s'
   | inr r=>rfl
end
def A0d (h:RoHouse) (l:Nat) (q:List Int) (p:Nat):Bool:=!(q.any (· == (p:Int))) && L6 (warm h p l) h.Figures[q.length]! == 1
def cand (h:RoHouse) (l:Nat) (q:List Int):List Int:=(((List.range h.Places.length).filter (A0d h l q)).map fun (p:Nat)=>(p:Int))++[-1]
def DF (h:RoHouse) (l:Nat):Nat→List Int→List (List Int)
 | 0,q=>[q]
 | d + 1,q=>(cand h l q).flatMap fun v=>DF h l d (q++[v])
structure BG (h:RoHouse) (q:List Int):Prop where
 len:q.length≤h.Figures.length
 bd:∀i,i < q.length→-1≤q[i]!∧q[i]! < (h.Places.length:Int)
theorem B90 {h:RoHouse} {l:Nat} {q:List Int} {v:Int} (hv:v ∈ cand h l q):v = -1∨∃ p:Nat,v = p∧p < h.Places.length∧A0d h l q p = true:= by
 unfold cand at hv
 rw [List.mem_append,List.mem_map] at hv
 rcases hv with ⟨p,hp,rfl⟩ | hv
 ·rw [List.mem_filter,List.mem_range] at hp
  exact .inr ⟨p,rfl,hp.1,hp.2⟩
 ·exact .inl (List.mem_singleton.mp hv)
theorem BG.snoc {h:RoHouse} {l:Nat} {q:List Int} (b:BG h q) (hq:q.length < h.Figures.length) {v:Int} (hv:v ∈ cand h l q):BG h (q++[v]):= by
 refine ⟨by rw [List.length_append]; simp; omega,fun i hi=>?_⟩
 rw [A3n]
 by_cases c:i < q.length
 ·rw [if_pos c]; exact b.bd i c
 ·rw [List.length_append,List.length_singleton] at hi
  rw [if_neg c,if_pos (by omega)]
  rcases B90 hv with rfl | ⟨p,rfl,hp,_⟩ <;> omega
theorem C8u {h:RoHouse} {l:Nat}:∀(d:Nat) (q p:List Int),p ∈ DF h l d q→p.length = q.length + d
 | 0,q,p,hp=>by rw [List.mem_singleton.mp hp]; rfl
 | d + 1,q,p,hp=>by
  unfold DF at hp
  rw [List.mem_flatMap] at hp
  obtain ⟨v,_,hp⟩:=hp
  rw [C8u d _ p hp,List.length_append,List.length_singleton]; omega
theorem B9d {h:RoHouse} {l:Nat}:∀(d:Nat) (q p:List Int),p ∈ DF h l d q→p.take q.length = q
 | 0,q,p,hp=>by rw [List.mem_singleton.mp hp,List.take_length]
 | d + 1,q,p,hp=>by
  unfold DF at hp
  rw [List.mem_flatMap] at hp
  obtain ⟨v,_,hp⟩:=hp
  have:=B9d d _ p hp
  rw [List.length_append,List.length_singleton] at this
  have h2:=congrArg (List.take q.length) this
  rw [List.take_take,Nat.min_eq_left (by omega),List.take_left' rfl] at h2
  exact h2
theorem B92 (h:RoHouse) (p:List Int) (k:Nat) {m:Nat}:∀n,n≤m→G0 h (p.take m) k n = G0 h p k n
 | 0,_=>rfl
 | n + 1,hn=>by
  rw [N6,N6,B92 h p k n (by omega)]
  congr 1
  unfold con plc
  rw [C8j p (show n < m by omega),List.length_take]
  by_cases c:n < p.length∧p[n]! ≠ -1∧bit (h.Places[p[n]!.toNat]!).Joists.toNat k = true
  ·rw [if_pos c,if_pos ⟨by have:=c.1; omega,c.2⟩]
  ·rw [if_neg c,if_neg (fun q=>c ⟨by have:=q.1; omega,q.2⟩)]
theorem D8m {h:RoHouse} (ok:HOk h) {p:List Int} (hl:p.length≤h.Figures.length) (k i:Nat):0≤con h p k i:= by
 unfold con
 by_cases c:i < p.length∧p[i]! ≠ -1∧bit (plc h p i).Joists.toNat k = true
 ·rw [if_pos c]
  have:=(ok.figure _ (G2 (show i < h.Figures.length by have:=c.1; omega))).weight
  omega
 ·rw [if_neg c]; omega
theorem B91 {h:RoHouse} (ok:HOk h) {p:List Int} (hl:p.length≤h.Figures.length) (k:Nat) {m:Nat}:∀{n:Nat},m≤n→G0 h p k m≤G0 h p k n
 | 0,hm=>by
  have:m = 0:= by omega
  subst this; omega
 | n + 1,hm=>by
  by_cases e:m = n + 1
  ·subst e; omega
  ·have ih:=B91 ok hl k (m:=m) (n:=n) (by omega)
   have:=D8m ok hl k n
   rw [N6]; omega
theorem C9a {h:RoHouse} (ok:HOk h) {p:List Int} (hl:p.length≤h.Figures.length) {m:Nat} (hm:m≤p.length) (hh:S4 h p = true):S4 h (p.take m) = true:= by
 unfold S4 at hh ⊢
 rw [List.all_eq_true] at hh ⊢
 intro k hk
 have h1:=hh k hk
 rw [decide_eq_true_eq] at h1 ⊢
 have h2:=B92 h p k (m:=m) m (Nat.le_refl _)
 have h3:=B91 ok hl k hm
 rw [List.length_take,Nat.min_eq_left hm]
 omega
theorem D3i {h:RoHouse} (ok:HOk h) {l:Nat} {d:Nat} {q:List Int} (hl:q.length + d≤h.Figures.length) (hh:S4 h q = false) {g:List Int→Bool} (hg:∀p,g p = true→S4 h p = true):(DF h l d q).filter g = []:= by
 rw [List.filter_eq_nil_iff]
 intro p hp hgp
 have h1:=C8u d q p hp
 have h2:=C9a ok (p:=p) (by omega) (m:=q.length) (by omega) (hg p hgp)
 rw [B9d d q p hp,hh] at h2
 cases h2
def pad (h:RoHouse) (q:List Int):List Int:=q++List.replicate (h.Figures.length - q.length) (-1)
theorem B3n {h:RoHouse} {q:List Int} (hq:q.length≤h.Figures.length):(pad h q).length = h.Figures.length:= by
 unfold pad
 rw [List.length_append,List.length_replicate]; omega
theorem C51 {h:RoHouse} {q:List Int} (hq:q.length≤h.Figures.length) {i:Nat} (hi:i < h.Figures.length):(pad h q)[i]! = if i < q.length then q[i]! else -1:= by
 have hl:=B3n hq
 rw [getElem!_pos (pad h q) i (by omega)]
 unfold pad
 by_cases c:i < q.length
 ·rw [if_pos c,List.getElem_append_left c,getElem!_pos q i c]
 ·rw [if_neg c,List.getElem_append_right (by omega),List.getElem_replicate]
theorem C64 {h:RoHouse} {q:List Int} (hq:q.length≤h.Figures.length) (i:Nat):e (pad h q) i = e q i:= by
 unfold e
 rw [B3n hq]
 by_cases c:i < h.Figures.length
 ·rw [if_pos c,C51 hq c]
  by_cases c2:i < q.length
  ·rw [if_pos c2,if_pos c2]
  ·rw [if_neg c2,if_neg c2]; rfl
 ·rw [if_neg c,if_neg (by omega)]
theorem D6s {h:RoHouse} {q:List Int} (hq:q.length≤h.Figures.length):enc (pad h q) = enc q:= by
 unfold enc
 rw [C64 hq,C64 hq,C64 hq,C64 hq,C64 hq]
theorem D9n {h:RoHouse} {q:List Int} (b:BG h q):PV h (pad h q):= by
 refine ⟨B3n b.len,fun i hi=>?_⟩
 rw [B3n b.len] at hi
 rw [C51 b.len hi]
 by_cases c:i < q.length
 ·rw [if_pos c]; exact b.bd i c
 ·rw [if_neg c]; omega
theorem D6o {h:RoHouse} {q:List Int} (hq:q.length≤h.Figures.length) (k i:Nat):con h (pad h q) k i = con h q k i:= by
 unfold con plc
 rw [B3n hq]
 by_cases c:i < h.Figures.length
 ·rw [C51 hq c]
  by_cases c2:i < q.length
  ·rw [if_pos c2]
   by_cases c3:q[i]! ≠ -1∧bit (h.Places[q[i]!.toNat]!).Joists.toNat k = true
   ·rw [if_pos ⟨c,c3⟩,if_pos ⟨c2,c3⟩]
   ·rw [if_neg (fun z=>c3 z.2),if_neg (fun z=>c3 z.2)]
  ·rw [if_neg c2,if_neg (fun z=>z.2.1 rfl),if_neg (fun z=>c2 z.1)]
 ·rw [if_neg (fun z=>c z.1),if_neg (fun z=>absurd z.1 (by omega))]
theorem C3n {h:RoHouse} {q:List Int} (hq:q.length≤h.Figures.length) (k:Nat):∀n,G0 h (pad h q) k n = G0 h q k n
 | 0=>rfl
 | n + 1=>by rw [N6,N6,C3n hq k n,D6o hq]
theorem D19 {h:RoHouse} {q:List Int} (hq:q.length≤h.Figures.length):S4 h (pad h q) = S4 h q:= by
 unfold S4
 congr 1
 funext k
 rw [B3n hq,C3n hq]
 have:=B4h h q k (h.Figures.length - q.length)
 rw [show q.length + (h.Figures.length - q.length) = h.Figures.length by omega] at this
 rw [this]
theorem C9d {h:RoHouse} (ok:HOk h) {q:List Int} (b:BG h q):M9 ⟨h⟩ (enc q) false = some (S4 h q):= by
 have:=B9m ok (D9n b) false
 rw [D6s b.len,D19 b.len] at this
 rw [this]
 cases S4 h q <;> rfl
theorem B5g (q:List Int) (v:Int):Ar5.set (enc q) (q.length:Int) (v + 1) = enc (q++[v]):= by
 have h1:=D0q (q++[v]) (i:=q.length) (by rw [List.length_append]; simp)
 rw [List.take_left' rfl,A3n,if_neg (Nat.lt_irrefl _),if_pos rfl] at h1
 rw [h1]
 congr 1
 rw [List.take_of_length_le (by rw [List.length_append]; simp)]
theorem D4a (q:List Int):enc (q++[-1]) = enc q:= by
 have hz:∀i,e (q++[-1]) i = e q i:= by
  intro i
  unfold e
  rw [List.length_append,List.length_singleton,A3n]
  by_cases c:i < q.length
  ·rw [if_pos (by omega),if_pos c,if_pos c]
  ·rw [if_neg c,if_neg c]
   by_cases c2:i = q.length
   ·rw [if_pos (by omega),if_pos c2]; rfl
   ·rw [if_neg (by omega)]
 unfold enc
 rw [hz,hz,hz,hz,hz]
theorem set_set (a:Ar5 Int) (i v w:Int):Ar5.set (Ar5.set a i v) i w = Ar5.set a i w:= by
 unfold Ar5.set
 simp only [Ar5.mk.injEq]
 refine ⟨?_,?_,?_,?_,?_⟩ <;> (split <;> rfl)
def B75 (u:Int) (q:List Int):Prop:=∃ n:Nat,u = n∧n < 32∧∀ p:Nat,p < 5→bit n p = q.any (· == (p:Int))
theorem D1z:∀l:Nat,l < 32→∀ s:Nat,s < 5→B3v .i64 (l:Int) (s:Int) = some ((l / 2 ^ s:Nat):Int):= by decide +kernel
theorem D1w:∀x:Nat,x < 32→(B47 (x:Int) 1 == 1) = (x % 2 == 1):= by decide +kernel
theorem shl5:∀n:Nat,n < 5→B3u .i64 1 (n:Int) = some ((2 ^ n:Nat):Int):= by decide +kernel
theorem D7l:∀u:Nat,u < 32→∀ p:Nat,p < 5→orI (u:Int) ((2 ^ p:Nat):Int) = ((u ||| 2 ^ p:Nat):Int)∧(u ||| 2 ^ p) < 32:= by decide +kernel
theorem D9c:∀u:Nat,u < 32→∀ p:Nat,p < 5→∀ t:Nat,t < 5→bit (u ||| 2 ^ p) t = (bit u t || t == p):= by decide +kernel
theorem D3e {u:Int} {q:List Int} (hu:B75 u q) {p:Nat} (hp:p < 5):B75 (orI u ((2 ^ p:Nat):Int)) (q++[(p:Int)]):= by
 obtain ⟨n,rfl,hn,hb⟩:=hu
 obtain ⟨h1,h2⟩:=D7l n hn p hp
 refine ⟨_,h1,h2,fun t ht=>?_⟩
 rw [D9c n hn p hp t ht,hb t ht,List.any_append,List.any_cons,List.any_nil,Bool.or_false]
 congr 1
 rw [Bool.eq_iff_iff,beq_iff_eq,beq_iff_eq]
 omega
theorem D3d {u:Int} {q:List Int} (hu:B75 u q):B75 u (q++[-1]):= by
 obtain ⟨n,rfl,hn,hb⟩:=hu
 refine ⟨n,rfl,hn,fun t ht=>?_⟩
 rw [hb t ht,List.any_append,List.any_cons,List.any_nil,Bool.or_false]
 have:((-1:Int) == (t:Int)) = false:=beq_eq_false_iff_ne.mpr (by omega)
 rw [this,Bool.or_false]
def okB (h:RoHouse) (p:List Int):Bool:=S4 h p && A13 h p
section
variable {σ ρ:Type}
theorem B7y {h:RoHouse} (ok:HOk h) {l:Nat} (hl16:l < 16) (body:room_plan→σ→Option (σ ⊕ ρ)):∀(d:Nat) (q:List Int) (s:σ) (X:σ ⊕ ρ) (u:Int),q.length + d = h.Figures.length→BG h q→B75 u q →
  A6w (fun p s=>body ⟨(l:Int),enc p⟩ s) ((DF h l d q).filter (okB h)) s = some X→∀ k,d < k→∃ p',A8q ⟨h⟩ (l:Int) body k (q.length:Int) u (enc q) s = some (p',X)∧(X.isLeft = true→p' = enc q)
 | 0,q,s,X,u,hl,b,hu,hf,k,hk=>by
  obtain ⟨k,rfl⟩:∃m,k = m + 1:=⟨k - 1,by omega⟩
  refine ⟨enc q,?_,fun _=>rfl⟩
  unfold A8q
  rw [if_pos (show ((q.length:Int) == (List.length h.Figures:Int)) = true by rw [beq_iff_eq]; omega),B9m ok (p:=q) ⟨by omega,b.bd⟩ true]
  simp only [Option.bind_some,Bool.not_true,Bool.false_or]
  have e1:(S4 h q && A13 h q) = okB h q:=rfl
  rw [e1]
  unfold DF at hf
  cases ho:okB h q with
  | false =>
   rw [List.filter_cons,ho,if_neg (by decide)] at hf
   have hf:some (Sum.inl s) = some X:=hf
   rw [← Option.some.inj hf,if_neg (by decide)]
  | true =>
   rw [List.filter_cons,ho,if_pos rfl] at hf
   rw [if_pos rfl]
   have hf:(body ⟨(l:Int),enc q⟩ s).bind _ = some X:=hf
   cases hb:body ⟨(l:Int),enc q⟩ s with
   | none=>rw [hb] at hf; exact absurd hf (by simp)
   | some x =>
    rw [hb] at hf
    cases x with
    | inl s' =>
     have:some (Sum.inl s') = some X:=hf
     rw [← Option.some.inj this]; rfl
    | inr r =>
     have:some (Sum.inr r) = some X:=hf
     rw [← Option.some.inj this]; rfl
 | d + 1,q,s,X,u,hl,b,hu,hf,k,hk=>by
  obtain ⟨k,rfl⟩:∃m,k = m + 1:=⟨k - 1,by omega⟩
  have hp:=ok.places
  have hf5:=ok.figures
  have hq:q.length < h.Figures.length:= by omega
  have hlen:∀v:Int,((q++[v]).length:Int) = w64 ((q.length:Int) + 1):=fun v=>by
   rw [List.length_append,List.length_singleton,E0 (by omega)]; rfl
  have hidx:∀a:Ar5 Int,∃ z,idx (Ar5.l a) (q.length:Int) = some z:=fun a=>by
   refine ⟨_,F1 (l:=Ar5.l a) (i:=q.length) (show q.length < 5 by omega)⟩
  unfold A8q
  rw [if_neg (show ¬ ((q.length:Int) == (List.length h.Figures:Int)) = true by rw [beq_iff_eq]; omega)]
  have hf:A6w (fun p s=>body ⟨(l:Int),enc p⟩ s) (((((List.range h.Places.length).drop 0).filter (A0d h l q)).map fun (p:Nat)=>(p:Int)).flatMap (fun v=>(DF h l d (q++[v])).filter (okB h))++(DF h l d (q++[-1])).filter (okB h)) s = some X:= by
   unfold DF cand at hf
   rw [List.filter_flatMap,List.flatMap_append,List.flatMap_cons,List.flatMap_nil,List.append_nil] at hf
   exact hf
  obtain ⟨o,ho,hJ⟩:=B7p (b:=B7x ⟨h⟩ (l:Int) (A8q ⟨h⟩ (l:Int) body k) (q.length:Int) u)
   (fun i x=>x.1 = (i:Int)∧(∀ y:Int,Ar5.set x.2.1 (q.length:Int) y = Ar5.set (enc q) (q.length:Int) y)∧A6w (fun p s=>body ⟨(l:Int),enc p⟩ s) (((((List.range h.Places.length).drop i).filter (A0d h l q)).map fun (p:Nat)=>(p:Int)).flatMap (fun v=>(DF h l d (q++[v])).filter (okB h))++(DF h l d (q++[-1])).filter (okB h)) x.2.2 = some X)
   h.Places.length
   (fun o=>match o with | .inl (_,r)=>X = .inr r | .inr (p',s')=>(∀ y:Int,Ar5.set p' (q.length:Int) y = Ar5.set (enc q) (q.length:Int) y)∧A6w (fun p s=>body ⟨(l:Int),enc p⟩ s) ((DF h l d (q++[-1])).filter (okB h)) s' = some X)
   (by omega) (by
    rintro i ⟨n,p,s⟩ hi ⟨e1,e2,e3⟩
    simp only at e1 e2 e3
    subst e1
    obtain ⟨un,hun,hun2,hub⟩:=hu
    rw [List.drop_eq_getElem_cons (by rw [List.length_range]; exact hi),List.getElem_range,List.filter_cons] at e3
    unfold B7x
    simp only []
    rw [if_pos (show decide ((i:Int) < (List.length h.Places:Int)) = true by rw [decide_eq_true_eq]; omega),hun,D1z un hun2 i (by omega)]
    simp only [Option.bind_some]
    rw [D1w _ (Nat.lt_of_le_of_lt (Nat.div_le_self _ _) hun2)]
    have hbit:(un / 2 ^ i % 2 == 1) = q.any (· == (i:Int)):=hub i (by omega)
    rw [hbit]
    have hguard:(if q.any (· == (i:Int)) = true then some true else (O5 ⟨h⟩ (q.length:Int) (i:Int) (l:Int)).bind fun z=>some (z != 1)) = some (!A0d h l q i):= by
     unfold A0d
     cases q.any (· == (i:Int))
     ·rw [if_neg (by decide),B9j ok hq hi hl16]
      simp only [Option.bind_some,Bool.not_false,Bool.true_and]; rfl
     ·rfl
    rw [hguard]
    simp only [Option.bind_some]
    rw [E0 (n:=(i:Int) + 1) (by omega)]
    cases hfr:A0d h l q i with
    | false =>
     rw [hfr,if_neg (by decide)] at e3
     rw [Bool.not_false,if_pos rfl]
     exact .inl ⟨_,rfl,rfl,e2,e3⟩
    | true =>
     rw [hfr,if_pos rfl,List.map_cons,List.flatMap_cons,List.append_assoc,B01] at e3
     rw [Bool.not_true,if_neg (by decide)]
     obtain ⟨z,hz⟩:=hidx p
     rw [hz]
     simp only [Option.bind_some]
     have hmem:((i:Nat):Int) ∈ cand h l q:= by
      unfold cand
      rw [List.mem_append,List.mem_map]
      exact .inl ⟨i,List.mem_filter.mpr ⟨List.mem_range.mpr hi,hfr⟩,rfl⟩
     have b2:=b.snoc hq hmem
     rw [e2,B5g,C9d ok b2]
     simp only [Option.bind_some]
     cases hh:S4 h (q++[(i:Int)]) with
     | false =>
      rw [if_neg (by decide)]
      have hpr:(DF h l d (q++[(i:Int)])).filter (okB h) = []:=D3i ok (by rw [List.length_append,List.length_singleton]; omega) hh fun p hp=>by
       unfold okB at hp
       rw [Bool.and_eq_true] at hp
       exact hp.1
      rw [hpr] at e3
      exact .inl ⟨_,rfl,rfl,fun y=>by rw [← B5g,set_set],e3⟩
     | true =>
      rw [if_pos rfl,shl5 i (by omega)]
      simp only [Option.bind_some]
      have hu2:=D3e (p:=i) ⟨un,rfl,hun2,hub⟩ (by omega)
      cases hx:A6w (fun p s=>body ⟨(l:Int),enc p⟩ s) ((DF h l d (q++[(i:Int)])).filter (okB h)) s with
      | none=>rw [hx] at e3; exact absurd e3 (by simp)
      | some x =>
       rw [hx] at e3
       obtain ⟨p1,hp1,hp2⟩:=B7y ok hl16 body d (q++[(i:Int)]) s x _ (by rw [List.length_append,List.length_singleton]; omega) b2 hu2 hx k (by omega)
       rw [hlen] at hp1
       rw [hp1]
       simp only [Option.bind_some]
       cases x with
       | inl s' =>
        have hp2:=hp2 rfl
        exact .inl ⟨_,rfl,rfl,fun y=>by rw [hp2,← B5g,set_set],e3⟩
       | inr r =>
        have e3:some (Sum.inr r) = some X:=e3
        exact .inr ⟨_,rfl,(Option.some.inj e3).symm⟩) (by
    rintro ⟨n,p,s⟩ ⟨e1,e2,e3⟩
    simp only at e1 e2 e3
    subst e1
    rw [List.drop_of_length_le (by rw [List.length_range]; exact Nat.le_refl _)] at e3
    unfold B7x
    simp only []
    rw [if_neg (show ¬ decide (((h.Places.length:Nat):Int) < (List.length h.Places:Int)) = true by simp)]
    exact ⟨_,rfl,e2,e3⟩) (0,enc q,s) ⟨rfl,fun _=>rfl,hf⟩
  rw [ho]
  simp only [Option.bind_some]
  rcases o with ⟨p',r⟩ | ⟨p',s'⟩
  ·have hJ:X = .inr r:=hJ
   subst hJ
   exact ⟨p',rfl,fun z=>by cases z⟩
  ·obtain ⟨g1,g2⟩:=hJ
   obtain ⟨z,hz⟩:=hidx p'
   simp only []
   rw [hz]
   simp only [Option.bind_some]
   have g3:Ar5.set p' (q.length:Int) 0 = enc (q++[-1]):= by rw [g1,← B5g]; rfl
   rw [g3]
   have b2:BG h (q++[-1]):=b.snoc (l:=l) hq (by unfold cand; rw [List.mem_append]; exact .inr (List.mem_singleton.mpr rfl))
   obtain ⟨p1,hp1,hp2⟩:=B7y ok hl16 body d (q++[-1]) s' X u (by rw [List.length_append,List.length_singleton]; omega) b2 (D3d hu) g2 k (by omega)
   rw [hlen] at hp1
   exact ⟨p1,hp1,fun hX=>by rw [hp2 hX,D4a]⟩
end
def Z8 (h:RoHouse) (l:Nat):List (Nat × List Int):=((DF h l h.Figures.length []).filter (okB h)).map fun p=>(l,p)
def M5 (h:RoHouse):List (Nat × List Int):=(List.range (2 ^ h.Stoves.toNat)).flatMap (Z8 h)
section
variable {α β σ ρ:Type}
theorem C3w (f:β→σ→Option (σ ⊕ ρ)) (g:α→β):∀(l:List α) (s:σ),A6w f (l.map g) s = A6w (fun a s=>f (g a) s) l s
 | [],_=>rfl
 | a :: l,s=>by
  show (f (g a) s).bind _ = (f (g a) s).bind _
  congr 1
  funext x
  cases x with
  | inl s'=>exact C3w f g l s'
  | inr r=>rfl
theorem D0d:B75 0 []:=⟨0,rfl,by decide,by decide⟩
theorem C1o {h:RoHouse} (ok:HOk h) (body:room_plan→σ→Option (σ ⊕ ρ)) {s:σ} {X:σ ⊕ ρ} (hf:A6w (fun (x:Nat × List Int) s=>body ⟨(x.1:Int),enc x.2⟩ s) (M5 h) s = some X):A7s ⟨h⟩ σ ρ body s = some X:= by
 have hpw:=A5w ok
 have hf5:=ok.figures
 unfold A7s
 rw [show B3u .i64 1 (room_house.mk h).RoHouse.Stoves = some ((2 ^ h.Stoves.toNat:Nat):Int) from D7z ok]
 simp only [Option.bind_some]
 have hf:A6w (fun (x:Nat × List Int) s=>body ⟨(x.1:Int),enc x.2⟩ s) (((List.range (2 ^ h.Stoves.toNat)).drop 0).flatMap (Z8 h)) s = some X:=hf
 obtain ⟨o,ho,hJ⟩:=B7p (b:=C4c ⟨h⟩ ((2 ^ h.Stoves.toNat:Nat):Int) body)
  (fun i x=>x.1 = (i:Int)∧A6w (fun (x:Nat × List Int) s=>body ⟨(x.1:Int),enc x.2⟩ s) (((List.range (2 ^ h.Stoves.toNat)).drop i).flatMap (Z8 h)) x.2 = some X)
  (2 ^ h.Stoves.toNat) (fun o=>match o with | .inl r=>X = .inr r | .inr s'=>X = .inl s') (by omega) (by
   rintro i ⟨n,s⟩ hi ⟨e1,e2⟩
   simp only at e1 e2
   subst e1
   rw [List.drop_eq_getElem_cons (by rw [List.length_range]; exact hi),List.getElem_range,List.flatMap_cons,B01] at e2
   unfold C4c
   simp only []
   rw [if_pos (by rw [decide_eq_true_eq]; omega)]
   cases hx:A6w (fun (x:Nat × List Int) s=>body ⟨(x.1:Int),enc x.2⟩ s) (Z8 h i) s with
   | none=>rw [hx] at e2; exact absurd e2 (by simp)
   | some x =>
    rw [hx] at e2
    unfold Z8 at hx
    rw [C3w] at hx
    obtain ⟨p',hp',_⟩:=B7y ok (show i < 16 by omega) body h.Figures.length [] s x 0 (by simp) ⟨Nat.zero_le _,fun j hj=>absurd hj (Nat.not_lt_zero j)⟩ D0d hx 64 (by omega)
    have hp':A8q ⟨h⟩ (i:Int) body 64 0 0 ⟨0,0,0,0,0⟩ s = some (p',x):=hp'
    rw [hp']
    simp only [Option.bind_some]
    rw [E0 (by omega)]
    cases x with
    | inl s'=>exact .inl ⟨_,rfl,rfl,e2⟩
    | inr r =>
     have e2:some (Sum.inr r) = some X:=e2
     exact .inr ⟨_,rfl,(Option.some.inj e2).symm⟩) (by
   rintro ⟨n,s⟩ ⟨e1,e2⟩
   simp only at e1 e2
   subst e1
   rw [List.drop_of_length_le (by rw [List.length_range]; exact Nat.le_refl _)] at e2
   have e2:some (Sum.inl s) = some X:=e2
   unfold C4c
   simp only []
   rw [if_neg (by simp)]
   exact ⟨_,rfl,(Option.some.inj e2).symm⟩) (0,s) ⟨rfl,hf⟩
 rw [ho]
 simp only [Option.bind_some]
 cases o with
 | inl r =>
  have hJ:X = .inr r:=hJ
  rw [hJ]
 | inr s' =>
  have hJ:X = .inl s':=hJ
  rw [hJ]
end
theorem D3g {h:RoHouse} {l:Nat} {P:List Int→Prop} (hP:∀q v,q.length < h.Figures.length→v ∈ cand h l q→P q→P (q++[v])):∀(d:Nat) (q p:List Int),q.length + d≤h.Figures.length→P q→p ∈ DF h l d q→P p
 | 0,q,p,_,hq,hp=>by rw [List.mem_singleton.mp hp]; exact hq
 | d + 1,q,p,hl,hq,hp=>by
  unfold DF at hp
  rw [List.mem_flatMap] at hp
  obtain ⟨v,hv,hp⟩:=hp
  exact D3g hP d (q++[v]) p (by rw [List.length_append,List.length_singleton]; omega) (hP q v (by omega) hv hq) hp
theorem C8a (h:RoHouse) (l:Nat) {q:List Int} {v:Int} {j:Nat} (hj:j < q.length):X7 h l (q++[v]) j = X7 h l q j:= by
 unfold X7
 rw [A3n,if_pos hj]
structure PG (h:RoHouse) (l:Nat) (p:List Int):Prop where
 bg:BG h p
 safe:∀i,i < p.length→X7 h l p i = true
 once:∀i,i < p.length→R4 p i = false
theorem PG.snoc {h:RoHouse} {l:Nat} {q:List Int} {v:Int} (hq:q.length < h.Figures.length) (hv:v ∈ cand h l q) (g:PG h l q):PG h l (q++[v]):= by
 refine ⟨g.bg.snoc hq hv,fun i hi=>?_,fun i hi=>?_⟩
 ·rw [List.length_append,List.length_singleton] at hi
  by_cases c:i < q.length
  ·rw [C8a h l c]; exact g.safe i c
  ·rw [show i = q.length by omega]
   unfold X7
   rw [A3n,if_neg (Nat.lt_irrefl _),if_pos rfl]
   rcases B90 hv with rfl | ⟨p,rfl,_,hf⟩
   ·rfl
   ·unfold A0d at hf
    rw [Bool.and_eq_true] at hf
    rw [Int.toNat_natCast,hf.2,Bool.or_true]
 ·rw [List.length_append,List.length_singleton] at hi
  by_cases c:i < q.length
  ·rw [B60 c]; exact g.once i c
  ·rw [show i = q.length by omega,B6z]
   rcases B90 hv with rfl | ⟨p,rfl,_,hf⟩
   ·rfl
   ·unfold A0d at hf
    rw [Bool.and_eq_true,Bool.not_eq_true'] at hf
    rw [hf.1,Bool.and_false]
theorem C3c {h:RoHouse} {l:Nat} {p:List Int} (hp:p ∈ DF h l h.Figures.length []):PG h l p∧PV h p:= by
 have h1:PG h l p:=D3g (P:=PG h l) (fun q v hq hv g=>g.snoc hq hv) _ [] p (by simp) ⟨⟨Nat.zero_le _,fun j hj=>absurd hj (Nat.not_lt_zero j)⟩,fun j hj=>absurd hj (Nat.not_lt_zero j),fun j hj=>absurd hj (Nat.not_lt_zero j)⟩ hp
 have h2:=C8u _ _ _ hp
 exact ⟨h1,by rw [h2]; simp,h1.bg.bd⟩
def mkP (x:Nat × List Int):RoPlan:=RoPlan.mk (x.1:Int) x.2
section
variable {α σ ρ:Type}
theorem C0f {f:α→σ→Option (σ ⊕ ρ)} (g:σ→α→σ):∀(l:List α) (s:σ),(∀ a ∈ l,∀ s,f a s = some (.inl (g s a)))→A6w f l s = some (.inl (l.foldl g s))
 | [],s,_=>rfl
 | a :: l,s,h=>by
  show (f a s).bind _ = _
  rw [h a (List.mem_cons_self ..) s]
  exact C0f g l (g s a) fun b hb=>h b (List.mem_cons_of_mem _ hb)
end
theorem B46 {h:RoHouse} {x:Nat × List Int} (hx:x ∈ M5 h):x.1 < 2 ^ h.Stoves.toNat∧x.2 ∈ DF h x.1 h.Figures.length []∧okB h x.2 = true:= by
 unfold M5 at hx
 rw [List.mem_flatMap] at hx
 obtain ⟨l,hl,hx⟩:=hx
 unfold Z8 at hx
 rw [List.mem_map] at hx
 obtain ⟨p,hp,rfl⟩:=hx
 rw [List.mem_filter] at hp
 exact ⟨List.mem_range.mp hl,hp.1,hp.2⟩
theorem A0m {h:RoHouse} {x:Nat × List Int} (hx:x ∈ M5 h):PV h x.2:=(C3c (B46 hx).2.1).2
def better1 (h:RoHouse) (b x:Nat × List Int):Nat × List Int:=if worth h x.2 > worth h b.2 then x else b
def T6 (h:RoHouse) (x:Nat × List Int) (l:List (Nat × List Int)):Nat × List Int:=l.foldl (better1 h) x
theorem A70 (h:RoHouse):∀(l:List (Nat × List Int)) (x:Nat × List Int),T6 h x l = x∨T6 h x l ∈ l
 | [],x=>.inl rfl
 | y :: l,x=>by
  show T6 h (better1 h x y) l = x∨_
  rcases A70 h l (better1 h x y) with e | e
  ·unfold better1 at e
   split at e
   ·refine .inr ?_
    show T6 h (better1 h x y) l ∈ y :: l
    unfold better1
    rw [if_pos (by assumption),e]; exact List.mem_cons_self ..
   ·refine .inl ?_
    unfold better1
    rw [if_neg (by assumption),e]
  ·exact .inr (List.mem_cons_of_mem _ e)
def stB (h:RoHouse) (x:Nat × List Int):Int × room_plan:=(worth h x.2,⟨(x.1:Int),enc x.2⟩)
def goB (h:RoHouse) (s:Int × room_plan) (x:Nat × List Int):Int × room_plan:=if worth h x.2 > s.1 then stB h x else s
theorem D4l (h:RoHouse):∀(l:List (Nat × List Int)) (x:Nat × List Int),l.foldl (goB h) (stB h x) = stB h (T6 h x l)
 | [],_=>rfl
 | y :: l,x=>by
  show l.foldl (goB h) (goB h (stB h x) y) = stB h (T6 h (better1 h x y) l)
  have e:goB h (stB h x) y = stB h (better1 h x y):= by
   unfold goB better1 stB
   split <;> rfl
  rw [e,D4l h l]
theorem D1u {h:RoHouse} (ok:HOk h):A7s ⟨h⟩ (Int × room_plan) Unit (A3y h) ((-1),(room_plan.mk 0 (Ar5.mk 0 0 0 0 0))) = some (.inl ((M5 h).foldl (goB h) (-1,⟨0,⟨0,0,0,0,0⟩⟩))):= by
 apply C1o ok
 apply C0f
 intro x hx s
 show A3y h ⟨(x.1:Int),enc x.2⟩ s = _
 unfold A3y
 rw [C8o ok (A0m hx)]
 simp only [Option.bind_some]
 unfold goB
 by_cases c:worth h x.2 > s.1
 ·rw [if_pos (by rw [decide_eq_true_eq]; exact c),if_pos c]; rfl
 ·rw [if_neg (by rw [decide_eq_true_eq]; exact c),if_neg c]
def A03 (h:RoHouse):RoPlan × Int × Int :=
 if (check h).2.2 != 0 then (⟨0,[]⟩,0,(check h).2.2) else
 match M5 h with
 | []=>(⟨0,[]⟩,0,9)
 | x :: l=>(mkP (T6 h x l),worth h (T6 h x l).2,0)
theorem D6r (p:List Int) (h5:p.length≤5):cpy (List.replicate p.length (0:Int)) (Ar5.l (enc p)) = p.map (· + 1):= by
 have hl:(Ar5.l (enc p)).length = 5:=rfl
 unfold cpy
 rw [List.length_replicate,hl,Nat.min_eq_right h5,List.drop_of_length_le (by rw [List.length_replicate]; exact Nat.le_refl _),List.append_nil]
 apply List.ext_getElem?
 intro i
 by_cases c:i < p.length
 ·have hi5:i < 5:= by omega
  have h1:=B2g (A9c p i hi5)
  rw [Int.toNat_natCast] at h1
  rw [List.getElem?_take_of_lt c,h1,List.getElem?_map,List.getElem?_eq_getElem c]
  unfold e
  rw [if_pos c,getElem!_pos p i c]; rfl
 ·rw [List.getElem?_eq_none (by rw [List.length_take]; omega),List.getElem?_eq_none (by rw [List.length_map]; omega)]
theorem B23 {h:RoHouse} (hb:NB h):U3 h = some (A03 h):= by
 unfold U3 A03
 rw [U9 h hb]
 simp only [Option.bind_some]
 by_cases e0:(check h).2.2 = 0
 ·have ok:=Q9 e0
  have h5:=ok.figures
  have hp5:=ok.places
  rw [if_neg (by simp [e0]),if_neg (by simp [e0]),D1u ok]
  simp only [Option.bind_some]
  cases hA:M5 h with
  | nil=>rfl
  | cons x l =>
   have hpv:∀y,y ∈ x :: l→PV h y.2:=fun y hy=>A0m (by rw [hA]; exact hy)
   have hx:=A85 ok (hpv x (List.mem_cons_self ..)) x.2.length
   have e1:(x :: l).foldl (goB h) (-1,⟨0,⟨0,0,0,0,0⟩⟩) = stB h (T6 h x l):= by
    show l.foldl (goB h) (goB h (-1,⟨0,⟨0,0,0,0,0⟩⟩) x) = _
    have:goB h (-1,⟨0,⟨0,0,0,0,0⟩⟩) x = stB h x:= by
     unfold goB
     rw [if_pos]
     show A30 h x.2 x.2.length > -1
     omega
    rw [this,D4l]
   rw [e1]
   have hm:T6 h x l ∈ x :: l:= by
    rcases A70 h l x with e | e
    ·rw [e]; exact List.mem_cons_self ..
    ·exact List.mem_cons_of_mem _ e
   have hp:=hpv _ hm
   show _ = some (mkP (T6 h x l),worth h (T6 h x l).2,0)
   generalize T6 h x l = b at hp ⊢
   have hw:=A85 ok hp b.2.length
   have hlen:=hp.len
   unfold stB
   simp only []
   rw [if_neg (by rw [decide_eq_true_eq]; show ¬ A30 h b.2 b.2.length < 0; omega)]
   have hmk:C4f 8 (List.length h.Figures:Int) (0:Int) = some (List.replicate b.2.length 0):= by
    unfold C4f
    rw [if_pos (by omega),Int.toNat_natCast,hlen]
   rw [hmk]
   simp only [Option.bind_some]
   have hc:=D6r b.2 (by omega)
   have l1:loop (A54 (worth h b.2,⟨(b.1:Int),enc b.2⟩) (List.replicate b.2.length 0)) (0,b.2.map (· + 1)) = some b.2:= by
    have hmm:(b.2.map (· + 1)).map (· - 1) = b.2:= by
     rw [List.map_map]
     have:((fun x:Int=>x - 1)∘fun x=>x + 1) = id:= by funext x; simp only [Function.comp,id]; omega
     rw [this,List.map_id]
    refine D4z (fun x:Int=>x - 1) (b.2.map (· + 1)) (by rw [List.length_map]; omega) (fun i m hi hm1 hm2=>?_) ?_
    ·rw [List.length_map] at hi
     have hbd:=hp.bd i hi
     have hg:(b.2.map (· + 1))[i]! = b.2[i]! + 1:= by
      rw [getElem!_pos (b.2.map (· + 1)) i (by rw [List.length_map]; exact hi),List.getElem_map,getElem!_pos b.2 i hi]
     rw [hg] at hm2 ⊢
     unfold A54
     simp only []
     rw [hc,List.length_map,if_pos (by rw [decide_eq_true_eq]; omega),C0m hm2]
     simp only [Option.bind_some]
     rw [E0 (n:=(i:Int) + 1) (by omega),E0 (by omega)]; rfl
    ·unfold A54
     simp only []
     rw [hc,List.length_map,if_neg (by simp),hmm]
   rw [hc,l1]; rfl
 ·rw [if_pos (bne_iff_ne.mpr e0),if_pos (bne_iff_ne.mpr e0)]
def a5 (m:Nat→Int):Ar5 Int:=⟨m 0,m 1,m 2,m 3,m 4⟩
end Rm
end
section
set_option maxRecDepth 100000
set_option maxHeartbeats 0
namespace Rm
open Go Am Go.Proofs.YtbheamjhjgoccaaDoor.Cd
def B2h (a0:RoPlan):Option Bool :=
 some ((a0.Lit == 0) && ((List.length a0.At:Int) == 0))
theorem C1a {c:Sc} {H:A6} {a0:RoPlan} {r:Bool} (h:B2h a0 = some r) :
  E7 tab c H (.fn (.func 44) [] []) [(.agg (B1 a0))] [.b r]:= by
 unfold B2h at h
 refine cE rfl rfl<|sg 0 rfl<|A0 (E8 (cs:=B1 a0) rfl rfl rfl) rfl<|qm rfl<|es (ra1 rfl)<|s0<|A0 (C4 rfl) rfl<|A0 (C2 rfl rfl rfl) rfl<|A0 (F5 rfl rfl) rfl<|qm rfl<|gp 5 11 (.b ((a0.Lit == 0) && ((List.length a0.At:Int) == 0))) 6 rfl rfl (fun hg1=>?_) (fun hg1=>?_) ?_
 ·exact gT rfl hg1<|A0 (C4 rfl) rfl<|gT rfl hg1<|A0 (C2 rfl rfl rfl) rfl<|gT rfl hg1<|A0 (D6 (f:=cI) rfl) rfl<|gT rfl hg1<|A0 (F5 rfl rfl) rfl<|A0 (C7 rfl hg1 rfl) rfl<|ge 5 (by rw [hg1]; rfl) rfl rfl
 ·exact nT rfl hg1 rfl<|nT rfl hg1 rfl<|nT rfl hg1 rfl<|nT rfl hg1 rfl<|A0 (C8 rfl hg1 rfl) rfl<|ge 5 (by rw [hg1]; rfl) rfl rfl
 refine qm rfl<|es (ra1 rfl)<|C5 ?_
 obtain rfl:=os h
 exact retq trivial (A9 rfl B7) (A4 rfl B6) (A2 A5 B2)
def A19 (a0:Span) (a1:Int):Option Int :=
 (B7z a1 (w64 ((w64 (a0.Hi - a0.Lo)) + 1))).bind fun x1 =>
 some (w64 (a0.Lo + x1))
theorem A4c {c:Sc} {H:A6} {a0:Span} {a1:Int} {r:Int} (h:A19 a0 a1 = some r) :
  E7 tab c H (.fn (.func 48) [] []) [(.agg (D4 a0)),.i a1] [.i r]:= by
 unfold A19 at h
 refine cE rfl rfl<|sg 0 rfl<|A0 (E8 (cs:=D4 a0) rfl rfl rfl) rfl<|qm rfl<|es (ra2 rfl rfl)<|s0<|oB h fun x1 hx1 h=>A0 (C4 rfl) rfl<|A0 (C2 rfl rfl rfl) rfl<|qm rfl<|A0 (C4 rfl) rfl<|A0 (C2 rfl rfl rfl) rfl<|A0 (C4 rfl) rfl<|A0 (C2 rfl rfl rfl) rfl<|A0 (T3 rfl rfl) rfl<|A0 (E1 rfl rfl) rfl<|A0 (B8c rfl rfl hx1) rfl<|A0 (E1 rfl rfl) rfl<|qm rfl<|es (ra1 rfl)<|C5 ?_
 obtain rfl:=os h
 exact retq trivial (A9 rfl B7) (A4 rfl B6) (A2 A5 B2)
def V8 (a0:RoHouse) (a1:(List Int)) (x1:(RoPlan × Int × Int)) (s25:Int) (s30:(Int × Int)):Option ((Int × Int) ⊕ Int) :=
 if (decide (s30.2 < a0.Stoves)) = true then
  (A3v x1.1.Lit s30.2).bind fun x33 =>
  if x33 = true then
  (idx x1.1.At s25).bind fun x35 =>
  (idx a0.Places x35).bind fun x36 =>
  (idx x36.Warms s30.2).bind fun x37 =>
  (A07 a1 (w64 ((w64 (1 + (w64 (s25 * 3)))) + s30.2))).bind fun x38 =>
  (A19 x37 x38).bind fun x39 =>
  some (.inl ((w64 (s30.1 + x39)),(w64 (s30.2 + 1))))
  else
  some (.inl (s30.1,(w64 (s30.2 + 1))))
 else
  some (.inr s30.1)
def A0s (a0:RoHouse) (a1:(List Int)) (x1:(RoPlan × Int × Int)) (x24:Int) (s25:Int):Option (Int ⊕ (Bool ⊕ Unit)) :=
 if (decide (s25 < (List.length x1.1.At:Int))) = true then
  (idx x1.1.At s25).bind fun x28 =>
  if (x28 == (-1)) = true then
  some (.inl (w64 (s25 + 1)))
  else
  (loop (V8 a0 a1 x1 s25) (x24,0)).bind fun (o40:Int) =>
  (idx a0.Figures s25).bind fun x41 =>
  (if (decide (o40 < x41.Cracks)) = true then
   some true
  else
   (idx a0.Figures s25).bind fun x43 =>
   some (decide (o40 > x43.Slumps))).bind fun x44 =>
  if x44 = true then
   some (.inr (.inl false))
  else
   some (.inl (w64 (s25 + 1)))
 else
  some (.inr (.inr ()))
def A0t (a0:RoHouse) (x47:(List Int)) (s48:Int):Option (Int ⊕ (Bool ⊕ Unit)) :=
 if (decide (s48 < (List.length x47:Int))) = true then
  (idx x47 s48).bind fun x51 =>
  (idx a0.Holds s48).bind fun x52 =>
  if (decide (x51 > x52)) = true then
  some (.inr (.inl false))
  else
  some (.inl (w64 (s48 + 1)))
 else
  some (.inr (.inr ()))
def A5p (a0:RoHouse) (a1:(List Int)):Option Bool :=
 (U3 a0).bind fun x1 =>
 if (x1.2.2 != 0) = true then
  (Y0 a0).bind fun x3 =>
  (if ((!x3) || (x1.2.2 == 9)) = true then
  (B2h x1.1).bind fun x6 =>
  some x6
  else
  some false).bind fun x7 =>
  (if (x7 && (x1.2.1 == 0)) = true then
  (I0).bind fun x10 =>
  some x10
  else
  some false).bind fun x11 =>
  some x11
 else
  (Y0 a0).bind fun x12 =>
  (if (!x12) = true then
  some true
  else
  (A42 a0 x1.1).bind fun x14 =>
  some (x14 != 0)).bind fun x15 =>
  (if x15 = true then
  some true
  else
  (A0x a0 x1.1).bind fun x17 =>
  some (x17 != x1.2.1)).bind fun x18 =>
  (if x18 = true then
  some true
  else
  (A6h a0 x1.1).bind fun x20 =>
  some (!x20)).bind fun x21 =>
  if x21 = true then
  some false
  else
  (A07 a1 0).bind fun x23 =>
  (A19 a0.Weather x23).bind fun x24 =>
  (loop (A0s a0 a1 x1 x24) 0).bind fun (o46:(Bool ⊕ Unit)) =>
  match o46 with
  | (.inl vo46_0) =>
   some vo46_0
  | (.inr vo46_1) =>
   (A3d a0 x1.1).bind fun x47 =>
   (loop (A0t a0 x47) 0).bind fun (o54:(Bool ⊕ Unit)) =>
   match o54 with
   | (.inl vo54_0) =>
   some vo54_0
   | (.inr vo54_1) =>
   (I0).bind fun x55 =>
   some x55
theorem B57 {c:Sc} {H:A6} (hscv:Z6 c H = true) {a0:RoHouse} {a1:(List Int)} {r:Bool} (h:A5p a0 a1 = some r) :
  E7 tab c H (.fn (.func 8) [] []) [(.agg (A3 a0)),(.seq 1 (List.map Y3 a1))] [.b r]:= by
 unfold A5p at h
 refine cE rfl rfl<|sg 0 rfl<|A0 (E8 (cs:=A3 a0) rfl rfl rfl) rfl<|qm rfl<|es (ra2 rfl rfl)<|sg 1 rfl<|oB h fun x1 hx1 h=>A0 (C0 rfl rfl rfl) rfl<|B4 (rs:=[(.agg (B1 x1.1)),.i x1.2.1,.i x1.2.2]) rfl rfl (A1 (D1 rfl) B5) (A0u (A22 hscv) hx1)<|qm rfl<|A0 (A7 rfl rfl) rfl<|A0 (A7 rfl rfl) rfl<|A0 (A7 rfl rfl) rfl<|A0 D5 rfl<|F2 (D0 (ds:=(B1 x1.1)) rfl rfl rfl rfl (B9 rfl) rfl) rfl<|qm rfl<|qm rfl<|es (ra5 rfl rfl rfl rfl rfl)<|B8<|s0<|qm rfl<|A0 (F7 rfl rfl) rfl<|es (ra6 rfl rfl rfl rfl rfl rfl)<|wi h rfl (fun hc2 h=>?_) fun hc2 h=>?_
 ·refine s0<|oB h fun x3 hx3 h=>oB h fun x7 hx7 h=>oB h fun x11 hx11 h=>A0 (C0 rfl rfl rfl) rfl<|B4 (rs:=[.b x3]) rfl rfl (A1 (D1 rfl) B5) ((A1n hx3).frz)<|A0 (Q5 rfl) rfl<|qm rfl<|gp 3 28 (.b ((!x3) || (x1.2.2 == 9))) 25 rfl rfl (fun hg4=>?_) (fun hg4=>?_) ?_
  ·exact nF rfl hg4 rfl<|nF rfl hg4 rfl<|A0 (C7 rfl hg4 rfl) rfl<|ge 3 (by rw [hg4]; rfl) rfl rfl
  ·exact gF rfl hg4<|qm rfl<|gF rfl hg4<|A0 (F5 rfl rfl) rfl<|A0 (C8 rfl hg4 rfl) rfl<|ge 3 (by rw [hg4]; rfl) rfl rfl
  refine qm rfl<|gp 3 32 (.b x7) 29 rfl rfl (fun hg5=>?_) (fun hg5=>?_) ?_
  ·refine oB (bt hx7 hg5) fun x6 hx6 hx7=>?_
   obtain rfl:=os hx7
   exact gT rfl hg5<|A0 (C0 rfl rfl rfl) rfl<|gT rfl hg5<|B4 (rs:=[.b x6]) rfl rfl (A1 (D1 rfl) B5) ((C1a hx6).frz)<|A0 (C7 rfl hg5 rfl) rfl<|ge 3 rfl rfl rfl
  ·obtain rfl:=os (bf hx7 hg5)
   exact nT rfl hg5 rfl<|G8 (E6 rfl (by rw [hg5]; rfl)) rfl<|A0 (C8 rfl hg5 rfl) rfl<|ge 3 rfl rfl rfl
  refine qm rfl<|gp 3 36 (.b (x7 && (x1.2.1 == 0))) 33 rfl rfl (fun hg8=>?_) (fun hg8=>?_) ?_
  ·exact gT rfl hg8<|qm rfl<|gT rfl hg8<|A0 (F5 rfl rfl) rfl<|A0 (C7 rfl hg8 rfl) rfl<|ge 3 (by rw [hg8]; rfl) rfl rfl
  ·exact nT rfl hg8 rfl<|nT rfl hg8 rfl<|A0 (C8 rfl hg8 rfl) rfl<|ge 3 (by rw [hg8]; rfl) rfl rfl
  refine qm rfl<|gp 2 39 (.b x11) 37 rfl rfl (fun hg9=>?_) (fun hg9=>?_) ?_
  ·refine oB (bt hx11 hg9) fun x10 hx10 hx11=>?_
   obtain rfl:=os hx11
   exact gT rfl hg9<|B4 (rs:=[.b x10]) rfl rfl B5 ((J1 (A22 hscv) hx10).frz)<|A0 (C7 rfl hg9 rfl) rfl<|ge 2 rfl rfl rfl
  ·obtain rfl:=os (bf hx11 hg9)
   exact G8 (E6 rfl (by rw [hg9]; rfl)) rfl<|A0 (C8 rfl hg9 rfl) rfl<|ge 2 rfl rfl rfl
  refine qm rfl<|es (ra1 rfl)<|C5 ?_
  obtain rfl:=os h
  exact retq trivial (A9 rfl B7) (A4 rfl B6) (A2 A5 B2)
 ·refine C1<|B8<|s0<|oB h fun x12 hx12 h=>oB h fun x15 hx15 h=>oB h fun x18 hx18 h=>oB h fun x21 hx21 h=>A0 (C0 rfl rfl rfl) rfl<|B4 (rs:=[.b x12]) rfl rfl (A1 (D1 rfl) B5) ((A1n hx12).frz)<|A0 (Q5 rfl) rfl<|qm rfl<|gp 5 48 (.b x15) 43 rfl rfl (fun hg13=>?_) (fun hg13=>?_) ?_
  ·obtain rfl:=os (bt hx15 hg13)
   exact nF rfl hg13 rfl<|nF rfl hg13 rfl<|G8 (E6 rfl (by rw [hg13]; rfl)) rfl<|nF rfl hg13 rfl<|A0 (C7 rfl hg13 rfl) rfl<|ge 5 rfl rfl rfl
  ·refine oB (bf hx15 hg13) fun x14 hx14 hx15=>?_
   obtain rfl:=os hx15
   exact gF rfl hg13<|A0 (C0 rfl rfl rfl) rfl<|gF rfl hg13<|A0 (C0 rfl rfl rfl) rfl<|gF rfl hg13<|B4 (rs:=[.i x14]) rfl rfl (A1 (D1 rfl) (A1 (D1 rfl) B5)) ((A9v hx14).frz)<|gF rfl hg13<|A0 (F7 rfl rfl) rfl<|A0 (C8 rfl hg13 rfl) rfl<|ge 5 rfl rfl rfl
  refine qm rfl<|gp 6 55 (.b x18) 49 rfl rfl (fun hg16=>?_) (fun hg16=>?_) ?_
  ·obtain rfl:=os (bt hx18 hg16)
   exact nF rfl hg16 rfl<|nF rfl hg16 rfl<|G8 (E6 rfl (by rw [hg16]; rfl)) rfl<|nF rfl hg16 rfl<|nF rfl hg16 rfl<|A0 (C7 rfl hg16 rfl) rfl<|ge 6 rfl rfl rfl
  ·refine oB (bf hx18 hg16) fun x17 hx17 hx18=>?_
   obtain rfl:=os hx18
   exact gF rfl hg16<|A0 (C0 rfl rfl rfl) rfl<|gF rfl hg16<|A0 (C0 rfl rfl rfl) rfl<|gF rfl hg16<|B4 (rs:=[.i x17]) rfl rfl (A1 (D1 rfl) (A1 (D1 rfl) B5)) ((A29 hx17).frz)<|gF rfl hg16<|qm rfl<|gF rfl hg16<|A0 (F7 rfl rfl) rfl<|A0 (C8 rfl hg16 rfl) rfl<|ge 6 rfl rfl rfl
  refine qm rfl<|gp 5 61 (.b x21) 56 rfl rfl (fun hg19=>?_) (fun hg19=>?_) ?_
  ·obtain rfl:=os (bt hx21 hg19)
   exact nF rfl hg19 rfl<|nF rfl hg19 rfl<|G8 (E6 rfl (by rw [hg19]; rfl)) rfl<|nF rfl hg19 rfl<|A0 (C7 rfl hg19 rfl) rfl<|ge 5 rfl rfl rfl
  ·refine oB (bf hx21 hg19) fun x20 hx20 hx21=>?_
   obtain rfl:=os hx21
   exact gF rfl hg19<|A0 (C0 rfl rfl rfl) rfl<|gF rfl hg19<|A0 (C0 rfl rfl rfl) rfl<|gF rfl hg19<|B4 (rs:=[.b x20]) rfl rfl (A1 (D1 rfl) (A1 (D1 rfl) B5)) ((B35 hx20).frz)<|gF rfl hg19<|A0 (Q5 rfl) rfl<|A0 (C8 rfl hg19 rfl) rfl<|ge 5 rfl rfl rfl
  refine es (ra4 rfl rfl rfl rfl)<|wi h rfl (fun hc22 h=>?_) fun hc22 h=>?_
  ·refine s0<|qm rfl<|es (ra1 rfl)<|C5 ?_
   obtain rfl:=os h
   exact retq trivial (A9 rfl B7) (A4 rfl B6) (A2 A5 B2)
  ·refine C1<|s0<|oB h fun x23 hx23 h=>oB h fun x24 hx24 h=>A0 (C4 rfl) rfl<|A0 (F0 (ds:=D4 a0.Weather) rfl rfl rfl rfl) rfl<|qm rfl<|W7 (rs:=[.i x23]) rfl rfl (K4 rfl (K4 rfl A2u)) (A1 rfl (A1 rfl B5)) ((A6p hx23).frz)<|B4 (rs:=[.i x24]) rfl rfl (A1 (D1 rfl) (A1 rfl B5)) ((A4c hx24).frz)<|qm rfl<|es (ra4 rfl rfl rfl rfl)<|B8<|s0<|qm rfl<|es (ra5 rfl rfl rfl rfl rfl)<|C6<|oB h fun o46 ho46 h=>wl (fun s25=>[(1,(.seq 1 (List.map Y3 a1))),(2,(.ptr (H.length + 0) 0)),(5,(.ptr (H.length + 1) 0)),(8,.i x24),(9,.i s25)]) (fun (q26:Unit) s25=>[(.cells (A3 a0)),(.cells (B1 x1.1))]) 2 (fun r e s' H'=>(match r with | (.inl v)=>e = .ret∧RetQ H [.tmp 4] [.b v] e s' H' | (.inr v)=>PX 0 [(2,(.ptr (H.length + 0) 0)),(5,(.ptr (H.length + 1) 0))] (H++[(.cells (A3 a0)),(.cells (B1 x1.1))]) e s' H':Prop)) () ho46 rfl rfl (fun _ _=>rfl) (fun _=>rfl) rfl (fun s25=>(bdc G7 (bdc (D8 rfl) (bdc (D8 rfl) (bdc A5 (bdc A5 bdn)))))) (fun q26 s25 ys25 hs25=>?_) ?_
   ·unfold A0s at hs25
    refine B8<|s0<|qm rfl<|A0 (C4 rfl) rfl<|A0 (C2 rfl rfl rfl) rfl<|A0 (D6 (f:=cI) rfl) rfl<|A0 (F9 rfl rfl) rfl<|es (ra6 rfl rfl rfl rfl rfl rfl)<|wi hs25 rfl (fun hc27 hs25=>?_) fun hc27 hs25=>?_
    ·refine C1<|B8<|C6<|B8<|s0<|oB hs25 fun x28 hx28 hs25=>A0 (C4 rfl) rfl<|A0 (C2 rfl rfl rfl) rfl<|qm rfl<|A0 (E2 (f:=cI) rfl rfl hx28) rfl<|A0 (E4 rfl rfl) rfl<|A0 (F5 rfl rfl) rfl<|es (ra6 rfl rfl rfl rfl rfl rfl)<|wi hs25 rfl (fun hc29 hs25=>?_) fun hc29 hs25=>?_
     ·refine E9<|r0<|qm rfl<|A0 (E1 rfl rfl) rfl<|qm rfl<|en (ra5 rfl rfl rfl rfl rfl) ?_
      cases hs25
      exact lnT () rfl (su5 rfl rfl rfl rfl rfl)
     ·refine C1<|s0<|qm rfl<|qm rfl<|es (ra6 rfl rfl rfl rfl rfl rfl)<|B8<|s0<|qm rfl<|es (ra7 rfl rfl rfl rfl rfl rfl rfl)<|C6<|oB hs25 fun o40 ho40 hs25=>wl (fun s30=>[(1,(.seq 1 (List.map Y3 a1))),(2,(.ptr (H.length + 0) 0)),(5,(.ptr (H.length + 1) 0)),(8,.i x24),(9,.i s25),(10,.i s30.1),(11,.i s30.2)]) (fun (q31:Unit) s30=>[(.cells (A3 a0)),(.cells (B1 x1.1))]) 2 (fun r e s' H'=>PX 2 [(1,(.seq 1 (List.map Y3 a1))),(2,(.ptr (H.length + 0) 0)),(5,(.ptr (H.length + 1) 0)),(8,.i x24),(9,.i s25),(10,.i r)] (H++[(.cells (A3 a0)),(.cells (B1 x1.1))]) e s' H') () ho40 rfl rfl (fun _ _=>rfl) (fun _=>rfl) rfl (fun s30=>(bdc G7 (bdc (D8 rfl) (bdc (D8 rfl) (bdc A5 (bdc A5 (bdc A5 (bdc A5 bdn)))))))) (fun q31 s30 ys30 hs30=>?_) ?_
      ·unfold V8 at hs30
       refine B8<|s0<|qm rfl<|A0 (C4 rfl) rfl<|A0 (C2 rfl rfl rfl) rfl<|A0 (F9 rfl rfl) rfl<|es (ra8 rfl rfl rfl rfl rfl rfl rfl rfl)<|wi hs30 rfl (fun hc32 hs30=>?_) fun hc32 hs30=>?_
       ·refine C1<|B8<|C6<|s0<|oB hs30 fun x33 hx33 hs30=>A0 (C4 rfl) rfl<|A0 (C2 rfl rfl rfl) rfl<|qm rfl<|B4 (rs:=[.b x33]) rfl rfl (A1 rfl (A1 rfl B5)) ((A5v hx33).frz)<|es (ra8 rfl rfl rfl rfl rfl rfl rfl rfl)<|wi hs30 rfl (fun hc34 hs30=>?_) fun hc34 hs30=>?_
        ·refine r0<|oB hs30 fun x35 hx35 hs30=>oB hs30 fun x36 hx36 hs30=>oB hs30 fun x37 hx37 hs30=>oB hs30 fun x38 hx38 hs30=>oB hs30 fun x39 hx39 hs30=>A0 (C4 rfl) rfl<|A0 (C2 rfl rfl rfl) rfl<|A0 (C4 rfl) rfl<|A0 (C2 rfl rfl rfl) rfl<|qm rfl<|A0 (E2 (f:=cI) rfl rfl hx35) rfl<|A0 (E4 rfl rfl) rfl<|A0 (E2 (f:=C3) rfl rfl hx36) rfl<|A0 (A20 (ds:=(List.drop 2 (C3 x36))) rfl rfl) rfl<|A0 (E4 rfl rfl) rfl<|qm rfl<|A0 (E2 (f:=D4) rfl rfl hx37) rfl<|A0 (N7 rfl rfl) rfl<|qm rfl<|qm rfl<|A0 (C6p rfl rfl) rfl<|A0 (E1 rfl rfl) rfl<|qm rfl<|A0 (E1 rfl rfl) rfl<|W7 (rs:=[.i x38]) rfl rfl (K4 rfl (K4 rfl A2u)) (A1 rfl (A1 rfl B5)) ((A6p hx38).frz)<|B4 (rs:=[.i x39]) rfl rfl (A1 (D1 rfl) (A1 rfl B5)) ((A4c hx39).frz)<|qm rfl<|A0 (E1 rfl rfl) rfl<|qm rfl<|en (ra7 rfl rfl rfl rfl rfl rfl rfl)<|r0<|qm rfl<|A0 (E1 rfl rfl) rfl<|qm rfl<|en (ra7 rfl rfl rfl rfl rfl rfl rfl) ?_
         cases hs30
         exact lnT () rfl (su7 rfl rfl rfl rfl rfl rfl rfl)
        ·refine C1<|r0<|qm rfl<|A0 (E1 rfl rfl) rfl<|qm rfl<|en (ra7 rfl rfl rfl rfl rfl rfl rfl) ?_
         cases hs30
         exact lnT () rfl (su7 rfl rfl rfl rfl rfl rfl rfl)
       ·refine E9 ?_
        obtain rfl:=os hs30
        exact lx rfl px (su6 rfl rfl rfl rfl rfl rfl)
      ·rintro e s' H' - ⟨rfl,rfl,rfl⟩
       refine s0<|oB hs25 fun x41 hx41 hs25=>oB hs25 fun x44 hx44 hs25=>qm rfl<|A0 (C4 rfl) rfl<|A0 (C2 rfl rfl rfl) rfl<|qm rfl<|A0 (E2 (f:=B3) rfl rfl hx41) rfl<|A0 (A20 (ds:=(List.drop 3 (B3 x41))) rfl rfl) rfl<|A0 (E4 rfl rfl) rfl<|A0 (F9 rfl rfl) rfl<|qm rfl<|gp 9 131 (.b x44) 122 rfl rfl (fun hg42=>?_) (fun hg42=>?_) ?_
       ·obtain rfl:=os (bt hx44 hg42)
        exact nF rfl hg42 rfl<|nF rfl hg42 rfl<|nF rfl hg42 rfl<|nF rfl hg42 rfl<|nF rfl hg42 rfl<|nF rfl hg42 rfl<|nF rfl hg42 rfl<|nF rfl hg42 rfl<|A0 (C7 rfl hg42 rfl) rfl<|ge 9 rfl rfl rfl
       ·refine oB (bf hx44 hg42) fun x43 hx43 hx44=>?_
        obtain rfl:=os hx44
        exact gF rfl hg42<|qm rfl<|gF rfl hg42<|A0 (C4 rfl) rfl<|gF rfl hg42<|A0 (C2 rfl rfl rfl) rfl<|gF rfl hg42<|qm rfl<|gF rfl hg42<|A0 (E2 (f:=B3) rfl rfl hx43) rfl<|gF rfl hg42<|A0 (A20 (ds:=(List.drop 4 (B3 x43))) rfl rfl) rfl<|gF rfl hg42<|A0 (E4 rfl rfl) rfl<|gF rfl hg42<|A0 (A0a rfl rfl) rfl<|A0 (C8 rfl hg42 rfl) rfl<|ge 9 rfl rfl rfl
       refine es (ra6 rfl rfl rfl rfl rfl rfl)<|wi hs25 rfl (fun hc45 hs25=>?_) fun hc45 hs25=>?_
       ·refine s0<|qm rfl<|es (ra1 rfl)<|C5 ?_
        obtain rfl:=os hs25
        exact lx rfl (And.intro rfl (retq trivial (A9 rfl B7) (A4 rfl B6) (A2 A5 B2))) (Sub.refl _)
       ·refine C1<|r0<|qm rfl<|A0 (E1 rfl rfl) rfl<|qm rfl<|en (ra5 rfl rfl rfl rfl rfl) ?_
        cases hs25
        exact lnT () rfl (su5 rfl rfl rfl rfl rfl)
    ·refine E9 ?_
     obtain rfl:=os hs25
     exact lx rfl px (su2 rfl rfl)
   ·rcases o46 with vo46_0 | vo46_1
    ·rintro e s' H' - ⟨rfl,hret⟩
     cases h
     exact hret
    ·rintro e s' H' - ⟨rfl,rfl,rfl⟩
     refine s0<|oB h fun x47 hx47 h=>A0 (C0 rfl rfl rfl) rfl<|A0 (C0 rfl rfl rfl) rfl<|B4 (rs:=[(.seq 1 (List.map cI x47))]) rfl rfl (A1 (D1 rfl) (A1 (D1 rfl) B5)) ((A8m hx47).frz)<|qm rfl<|es (ra2 rfl rfl)<|B8<|s0<|qm rfl<|es (ra3 rfl rfl rfl)<|C6<|oB h fun o54 ho54 h=>wl (fun s48=>[(2,(.ptr (H.length + 0) 0)),(12,(.seq 1 (List.map cI x47))),(13,.i s48)]) (fun (q49:Unit) s48=>[(.cells (A3 a0)),(.cells (B1 x1.1))]) 2 (fun r e s' H'=>(match r with | (.inl v)=>e = .ret∧RetQ H [.tmp 4] [.b v] e s' H' | (.inr v)=>PX 4 [] (H++[(.cells (A3 a0)),(.cells (B1 x1.1))]) e s' H':Prop)) () ho54 rfl rfl (fun _ _=>rfl) (fun _=>rfl) rfl (fun s48=>(bdc (D8 rfl) (bdc G7 (bdc A5 bdn)))) (fun q49 s48 ys48 hs48=>?_) ?_
     ·unfold A0t at hs48
      refine B8<|s0<|qm rfl<|qm rfl<|A0 (D6 (f:=cI) rfl) rfl<|A0 (F9 rfl rfl) rfl<|es (ra4 rfl rfl rfl rfl)<|wi hs48 rfl (fun hc50 hs48=>?_) fun hc50 hs48=>?_
      ·refine C1<|B8<|C6<|s0<|oB hs48 fun x51 hx51 hs48=>oB hs48 fun x52 hx52 hs48=>qm rfl<|qm rfl<|A0 (E2 (f:=cI) rfl rfl hx51) rfl<|A0 (E4 rfl rfl) rfl<|A0 (C4 rfl) rfl<|A0 (C2 rfl rfl rfl) rfl<|qm rfl<|A0 (E2 (f:=cI) rfl rfl hx52) rfl<|A0 (E4 rfl rfl) rfl<|A0 (A0a rfl rfl) rfl<|es (ra4 rfl rfl rfl rfl)<|wi hs48 rfl (fun hc53 hs48=>?_) fun hc53 hs48=>?_
       ·refine s0<|qm rfl<|es (ra1 rfl)<|C5 ?_
        obtain rfl:=os hs48
        exact lx rfl (And.intro rfl (retq trivial (A9 rfl B7) (A4 rfl B6) (A2 A5 B2))) (Sub.refl _)
       ·refine C1<|r0<|qm rfl<|A0 (E1 rfl rfl) rfl<|qm rfl<|en (ra3 rfl rfl rfl) ?_
        cases hs48
        exact lnT () rfl (su3 rfl rfl rfl)
      ·refine E9 ?_
       obtain rfl:=os hs48
       exact lx rfl px (.nil _)
     ·rcases o54 with vo54_0 | vo54_1
      ·rintro e s' H' - ⟨rfl,hret⟩
       cases h
       exact hret
      ·rintro e s' H' - ⟨rfl,rfl,rfl⟩
       refine s0<|oB h fun x55 hx55 h=>B4 (rs:=[.b x55]) rfl rfl B5 ((J1 (A22 hscv) hx55).frz)<|qm rfl<|es (ra1 rfl)<|C5 ?_
       obtain rfl:=os h
       exact retq trivial (A9 rfl B7) (A4 rfl B6) (A2 A5 B2)
end Rm
end
section
namespace Rm
open Go Am
theorem B6e (w:Span) (hw:-400≤w.Lo∧w.Lo≤w.Hi∧w.Hi≤400) {n:Int} (hn:0≤n):∃d,A19 w n = some d∧w.Lo≤d∧d≤w.Hi:= by
 unfold A19
 rw [E0 (n:=w.Hi - w.Lo) (by omega),E0 (by omega)]
 obtain ⟨r,e1,r0,r1⟩:=A9l (a:=n) (b:=w.Hi - w.Lo + 1) hn (by omega)
 rw [e1]
 simp only [Option.bind_some]
 rw [E0 (by omega)]
 exact ⟨_,rfl,by omega,by omega⟩
theorem A6a {h:RoHouse} (e0:(check h).2.2 = 0):(M5 h = []∧A03 h = (⟨0,[]⟩,0,9))∨∃ b,b ∈ M5 h∧A03 h = (mkP b,worth h b.2,0):= by
 unfold A03
 rw [if_neg (by simp [e0])]
 cases hA:M5 h with
 | nil=>exact .inl ⟨rfl,rfl⟩
 | cons x l =>
  right
  refine ⟨T6 h x l,?_,rfl⟩
  rcases A70 h l x with e | e
  ·rw [e]; exact List.mem_cons_self ..
  ·exact List.mem_cons_of_mem _ e
theorem D1r {h:RoHouse} (e0:(check h).2.2 = 0) {b:Nat × List Int} (hb:b ∈ M5 h):K3 h (mkP b) = 0:= by
 have hm:=B46 hb
 have hp:=C3c hm.2.1
 exact C6o e0 (safe:=false) ⟨hp.2,⟨b.1,rfl,hm.1⟩,(B29 _).mpr hp.1.once,fun z=>by cases z⟩
theorem D7x {h:RoHouse} (ok:HOk h) {x:List Int} (hx:N8 x) {p:RoPlan} (pv:PV h p.At) {l:Nat} (hlit:p.Lit = (l:Int)) (hl16:l < 16) (n m:Int) {i:Nat} (hi:i < p.At.length) (hs:p.At[i]! ≠ -1) (wd:Int) (hw:h.Weather.Lo≤wd∧wd≤h.Weather.Hi) :
  ∃ d,loop (V8 h x (p,n,m) (i:Int)) (wd,0) = some d∧(warm h p.At[i]!.toNat l).Lo≤d∧d≤(warm h p.At[i]!.toNat l).Hi:= by
 have h5:=ok.figures
 have hpl:=pv.len
 have hst:=ok.s
 obtain ⟨q,hq1,hq2,_⟩:=shown pv hi hs
 have hlen:=A72 ok hq2
 rw [hq1,Int.toNat_natCast]
 refine C0s (b:=V8 h x (p,n,m) (i:Int)) (fun s st=>st.2 = (s:Int)∧(J4 h.Weather h.Places[q]!.Warms l s).Lo≤st.1∧st.1≤(J4 h.Weather h.Places[q]!.Warms l s).Hi) h.Stoves.toNat (fun d=>(warm h q l).Lo≤d∧d≤(warm h q l).Hi) (by omega) ?_ ?_ (wd,0) ⟨rfl,hw.1,hw.2⟩
 ·rintro s ⟨d,s'⟩ hs' ⟨e1,e2,e3⟩
  simp only at e1 e2 e3
  subst e1
  have b1:=A76 ok (ok.place _ (G2 hq2)) l s (by omega)
  have b2:=(ok.place _ (G2 hq2)).warms _ (G2 (show s < h.Places[q]!.Warms.length by omega))
  have e4:J4 h.Weather h.Places[q]!.Warms l (s + 1) = if bit l s then B0r (J4 h.Weather h.Places[q]!.Warms l s) h.Places[q]!.Warms[s]! else J4 h.Weather h.Places[q]!.Warms l s:=rfl
  unfold V8
  simp only []
  rw [if_pos (by rw [decide_eq_true_eq]; omega),hlit,A8v hl16 (by omega)]
  simp only [Option.bind_some]
  rw [E0 (n:=(s:Int) + 1) (by omega)]
  cases hbt:bit l s with
  | false =>
   rw [if_neg (by decide)]
   refine ⟨_,rfl,rfl,?_⟩
   rw [e4,hbt,if_neg (by decide)]; exact ⟨e2,e3⟩
  | true =>
   rw [if_pos rfl,F1 hi,hq1]
   simp only [Option.bind_some]
   rw [F1 hq2]
   simp only [Option.bind_some]
   rw [F1 (show s < h.Places[q]!.Warms.length by omega)]
   simp only [Option.bind_some]
   rw [E0 (n:=(i:Int) * 3) (by omega),E0 (n:=1 + (i:Int) * 3) (by omega),E0 (n:=1 + (i:Int) * 3 + (s:Int)) (by omega),show 1 + (i:Int) * 3 + (s:Int) = ((1 + i * 3 + s:Nat):Int) by omega]
   obtain ⟨r,f1,r0,r1⟩:=B9r hx (1 + i * 3 + s)
   rw [f1]
   simp only [Option.bind_some]
   obtain ⟨z,f2,z0,z1⟩:=B6e h.Places[q]!.Warms[s]! (by omega) r0
   rw [f2]
   simp only [Option.bind_some]
   rw [E0 (by omega)]
   refine ⟨_,rfl,rfl,?_⟩
   rw [e4,hbt,if_pos rfl]
   unfold B0r
   simp only []
   omega
 ·rintro ⟨d,s'⟩ ⟨e1,e2,e3⟩
  simp only at e1 e2 e3
  subst e1
  unfold V8
  simp only []
  rw [if_neg (by rw [decide_eq_true_eq]; omega)]
  exact ⟨d,rfl,e2,e3⟩
theorem C26 {h:RoHouse} (hb:NB h) {x:List Int} (hx:N8 x):A5p h x = some true:= by
 unfold A5p
 rw [B23 hb,B61]
 simp only [Option.bind_some]
 by_cases e0:(check h).2.2 = 0
 ·rcases A6a e0 with ⟨_,hB⟩ | ⟨b,hbm,hB⟩
  ·rw [hB,e0]
   show (I0.bind fun x10=>some x10).bind (fun x11=>some x11) = some true
   rw [Q6]; rfl
  ·have ok:=Q9 e0
   have h5:=ok.figures
   have hst:=ok.s
   have hww:=ok.w
   have hm:=B46 hbm
   have pv:=A0m hbm
   have hl16:=lit16 ok hm.1
   have hpl:=pv.len
   have hok:=hm.2.2
   unfold okB at hok
   rw [Bool.and_eq_true] at hok
   rw [hB,e0]
   simp only [bne_self_eq_false,Bool.false_eq_true,if_false,beq_self_eq_true,Bool.not_true]
   rw [B2u h (mkP b) (show b.2.length < _ by omega),D1r e0 hbm]
   simp only [Option.bind_some,bne_self_eq_false,Bool.false_eq_true,if_false]
   rw [A50 ok (p:=mkP b) pv]
   simp only [Option.bind_some]
   rw [show worth h (mkP b).At = worth h b.2 from rfl]
   simp only [bne_self_eq_false,Bool.false_eq_true,if_false]
   rw [B8o ok (p:=mkP b) pv,show A13 h (mkP b).At = true from hok.2]
   simp only [Option.bind_some,Bool.not_true,Bool.false_eq_true,if_false]
   obtain ⟨r,f1,r0,r1⟩:=B9r hx 0
   have f1:A07 x 0 = some r:=f1
   rw [f1]
   simp only [Option.bind_some]
   obtain ⟨wd,f2,w0,w1⟩:=B6e h.Weather (by omega) r0
   rw [f2]
   simp only [Option.bind_some]
   have hg:=(C3c hm.2.1).1
   rw [A8h (b:=A0s h x (mkP b,worth h b.2,0) wd) b.2.length (fun _=>true) (by omega) (fun i hi=>by
    unfold A0s
    show (if decide ((i:Int) < (List.length b.2:Int)) = true then (idx b.2 (i:Int)).bind _ else _) = _
    rw [if_pos (show decide ((i:Int) < (List.length b.2:Int)) = true by rw [decide_eq_true_eq]; omega),F1 hi]
    simp only [Option.bind_some]
    by_cases hs:b.2[i]! = -1
    ·rw [if_pos (by rw [beq_iff_eq]; exact hs)]; rfl
    ·rw [if_neg (by rw [beq_iff_eq]; exact hs)]
     obtain ⟨d,g1,g2,g3⟩:=D7x ok hx (p:=mkP b) pv rfl hl16 (worth h b.2) 0 (i:=i) hi hs wd ⟨w0,w1⟩
     rw [g1,F1 (show i < h.Figures.length by omega)]
     simp only [Option.bind_some]
     have hsafe:=hg.safe i hi
     unfold X7 at hsafe
     rw [Bool.or_eq_true,beq_iff_eq,beq_iff_eq] at hsafe
     have hsafe:=hsafe.resolve_left hs
     have hcs:h.Figures[i]!.Cracks≤(warm h b.2[i]!.toNat b.1).Lo∧(warm h b.2[i]!.toNat b.1).Hi≤h.Figures[i]!.Slumps:= by
      unfold L6 at hsafe
      by_cases c:h.Figures[i]!.Cracks≤(warm h b.2[i]!.toNat b.1).Lo∧(warm h b.2[i]!.toNat b.1).Hi≤h.Figures[i]!.Slumps
      ·exact c
      ·rw [if_neg c] at hsafe
       split at hsafe <;> exact absurd hsafe (by decide)
     have g2:(warm h b.2[i]!.toNat b.1).Lo≤d:=g2
     have g3:d≤(warm h b.2[i]!.toNat b.1).Hi:=g3
     rw [if_neg (show ¬ decide (d < h.Figures[i]!.Cracks) = true by rw [decide_eq_true_eq]; omega)]
     simp only [Option.bind_some]
     rw [if_neg (by rw [decide_eq_true_eq]; omega)]; rfl) (by
    unfold A0s
    show (if decide (((b.2.length:Nat):Int) < (List.length b.2:Int)) = true then _ else _) = _
    rw [if_neg (show ¬ decide (((b.2.length:Nat):Int) < (List.length b.2:Int)) = true by simp)])]
   have hall:(List.range b.2.length).all (fun _=>true) = true:= by simp
   rw [hall]
   simp only [Option.bind_some,if_true]
   rw [B1g ok (p:=mkP b) pv]
   simp only [Option.bind_some]
   have hcl:(carry h (mkP b).At).length = h.Holds.length:=C3m h _
   have hhh:=ok.holds
   rw [A8h (b:=A0t h (carry h (mkP b).At)) h.Holds.length (fun _=>true) (by omega) (fun k hk=>by
    unfold A0t
    rw [if_pos (by rw [decide_eq_true_eq]; omega),F1 (by omega),F1 hk]
    simp only [Option.bind_some]
    have hg2:(carry h (mkP b).At)[k]! = G0 h b.2 k b.2.length:= by
     rw [getElem!_pos _ _ (by omega)]
     unfold carry
     rw [List.getElem_map,List.getElem_range]; rfl
    have hho:=hok.1
    unfold S4 at hho
    rw [List.all_eq_true] at hho
    have:=hho k (List.mem_range.mpr hk)
    rw [decide_eq_true_eq] at this
    rw [hg2,if_neg (by rw [decide_eq_true_eq]; omega)]; rfl) (by
    unfold A0t
    rw [if_neg (by rw [decide_eq_true_eq]; omega)])]
   have hall2:(List.range h.Holds.length).all (fun _=>true) = true:= by simp
   rw [hall2]
   simp only [Option.bind_some,if_true]
   rw [Q6]; rfl
 ·have hB:A03 h = (⟨0,[]⟩,0,(check h).2.2):= by unfold A03; rw [if_pos (bne_iff_ne.mpr e0)]
  rw [hB]
  simp only []
  rw [if_pos (bne_iff_ne.mpr e0),beq_eq_false_iff_ne.mpr e0]
  show (I0.bind fun x10=>some x10).bind (fun x11=>some x11) = some true
  rw [Q6]; rfl
end Rm
end
