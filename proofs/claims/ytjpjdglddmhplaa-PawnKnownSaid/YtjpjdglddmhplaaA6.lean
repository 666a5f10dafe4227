/- Texts that the claim stands on, one behind another. -/
import Derived.Test.YtjpjdglddmhplaaA5
set_option linter.unusedVariables false
set_option linter.unusedSimpArgs false
set_option linter.unnecessarySimpa false
section
set_option maxRecDepth 100000
set_option maxHeartbeats 0
namespace Pw
open Go Am Go.Proofs.Ytjpjdglddmhplaa.Cd
def A6p (a0:PaShow) (a1:Int) (x1:(Int × (List Int))) (s6:(Int × (List Int))) (s9:Int):Option (Int ⊕ ((List Int) ⊕ Unit)) :=
 if (decide (s9 < 3)) = true then
  (X8 (pawn_show.mk a0 (Ar3.mk (pawn_way.mk ) (pawn_way.mk ) (pawn_way.mk )) x1.2) a1 (PaUse.mk s6.1 s9 0)).bind fun x12 =>
  if (x12 == 0) = true then
  (app 8 s6.2 [s6.1]).bind fun x14 =>
  some (.inr (.inl x14))
  else
  some (.inl (w64 (s9 + 1)))
 else
  some (.inr (.inr ()))
def A6q (a0:PaShow) (a1:Int) (x1:(Int × (List Int))) (s6:(Int × (List Int))):Option ((Int × (List Int)) ⊕ (List Int)) :=
 if (decide (s6.1 < (List.length a0.Gowns:Int))) = true then
  (loop (A6p a0 a1 x1 s6) 0).bind fun (o15:((List Int) ⊕ Unit)) =>
  match o15 with
  | (.inl vo15_0) =>
  some (.inl ((w64 (s6.1 + 1)),vo15_0))
  | (.inr vo15_1) =>
  some (.inl ((w64 (s6.1 + 1)),s6.2))
 else
  some (.inr s6.2)
def A2b (a0:PaShow) (a1:Int):Option ((List Int) × Int) :=
 (A0l a0).bind fun x1 =>
 if (x1.1 == 0) = true then
  (F3 0 (w64 ((List.length a0.Figures:Int) - 1)) [a1]).bind fun x4 =>
  if x4 = true then
  some (([]:List Int),4)
  else
  (loop (A6q a0 a1 x1) (0,([]:List Int))).bind fun (o16:(List Int)) =>
  some (o16,0)
 else
  some (([]:List Int),x1.1)
theorem A23 {c:Sc} {H:A1} {a0:PaShow} {a1:Int} {r:((List Int) × Int)} (h:A2b a0 a1 = some r) :
  F2 tab c H (.fn (.func 10) [] []) [(.agg (B6 a0)),.i a1] [(.fresh 1 (List.map cI r.1)),.i r.2]:= by
 unfold A2b at h
 refine cE rfl rfl<|sg 0 rfl<|A0 (F9 (cs:=B6 a0) rfl rfl rfl) rfl<|A0 A6f rfl<|qm rfl<|es (ra3 rfl rfl rfl)<|C1l<|s0<|oB h fun x1 hx1 h=>A0 (E5 rfl rfl rfl) rfl ?_
 by_cases hc2:(x1.1 == 0) = true
 ·rw [if_pos hc2] at h
  obtain ⟨X3,hX3⟩:=Z2 hx1 hc2
  refine N2 (A02 hX3 rfl rfl (A2 (D8 rfl) B5) rfl) rfl<|qm rfl<|A0 (A7 rfl rfl) rfl<|A0 (A7 rfl rfl) rfl<|qm rfl<|qm rfl<|es (ra5 rfl rfl rfl rfl rfl)<|C6<|C4<|s0<|qm rfl<|A0 (Q5 (v:=(.b false)) rfl rfl rfl) rfl<|qm rfl<|es (ra6 rfl rfl rfl rfl rfl rfl)<|N6 rfl rfl<|s0<|oB h fun x4 hx4 h=>A0 (C3 rfl) rfl<|A0 (B7 rfl rfl rfl) rfl<|A0 (I6 (f:=B3) rfl) rfl<|A0 (Z0 rfl rfl) rfl<|qm rfl<|A0 (I1 (rows:=List.map cI [a1]) rfl rfl (E0 (fun _=>rfl) _)) rfl<|B8 (rs:=[.b x4]) rfl rfl (A2 rfl (A2 rfl (A2 rfl B5))) ((E3 hx4).frz)<|qm rfl<|es (ra5 rfl rfl rfl rfl rfl)<|wi h rfl (fun hc5 h=>?_) fun hc5 h=>?_
  ·refine sg 5 rfl<|A0 A6f rfl<|qm rfl<|es (ra2 rfl rfl)<|C7 ?_
   obtain rfl:=os h
   exact retq trivial (A9 rfl (A9 rfl C0)) (A5 (A36 rfl (List.length_map _)) (A5 rfl B9)) (A3 X4 (A3 A4 B1))
  ·refine C9<|C6<|C9<|C6<|s0<|A0 (C3 rfl) rfl<|A0 (B7 rfl rfl rfl) rfl<|A0 (I6 (f:=C1) rfl) rfl<|qm rfl<|es (ra5 rfl rfl rfl rfl rfl)<|C4<|oB h fun o16 ho16 h=>wl (fun s6=>[(1,.i a1),(4,(.asl (H.length + 1) (List.length s6.2))),(6,(.ptr (H.length + 4) 0)),(28,(.i (List.length a0.Gowns:Int))),(29,.i s6.1)]) (fun (q7:Unit) s6=>[(.cells (B6 a0)),(.arr 1 false (List.map cI s6.2)),(.cells (B6 a0)),X3,(.cells [(.seq 8 (List.map C1 a0.Gowns)),(.seq 4 (List.map B3 a0.Figures)),.i a0.Purse,(.seq 2 (List.map D7 a0.Incomes)),(.fn (.func 41) [] []),(.fn (.func 42) [] []),(.fn (.func 43) [] []),(.fn (.func 25) [] []),(.fn (.func 44) [] []),(.fn (.func 45) [] []),(.fn (.func 26) [] []),(.fn (.func 46) [] []),(.fn (.func 47) [] []),(.seq 1 (List.map cI x1.2))])]) 5 (fun r e s' H'=>PX 1 [(4,(.asl (H.length + 1) (List.length r)))] (H++[(.cells (B6 a0)),(.arr 1 false (List.map cI r)),(.cells (B6 a0)),X3,(.cells [(.seq 8 (List.map C1 a0.Gowns)),(.seq 4 (List.map B3 a0.Figures)),.i a0.Purse,(.seq 2 (List.map D7 a0.Incomes)),(.fn (.func 41) [] []),(.fn (.func 42) [] []),(.fn (.func 43) [] []),(.fn (.func 25) [] []),(.fn (.func 44) [] []),(.fn (.func 45) [] []),(.fn (.func 26) [] []),(.fn (.func 46) [] []),(.fn (.func 47) [] []),(.seq 1 (List.map cI x1.2))])]) e s' H') () ho16 rfl rfl (fun _ _=>rfl) (fun _=>rfl) rfl (fun s6=>(bdc A4 (bdc (A2v rfl) (bdc (R0 rfl) (bdc A4 (bdc A4 bdn)))))) (fun q7 s6 ys6 hs6=>?_) ?_
   ·unfold A6q at hs6
    refine s0<|A0 (L5 rfl rfl) rfl<|es (ra6 rfl rfl rfl rfl rfl rfl)<|C6<|wi hs6 rfl (fun hc8 hs6=>?_) fun hc8 hs6=>?_
    ·refine C9<|C6<|C4<|s0<|qm rfl<|qm rfl<|es (ra6 rfl rfl rfl rfl rfl rfl)<|s0<|qm rfl<|es (ra7 rfl rfl rfl rfl rfl rfl rfl)<|C4<|oB hs6 fun o15 ho15 hs6=>wl (fun s9=>[(1,.i a1),(4,(.asl (H.length + 1) (List.length s6.2))),(6,(.ptr (H.length + 4) 0)),(7,.i s6.1),(28,(.i (List.length a0.Gowns:Int))),(29,.i s6.1),(32,.i s9)]) (fun (q10:Unit) s9=>[(.cells (B6 a0)),(.arr 1 false (List.map cI s6.2)),(.cells (B6 a0)),X3,(.cells [(.seq 8 (List.map C1 a0.Gowns)),(.seq 4 (List.map B3 a0.Figures)),.i a0.Purse,(.seq 2 (List.map D7 a0.Incomes)),(.fn (.func 41) [] []),(.fn (.func 42) [] []),(.fn (.func 43) [] []),(.fn (.func 25) [] []),(.fn (.func 44) [] []),(.fn (.func 45) [] []),(.fn (.func 26) [] []),(.fn (.func 46) [] []),(.fn (.func 47) [] []),(.seq 1 (List.map cI x1.2))])]) 5 (fun r e s' H'=>(match r with | (.inl v)=>PX 2 [(1,.i a1),(4,(.asl (H.length + 1) (List.length v))),(6,(.ptr (H.length + 4) 0)),(28,(.i (List.length a0.Gowns:Int))),(29,.i s6.1)] (H++[(.cells (B6 a0)),(.arr 1 false (List.map cI v)),(.cells (B6 a0)),X3,(.cells [(.seq 8 (List.map C1 a0.Gowns)),(.seq 4 (List.map B3 a0.Figures)),.i a0.Purse,(.seq 2 (List.map D7 a0.Incomes)),(.fn (.func 41) [] []),(.fn (.func 42) [] []),(.fn (.func 43) [] []),(.fn (.func 25) [] []),(.fn (.func 44) [] []),(.fn (.func 45) [] []),(.fn (.func 26) [] []),(.fn (.func 46) [] []),(.fn (.func 47) [] []),(.seq 1 (List.map cI x1.2))])]) e s' H' | (.inr v)=>PX 3 [(1,.i a1),(4,(.asl (H.length + 1) (List.length s6.2))),(6,(.ptr (H.length + 4) 0)),(28,(.i (List.length a0.Gowns:Int))),(29,.i s6.1)] (H++[(.cells (B6 a0)),(.arr 1 false (List.map cI s6.2)),(.cells (B6 a0)),X3,(.cells [(.seq 8 (List.map C1 a0.Gowns)),(.seq 4 (List.map B3 a0.Figures)),.i a0.Purse,(.seq 2 (List.map D7 a0.Incomes)),(.fn (.func 41) [] []),(.fn (.func 42) [] []),(.fn (.func 43) [] []),(.fn (.func 25) [] []),(.fn (.func 44) [] []),(.fn (.func 45) [] []),(.fn (.func 26) [] []),(.fn (.func 46) [] []),(.fn (.func 47) [] []),(.seq 1 (List.map cI x1.2))])]) e s' H':Prop)) () ho15 rfl rfl (fun _ _=>rfl) (fun _=>rfl) rfl (fun s9=>(bdc A4 (bdc (A2v rfl) (bdc (R0 rfl) (bdc A4 (bdc A4 (bdc A4 (bdc A4 bdn)))))))) (fun q10 s9 ys9 hs9=>?_) ?_
     ·unfold A6p at hs9
      refine s0<|A0 (L5 rfl rfl) rfl<|es (ra8 rfl rfl rfl rfl rfl rfl rfl rfl)<|C6<|wi hs9 rfl (fun hc11 hs9=>?_) fun hc11 hs9=>?_
      ·refine C9<|C6<|C4<|s0<|qm rfl<|qm rfl<|es (ra8 rfl rfl rfl rfl rfl rfl rfl rfl)<|s0<|oB hs9 fun x12 hx12 hs9=>qm rfl<|qm rfl<|qm rfl<|qm rfl<|A0 (O1 (cs:=A8 (PaUse.mk s6.1 s9 0)) rfl rfl) rfl<|B8 (rs:=[.i x12]) rfl rfl (A2 rfl (A2 rfl (A2 (D8 rfl) B5))) ((A0r (D5 rfl) hx12).frz)<|A0 (I3 rfl rfl) rfl<|es (ra8 rfl rfl rfl rfl rfl rfl rfl rfl)<|wi hs9 rfl (fun hc13 hs9=>?_) fun hc13 hs9=>?_
       ·refine s0<|oB hs9 fun x14 hx14 hs9=>qm rfl<|qm rfl<|A0 (I1 (rows:=List.map cI [s6.1]) rfl rfl (E0 (fun _=>rfl) _)) rfl<|N2 (A9l (f:=cI) rfl rfl rfl rfl A91 (fun _=>rfl) hx14) rfl<|qm rfl<|es (ra5 rfl rfl rfl rfl rfl)<|K4 ?_
        obtain rfl:=os hs9
        exact lx rfl px (su5 rfl rfl rfl rfl rfl)
       ·refine C9<|r0<|A0 (G6 rfl rfl) rfl<|qm rfl<|en (ra7 rfl rfl rfl rfl rfl rfl rfl) ?_
        cases hs9
        exact lnT () rfl (su7 rfl rfl rfl rfl rfl rfl rfl)
      ·refine K4 ?_
       obtain rfl:=os hs9
       exact lx rfl px (su5 rfl rfl rfl rfl rfl)
     ·rcases o15 with vo15_0 | vo15_1
      ·rintro e s' H' - ⟨rfl,rfl,rfl⟩
       refine r0<|A0 (G6 rfl rfl) rfl<|qm rfl<|en (ra5 rfl rfl rfl rfl rfl) ?_
       cases hs6
       exact lnT () rfl (su5 rfl rfl rfl rfl rfl)
      ·rintro e s' H' - ⟨rfl,rfl,rfl⟩
       refine r0<|A0 (G6 rfl rfl) rfl<|qm rfl<|en (ra5 rfl rfl rfl rfl rfl) ?_
       cases hs6
       exact lnT () rfl (su5 rfl rfl rfl rfl rfl)
    ·refine K4 ?_
     obtain rfl:=os hs6
     exact lx rfl px (su1 rfl)
   ·rintro e s' H' - ⟨rfl,rfl,rfl⟩
    refine s0<|qm rfl<|qm rfl<|qm rfl<|es (ra2 rfl rfl)<|C7 ?_
    obtain rfl:=os h
    exact retq trivial (A9 rfl (A9 rfl C0)) (A5 (A36 rfl (List.length_map _)) (A5 rfl B9)) (A3 X4 (A3 A4 B1))
 ·rw [if_neg hc2] at h
  refine N2 (N4 (rs:=[.lit (.pointer none),.i x1.1]) rfl rfl (A2 (D8 rfl) B5) (A0m hx1 (by simpa using hc2)) rfl) rfl<|qm rfl<|A0 (A7 rfl rfl) rfl<|A0 (A7 rfl rfl) rfl<|qm rfl<|qm rfl<|es (ra5 rfl rfl rfl rfl rfl)<|C6<|C4<|s0<|qm rfl<|A0 (P6 rfl rfl) rfl<|qm rfl<|es (ra6 rfl rfl rfl rfl rfl rfl)<|M3 rfl (nef hc2)<|sg 2 rfl<|qm rfl<|A0 A6f rfl<|qm rfl<|es (ra2 rfl rfl)<|C7 ?_
  obtain rfl:=os h
  exact retq trivial (A9 rfl (A9 rfl C0)) (A5 (A36 rfl (List.length_map _)) (A5 rfl B9)) (A3 X4 (A3 A4 B1))
def A6s (a0:(List Int)) (a1:(List Int)) (s1:(Bool × Int)):Option ((Bool × Int) ⊕ Bool) :=
 if (s1.1 && (decide (s1.2 < (List.length a0:Int)))) = true then
  (idx a0 s1.2).bind fun x5 =>
  (idx a1 s1.2).bind fun x6 =>
  some (.inl ((x5 == x6),(w64 (s1.2 + 1))))
 else
  some (.inr s1.1)
def W4 (a0:(List Int)) (a1:(List Int)):Option Bool :=
 (loop (A6s a0 a1) (((List.length a0:Int) == (List.length a1:Int)),0)).bind fun (o7:Bool) =>
 some o7
theorem U6 {c:Sc} {H:A1} {a0:(List Int)} {a1:(List Int)} {r:Bool} (h:W4 a0 a1 = some r) :
  F2 tab c H (.fn (.func 14) [] []) [(.seq 1 (List.map cI a0)),(.seq 1 (List.map cI a1))] [.b r]:= by
 unfold W4 at h
 refine cE rfl rfl<|s0<|qm rfl<|es (ra2 rfl rfl)<|s0<|qm rfl<|A0 (I6 (f:=cI) rfl) rfl<|qm rfl<|A0 (I6 (f:=cI) rfl) rfl<|A0 (I3 rfl rfl) rfl<|qm rfl<|es (ra3 rfl rfl rfl)<|C6<|s0<|qm rfl<|es (ra4 rfl rfl rfl rfl)<|C4<|oB h fun o7 ho7 h=>wl (fun s1=>[(0,(.seq 1 (List.map cI a0))),(1,(.seq 1 (List.map cI a1))),(5,.b s1.1),(6,.i s1.2)]) (fun (q2:Unit) s1=>[]) 0 (fun r e s' H'=>PX 0 [(5,.b r)] (H++[]) e s' H') () ho7 rfl rfl (fun _ _=>rfl) (fun _=>rfl) rfl (fun s1=>(bdc M0 (bdc M0 (bdc A4 (bdc A4 bdn))))) (fun q2 s1 ys1 hs1=>?_) ?_
 ·unfold A6s at hs1
  refine C6<|s0<|qm rfl<|qm rfl<|gp 5 18 (.b (s1.1 && (decide (s1.2 < (List.length a0:Int))))) 13 rfl rfl (fun hg3=>?_) (fun hg3=>?_) ?_
  ·exact gT rfl hg3<|qm rfl<|gT rfl hg3<|qm rfl<|gT rfl hg3<|A0 (I6 (f:=cI) rfl) rfl<|gT rfl hg3<|A0 (L5 rfl rfl) rfl<|A0 (D1 rfl hg3 rfl) rfl<|ge 5 (by rw [hg3]; rfl) rfl rfl
  ·exact nT rfl hg3 rfl<|nT rfl hg3 rfl<|nT rfl hg3 rfl<|nT rfl hg3 rfl<|A0 (D0 rfl hg3 rfl) rfl<|ge 5 (by rw [hg3]; rfl) rfl rfl
  refine es (ra5 rfl rfl rfl rfl rfl)<|wi hs1 rfl (fun hc4 hs1=>?_) fun hc4 hs1=>?_
  ·refine C9<|C6<|C4<|r0<|oB hs1 fun x5 hx5 hs1=>oB hs1 fun x6 hx6 hs1=>qm rfl<|qm rfl<|A0 (J0 (f:=cI) rfl rfl hx5) rfl<|A0 (A1j rfl rfl) rfl<|qm rfl<|qm rfl<|A0 (J0 (f:=cI) rfl rfl hx6) rfl<|A0 (A1j rfl rfl) rfl<|A0 (I3 rfl rfl) rfl<|qm rfl<|en (ra4 rfl rfl rfl rfl)<|r0<|qm rfl<|A0 (G6 rfl rfl) rfl<|qm rfl<|en (ra4 rfl rfl rfl rfl) ?_
   cases hs1
   exact lnT () rfl (su4 rfl rfl rfl rfl)
  ·refine K4 ?_
   obtain rfl:=os hs1
   exact lx rfl px (su1 rfl)
 ·rintro e s' H' - ⟨rfl,rfl,rfl⟩
  refine s0<|qm rfl<|qm rfl<|es (ra1 rfl)<|C7 ?_
  obtain rfl:=os h
  exact retq trivial (A9 rfl C0) (A5 rfl B9) (A3 A4 B1)
def A6t (a0:(List PaUse)) (a1:(List PaUse)) (s2:Int):Option (Int ⊕ (Bool ⊕ Unit)) :=
 if (decide (s2 < (List.length a0:Int))) = true then
  (idx a0 s2).bind fun x5 =>
  (idx a1 s2).bind fun x6 =>
  if (!((x5.Gown == x6.Gown) && ((x5.How == x6.How) && ((x5.Day == x6.Day) && true)))) = true then
  some (.inr (.inl false))
  else
  some (.inl (w64 (s2 + 1)))
 else
  some (.inr (.inr ()))
def A4g (a0:(List PaUse)) (a1:(List PaUse)):Option Bool :=
 if ((List.length a0:Int) != (List.length a1:Int)) = true then
  some false
 else
  (loop (A6t a0 a1) 0).bind fun (o8:(Bool ⊕ Unit)) =>
  match o8 with
  | (.inl vo8_0) =>
  some vo8_0
  | (.inr vo8_1) =>
  some true
theorem A6l {c:Sc} {H:A1} {a0:(List PaUse)} {a1:(List PaUse)} {r:Bool} (h:A4g a0 a1 = some r) :
  F2 tab c H (.fn (.func 15) [] []) [(.seq 3 (List.map A8 a0)),(.seq 3 (List.map A8 a1))] [.b r]:= by
 unfold A4g at h
 refine cE rfl rfl<|s0<|qm rfl<|es (ra2 rfl rfl)<|C6<|s0<|qm rfl<|A0 (I6 (f:=A8) rfl) rfl<|qm rfl<|A0 (I6 (f:=A8) rfl) rfl<|A0 (P6 rfl rfl) rfl<|es (ra3 rfl rfl rfl)<|wi h rfl (fun hc1 h=>?_) fun hc1 h=>?_
 ·refine s0<|qm rfl<|es (ra1 rfl)<|C7 ?_
  obtain rfl:=os h
  exact retq trivial (A9 rfl C0) (A5 rfl B9) (A3 A4 B1)
 ·refine C9<|C6<|s0<|qm rfl<|es (ra3 rfl rfl rfl)<|C4<|oB h fun o8 ho8 h=>wl (fun s2=>[(0,(.seq 3 (List.map A8 a0))),(1,(.seq 3 (List.map A8 a1))),(5,.i s2)]) (fun (q3:Unit) s2=>[]) 0 (fun r e s' H'=>(match r with | (.inl v)=>e = .ret∧RetQ H [.tmp 4] [.b v] e s' H' | (.inr v)=>PX 0 [] (H++[]) e s' H':Prop)) () ho8 rfl rfl (fun _ _=>rfl) (fun _=>rfl) rfl (fun s2=>(bdc M0 (bdc M0 (bdc A4 bdn)))) (fun q3 s2 ys2 hs2=>?_) ?_
  ·unfold A6t at hs2
   refine C6<|s0<|qm rfl<|qm rfl<|A0 (I6 (f:=A8) rfl) rfl<|A0 (L5 rfl rfl) rfl<|es (ra4 rfl rfl rfl rfl)<|wi hs2 rfl (fun hc4 hs2=>?_) fun hc4 hs2=>?_
   ·refine C9<|C6<|C4<|s0<|oB hs2 fun x5 hx5 hs2=>oB hs2 fun x6 hx6 hs2=>qm rfl<|qm rfl<|A0 (J0 (f:=A8) rfl rfl hx5) rfl<|A0 (H8 rfl rfl) rfl<|qm rfl<|qm rfl<|A0 (J0 (f:=A8) rfl rfl hx6) rfl<|A0 (H8 rfl rfl) rfl<|A0 (C4d (a:=A8 x5) (b:=A8 x6) rfl rfl rfl rfl (R8 (R8 (R8 A7u)))) rfl<|es (ra4 rfl rfl rfl rfl)<|wi hs2 rfl (fun hc7 hs2=>?_) fun hc7 hs2=>?_
    ·refine s0<|qm rfl<|es (ra1 rfl)<|C7 ?_
     obtain rfl:=os hs2
     exact lx rfl (And.intro rfl (retq trivial (A9 rfl C0) (A5 rfl B9) (A3 A4 B1))) (Sub.refl _)
    ·refine C9<|r0<|qm rfl<|A0 (G6 rfl rfl) rfl<|qm rfl<|en (ra3 rfl rfl rfl) ?_
     cases hs2
     exact lnT () rfl (su3 rfl rfl rfl)
   ·refine K4 ?_
    obtain rfl:=os hs2
    exact lx rfl px (.nil _)
  ·rcases o8 with vo8_0 | vo8_1
   ·rintro e s' H' - ⟨rfl,hret⟩
    cases h
    exact hret
   ·rintro e s' H' - ⟨rfl,rfl,rfl⟩
    refine s0<|qm rfl<|es (ra1 rfl)<|C7 ?_
    obtain rfl:=os h
    exact retq trivial (A9 rfl C0) (A5 rfl B9) (A3 A4 B1)
end Pw
end
section
set_option maxRecDepth 100000
set_option maxHeartbeats 0
namespace Am
open Go
section
variable {T:Tab} {s:A6} {H0 H:A1} {l:List AO} {c:Sc} {n0 k0:Nat}
theorem C4j {x:Opd} {b r:Nat} {es:List (AV × AV)} (hx:ev s x = some (.mp b)) (hm:hmap (H0++l) b = some es):One T c (H0.length + k0) s (H0++l) (.rangeM x r) (.itr (H0.length + (k0 + r))) (H0++l.set (k0 + r) (.mit b es.length [])) :=
 ⟨0,by simp only [core,prim,hx,hm,Nat.add_assoc,F0]⟩
theorem C18 {H L:A1} {b m n:Nat} {seen:List Nat} {e:AV × AV} {es:List (AV × AV)} (hg:hget H b = some (.mit m n seen)) (hm:hmap H m = some es) (h:A4o H b = some e):A4o (H++L) b = some e:= by
 have h1:hget (H++L) b = some (.mit m n seen):=C10 hg L
 have h2:hmap (H++L) m = some es:= by
  have:m < H.length:= by
   unfold hmap hget at hm
   cases e:H[m]? with
   | none=>rw [e] at hm; cases hm
   | some o=>exact (List.getElem?_eq_some_iff.1 e).1
  unfold hmap hget at hm ⊢
  rw [List.getElem?_append_left this]; exact hm
 unfold A4o at h ⊢
 rw [h1]
 rw [hg] at h
 simp only [h2,hm] at h ⊢
 exact h
theorem C6d {x:Opd} {b:Nat} {e:AV × AV} (hx:ev s x = some (.itr b)) (hm:A4o H b = some e):One T c n0 s H (.entry x) (.tup [e.1,e.2]) H:=⟨0,by simp only [core,prim,hx,hm]⟩
end
end Am
namespace Pw
open Go Am Go.Proofs.Ytjpjdglddmhplaa.Cd
abbrev Had:=Ar3 Int
theorem C03:KeyOk (κ:=Had) true [0,0,0] (fun x=>.agg (B67 cI x)) (fun x=>B67 cI x):=⟨fun _=>rfl,fun _=>rfl,fun a b=>by
 obtain ⟨a1,a2,a3⟩:=a
 obtain ⟨b1,b2,b3⟩:=b
 show E6 [.lit (.int .i64 a1),.lit (.int .i64 a2),.lit (.int .i64 a3)] [.lit (.int .i64 b1),.lit (.int .i64 b2),.lit (.int .i64 b3)] = _
 simp only [B9d,Ar3.mk.injEq]
 by_cases h1:a1 = b1 <;> by_cases h2:a2 = b2 <;> by_cases h3:a3 = b3 <;> simp [h1,h2,h3,E6]⟩
abbrev Met:=List (Had × Int)
def B7y (m:Met):List (AV × AV):=m.map (kE (fun x=>.agg (B67 cI x)) (fun n=>.i n))
def C43 (h:Had) (f:Int):Option Bool :=
 if (!((h.x0 == 0) && ((h.x1 == 0) && ((h.x2 == 0) && true)))) = true then (idx h.l f).bind fun v=>some (decide (v > 0)) else some false
def C1e (f:Int):Met→Option (List Bool)
 | []=>some []
 | e :: l=>(C43 e.1 f).bind fun b=>(C1e f l).bind fun r=>some (b :: r)
def cnt (bs:List Bool) (seen:List Nat):Int:=((seen.filter fun i=>bs.getD i false).length:Int)
def B9a (m:Met) (f:Int):Option Int :=
 if m.length < 4611686018427387904 then (C1e f m).bind fun bs=>some ((bs.filter fun b=>b).length:Int) else none
theorem B5i {f:Int}:∀{m:Met} {bs:List Bool},C1e f m = some bs→bs.length = m.length∧∀ (i:Nat) (e:Had × Int),m[i]? = some e→C43 e.1 f = some (bs.getD i false)
 | [],bs,h=>by cases h; exact ⟨rfl,fun i e he=>by simp at he⟩
 | x :: m,bs,h=>by
  unfold C1e at h
  refine oB h fun b hb h=>oB h fun r hr h=>?_
  obtain rfl:=os h
  obtain ⟨h1,h2⟩:=B5i hr
  refine ⟨by simp [h1],fun i e he=>?_⟩
  cases i with
  | zero=>simp at he; subst he; simpa using hb
  | succ i=>simp at he; simpa using h2 i e he
theorem A7w:∀(bs:List Bool),((List.range bs.length).filter fun i=>bs.getD i false).length = (bs.filter fun b=>b).length
 | []=>rfl
 | b :: bs=>by
  rw [List.length_cons,List.range_succ_eq_map,List.filter_cons,List.filter_map,List.filter_cons]
  have ih:=A7w bs
  have e:(fun i=>(b :: bs).getD i false)∘Nat.succ = fun i=>bs.getD i false:= by funext i; simp
  rw [e]
  cases b <;> simp at ih ⊢ <;> exact ih
theorem C5j {bs:List Bool} {seen:List Nat} (hn:seen.Nodup) (hm:∀j,j ∈ seen↔j < bs.length):cnt bs seen = ((bs.filter fun b=>b).length:Int):= by
 have hp:seen.Perm (List.range bs.length):=(List.perm_ext_iff_of_nodup hn List.nodup_range).mpr fun j=>by rw [hm,List.mem_range]
 unfold cnt
 rw [(hp.filter _).length_eq,A7w]
theorem C7r (bs:List Bool) (seen:List Nat):cnt bs seen≤seen.length:= by
 unfold cnt
 have:=List.length_filter_le (fun i=>bs.getD i false) seen
 omega
theorem C3e (bs:List Bool) (seen:List Nat) (i:Nat):cnt bs (seen++[i]) = cnt bs seen + (if bs.getD i false = true then 1 else 0):= by
 unfold cnt
 rw [List.filter_append,List.length_append,List.filter_cons]
 by_cases h:bs.getD i false = true
 ·rw [if_pos h,if_pos h]; rfl
 ·rw [if_neg h,if_neg h]; simp
theorem B47:∀(n:Nat) (l:List Nat),l.Nodup→(∀ x ∈ l,x < n)→l.length≤n
 | 0,l,_,h=>by
  cases l with
  | nil=>simp
  | cons x l=>exact absurd (h x (List.mem_cons_self ..)) (Nat.not_lt_zero x)
 | n + 1,l,hd,h=>by
  have h1:=B47 n (l.filter fun x=>x != n) (hd.filter _) fun x hx=>by
   have:=List.mem_filter.mp hx
   have h2:=h x this.1
   have h3:x ≠ n:= by simpa using this.2
   omega
  have h2:(l.filter fun x=>!(x != n)).length≤1:= by
   have hn:(l.filter fun x=>!(x != n)).Nodup:=hd.filter _
   cases hl:l.filter fun x=>!(x != n) with
   | nil=>simp
   | cons a t =>
    cases t with
    | nil=>simp
    | cons b t =>
     rw [hl] at hn
     have ha:a ∈ l.filter fun x=>!(x != n):= by rw [hl]; simp
     have hb:b ∈ l.filter fun x=>!(x != n):= by rw [hl]; simp
     have ea:a = n:= by simpa using (List.mem_filter.mp ha).2
     have eb:b = n:= by simpa using (List.mem_filter.mp hb).2
     subst ea; subst eb
     simp at hn
  have h3:l.length = (l.filter fun x=>x != n).length + (l.filter fun x=>!(x != n)).length:= by
   clear h1 h2 hd h
   induction l with
   | nil=>rfl
   | cons x l ih =>
    rw [List.filter_cons,List.filter_cons]
    cases x != n <;> simp [ih] <;> omega
  omega
theorem C47 {n:Nat} {seen:List Nat} (hn:seen.Nodup) (hm:∀j ∈ seen,j < n):seen.length≤n:=B47 n seen hn hm
def C0j:ACode:=(.seq (.cond 69 .skip (.exit 4)) (.block 5 (.s 1 [q 0 70 (.entry 67),EX 1 71 70 0,q 2 14 (.alloc [.lit (.int .i64 0),.lit (.int .i64 0),.lit (.int .i64 0)] [] 0),ST 3 3 14 71] [2,3,8,12,13,14,62,63,67] (.s 0 [LK 0 72 3 14,q 1 73 (.build [.lit (.int .i64 0),.lit (.int .i64 0),.lit (.int .i64 0)] []),q 2 74 (.cmp true [0,0,0] 72 73),M 3 75 74,G 4 76 75 true (.mv 12),G 5 77 75 true (.idxA 1 3 14 76),G 6 78 75 true (.load none 77),G 7 79 75 true (.bin .gtr 78 (.i 0)),q 8 80 (.pick 75 79 (.b false))] [2,3,8,12,13,62,63,67,80] (.cond 80 (.g 0 [M 0 81 13,B 1 82 .add 81 (.i 1),M 2 13 82] [2,3,8,12,13,62,63,67]) .skip)))))
theorem B9b {c:Sc} {Hh:A1} {l m:Nat} {met:Met} {f r:Int} {a2 a3 a8 a62 a63:AV} (hl:hget Hh l = some (.mit m met.length [])) (hm:hmap Hh m = some (B7y met)) (hlm:l ≠ m) (h:B9a met f = some r)
  (hb2:a2.bd Hh.length = true) (hb3:a3.bd Hh.length = true) (hb8:a8.bd Hh.length = true) (hb62:a62.bd Hh.length = true) (hb63:a63.bd Hh.length = true) :
  WP tab (.loopM 67 68 69 [2,3,8,12,13,62,63,67] [2,3,8,12,13,62,63,67] [2,3,8,12,13,62,63] C0j) [(2,a2),(3,a3),(8,a8),(12,.i f),(13,.i 0),(62,a62),(63,a63),(67,.itr l)] Hh c
   (fun e s' H'=>e = .exit 4∧s' = [(2,a2),(3,a3),(8,a8),(12,.i f),(13,.i r),(62,a62),(63,a63)]∧H' = hset Hh l .dead):= by
 unfold B9a at h
 split at h
 ·next hlen =>
  refine oB h fun bs hbs h=>?_
  obtain rfl:=os h
  obtain ⟨hbl,hbg⟩:=B5i hbs
  have hlt:l < Hh.length:= by unfold hget at hl; exact (List.getElem?_eq_some_iff.1 hl).1
  have hset0:hset Hh l (.mit m met.length []) = Hh:= by
   unfold hset
   unfold hget at hl
   obtain ⟨h1,h2⟩:=List.getElem?_eq_some_iff.1 hl
   rw [← h2]; exact List.set_getElem_self h1
  have hmm:∀o,hmap (hset Hh l o) m = some (B7y met):=fun o=>by
   rw [← hm]; unfold hmap hget hset; rw [List.getElem?_set_ne hlm]
  have hss:∀o o',hset (hset Hh l o) l o' = hset Hh l o':=fun o o'=>by unfold hset; rw [List.set_set]
  have hgl:∀o,hget (hset Hh l o) l = some o:=fun o=>by unfold hget hset; rw [List.getElem?_set_self hlt]
  have hle:∀o,(hset Hh l o).length = Hh.length:=fun o=>E8 _ _ _
  have key:=C2v (T:=tab) (c:=c) (x:=67) (nx:=68) (ok:=69) (l:=l) (m:=m) (n:=met.length) (live0:=[2,3,8,12,13,62,63,67]) (live:=[2,3,8,12,13,62,63,67]) (liveX:=[2,3,8,12,13,62,63]) (rest:=C0j) (es:=B7y met) (e0:=.exit 4)
   (fun seen=>[(2,a2),(3,a3),(8,a8),(12,.i f),(13,.i (cnt bs seen)),(62,a62),(63,a63),(67,.itr l)]) (fun seen=>hset Hh l (.mit m met.length seen)) [(2,a2),(3,a3),(8,a8),(12,.i f),(13,.i ((bs.filter fun b=>b).length:Int)),(62,a62),(63,a63)] (hset Hh l .dead)
   (fun _=>rfl) (by decide) rfl (by decide) (fun _=>rfl) (fun _=>hgl _) (fun _=>hmm _) (by rw [B7y,List.length_map,decide_eq_true rfl]; rfl) ?_ ?_ ?_
  ·refine X2 (B03 hset0.symm key) ?_
   rintro e s' H' ⟨h1,h2,h3⟩
   exact ⟨h1,h2,h3⟩
  ·intro seen i hnd hsl hi hni
   rw [hss,hle]
   obtain ⟨e,he⟩:∃e,met[i]? = some e:=⟨_,List.getElem?_eq_getElem hi⟩
   have hpo:=hbg i e he
   have hent:A4o (hset Hh l (.mit m met.length (seen++[i]))) l = some (.agg (B67 cI e.1),.i e.2):= by
    unfold A4o
    simp only [hgl,hmm,B7y,List.length_map,if_true,List.getLast?_append,List.getLast?_singleton,Option.some_or,Option.bind_some,List.getElem?_map,he,Option.map_some,kE]
   have hw:w64 (cnt bs seen + 1) = cnt bs seen + 1:= by
    have h1:=C7r bs seen
    have h2:=C47 hnd hsl
    have h3:0≤cnt bs seen:=Int.natCast_nonneg _
    unfold w64 IntKind.wrap
    simp [IntKind.bits,IntKind.signed]
    omega
   have hsn:=C3e bs seen i
   have htk:∀Y:List AO,(hset Hh l (.mit m met.length (seen++[i]))++Y).take Hh.length = hset Hh l (.mit m met.length (seen++[i])):=fun Y=>by
    rw [← hle (.mit m met.length (seen++[i]))]; exact List.take_left
   unfold C43 at hpo
   refine Q9<|C6<|M3 rfl rfl<|C9<|C4<|sg 0 rfl<|N2 (C6d rfl (C18 (hgl _) (hmm _) hent)) rfl<|A0 (A7 rfl rfl) rfl<|A0 G8 rfl<|M4 (E4 (ds:=B67 cI e.1) rfl rfl rfl rfl (D9 rfl) rfl) rfl<|es (ra9 rfl rfl rfl rfl rfl rfl rfl rfl rfl)<|s0<|A0 (E5 rfl rfl rfl) rfl<|A0 (O1 (cs:=[.i 0,.i 0,.i 0]) rfl rfl) rfl<|A0 (C4d (a:=B67 cI e.1) (b:=[.i 0,.i 0,.i 0]) rfl rfl rfl rfl (R8 (R8 (R8 A7u)))) rfl<|qm rfl<|gp 5 80 (.b (bs.getD i false)) 75 rfl rfl (fun hc1=>?_) (fun hc1=>?_) ?_
   ·refine oB (bt hpo hc1) fun v hv hpo=>?_
    have hz:=os hpo
    rw [← hz]
    exact gT rfl hc1<|qm rfl<|gT rfl hc1<|A0 (C4e (e:=Ar3.l e.1) rfl rfl rfl hv) rfl<|gT rfl hc1<|A0 (C4g (f:=cI) (g:=fun n=>.i n) (e:=Ar3.l e.1) (fun _=>rfl) rfl (D5 rfl) rfl hv) rfl<|gT rfl hc1<|A0 (A4m rfl rfl) rfl<|A0 (D1 rfl hc1 rfl) rfl<|ge 5 rfl rfl rfl
   ·have hz:=os (bf hpo hc1)
    rw [← hz]
    exact nT rfl hc1 rfl<|nT rfl hc1 rfl<|nT rfl hc1 rfl<|nT rfl hc1 rfl<|A0 (D0 rfl hc1 rfl) rfl<|ge 5 rfl rfl rfl
   ·refine es (ra9 rfl rfl rfl rfl rfl rfl rfl rfl rfl) ?_
    rw [hsn]
    by_cases hbi:bs.getD i false = true
    ·rw [if_pos hbi,← hw]
     refine M3 rfl hbi<|r0<|qm rfl<|A0 (G6 rfl rfl) rfl<|qm rfl<|en (ra8 rfl rfl rfl rfl rfl rfl rfl rfl) ?_
     exact ⟨rfl,su8 rfl rfl rfl rfl rfl rfl rfl rfl,htk _⟩
    ·rw [if_neg hbi,Int.add_zero]
     refine N6 rfl (by simpa using hbi)<|C9 ?_
     exact ⟨rfl,su8 rfl rfl rfl rfl rfl rfl rfl rfl,htk _⟩
  ·intro seen i
   simp only [hle]
   have hbl':(AV.itr l).bd Hh.length = true:= by simp only [AV.bd]; exact Nat.ble_eq_true_of_le hlt
   exact bdc hb2 (bdc hb3 (bdc hb8 (bdc A4 (bdc A4 (bdc hb62 (bdc hb63 (bdc hbl' bdn)))))))
  ·intro seen hnd hall
   refine C6<|N6 rfl rfl<|K4 ?_
   refine ⟨rfl,rfl,?_,⟨_,_,_,hgl _⟩,hss _ _⟩
   rw [← C5j hnd (by rw [hbl]; exact hall)]
   exact su7 rfl rfl rfl rfl rfl rfl rfl
 ·cases h
end Pw
end
section
set_option maxRecDepth 100000
set_option maxHeartbeats 0
namespace Pw
open Go Am Go.Proofs.Ytjpjdglddmhplaa.Cd
def A5b (a0:pawn_found) (a1:pawn_found):Option Int :=
 some (w64 (a0.without_ - a1.without_))
theorem B20 {c:Sc} {H:A1} {a0:pawn_found} {a1:pawn_found} {r:Int} (h:A5b a0 a1 = some r) :
  F2 tab c H (.fn (.func 37) [] []) [(.agg (B2 a0)),(.agg (B2 a1))] [.i r]:= by
 unfold A5b at h
 refine cE rfl rfl<|sg 0 rfl<|A0 (F9 (cs:=B2 a0) rfl rfl rfl) rfl<|A0 (F9 (cs:=B2 a1) rfl rfl rfl) rfl<|qm rfl<|es (ra2 rfl rfl)<|s0<|A0 (C3 rfl) rfl<|A0 (B7 rfl rfl rfl) rfl<|A0 (C3 rfl) rfl<|A0 (B7 rfl rfl rfl) rfl<|A0 (Z0 rfl rfl) rfl<|qm rfl<|es (ra1 rfl)<|C7 ?_
 obtain rfl:=os h
 exact retq trivial (A9 rfl C0) (A5 rfl B9) (A3 A4 B1)
def C90 (few:pawn_found) (x:pawn_found) (m:Met):Option (Met ⊕ Unit) :=
 (if (x.without_ == few.without_) = true then
  (if (!(kget m x.had_).isSome) = true then some true else some (decide (x.cost_ < (kget m x.had_).getD 0))).bind fun w=>some w
 else some false).bind fun g =>
 if g = true then some (.inl (kset m x.had_ x.cost_)) else some (.inl m)
def C25 (figs:List PaFigure) (m:Met) (s:List Int × List Int × Int):Option ((List Int × List Int × Int) ⊕ (List Int × List Int)) :=
 if (decide (s.2.2 < (List.length figs:Int))) = true then
  (B9a m s.2.2).bind fun n =>
  (if (n == 0) = true then (app 8 s.1 [s.2.2]).bind fun l=>some l else some s.1).bind fun l1 =>
  (if (decide (n < (List.length m:Int))) = true then (app 8 s.2.1 [s.2.2]).bind fun l=>some l else some s.2.1).bind fun l2 =>
  some (.inl (l1,l2,w64 (s.2.2 + 1)))
 else some (.inr (s.1,s.2.1))
def A9w (a0:PaShow):Option (List Int × List Int × Int) :=
 (A0l a0).bind fun x1 =>
 if (x1.1 == 0) = true then
  (B65 (B5h a0 x1.2) A5b).bind fun few =>
  (B5h a0 x1.2 Met Unit (C90 few.1) []).bind fun o =>
  match o with
  | .inl m=>(loop (C25 a0.Figures m) ([],[],0)).bind fun y=>some (y.1,y.2,0)
  | .inr _=>none
 else some ([],[],x1.1)
theorem C9k {H:A1} {l:List AO} {j n:Nat} (h:Nat.ble (j + 1) l.length = true):(AV.asl (H.length + j) n).bd (H++l).length = true:= by rw [List.length_append]; exact A2v h
def A1g (H:A1) (t:PaShow) (X:AO) (days:List Int) (few:pawn_found) (l1 l2:List Int) (m:Met):List AO :=
 [.cells (B6 t),.arr 1 false (l1.map cI),.arr 1 false (l2.map cI),.cells (B6 t),X,.cells (A0j t days),.cells (B2 few),.cells [.ptr (H.length + 5) 0],.map (B7y m),.cells [.mp (H.length + 8)],.cells [.ptr (H.length + 5) 0]]
theorem B6h {c:Sc} {H:A1} (hscv:O8 c H = true) {a0:PaShow} {r:List Int × List Int × Int} (h:A9w a0 = some r) :
  F2 tab c H (.fn (.func 21) [] []) [.agg (B6 a0)] [.fresh 1 (r.1.map cI),.fresh 1 (r.2.1.map cI),.i r.2.2]:= by
 unfold A9w at h
 refine oB h fun x1 hx1 h=>?_
 refine cE rfl rfl<|sg 0 rfl<|A0 (F9 (cs:=B6 a0) rfl rfl rfl) rfl<|A0 A6f rfl<|A0 A6f rfl<|qm rfl<|es (ra3 rfl rfl rfl)<|s0<|A0 (E5 rfl rfl rfl) rfl ?_
 by_cases hc2:(x1.1 == 0) = true
 ·rw [if_pos hc2] at h
  refine oB h fun few hfew h=>oB h fun o ho h=>?_
  obtain ⟨X,hX⟩:=Z2 hx1 hc2
  refine N2 (A02 hX rfl rfl (A2 (D8 rfl) B5) rfl) rfl<|qm rfl<|A0 (A7 rfl rfl) rfl<|A0 (A7 rfl rfl) rfl<|qm rfl<|qm rfl<|es (ra5 rfl rfl rfl rfl rfl)<|C6<|s0<|qm rfl<|A0 (P6 rfl rfl) rfl<|es (ra6 rfl rfl rfl rfl rfl rfl)<|N6 rfl rfl<|C9<|sg 6 rfl<|qm rfl<|A1y (as2:=[(.ptr (H.length + 5) 0)]) (H1:=H++[.cells (B6 a0),.arr 1 false [],.arr 1 false [],.cells (B6 a0),X,.cells (A0j a0 x1.2),.dead]) rfl rfl (A2 rfl B5) rfl rfl rfl (A5z rfl)<|sg 7 rfl<|A0 (F9 (cs:=[.ptr (H.length + 5) 0]) rfl rfl rfl) rfl<|qm rfl<|es (ra1 rfl)<|s0<|A0 (A0q rfl rfl) rfl<|qm rfl<|es (ra1 rfl)<|C7<|InlQ.mk trivial ⟨_,_,_,[(.fn (.func 55) [] [(.ptr (H.length + 7) 0)])],_,(A9 rfl C0),(A5 rfl B9),(A5x (Q3 (A82 (Q3 (A2l rfl)))) (A5w rfl A9b)),?_⟩
  refine B8 (rs:=[(.agg (B2 few.1)),.b few.2]) rfl rfl (A2 rfl (A2 rfl B5)) (B5y (B9x (t:=a0) (days:=x1.2) (bS:=H.length + 7) (b:=H.length + 5)) (fun h=>(B20 h).frz) (And.intro (D5 rfl) (D5 rfl)) (B3k hscv) hfew)<|qm rfl<|A0 (A7 rfl rfl) rfl<|A0 (A7 rfl rfl) rfl<|A0 G8 rfl<|M4 (E4 (ds:=(B2 few.1)) rfl rfl rfl rfl (D9 rfl) rfl) rfl<|qm rfl<|es (ra5 rfl rfl rfl rfl rfl) ?_
  refine sg 8 rfl<|A0 C6j rfl<|A0 G8 rfl<|M4 (E4 (ds:=[.mp (H.length + 8)]) rfl rfl rfl rfl (W7 (Nat.le_add_right _ _)) rfl) rfl<|es (ra6 rfl rfl rfl rfl rfl rfl)<|C6<|s0<|qm rfl<|A1y (as2:=[(.ptr (H.length + 5) 0)]) (H1:=H++[.cells (B6 a0),.arr 1 false [],.arr 1 false [],.cells (B6 a0),X,.cells (A0j a0 x1.2),.cells (B2 few.1),.cells [.ptr (H.length + 5) 0],.map [],.cells [.mp (H.length + 8)]]) rfl rfl (A2 rfl B5) rfl rfl rfl (A5z rfl)<|sg 10 rfl<|A0 (F9 (cs:=[.ptr (H.length + 5) 0]) rfl rfl rfl) rfl<|qm rfl<|es (ra1 rfl)<|s0<|A0 (A0q rfl rfl) rfl<|qm rfl<|es (ra1 rfl)<|C7<|InlQ.mk trivial ⟨_,_,_,[(.fn (.func 55) [] [(.ptr (H.length + 10) 0)])],_,(A9 rfl C0),(A5 rfl B9),(A5x (Q3 (A82 (Q3 (A2l rfl)))) (A5w rfl A9b)),?_⟩
  refine es (ra6 rfl rfl rfl rfl rfl rfl)<|C4 ?_
  have hl11:∀m,(H++A1g H a0 X x1.2 few.1 [] [] m).length = H.length + 11:=fun m=>by rw [List.length_append]; rfl
  refine A8v (it:=B5h a0 x1.2) (sh:=shF) (pre:=A90 a0 x1.2 (H.length + 10) (H.length + 5)) B9x (K:=H.length + 11) [(6,.ptr (H.length + 6) 0),(8,.ptr (H.length + 9) 0)] (fun m=>H++A1g H a0 X x1.2 few.1 [] [] m) (fun (_:Unit)=>H++A1g H a0 X x1.2 few.1 [] [] []) (fun _=>.ret) ho (fun _=>rfl) rfl (fun S hS=>L7 (live:=[6,8]) rfl (by decide) (Sub.trans (su2 rfl rfl) hS)) rfl (fun _=>hl11 _) (fun _=>hl11 _) ⟨fun _ _=>A90.app ⟨D5 rfl,D5 rfl⟩,fun _ _=>A90.app ⟨D5 rfl,D5 rfl⟩⟩ (B3k hscv) (fun c' x m o' L v hsc hgr hv hbo y0 y1 hy0 hy1=>?_) ?_
  ·obtain rfl:v = .agg (B2 x):=hv
   have hGl:∀m z,(H++A1g H a0 X x1.2 few.1 [] [] m++z :: L).length = H.length + 11 + 1 + L.length:=fun m z=>by rw [List.length_append,hl11]; simp; omega
   refine Q9<|rg 0 rfl<|A0 G8 rfl<|M4 (E4 (ds:=B2 x) rfl rfl rfl rfl (W7 (by rw [hGl]; exact Nat.le_add_right _ _)) rfl) rfl<|en (ra3 rfl rfl rfl) ⟨rfl,L++[.cells (B2 x)],by simp,?_⟩
   refine B03 (show _ = H++(A1g H a0 X x1.2 few.1 [] [] m++(y1 :: (L++[AO.cells (B2 x)]))) by simp) ?_
   rw [show (AV.ptr ((H++A1g H a0 X x1.2 few.1 [] [] m++y0 :: L).length + (0 + 0)) 0) = .ptr (H.length + 11 + 1 + L.length) 0 by rw [hGl]; rfl]
   have q9:∀m,hcells (H++(A1g H a0 X x1.2 few.1 [] [] m++(y1 :: (L++[AO.cells (B2 x)])))) (H.length + 11 + 1 + L.length) = some (B2 x):=fun m=>by
    rw [show H++(A1g H a0 X x1.2 few.1 [] [] m++(y1 :: (L++[AO.cells (B2 x)]))) = (H++A1g H a0 X x1.2 few.1 [] [] m++y1 :: L)++[AO.cells (B2 x)] by simp,← hGl m y1]
    exact D5 (j:=0) rfl
   have htk:∀m,(H++(A1g H a0 X x1.2 few.1 [] [] m++(y1 :: (L++[AO.cells (B2 x)])))).take (H.length + 11 + 1 + L.length) = H++A1g H a0 X x1.2 few.1 [] [] m++y1 :: L:=fun m=>by
    rw [show H++(A1g H a0 X x1.2 few.1 [] [] m++(y1 :: (L++[AO.cells (B2 x)]))) = (H++A1g H a0 X x1.2 few.1 [] [] m++y1 :: L)++[AO.cells (B2 x)] by simp,← hGl m y1]
    exact List.take_left
   unfold C90 at hbo
   refine oB hbo fun g hg hbo=>?_
   refine C4<|s0<|A0 (B7 (x:=.mp (H.length + 8)) rfl rfl rfl) rfl<|A0 (C3 rfl) rfl<|A0 (A3e (ds:=B67 cI x.had_) rfl (q9 m) rfl rfl) rfl<|A0 (C6e (k:=x.had_) (es:=m) (gv:=fun n=>.i n) (z:=0) C03 rfl (A43 rfl) rfl rfl) rfl<|qm rfl<|A0 (A7 rfl rfl) rfl<|A0 (A7 rfl rfl) rfl<|qm rfl<|qm rfl<|es (ra5 rfl rfl rfl rfl rfl)<|s0<|A0 (C3 rfl) rfl<|A0 (A1l (x:=.i x.without_) rfl (q9 m) rfl) rfl<|A0 (C3 rfl) rfl<|A0 (B7 (x:=.i few.1.without_) rfl rfl rfl) rfl<|A0 (I3 rfl rfl) rfl<|qm rfl<|gp 9 54 (.b g) 45 rfl rfl (fun hc1=>?_) (fun hc1=>?_) ?_
   ·refine oB (bt hg hc1) fun w hw hg=>?_
    obtain rfl:=os hg
    refine gT rfl hc1<|qm rfl<|gT rfl hc1<|A0 (B75 rfl rfl) rfl<|gT rfl hc1<|qm rfl<|gq 5 53 (.b w) 48 rfl rfl (fun hc3=>?_) (fun hc3=>?_) ?_
    ·obtain rfl:=os (bt hw hc3)
     exact nF rfl hc3 rfl<|nF rfl hc3 rfl<|nF rfl hc3 rfl<|nF rfl hc3 rfl<|gT rfl hc1<|A0 (D1 rfl hc3 rfl) rfl<|ge 5 rfl rfl rfl
    ·obtain rfl:=os (bf hw hc3)
     exact gF rfl hc3<|A0 (C3 rfl) rfl<|gF rfl hc3<|A0 (A1l (x:=.i x.cost_) rfl (q9 m) rfl) rfl<|gF rfl hc3<|qm rfl<|gF rfl hc3<|A0 (L5 rfl rfl) rfl<|gT rfl hc1<|A0 (D0 rfl hc3 rfl) rfl<|ge 5 rfl rfl rfl
    ·exact A0 (D1 rfl hc1 rfl) rfl<|ge 5 rfl rfl rfl
   ·obtain rfl:=os (bf hg hc1)
    exact nT rfl hc1 rfl<|nT rfl hc1 rfl<|nT rfl hc1 rfl<|nX rfl rfl<|nX rfl rfl<|nX rfl rfl<|nX rfl rfl<|nT rfl hc1 rfl<|A0 (D0 rfl hc1 rfl) rfl<|ge 9 rfl rfl rfl
   ·refine es (ra3 rfl rfl rfl)<|wi hbo rfl (fun hc4 hbo=>?_) fun hc4 hbo=>?_
    ·cases hbo
     refine r0<|A0 (B7 (x:=.mp (H.length + 8)) rfl rfl rfl) rfl<|A0 (C3 rfl) rfl<|A0 (A3e (ds:=B67 cI x.had_) rfl (q9 m) rfl rfl) rfl<|A0 (C3 rfl) rfl<|A0 (A1l (x:=.i x.cost_) rfl (q9 m) rfl) rfl<|M4 (C6f (k:=x.had_) (v:=x.cost_) (es:=m) (gv:=fun n=>.i n) C03 rfl rfl rfl rfl rfl) rfl<|en .n ⟨rfl,htk _⟩
    ·cases hbo
     exact C9 ⟨rfl,htk _⟩
  ·rcases o with m | m
   ·refine oB h fun y hy h=>?_
    obtain rfl:=os h
    refine B03 (show _ = H++(A1g H a0 X x1.2 few.1 [] [] m++[.dead]) by simp) ?_
    refine C6<|s0<|A0 (C3 rfl) rfl<|A0 (B7 rfl rfl rfl) rfl<|A0 (I6 (f:=B3) rfl) rfl<|qm rfl<|es (ra5 rfl rfl rfl rfl rfl)<|C4<|wl (fun s=>[(2,.asl (H.length + 1) s.1.length),(3,.asl (H.length + 2) s.2.1.length),(8,.ptr (H.length + 9) 0),(62,.i a0.Figures.length),(63,.i s.2.2)]) (fun (_:Unit) s=>A1g H a0 X x1.2 few.1 s.1 s.2.1 m++[.dead]) 12 (fun r e s' H'=>PX 2 [(2,.asl (H.length + 1) r.1.length),(3,.asl (H.length + 2) r.2.length)] (H++(A1g H a0 X x1.2 few.1 r.1 r.2 m++[.dead])) e s' H') () hy rfl rfl (fun _ _=>rfl) (fun _=>rfl) rfl (fun _=>bdc (A2v rfl) (bdc (A2v rfl) (bdc (R0 rfl) (bdc A4 (bdc A4 bdn))))) (fun _ s o hs=>?_) ?_
    ·obtain ⟨l1,l2,i⟩:=s
     unfold C25 at hs
     refine s0<|A0 (L5 rfl rfl) rfl<|es (ra6 rfl rfl rfl rfl rfl rfl)<|C6<|wi hs rfl (fun hc hs=>?_) fun hc hs=>?_
     ·refine oB hs fun n hn hs=>oB hs fun k1 hl1 hs=>oB hs fun k2 hl2 hs=>?_
      simp only at hn hl1 hl2 hs
      refine C9<|C6<|C4<|s0<|qm rfl<|qm rfl<|es (ra6 rfl rfl rfl rfl rfl rfl)<|s0<|qm rfl<|es (ra7 rfl rfl rfl rfl rfl rfl rfl)<|C6<|sg 12 rfl<|A0 (B7 (x:=.mp (H.length + 8)) rfl rfl rfl) rfl<|N2 (C4j rfl (A43 rfl)) rfl<|es (ra8 rfl rfl rfl rfl rfl rfl rfl rfl)<|C4<|X2 (B9b (l:=H.length + 12) (m:=H.length + 8) (met:=m) (f:=i) (r:=n) (by rw [P1]; show some (AO.mit _ (B7y m).length []) = _; rw [B7y,List.length_map]) (A43 rfl) (by omega) hn (C9k rfl) (C9k rfl) (by rw [List.length_append]; exact R0 rfl) A4 A4) ?_
      rintro e s' H' ⟨rfl,rfl,rfl⟩
      rw [F0]
      refine C6<|s0<|qm rfl<|A0 (I3 rfl rfl) rfl<|es (ra8 rfl rfl rfl rfl rfl rfl rfl rfl)<|wi hl1 rfl (fun hc5 hl1=>?_) fun hc5 hl1=>?_
      ·refine oB hl1 fun l1' hl1' hl1=>?_
       obtain rfl:=os hl1
       refine r0<|qm rfl<|qm rfl<|A0 (I1 (rows:=List.map cI [i]) rfl rfl (E0 (fun _=>rfl) _)) rfl<|N2 (A9l (f:=cI) (j:=1) rfl rfl rfl rfl A91 (fun _=>rfl) hl1') rfl<|qm rfl<|en (ra7 rfl rfl rfl rfl rfl rfl rfl) ?_
       refine s0<|qm rfl<|A0 (B7 (x:=.mp (H.length + 8)) rfl rfl rfl) rfl<|A0 (C4f (es:=m) rfl (A43 rfl)) rfl<|A0 (L5 rfl rfl) rfl<|es (ra7 rfl rfl rfl rfl rfl rfl rfl)<|wi hl2 rfl (fun hc6 hl2=>?_) fun hc6 hl2=>?_
       ·refine oB hl2 fun l2' hl2' hl2=>?_
        obtain rfl:=os hl2
        refine r0<|qm rfl<|qm rfl<|A0 (I1 (rows:=List.map cI [i]) rfl rfl (E0 (fun _=>rfl) _)) rfl<|N2 (A9l (f:=cI) (j:=2) rfl rfl rfl rfl A91 (fun _=>rfl) hl2') rfl<|qm rfl<|en (ra5 rfl rfl rfl rfl rfl) ?_
        obtain rfl:=os hs
        refine r0<|A0 (G6 rfl rfl) rfl<|qm rfl<|en (ra5 rfl rfl rfl rfl rfl) ?_
        exact lnT () rfl (su5 rfl rfl rfl rfl rfl)
       ·obtain rfl:=os hl2
        obtain rfl:=os hs
        refine C9<|r0<|A0 (G6 rfl rfl) rfl<|qm rfl<|en (ra5 rfl rfl rfl rfl rfl) ?_
        exact lnT () rfl (su5 rfl rfl rfl rfl rfl)
      ·obtain rfl:=os hl1
       refine C9 ?_
       refine s0<|qm rfl<|A0 (B7 (x:=.mp (H.length + 8)) rfl rfl rfl) rfl<|A0 (C4f (es:=m) rfl (A43 rfl)) rfl<|A0 (L5 rfl rfl) rfl<|es (ra7 rfl rfl rfl rfl rfl rfl rfl)<|wi hl2 rfl (fun hc6 hl2=>?_) fun hc6 hl2=>?_
       ·refine oB hl2 fun l2' hl2' hl2=>?_
        obtain rfl:=os hl2
        refine r0<|qm rfl<|qm rfl<|A0 (I1 (rows:=List.map cI [i]) rfl rfl (E0 (fun _=>rfl) _)) rfl<|N2 (A9l (f:=cI) (j:=2) rfl rfl rfl rfl A91 (fun _=>rfl) hl2') rfl<|qm rfl<|en (ra5 rfl rfl rfl rfl rfl) ?_
        obtain rfl:=os hs
        refine r0<|A0 (G6 rfl rfl) rfl<|qm rfl<|en (ra5 rfl rfl rfl rfl rfl) ?_
        exact lnT () rfl (su5 rfl rfl rfl rfl rfl)
       ·obtain rfl:=os hl2
        obtain rfl:=os hs
        refine C9<|r0<|A0 (G6 rfl rfl) rfl<|qm rfl<|en (ra5 rfl rfl rfl rfl rfl) ?_
        exact lnT () rfl (su5 rfl rfl rfl rfl rfl)
     ·refine K4 ?_
      obtain rfl:=os hs
      exact lx rfl px (su2 rfl rfl)
    ·rintro e s' H' - ⟨rfl,rfl,rfl⟩
     refine s0<|qm rfl<|qm rfl<|qm rfl<|qm rfl<|qm rfl<|es (ra3 rfl rfl rfl)<|C7 ?_
     exact retq trivial (A9 rfl (A9 rfl (A9 rfl C0))) (A5 (A36 rfl (List.length_map _)) (A5 (A36 rfl (List.length_map _)) (A5 rfl B9))) (A3 X4 (A3 X4 (A3 A4 B1)))
   ·cases h
 ·rw [if_neg hc2] at h
  obtain rfl:=os h
  refine N2 (N4 (rs:=[.lit (.pointer none),.i x1.1]) rfl rfl (A2 (D8 rfl) B5) (A0m hx1 (by simpa using hc2)) rfl) rfl<|qm rfl<|A0 (A7 rfl rfl) rfl<|A0 (A7 rfl rfl) rfl<|qm rfl<|qm rfl<|es (ra5 rfl rfl rfl rfl rfl)<|C6<|s0<|qm rfl<|A0 (P6 rfl rfl) rfl<|es (ra6 rfl rfl rfl rfl rfl rfl)<|M3 rfl (nef hc2)<|sg 3 rfl<|qm rfl<|A0 A6f rfl<|A0 A6f rfl<|qm rfl<|es (ra3 rfl rfl rfl)<|C7 ?_
  exact retq trivial (A9 rfl (A9 rfl (A9 rfl C0))) (A5 (A36 rfl rfl) (A5 (A36 rfl rfl) (A5 rfl B9))) (A3 X4 (A3 X4 (A3 A4 B1)))
def A2r :Option Bool :=
 (A0p false).bind fun x1 =>
 (A0p true).bind fun x2 =>
 (Z6 x1 0 10).bind fun x3 =>
 (A06 x1 2 2).bind fun x4 =>
 (A06 x1 2 1).bind fun x5 =>
 (A2b x1 1).bind fun x6 =>
 (W2).bind fun x7 =>
 (A2a x1 x7 45).bind fun x8 =>
 (W2).bind fun x9 =>
 (A38 x1 x9).bind fun x10 =>
 (W2).bind fun x11 =>
 (A38 x2 x11).bind fun x12 =>
 (A3i x1).bind fun x13 =>
 (A3i x2).bind fun x14 =>
 (A9w x2).bind fun x15 =>
 (A9y x2).bind fun x16 =>
 (W2).bind fun x17 =>
 (A9x x1 x17).bind fun x18 =>
 (if ((((((((((((((x3.2 == 0) && (x4.2 == 0)) && (x6.2 == 0)) && (x8.2 == 0)) && (x12.2 == 0)) && (x13.2.2.2 == 0)) && (x14.2.2.2 == 0)) && (x15.2.2 == 0)) && (x16.2 == 0)) && (x18.2 == 0)) && (x5.2 == 9)) && (x10.2 == 4)) && (x3.1 == 110)) && (x4.1 == 48)) = true then
  (W4 x6.1 [0,1,2]).bind fun x33 =>
  some x33
 else
  some false).bind fun x34 =>
 (if ((x34 && (x8.1 == 102)) && (x12.1 == 0)) = true then
  (R9 0 2 0).bind fun x38 =>
  (R9 1 0 0).bind fun x39 =>
  (R9 2 2 0).bind fun x40 =>
  (A4g x13.1 [x38,x39,x40]).bind fun x41 =>
  some x41
 else
  some false).bind fun x42 =>
 (if (((x42 && (x13.2.1 == 0)) && (x13.2.2.1 == 78)) && (x14.2.1 == 2)) = true then
  (W4 x15.1 [0,2]).bind fun x47 =>
  some x47
 else
  some false).bind fun x48 =>
 (if x48 = true then
  (W4 x15.2.1 [0,2]).bind fun x50 =>
  some x50
 else
  some false).bind fun x51 =>
 (if (x51 && (x16.1 == 58)) = true then
  (W4 x18.1 [2]).bind fun x54 =>
  some x54
 else
  some false).bind fun x55 =>
 some x55
theorem B2z {c:Sc} {H:A1} (hscv:O8 c H = true)  {r:Bool} (h:A2r  = some r) :
  F2 tab c H (.fn (.func 17) [] []) [] [.b r]:= by
 unfold A2r at h
 refine cE rfl rfl<|s0<|qm rfl<|es .n<|sg 0 rfl<|oB h fun x1 hx1 h=>oB h fun x2 hx2 h=>B8 (rs:=[(.agg (B6 x1))]) rfl rfl (A2 rfl B5) ((A01 hx1).frz)<|B8 (rs:=[(.agg (B6 x2))]) rfl rfl (A2 rfl B5) ((A01 hx2).frz)<|A0 G8 rfl<|A0 G8 rfl<|M4 (E4 (ds:=(B6 x1)) rfl rfl rfl rfl (D9 rfl) rfl) rfl<|M4 (E4 (ds:=(B6 x2)) rfl rfl rfl rfl (D9 rfl) rfl) rfl<|es (ra2 rfl rfl)<|s0<|oB h fun x3 hx3 h=>A0 (E5 rfl rfl rfl) rfl<|B8 (rs:=[.i x3.1,.i x3.2]) rfl rfl (A2 (D8 rfl) (A2 rfl (A2 rfl B5))) ((A0d hx3).frz)<|qm rfl<|A0 (A7 rfl rfl) rfl<|A0 (A7 rfl rfl) rfl<|qm rfl<|qm rfl<|es (ra4 rfl rfl rfl rfl)<|s0<|oB h fun x4 hx4 h=>A0 (E5 rfl rfl rfl) rfl<|B8 (rs:=[.i x4.1,.i x4.2]) rfl rfl (A2 (D8 rfl) (A2 rfl (A2 rfl B5))) ((A17 hx4).frz)<|qm rfl<|A0 (A7 rfl rfl) rfl<|A0 (A7 rfl rfl) rfl<|qm rfl<|qm rfl<|es (ra6 rfl rfl rfl rfl rfl rfl)<|s0<|oB h fun x5 hx5 h=>A0 (E5 rfl rfl rfl) rfl<|B8 (rs:=[.i x5.1,.i x5.2]) rfl rfl (A2 (D8 rfl) (A2 rfl (A2 rfl B5))) ((A17 hx5).frz)<|qm rfl<|A0 (A7 rfl rfl) rfl<|A0 (A7 rfl rfl) rfl<|qm rfl<|qm rfl<|es (ra7 rfl rfl rfl rfl rfl rfl rfl)<|s0<|oB h fun x6 hx6 h=>A0 (E5 rfl rfl rfl) rfl<|B8 (rs:=[(.seq 1 (List.map cI x6.1)),.i x6.2]) rfl rfl (A2 (D8 rfl) (A2 rfl B5)) ((A23 hx6).frz)<|qm rfl<|A0 (A7 rfl rfl) rfl<|A0 (A7 rfl rfl) rfl<|qm rfl<|qm rfl<|es (ra9 rfl rfl rfl rfl rfl rfl rfl rfl rfl)<|s0<|oB h fun x7 hx7 h=>oB h fun x8 hx8 h=>A0 (E5 rfl rfl rfl) rfl<|S3 (rs:=[(.seq 3 (List.map A8 x7))]) rfl rfl A0t B5 ((U5 hx7).frz)<|B8 (rs:=[.i x8.1,.i x8.2]) rfl rfl (A2 (D8 rfl) (A2 rfl (A2 rfl B5))) ((A22 hx8).frz)<|qm rfl ?_
 refine A0 (A7 rfl rfl) rfl<|A0 (A7 rfl rfl) rfl<|qm rfl<|qm rfl<|es (ra11 rfl rfl rfl rfl rfl rfl rfl rfl rfl rfl rfl)<|s0<|oB h fun x9 hx9 h=>oB h fun x10 hx10 h=>A0 (E5 rfl rfl rfl) rfl<|S3 (rs:=[(.seq 3 (List.map A8 x9))]) rfl rfl A0t B5 ((U5 hx9).frz)<|B8 (rs:=[.i x10.1,.i x10.2]) rfl rfl (A2 (D8 rfl) (A2 rfl B5)) ((A6j hx10).frz)<|qm rfl<|A0 (A7 rfl rfl) rfl<|A0 (A7 rfl rfl) rfl<|qm rfl<|qm rfl<|es (ra12 rfl rfl rfl rfl rfl rfl rfl rfl rfl rfl rfl rfl)<|s0<|oB h fun x11 hx11 h=>oB h fun x12 hx12 h=>A0 (E5 rfl rfl rfl) rfl<|S3 (rs:=[(.seq 3 (List.map A8 x11))]) rfl rfl A0t B5 ((U5 hx11).frz)<|B8 (rs:=[.i x12.1,.i x12.2]) rfl rfl (A2 (D8 rfl) (A2 rfl B5)) ((A6j hx12).frz)<|qm rfl<|A0 (A7 rfl rfl) rfl<|A0 (A7 rfl rfl) rfl<|qm rfl<|qm rfl<|es (ra14 rfl rfl rfl rfl rfl rfl rfl rfl rfl rfl rfl rfl rfl rfl)<|s0<|oB h fun x13 hx13 h=>A0 (E5 rfl rfl rfl) rfl<|B8 (rs:=[(.seq 3 (List.map A8 x13.1)),.i x13.2.1,.i x13.2.2.1,.i x13.2.2.2]) rfl rfl (A2 (D8 rfl) B5) ((A35 (B3k hscv) hx13).frz)<|qm rfl<|A0 (A7 rfl rfl) rfl<|A0 (A7 rfl rfl) rfl<|A0 (A7 rfl rfl) rfl<|A0 (A7 rfl rfl) rfl<|qm rfl<|qm rfl<|qm rfl<|qm rfl<|es (.k rfl (.k rfl (.k rfl (.k rfl (.k rfl (.k rfl (.k rfl (.k rfl (.k rfl (.k rfl (.k rfl (.k rfl (.k rfl (.k rfl (.k rfl (.k rfl (.k rfl (.k rfl .n))))))))))))))))))<|s0<|oB h fun x14 hx14 h=>A0 (E5 rfl rfl rfl) rfl<|B8 (rs:=[(.seq 3 (List.map A8 x14.1)),.i x14.2.1,.i x14.2.2.1,.i x14.2.2.2]) rfl rfl (A2 (D8 rfl) B5) ((A35 (B3k hscv) hx14).frz)<|qm rfl<|A0 (A7 rfl rfl) rfl<|A0 (A7 rfl rfl) rfl<|A0 (A7 rfl rfl) rfl<|A0 (A7 rfl rfl) rfl<|qm rfl<|qm rfl<|qm rfl<|qm rfl<|es (.k rfl (.k rfl (.k rfl (.k rfl (.k rfl (.k rfl (.k rfl (.k rfl (.k rfl (.k rfl (.k rfl (.k rfl (.k rfl (.k rfl (.k rfl (.k rfl (.k rfl (.k rfl (.k rfl (.k rfl .n))))))))))))))))))))<|s0<|oB h fun x15 hx15 h=>A0 (E5 rfl rfl rfl) rfl<|B8 (rs:=[(.seq 1 (List.map cI x15.1)),(.seq 1 (List.map cI x15.2.1)),.i x15.2.2]) rfl rfl (A2 (D8 rfl) B5) ((B6h (B3k hscv) hx15).frz) ?_
 refine qm rfl<|A0 (A7 rfl rfl) rfl<|A0 (A7 rfl rfl) rfl<|A0 (A7 rfl rfl) rfl<|qm rfl<|qm rfl<|qm rfl<|es (.k rfl (.k rfl (.k rfl (.k rfl (.k rfl (.k rfl (.k rfl (.k rfl (.k rfl (.k rfl (.k rfl (.k rfl (.k rfl (.k rfl (.k rfl (.k rfl (.k rfl (.k rfl (.k rfl (.k rfl (.k rfl (.k rfl (.k rfl .n)))))))))))))))))))))))<|s0<|oB h fun x16 hx16 h=>A0 (E5 rfl rfl rfl) rfl<|B8 (rs:=[.i x16.1,.i x16.2]) rfl rfl (A2 (D8 rfl) B5) ((B6j (B3k hscv) hx16).frz)<|qm rfl<|A0 (A7 rfl rfl) rfl<|A0 (A7 rfl rfl) rfl<|qm rfl<|qm rfl<|es (.k rfl (.k rfl (.k rfl (.k rfl (.k rfl (.k rfl (.k rfl (.k rfl (.k rfl (.k rfl (.k rfl (.k rfl (.k rfl (.k rfl (.k rfl (.k rfl (.k rfl (.k rfl (.k rfl (.k rfl (.k rfl (.k rfl (.k rfl (.k rfl .n))))))))))))))))))))))))<|s0<|oB h fun x17 hx17 h=>oB h fun x18 hx18 h=>A0 (E5 rfl rfl rfl) rfl<|S3 (rs:=[(.seq 3 (List.map A8 x17))]) rfl rfl A0t B5 ((U5 hx17).frz)<|B8 (rs:=[(.seq 1 (List.map cI x18.1)),.i x18.2]) rfl rfl (A2 (D8 rfl) (A2 rfl B5)) ((B6i hx18).frz)<|qm rfl<|A0 (A7 rfl rfl) rfl<|A0 (A7 rfl rfl) rfl<|qm rfl<|qm rfl<|es (.k rfl (.k rfl (.k rfl (.k rfl (.k rfl (.k rfl (.k rfl (.k rfl (.k rfl (.k rfl (.k rfl (.k rfl (.k rfl (.k rfl (.k rfl (.k rfl (.k rfl (.k rfl (.k rfl (.k rfl (.k rfl (.k rfl (.k rfl (.k rfl (.k rfl .n)))))))))))))))))))))))))<|s0<|oB h fun x34 hx34 h=>oB h fun x42 hx42 h=>oB h fun x48 hx48 h=>oB h fun x51 hx51 h=>oB h fun x55 hx55 h=>qm rfl<|A0 (I3 rfl rfl) rfl<|qm rfl<|gp 3 108 (.b ((x3.2 == 0) && (x4.2 == 0))) 105 rfl rfl (fun hg19=>?_) (fun hg19=>?_) ?_
 ·exact gT rfl hg19<|qm rfl<|gT rfl hg19<|A0 (I3 rfl rfl) rfl<|A0 (D1 rfl hg19 rfl) rfl<|ge 3 (by rw [hg19]; rfl) rfl rfl
 ·exact nT rfl hg19 rfl<|nT rfl hg19 rfl<|A0 (D0 rfl hg19 rfl) rfl<|ge 3 (by rw [hg19]; rfl) rfl rfl
 refine qm rfl<|gp 3 112 (.b (((x3.2 == 0) && (x4.2 == 0)) && (x6.2 == 0))) 109 rfl rfl (fun hg20=>?_) (fun hg20=>?_) ?_
 ·exact gT rfl hg20<|qm rfl<|gT rfl hg20<|A0 (I3 rfl rfl) rfl<|A0 (D1 rfl hg20 rfl) rfl<|ge 3 (by rw [hg20]; rfl) rfl rfl
 ·exact nT rfl hg20 rfl<|nT rfl hg20 rfl<|A0 (D0 rfl hg20 rfl) rfl<|ge 3 (by rw [hg20]; rfl) rfl rfl
 refine qm rfl<|gp 3 116 (.b ((((x3.2 == 0) && (x4.2 == 0)) && (x6.2 == 0)) && (x8.2 == 0))) 113 rfl rfl (fun hg21=>?_) (fun hg21=>?_) ?_
 ·exact gT rfl hg21<|qm rfl<|gT rfl hg21<|A0 (I3 rfl rfl) rfl<|A0 (D1 rfl hg21 rfl) rfl<|ge 3 (by rw [hg21]; rfl) rfl rfl
 ·exact nT rfl hg21 rfl<|nT rfl hg21 rfl<|A0 (D0 rfl hg21 rfl) rfl<|ge 3 (by rw [hg21]; rfl) rfl rfl
 refine qm rfl<|gp 3 120 (.b (((((x3.2 == 0) && (x4.2 == 0)) && (x6.2 == 0)) && (x8.2 == 0)) && (x12.2 == 0))) 117 rfl rfl (fun hg22=>?_) (fun hg22=>?_) ?_
 ·exact gT rfl hg22<|qm rfl<|gT rfl hg22<|A0 (I3 rfl rfl) rfl<|A0 (D1 rfl hg22 rfl) rfl<|ge 3 (by rw [hg22]; rfl) rfl rfl
 ·exact nT rfl hg22 rfl<|nT rfl hg22 rfl<|A0 (D0 rfl hg22 rfl) rfl<|ge 3 (by rw [hg22]; rfl) rfl rfl
 refine qm rfl<|gp 3 124 (.b ((((((x3.2 == 0) && (x4.2 == 0)) && (x6.2 == 0)) && (x8.2 == 0)) && (x12.2 == 0)) && (x13.2.2.2 == 0))) 121 rfl rfl (fun hg23=>?_) (fun hg23=>?_) ?_
 ·exact gT rfl hg23<|qm rfl<|gT rfl hg23<|A0 (I3 rfl rfl) rfl<|A0 (D1 rfl hg23 rfl) rfl<|ge 3 (by rw [hg23]; rfl) rfl rfl
 ·exact nT rfl hg23 rfl<|nT rfl hg23 rfl<|A0 (D0 rfl hg23 rfl) rfl<|ge 3 (by rw [hg23]; rfl) rfl rfl
 refine qm rfl<|gp 3 128 (.b (((((((x3.2 == 0) && (x4.2 == 0)) && (x6.2 == 0)) && (x8.2 == 0)) && (x12.2 == 0)) && (x13.2.2.2 == 0)) && (x14.2.2.2 == 0))) 125 rfl rfl (fun hg24=>?_) (fun hg24=>?_) ?_
 ·exact gT rfl hg24<|qm rfl<|gT rfl hg24<|A0 (I3 rfl rfl) rfl<|A0 (D1 rfl hg24 rfl) rfl<|ge 3 (by rw [hg24]; rfl) rfl rfl
 ·exact nT rfl hg24 rfl<|nT rfl hg24 rfl<|A0 (D0 rfl hg24 rfl) rfl<|ge 3 (by rw [hg24]; rfl) rfl rfl
 refine qm rfl<|gp 3 132 (.b ((((((((x3.2 == 0) && (x4.2 == 0)) && (x6.2 == 0)) && (x8.2 == 0)) && (x12.2 == 0)) && (x13.2.2.2 == 0)) && (x14.2.2.2 == 0)) && (x15.2.2 == 0))) 129 rfl rfl (fun hg25=>?_) (fun hg25=>?_) ?_
 ·exact gT rfl hg25<|qm rfl<|gT rfl hg25<|A0 (I3 rfl rfl) rfl<|A0 (D1 rfl hg25 rfl) rfl<|ge 3 (by rw [hg25]; rfl) rfl rfl
 ·exact nT rfl hg25 rfl<|nT rfl hg25 rfl<|A0 (D0 rfl hg25 rfl) rfl<|ge 3 (by rw [hg25]; rfl) rfl rfl
 refine qm rfl<|gp 3 136 (.b (((((((((x3.2 == 0) && (x4.2 == 0)) && (x6.2 == 0)) && (x8.2 == 0)) && (x12.2 == 0)) && (x13.2.2.2 == 0)) && (x14.2.2.2 == 0)) && (x15.2.2 == 0)) && (x16.2 == 0))) 133 rfl rfl (fun hg26=>?_) (fun hg26=>?_) ?_
 ·exact gT rfl hg26<|qm rfl<|gT rfl hg26<|A0 (I3 rfl rfl) rfl<|A0 (D1 rfl hg26 rfl) rfl<|ge 3 (by rw [hg26]; rfl) rfl rfl
 ·exact nT rfl hg26 rfl<|nT rfl hg26 rfl<|A0 (D0 rfl hg26 rfl) rfl<|ge 3 (by rw [hg26]; rfl) rfl rfl
 refine qm rfl<|gp 3 140 (.b ((((((((((x3.2 == 0) && (x4.2 == 0)) && (x6.2 == 0)) && (x8.2 == 0)) && (x12.2 == 0)) && (x13.2.2.2 == 0)) && (x14.2.2.2 == 0)) && (x15.2.2 == 0)) && (x16.2 == 0)) && (x18.2 == 0))) 137 rfl rfl (fun hg27=>?_) (fun hg27=>?_) ?_
 ·exact gT rfl hg27<|qm rfl<|gT rfl hg27<|A0 (I3 rfl rfl) rfl<|A0 (D1 rfl hg27 rfl) rfl<|ge 3 (by rw [hg27]; rfl) rfl rfl
 ·exact nT rfl hg27 rfl<|nT rfl hg27 rfl<|A0 (D0 rfl hg27 rfl) rfl<|ge 3 (by rw [hg27]; rfl) rfl rfl
 refine qm rfl<|gp 3 144 (.b (((((((((((x3.2 == 0) && (x4.2 == 0)) && (x6.2 == 0)) && (x8.2 == 0)) && (x12.2 == 0)) && (x13.2.2.2 == 0)) && (x14.2.2.2 == 0)) && (x15.2.2 == 0)) && (x16.2 == 0)) && (x18.2 == 0)) && (x5.2 == 9))) 141 rfl rfl (fun hg28=>?_) (fun hg28=>?_) ?_
 ·exact gT rfl hg28<|qm rfl<|gT rfl hg28<|A0 (I3 rfl rfl) rfl<|A0 (D1 rfl hg28 rfl) rfl<|ge 3 (by rw [hg28]; rfl) rfl rfl
 ·exact nT rfl hg28 rfl<|nT rfl hg28 rfl<|A0 (D0 rfl hg28 rfl) rfl<|ge 3 (by rw [hg28]; rfl) rfl rfl
 refine qm rfl<|gp 3 148 (.b ((((((((((((x3.2 == 0) && (x4.2 == 0)) && (x6.2 == 0)) && (x8.2 == 0)) && (x12.2 == 0)) && (x13.2.2.2 == 0)) && (x14.2.2.2 == 0)) && (x15.2.2 == 0)) && (x16.2 == 0)) && (x18.2 == 0)) && (x5.2 == 9)) && (x10.2 == 4))) 145 rfl rfl (fun hg29=>?_) (fun hg29=>?_) ?_
 ·exact gT rfl hg29<|qm rfl<|gT rfl hg29<|A0 (I3 rfl rfl) rfl<|A0 (D1 rfl hg29 rfl) rfl<|ge 3 (by rw [hg29]; rfl) rfl rfl
 ·exact nT rfl hg29 rfl<|nT rfl hg29 rfl<|A0 (D0 rfl hg29 rfl) rfl<|ge 3 (by rw [hg29]; rfl) rfl rfl
 refine qm rfl<|gp 3 152 (.b (((((((((((((x3.2 == 0) && (x4.2 == 0)) && (x6.2 == 0)) && (x8.2 == 0)) && (x12.2 == 0)) && (x13.2.2.2 == 0)) && (x14.2.2.2 == 0)) && (x15.2.2 == 0)) && (x16.2 == 0)) && (x18.2 == 0)) && (x5.2 == 9)) && (x10.2 == 4)) && (x3.1 == 110))) 149 rfl rfl (fun hg30=>?_) (fun hg30=>?_) ?_
 ·exact gT rfl hg30<|qm rfl<|gT rfl hg30<|A0 (I3 rfl rfl) rfl<|A0 (D1 rfl hg30 rfl) rfl<|ge 3 (by rw [hg30]; rfl) rfl rfl
 ·exact nT rfl hg30 rfl<|nT rfl hg30 rfl<|A0 (D0 rfl hg30 rfl) rfl<|ge 3 (by rw [hg30]; rfl) rfl rfl
 refine qm rfl<|gp 3 156 (.b ((((((((((((((x3.2 == 0) && (x4.2 == 0)) && (x6.2 == 0)) && (x8.2 == 0)) && (x12.2 == 0)) && (x13.2.2.2 == 0)) && (x14.2.2.2 == 0)) && (x15.2.2 == 0)) && (x16.2 == 0)) && (x18.2 == 0)) && (x5.2 == 9)) && (x10.2 == 4)) && (x3.1 == 110)) && (x4.1 == 48))) 153 rfl rfl (fun hg31=>?_) (fun hg31=>?_) ?_
 ·exact gT rfl hg31<|qm rfl<|gT rfl hg31<|A0 (I3 rfl rfl) rfl<|A0 (D1 rfl hg31 rfl) rfl<|ge 3 (by rw [hg31]; rfl) rfl rfl
 ·exact nT rfl hg31 rfl<|nT rfl hg31 rfl<|A0 (D0 rfl hg31 rfl) rfl<|ge 3 (by rw [hg31]; rfl) rfl rfl
 refine qm rfl<|gp 4 161 (.b x34) 157 rfl rfl (fun hg32=>?_) (fun hg32=>?_) ?_
 ·refine oB (bt hx34 hg32) fun x33 hx33 hx34=>?_
  obtain rfl:=os hx34
  exact gT rfl hg32<|qm rfl<|gT rfl hg32<|A0 (I1 (rows:=List.map cI [0,1,2]) rfl rfl (E0 (fun _=>rfl) _)) rfl<|gT rfl hg32<|B8 (rs:=[.b x33]) rfl rfl (A2 rfl (A2 rfl B5)) ((U6 hx33).frz)<|A0 (D1 rfl hg32 rfl) rfl<|ge 4 rfl rfl rfl
 ·obtain rfl:=os (bf hx34 hg32)
  exact nT rfl hg32 rfl<|nT rfl hg32 rfl<|K6 (F4 rfl (by rw [hg32]; rfl)) rfl<|A0 (D0 rfl hg32 rfl) rfl<|ge 4 rfl rfl rfl
 refine qm rfl<|gp 3 165 (.b (x34 && (x8.1 == 102))) 162 rfl rfl (fun hg35=>?_) (fun hg35=>?_) ?_
 ·exact gT rfl hg35<|qm rfl<|gT rfl hg35<|A0 (I3 rfl rfl) rfl<|A0 (D1 rfl hg35 rfl) rfl<|ge 3 (by rw [hg35]; rfl) rfl rfl
 ·exact nT rfl hg35 rfl<|nT rfl hg35 rfl<|A0 (D0 rfl hg35 rfl) rfl<|ge 3 (by rw [hg35]; rfl) rfl rfl
 refine qm rfl<|gp 3 169 (.b ((x34 && (x8.1 == 102)) && (x12.1 == 0))) 166 rfl rfl (fun hg36=>?_) (fun hg36=>?_) ?_
 ·exact gT rfl hg36<|qm rfl<|gT rfl hg36<|A0 (I3 rfl rfl) rfl<|A0 (D1 rfl hg36 rfl) rfl<|ge 3 (by rw [hg36]; rfl) rfl rfl
 ·exact nT rfl hg36 rfl<|nT rfl hg36 rfl<|A0 (D0 rfl hg36 rfl) rfl<|ge 3 (by rw [hg36]; rfl) rfl rfl
 refine qm rfl<|gp 7 177 (.b x42) 170 rfl rfl (fun hg37=>?_) (fun hg37=>?_) ?_
 ·refine oB (bt hx42 hg37) fun x38 hx38 hx42=>oB hx42 fun x39 hx39 hx42=>oB hx42 fun x40 hx40 hx42=>oB hx42 fun x41 hx41 hx42=>?_
  obtain rfl:=os hx42
  exact gT rfl hg37<|qm rfl<|gT rfl hg37<|B8 (rs:=[(.agg (A8 x38))]) rfl rfl (A2 rfl (A2 rfl (A2 rfl B5))) ((O2 hx38).frz)<|gT rfl hg37<|B8 (rs:=[(.agg (A8 x39))]) rfl rfl (A2 rfl (A2 rfl (A2 rfl B5))) ((O2 hx39).frz)<|gT rfl hg37<|B8 (rs:=[(.agg (A8 x40))]) rfl rfl (A2 rfl (A2 rfl (A2 rfl B5))) ((O2 hx40).frz)<|gT rfl hg37<|A0 (I1 (rows:=List.map A8 [x38,x39,x40]) rfl rfl (E0 (fun _=>rfl) _)) rfl<|gT rfl hg37<|B8 (rs:=[.b x41]) rfl rfl (A2 rfl (A2 rfl B5)) ((A6l hx41).frz)<|A0 (D1 rfl hg37 rfl) rfl<|ge 7 rfl rfl rfl
 ·obtain rfl:=os (bf hx42 hg37)
  exact nT rfl hg37 rfl<|K6 (F4 rfl (by rw [hg37]; rfl)) rfl<|K6 (F4 rfl (by rw [hg37]; rfl)) rfl<|K6 (F4 rfl (by rw [hg37]; rfl)) rfl<|nT rfl hg37 rfl<|K6 (F4 rfl (by rw [hg37]; rfl)) rfl<|A0 (D0 rfl hg37 rfl) rfl<|ge 7 rfl rfl rfl
 refine qm rfl<|gp 3 181 (.b (x42 && (x13.2.1 == 0))) 178 rfl rfl (fun hg43=>?_) (fun hg43=>?_) ?_
 ·exact gT rfl hg43<|qm rfl<|gT rfl hg43<|A0 (I3 rfl rfl) rfl<|A0 (D1 rfl hg43 rfl) rfl<|ge 3 (by rw [hg43]; rfl) rfl rfl
 ·exact nT rfl hg43 rfl<|nT rfl hg43 rfl<|A0 (D0 rfl hg43 rfl) rfl<|ge 3 (by rw [hg43]; rfl) rfl rfl
 refine qm rfl<|gp 3 185 (.b ((x42 && (x13.2.1 == 0)) && (x13.2.2.1 == 78))) 182 rfl rfl (fun hg44=>?_) (fun hg44=>?_) ?_
 ·exact gT rfl hg44<|qm rfl<|gT rfl hg44<|A0 (I3 rfl rfl) rfl<|A0 (D1 rfl hg44 rfl) rfl<|ge 3 (by rw [hg44]; rfl) rfl rfl
 ·exact nT rfl hg44 rfl<|nT rfl hg44 rfl<|A0 (D0 rfl hg44 rfl) rfl<|ge 3 (by rw [hg44]; rfl) rfl rfl
 refine qm rfl<|gp 3 189 (.b (((x42 && (x13.2.1 == 0)) && (x13.2.2.1 == 78)) && (x14.2.1 == 2))) 186 rfl rfl (fun hg45=>?_) (fun hg45=>?_) ?_
 ·exact gT rfl hg45<|qm rfl<|gT rfl hg45<|A0 (I3 rfl rfl) rfl<|A0 (D1 rfl hg45 rfl) rfl<|ge 3 (by rw [hg45]; rfl) rfl rfl
 ·exact nT rfl hg45 rfl<|nT rfl hg45 rfl<|A0 (D0 rfl hg45 rfl) rfl<|ge 3 (by rw [hg45]; rfl) rfl rfl
 refine qm rfl<|gp 4 194 (.b x48) 190 rfl rfl (fun hg46=>?_) (fun hg46=>?_) ?_
 ·refine oB (bt hx48 hg46) fun x47 hx47 hx48=>?_
  obtain rfl:=os hx48
  exact gT rfl hg46<|qm rfl<|gT rfl hg46<|A0 (I1 (rows:=List.map cI [0,2]) rfl rfl (E0 (fun _=>rfl) _)) rfl<|gT rfl hg46<|B8 (rs:=[.b x47]) rfl rfl (A2 rfl (A2 rfl B5)) ((U6 hx47).frz)<|A0 (D1 rfl hg46 rfl) rfl<|ge 4 rfl rfl rfl
 ·obtain rfl:=os (bf hx48 hg46)
  exact nT rfl hg46 rfl<|nT rfl hg46 rfl<|K6 (F4 rfl (by rw [hg46]; rfl)) rfl<|A0 (D0 rfl hg46 rfl) rfl<|ge 4 rfl rfl rfl
 refine qm rfl<|gp 4 199 (.b x51) 195 rfl rfl (fun hg49=>?_) (fun hg49=>?_) ?_
 ·refine oB (bt hx51 hg49) fun x50 hx50 hx51=>?_
  obtain rfl:=os hx51
  exact gT rfl hg49<|qm rfl<|gT rfl hg49<|A0 (I1 (rows:=List.map cI [0,2]) rfl rfl (E0 (fun _=>rfl) _)) rfl<|gT rfl hg49<|B8 (rs:=[.b x50]) rfl rfl (A2 rfl (A2 rfl B5)) ((U6 hx50).frz)<|A0 (D1 rfl hg49 rfl) rfl<|ge 4 rfl rfl rfl
 ·obtain rfl:=os (bf hx51 hg49)
  exact nT rfl hg49 rfl<|nT rfl hg49 rfl<|K6 (F4 rfl (by rw [hg49]; rfl)) rfl<|A0 (D0 rfl hg49 rfl) rfl<|ge 4 rfl rfl rfl
 refine qm rfl<|gp 3 203 (.b (x51 && (x16.1 == 58))) 200 rfl rfl (fun hg52=>?_) (fun hg52=>?_) ?_
 ·exact gT rfl hg52<|qm rfl<|gT rfl hg52<|A0 (I3 rfl rfl) rfl<|A0 (D1 rfl hg52 rfl) rfl<|ge 3 (by rw [hg52]; rfl) rfl rfl
 ·exact nT rfl hg52 rfl<|nT rfl hg52 rfl<|A0 (D0 rfl hg52 rfl) rfl<|ge 3 (by rw [hg52]; rfl) rfl rfl
 refine qm rfl<|gp 4 208 (.b x55) 204 rfl rfl (fun hg53=>?_) (fun hg53=>?_) ?_
 ·refine oB (bt hx55 hg53) fun x54 hx54 hx55=>?_
  obtain rfl:=os hx55
  exact gT rfl hg53<|qm rfl<|gT rfl hg53<|A0 (I1 (rows:=List.map cI [2]) rfl rfl (E0 (fun _=>rfl) _)) rfl<|gT rfl hg53<|B8 (rs:=[.b x54]) rfl rfl (A2 rfl (A2 rfl B5)) ((U6 hx54).frz)<|A0 (D1 rfl hg53 rfl) rfl<|ge 4 rfl rfl rfl
 ·obtain rfl:=os (bf hx55 hg53)
  exact nT rfl hg53 rfl<|nT rfl hg53 rfl<|K6 (F4 rfl (by rw [hg53]; rfl)) rfl<|A0 (D0 rfl hg53 rfl) rfl<|ge 4 rfl rfl rfl
 refine qm rfl<|es (ra1 rfl)<|C7 ?_
 obtain rfl:=os h
 exact retq trivial (A9 rfl C0) (A5 rfl B9) (A3 A4 B1)
def A1b :Option Bool :=
 (A0p false).bind fun x1 =>
 (Z6 x1 0 0).bind fun x2 =>
 (Z6 x1 0 9).bind fun x3 =>
 (Z6 x1 2 30).bind fun x4 =>
 (A06 x1 0 0).bind fun x5 =>
 (A2b x1 0).bind fun x6 =>
 (A2b x1 2).bind fun x7 =>
 (W2).bind fun x8 =>
 (A2a x1 x8 0).bind fun x9 =>
 (W2).bind fun x10 =>
 (A2a x1 x10 40).bind fun x11 =>
 (A0p true).bind fun x12 =>
 (A3i x12).bind fun x13 =>
 (if (((((((((((((x2.2 == 0) && (x3.2 == 0)) && (x4.2 == 0)) && (x5.2 == 0)) && (x6.2 == 0)) && (x7.2 == 0)) && (x9.2 == 0)) && (x11.2 == 0)) && (x13.2.2.2 == 0)) && (x2.1 == 100)) && (x3.1 == 100)) && (x4.1 == 130)) && (x5.1 == 30)) = true then
  (W4 x6.1 [0,2]).bind fun x27 =>
  some x27
 else
  some false).bind fun x28 =>
 (if x28 = true then
  (W4 x7.1 [2]).bind fun x30 =>
  some x30
 else
  some false).bind fun x31 =>
 (if ((x31 && (x9.1 == 0)) && (x11.1 == 150)) = true then
  (R9 (-1) 0 0).bind fun x35 =>
  (R9 1 0 0).bind fun x36 =>
  (R9 (-1) 0 0).bind fun x37 =>
  (A4g x13.1 [x35,x36,x37]).bind fun x38 =>
  some x38
 else
  some false).bind fun x39 =>
 (if x39 = true then
  (A2r).bind fun x41 =>
  some x41
 else
  some false).bind fun x42 =>
 some x42
theorem A67 {c:Sc} {H:A1} (hscv:O8 c H = true)  {r:Bool} (h:A1b  = some r) :
  F2 tab c H (.fn (.func 3) [] []) [] [.b r]:= by
 unfold A1b at h
 refine cE rfl rfl<|s0<|qm rfl<|es .n<|sg 0 rfl<|oB h fun x1 hx1 h=>B8 (rs:=[(.agg (B6 x1))]) rfl rfl (A2 rfl B5) ((A01 hx1).frz)<|A0 G8 rfl<|M4 (E4 (ds:=(B6 x1)) rfl rfl rfl rfl (D9 rfl) rfl) rfl<|es (ra1 rfl)<|s0<|oB h fun x2 hx2 h=>A0 (E5 rfl rfl rfl) rfl<|B8 (rs:=[.i x2.1,.i x2.2]) rfl rfl (A2 (D8 rfl) (A2 rfl (A2 rfl B5))) ((A0d hx2).frz)<|qm rfl<|A0 (A7 rfl rfl) rfl<|A0 (A7 rfl rfl) rfl<|qm rfl<|qm rfl<|es (ra3 rfl rfl rfl)<|s0<|oB h fun x3 hx3 h=>A0 (E5 rfl rfl rfl) rfl<|B8 (rs:=[.i x3.1,.i x3.2]) rfl rfl (A2 (D8 rfl) (A2 rfl (A2 rfl B5))) ((A0d hx3).frz)<|qm rfl<|A0 (A7 rfl rfl) rfl<|A0 (A7 rfl rfl) rfl<|qm rfl<|qm rfl<|es (ra5 rfl rfl rfl rfl rfl)<|s0<|oB h fun x4 hx4 h=>A0 (E5 rfl rfl rfl) rfl<|B8 (rs:=[.i x4.1,.i x4.2]) rfl rfl (A2 (D8 rfl) (A2 rfl (A2 rfl B5))) ((A0d hx4).frz)<|qm rfl<|A0 (A7 rfl rfl) rfl<|A0 (A7 rfl rfl) rfl<|qm rfl<|qm rfl<|es (ra7 rfl rfl rfl rfl rfl rfl rfl)<|s0<|oB h fun x5 hx5 h=>A0 (E5 rfl rfl rfl) rfl<|B8 (rs:=[.i x5.1,.i x5.2]) rfl rfl (A2 (D8 rfl) (A2 rfl (A2 rfl B5))) ((A17 hx5).frz)<|qm rfl<|A0 (A7 rfl rfl) rfl<|A0 (A7 rfl rfl) rfl<|qm rfl<|qm rfl<|es (ra9 rfl rfl rfl rfl rfl rfl rfl rfl rfl)<|s0<|oB h fun x6 hx6 h=>A0 (E5 rfl rfl rfl) rfl<|B8 (rs:=[(.seq 1 (List.map cI x6.1)),.i x6.2]) rfl rfl (A2 (D8 rfl) (A2 rfl B5)) ((A23 hx6).frz)<|qm rfl<|A0 (A7 rfl rfl) rfl<|A0 (A7 rfl rfl) rfl<|qm rfl<|qm rfl<|es (ra11 rfl rfl rfl rfl rfl rfl rfl rfl rfl rfl rfl)<|s0 ?_
 refine oB h fun x7 hx7 h=>A0 (E5 rfl rfl rfl) rfl<|B8 (rs:=[(.seq 1 (List.map cI x7.1)),.i x7.2]) rfl rfl (A2 (D8 rfl) (A2 rfl B5)) ((A23 hx7).frz)<|qm rfl<|A0 (A7 rfl rfl) rfl<|A0 (A7 rfl rfl) rfl<|qm rfl<|qm rfl<|es (ra13 rfl rfl rfl rfl rfl rfl rfl rfl rfl rfl rfl rfl rfl)<|s0<|oB h fun x8 hx8 h=>oB h fun x9 hx9 h=>A0 (E5 rfl rfl rfl) rfl<|S3 (rs:=[(.seq 3 (List.map A8 x8))]) rfl rfl A0t B5 ((U5 hx8).frz)<|B8 (rs:=[.i x9.1,.i x9.2]) rfl rfl (A2 (D8 rfl) (A2 rfl (A2 rfl B5))) ((A22 hx9).frz)<|qm rfl<|A0 (A7 rfl rfl) rfl<|A0 (A7 rfl rfl) rfl<|qm rfl<|qm rfl<|es (.k rfl (.k rfl (.k rfl (.k rfl (.k rfl (.k rfl (.k rfl (.k rfl (.k rfl (.k rfl (.k rfl (.k rfl (.k rfl (.k rfl (.k rfl .n)))))))))))))))<|s0<|oB h fun x10 hx10 h=>oB h fun x11 hx11 h=>A0 (E5 rfl rfl rfl) rfl<|S3 (rs:=[(.seq 3 (List.map A8 x10))]) rfl rfl A0t B5 ((U5 hx10).frz)<|B8 (rs:=[.i x11.1,.i x11.2]) rfl rfl (A2 (D8 rfl) (A2 rfl (A2 rfl B5))) ((A22 hx11).frz)<|qm rfl<|A0 (A7 rfl rfl) rfl<|A0 (A7 rfl rfl) rfl<|qm rfl<|qm rfl<|es (.k rfl (.k rfl (.k rfl (.k rfl (.k rfl (.k rfl (.k rfl (.k rfl (.k rfl (.k rfl (.k rfl (.k rfl (.k rfl (.k rfl (.k rfl (.k rfl .n))))))))))))))))<|s0<|oB h fun x12 hx12 h=>oB h fun x13 hx13 h=>B8 (rs:=[(.agg (B6 x12))]) rfl rfl (A2 rfl B5) ((A01 hx12).frz)<|B8 (rs:=[(.seq 3 (List.map A8 x13.1)),.i x13.2.1,.i x13.2.2.1,.i x13.2.2.2]) rfl rfl (A2 (D8 rfl) B5) ((A35 (B3k hscv) hx13).frz)<|qm rfl<|A0 (A7 rfl rfl) rfl<|A0 (A7 rfl rfl) rfl<|A0 (A7 rfl rfl) rfl<|A0 (A7 rfl rfl) rfl<|qm rfl<|qm rfl<|qm rfl<|qm rfl<|es (.k rfl (.k rfl (.k rfl (.k rfl (.k rfl (.k rfl (.k rfl (.k rfl (.k rfl (.k rfl (.k rfl (.k rfl (.k rfl (.k rfl (.k rfl (.k rfl (.k rfl (.k rfl .n))))))))))))))))))<|s0<|oB h fun x28 hx28 h=>oB h fun x31 hx31 h=>oB h fun x39 hx39 h=>oB h fun x42 hx42 h=>qm rfl<|A0 (I3 rfl rfl) rfl<|qm rfl<|gp 3 77 (.b ((x2.2 == 0) && (x3.2 == 0))) 74 rfl rfl (fun hg14=>?_) (fun hg14=>?_) ?_
 ·exact gT rfl hg14<|qm rfl<|gT rfl hg14<|A0 (I3 rfl rfl) rfl<|A0 (D1 rfl hg14 rfl) rfl<|ge 3 (by rw [hg14]; rfl) rfl rfl
 ·exact nT rfl hg14 rfl<|nT rfl hg14 rfl<|A0 (D0 rfl hg14 rfl) rfl<|ge 3 (by rw [hg14]; rfl) rfl rfl
 refine qm rfl<|gp 3 81 (.b (((x2.2 == 0) && (x3.2 == 0)) && (x4.2 == 0))) 78 rfl rfl (fun hg15=>?_) (fun hg15=>?_) ?_
 ·exact gT rfl hg15<|qm rfl<|gT rfl hg15<|A0 (I3 rfl rfl) rfl<|A0 (D1 rfl hg15 rfl) rfl<|ge 3 (by rw [hg15]; rfl) rfl rfl
 ·exact nT rfl hg15 rfl<|nT rfl hg15 rfl<|A0 (D0 rfl hg15 rfl) rfl<|ge 3 (by rw [hg15]; rfl) rfl rfl
 refine qm rfl<|gp 3 85 (.b ((((x2.2 == 0) && (x3.2 == 0)) && (x4.2 == 0)) && (x5.2 == 0))) 82 rfl rfl (fun hg16=>?_) (fun hg16=>?_) ?_
 ·exact gT rfl hg16<|qm rfl<|gT rfl hg16<|A0 (I3 rfl rfl) rfl<|A0 (D1 rfl hg16 rfl) rfl<|ge 3 (by rw [hg16]; rfl) rfl rfl
 ·exact nT rfl hg16 rfl<|nT rfl hg16 rfl<|A0 (D0 rfl hg16 rfl) rfl<|ge 3 (by rw [hg16]; rfl) rfl rfl
 refine qm rfl<|gp 3 89 (.b (((((x2.2 == 0) && (x3.2 == 0)) && (x4.2 == 0)) && (x5.2 == 0)) && (x6.2 == 0))) 86 rfl rfl (fun hg17=>?_) (fun hg17=>?_) ?_
 ·exact gT rfl hg17<|qm rfl<|gT rfl hg17<|A0 (I3 rfl rfl) rfl<|A0 (D1 rfl hg17 rfl) rfl<|ge 3 (by rw [hg17]; rfl) rfl rfl
 ·exact nT rfl hg17 rfl<|nT rfl hg17 rfl<|A0 (D0 rfl hg17 rfl) rfl<|ge 3 (by rw [hg17]; rfl) rfl rfl
 refine qm rfl<|gp 3 93 (.b ((((((x2.2 == 0) && (x3.2 == 0)) && (x4.2 == 0)) && (x5.2 == 0)) && (x6.2 == 0)) && (x7.2 == 0))) 90 rfl rfl (fun hg18=>?_) (fun hg18=>?_) ?_
 ·exact gT rfl hg18<|qm rfl<|gT rfl hg18<|A0 (I3 rfl rfl) rfl<|A0 (D1 rfl hg18 rfl) rfl<|ge 3 (by rw [hg18]; rfl) rfl rfl
 ·exact nT rfl hg18 rfl<|nT rfl hg18 rfl<|A0 (D0 rfl hg18 rfl) rfl<|ge 3 (by rw [hg18]; rfl) rfl rfl
 refine qm rfl<|gp 3 97 (.b (((((((x2.2 == 0) && (x3.2 == 0)) && (x4.2 == 0)) && (x5.2 == 0)) && (x6.2 == 0)) && (x7.2 == 0)) && (x9.2 == 0))) 94 rfl rfl (fun hg19=>?_) (fun hg19=>?_) ?_
 ·exact gT rfl hg19<|qm rfl<|gT rfl hg19<|A0 (I3 rfl rfl) rfl<|A0 (D1 rfl hg19 rfl) rfl<|ge 3 (by rw [hg19]; rfl) rfl rfl
 ·exact nT rfl hg19 rfl<|nT rfl hg19 rfl<|A0 (D0 rfl hg19 rfl) rfl<|ge 3 (by rw [hg19]; rfl) rfl rfl
 refine qm rfl<|gp 3 101 (.b ((((((((x2.2 == 0) && (x3.2 == 0)) && (x4.2 == 0)) && (x5.2 == 0)) && (x6.2 == 0)) && (x7.2 == 0)) && (x9.2 == 0)) && (x11.2 == 0))) 98 rfl rfl (fun hg20=>?_) (fun hg20=>?_) ?_
 ·exact gT rfl hg20<|qm rfl<|gT rfl hg20<|A0 (I3 rfl rfl) rfl<|A0 (D1 rfl hg20 rfl) rfl<|ge 3 (by rw [hg20]; rfl) rfl rfl
 ·exact nT rfl hg20 rfl<|nT rfl hg20 rfl<|A0 (D0 rfl hg20 rfl) rfl<|ge 3 (by rw [hg20]; rfl) rfl rfl
 refine qm rfl<|gp 3 105 (.b (((((((((x2.2 == 0) && (x3.2 == 0)) && (x4.2 == 0)) && (x5.2 == 0)) && (x6.2 == 0)) && (x7.2 == 0)) && (x9.2 == 0)) && (x11.2 == 0)) && (x13.2.2.2 == 0))) 102 rfl rfl (fun hg21=>?_) (fun hg21=>?_) ?_
 ·exact gT rfl hg21<|qm rfl<|gT rfl hg21<|A0 (I3 rfl rfl) rfl<|A0 (D1 rfl hg21 rfl) rfl<|ge 3 (by rw [hg21]; rfl) rfl rfl
 ·exact nT rfl hg21 rfl<|nT rfl hg21 rfl<|A0 (D0 rfl hg21 rfl) rfl<|ge 3 (by rw [hg21]; rfl) rfl rfl
 refine qm rfl<|gp 3 109 (.b ((((((((((x2.2 == 0) && (x3.2 == 0)) && (x4.2 == 0)) && (x5.2 == 0)) && (x6.2 == 0)) && (x7.2 == 0)) && (x9.2 == 0)) && (x11.2 == 0)) && (x13.2.2.2 == 0)) && (x2.1 == 100))) 106 rfl rfl (fun hg22=>?_) (fun hg22=>?_) ?_
 ·exact gT rfl hg22<|qm rfl<|gT rfl hg22<|A0 (I3 rfl rfl) rfl<|A0 (D1 rfl hg22 rfl) rfl<|ge 3 (by rw [hg22]; rfl) rfl rfl
 ·exact nT rfl hg22 rfl<|nT rfl hg22 rfl<|A0 (D0 rfl hg22 rfl) rfl<|ge 3 (by rw [hg22]; rfl) rfl rfl
 refine qm rfl<|gp 3 113 (.b (((((((((((x2.2 == 0) && (x3.2 == 0)) && (x4.2 == 0)) && (x5.2 == 0)) && (x6.2 == 0)) && (x7.2 == 0)) && (x9.2 == 0)) && (x11.2 == 0)) && (x13.2.2.2 == 0)) && (x2.1 == 100)) && (x3.1 == 100))) 110 rfl rfl (fun hg23=>?_) (fun hg23=>?_) ?_
 ·exact gT rfl hg23<|qm rfl<|gT rfl hg23<|A0 (I3 rfl rfl) rfl<|A0 (D1 rfl hg23 rfl) rfl<|ge 3 (by rw [hg23]; rfl) rfl rfl
 ·exact nT rfl hg23 rfl<|nT rfl hg23 rfl<|A0 (D0 rfl hg23 rfl) rfl<|ge 3 (by rw [hg23]; rfl) rfl rfl
 refine qm rfl<|gp 3 117 (.b ((((((((((((x2.2 == 0) && (x3.2 == 0)) && (x4.2 == 0)) && (x5.2 == 0)) && (x6.2 == 0)) && (x7.2 == 0)) && (x9.2 == 0)) && (x11.2 == 0)) && (x13.2.2.2 == 0)) && (x2.1 == 100)) && (x3.1 == 100)) && (x4.1 == 130))) 114 rfl rfl (fun hg24=>?_) (fun hg24=>?_) ?_
 ·exact gT rfl hg24<|qm rfl<|gT rfl hg24<|A0 (I3 rfl rfl) rfl<|A0 (D1 rfl hg24 rfl) rfl<|ge 3 (by rw [hg24]; rfl) rfl rfl
 ·exact nT rfl hg24 rfl<|nT rfl hg24 rfl<|A0 (D0 rfl hg24 rfl) rfl<|ge 3 (by rw [hg24]; rfl) rfl rfl
 refine qm rfl<|gp 3 121 (.b (((((((((((((x2.2 == 0) && (x3.2 == 0)) && (x4.2 == 0)) && (x5.2 == 0)) && (x6.2 == 0)) && (x7.2 == 0)) && (x9.2 == 0)) && (x11.2 == 0)) && (x13.2.2.2 == 0)) && (x2.1 == 100)) && (x3.1 == 100)) && (x4.1 == 130)) && (x5.1 == 30))) 118 rfl rfl (fun hg25=>?_) (fun hg25=>?_) ?_
 ·exact gT rfl hg25<|qm rfl<|gT rfl hg25<|A0 (I3 rfl rfl) rfl<|A0 (D1 rfl hg25 rfl) rfl<|ge 3 (by rw [hg25]; rfl) rfl rfl
 ·exact nT rfl hg25 rfl<|nT rfl hg25 rfl<|A0 (D0 rfl hg25 rfl) rfl<|ge 3 (by rw [hg25]; rfl) rfl rfl
 refine qm rfl<|gp 4 126 (.b x28) 122 rfl rfl (fun hg26=>?_) (fun hg26=>?_) ?_
 ·refine oB (bt hx28 hg26) fun x27 hx27 hx28=>?_
  obtain rfl:=os hx28
  exact gT rfl hg26<|qm rfl<|gT rfl hg26<|A0 (I1 (rows:=List.map cI [0,2]) rfl rfl (E0 (fun _=>rfl) _)) rfl<|gT rfl hg26<|B8 (rs:=[.b x27]) rfl rfl (A2 rfl (A2 rfl B5)) ((U6 hx27).frz)<|A0 (D1 rfl hg26 rfl) rfl<|ge 4 rfl rfl rfl
 ·obtain rfl:=os (bf hx28 hg26)
  exact nT rfl hg26 rfl<|nT rfl hg26 rfl<|K6 (F4 rfl (by rw [hg26]; rfl)) rfl<|A0 (D0 rfl hg26 rfl) rfl<|ge 4 rfl rfl rfl
 refine qm rfl<|gp 4 131 (.b x31) 127 rfl rfl (fun hg29=>?_) (fun hg29=>?_) ?_
 ·refine oB (bt hx31 hg29) fun x30 hx30 hx31=>?_
  obtain rfl:=os hx31
  exact gT rfl hg29<|qm rfl<|gT rfl hg29<|A0 (I1 (rows:=List.map cI [2]) rfl rfl (E0 (fun _=>rfl) _)) rfl<|gT rfl hg29<|B8 (rs:=[.b x30]) rfl rfl (A2 rfl (A2 rfl B5)) ((U6 hx30).frz)<|A0 (D1 rfl hg29 rfl) rfl<|ge 4 rfl rfl rfl
 ·obtain rfl:=os (bf hx31 hg29)
  exact nT rfl hg29 rfl<|nT rfl hg29 rfl<|K6 (F4 rfl (by rw [hg29]; rfl)) rfl<|A0 (D0 rfl hg29 rfl) rfl<|ge 4 rfl rfl rfl
 refine qm rfl<|gp 3 135 (.b (x31 && (x9.1 == 0))) 132 rfl rfl (fun hg32=>?_) (fun hg32=>?_) ?_
 ·exact gT rfl hg32<|qm rfl<|gT rfl hg32<|A0 (I3 rfl rfl) rfl<|A0 (D1 rfl hg32 rfl) rfl<|ge 3 (by rw [hg32]; rfl) rfl rfl
 ·exact nT rfl hg32 rfl<|nT rfl hg32 rfl<|A0 (D0 rfl hg32 rfl) rfl<|ge 3 (by rw [hg32]; rfl) rfl rfl
 refine qm rfl<|gp 3 139 (.b ((x31 && (x9.1 == 0)) && (x11.1 == 150))) 136 rfl rfl (fun hg33=>?_) (fun hg33=>?_) ?_
 ·exact gT rfl hg33<|qm rfl<|gT rfl hg33<|A0 (I3 rfl rfl) rfl<|A0 (D1 rfl hg33 rfl) rfl<|ge 3 (by rw [hg33]; rfl) rfl rfl
 ·exact nT rfl hg33 rfl<|nT rfl hg33 rfl<|A0 (D0 rfl hg33 rfl) rfl<|ge 3 (by rw [hg33]; rfl) rfl rfl
 refine qm rfl<|gp 7 147 (.b x39) 140 rfl rfl (fun hg34=>?_) (fun hg34=>?_) ?_
 ·refine oB (bt hx39 hg34) fun x35 hx35 hx39=>oB hx39 fun x36 hx36 hx39=>oB hx39 fun x37 hx37 hx39=>oB hx39 fun x38 hx38 hx39=>?_
  obtain rfl:=os hx39
  exact gT rfl hg34<|qm rfl<|gT rfl hg34<|B8 (rs:=[(.agg (A8 x35))]) rfl rfl (A2 rfl (A2 rfl (A2 rfl B5))) ((O2 hx35).frz)<|gT rfl hg34<|B8 (rs:=[(.agg (A8 x36))]) rfl rfl (A2 rfl (A2 rfl (A2 rfl B5))) ((O2 hx36).frz)<|gT rfl hg34<|B8 (rs:=[(.agg (A8 x37))]) rfl rfl (A2 rfl (A2 rfl (A2 rfl B5))) ((O2 hx37).frz)<|gT rfl hg34<|A0 (I1 (rows:=List.map A8 [x35,x36,x37]) rfl rfl (E0 (fun _=>rfl) _)) rfl<|gT rfl hg34<|B8 (rs:=[.b x38]) rfl rfl (A2 rfl (A2 rfl B5)) ((A6l hx38).frz)<|A0 (D1 rfl hg34 rfl) rfl<|ge 7 rfl rfl rfl
 ·obtain rfl:=os (bf hx39 hg34)
  exact nT rfl hg34 rfl<|K6 (F4 rfl (by rw [hg34]; rfl)) rfl<|K6 (F4 rfl (by rw [hg34]; rfl)) rfl<|K6 (F4 rfl (by rw [hg34]; rfl)) rfl<|nT rfl hg34 rfl<|K6 (F4 rfl (by rw [hg34]; rfl)) rfl<|A0 (D0 rfl hg34 rfl) rfl<|ge 7 rfl rfl rfl
 refine qm rfl<|gp 2 150 (.b x42) 148 rfl rfl (fun hg40=>?_) (fun hg40=>?_) ?_
 ·refine oB (bt hx42 hg40) fun x41 hx41 hx42=>?_
  obtain rfl:=os hx42
  exact gT rfl hg40<|B8 (rs:=[.b x41]) rfl rfl B5 ((B2z (B3k hscv) hx41).frz)<|A0 (D1 rfl hg40 rfl) rfl<|ge 2 rfl rfl rfl
 ·obtain rfl:=os (bf hx42 hg40)
  exact K6 (F4 rfl (by rw [hg40]; rfl)) rfl<|A0 (D0 rfl hg40 rfl) rfl<|ge 2 rfl rfl rfl
 refine qm rfl<|es (ra1 rfl)<|C7 ?_
 obtain rfl:=os h
 exact retq trivial (A9 rfl C0) (A5 rfl B9) (A3 A4 B1)
end Pw
end
section
set_option maxRecDepth 100000
namespace Pw
theorem B29:A1b = some true:= by decide +kernel
end Pw
end
