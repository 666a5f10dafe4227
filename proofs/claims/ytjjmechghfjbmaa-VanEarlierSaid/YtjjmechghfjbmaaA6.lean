/- Texts that the claim stands on, one behind another. -/
import Derived.Test.YtjjmechghfjbmaaA5
set_option linter.unusedVariables false
set_option linter.unusedSimpArgs false
set_option linter.unnecessarySimpa false
section
set_option maxRecDepth 100000
set_option maxHeartbeats 0
namespace Vn
open Go Am Go.Proofs.Ytjjmechghfjbmaa.Cd
def B35 (a1:(List Int)) (s6:(Int × (IArr 6))):Option ((Int × (IArr 6)) ⊕ (IArr 6)) :=
 if (decide (s6.1 < (List.length a1:Int))) = true then
  (idx a1 s6.1).bind fun x9 =>
  (A0y 6 (IArr.l s6.2) s6.1).bind fun x10 =>
  some (.inl ((w64 (s6.1 + 1)),(IArr.set s6.2 s6.1 (w64 (x9 + 1)))))
 else
  some (.inr s6.2)
def B36 (a0:VaTrain) (a1:(List Int)) (o11:(IArr 6)) (s12:Int):Option (Int ⊕ (Unit ⊕ Unit)) :=
 if (decide (s12 < (List.length a1:Int))) = true then
  (I5 (van_train.mk a0) o11 s12).bind fun x15 =>
  if (!x15) = true then
  some (.inr (.inr ()))
  else
  some (.inl (w64 (s12 + 1)))
 else
  some (.inr (.inl ()))
def A31 (a0:VaTrain) (a1:(List Int)) (a2:Int):Option ((List Span) × Int) :=
 (V8 a0).bind fun x1 =>
 if (x1.2.2 != 0) = true then
  some (([]:List Span),x1.2.2)
 else
  if ((List.length a1:Int) != (List.length a0.Crates:Int)) = true then
  some (([]:List Span),3)
  else
  (G3 (-1) (w64 ((List.length a0.Vans:Int) - 1)) a1).bind fun x4 =>
  if x4 = true then
   some (([]:List Span),4)
  else
   (loop (B35 a1) (0,(IArr.zero 6))).bind fun (o11:(IArr 6)) =>
   (loop (B36 a0 a1 o11) 0).bind fun (o17:(Unit ⊕ Unit)) =>
   match o17 with
   | (.inl vo17_0) =>
   (G3 0 (w64 ((List.length a0.Vans:Int) - 1)) [a2]).bind fun x18 =>
   if x18 = true then
    some (([]:List Span),4)
   else
    (L3 (van_train.mk a0) o11 a2).bind fun x20 =>
    some (x20,0)
   | (.inr vo17_1) =>
   some (([]:List Span),9)
theorem A7j {c:Sc} {H:A6} {a0:VaTrain} {a1:(List Int)} {a2:Int} {r:((List Span) × Int)} (h:A31 a0 a1 a2 = some r) :
  F2 tab c H (.fn (.func 21) [] []) [(.agg (A3 a0)),(.seq 1 (List.map cI a1)),.i a2] [(.seq 2 (List.map C6 r.1)),.i r.2]:= by
 unfold A31 at h
 refine cE rfl rfl<|sg 0 rfl<|A0 (G0 (cs:=A3 a0) rfl rfl rfl) rfl<|qm rfl<|qm rfl<|es (ra3 rfl rfl rfl)<|sg 1 rfl<|A0 (C5 rfl rfl rfl) rfl<|qm rfl<|V4 (as2:=[(.agg (A3 a0)),(.seq 1 (List.map cI a1))]) (H1:=(H++[(.cells (A3 a0)),.dead])) rfl rfl (A2 (D2 rfl) (A2 rfl B4)) rfl rfl rfl (A26 rfl)<|sg 2 rfl<|A0 (G0 (cs:=A3 a0) rfl rfl rfl) rfl<|qm rfl<|A0 (E6 (zs:=(cA .i64) (IArr.zero 6))) rfl<|qm rfl<|es (ra3 rfl rfl rfl)<|s0<|A0 (C5 rfl rfl rfl) rfl<|V4 (as2:=[(.agg (A3 a0))]) (H1:=(H++[(.cells (A3 a0)),.dead,(.cells (A3 a0)),(.cells ((cA .i64) (IArr.zero 6)))])) rfl rfl (A2 (D2 rfl) B4) rfl rfl rfl (A26 rfl)<|sg 4 rfl<|A0 (G0 (cs:=A3 a0) rfl rfl rfl) rfl<|qm rfl<|qm rfl<|es (ra1 rfl)<|B3<|s0<|oB h fun x1 hx1 h=>A0 (C5 rfl rfl rfl) rfl<|B2 (rs:=[.i x1.1,.i x1.2.1,.i x1.2.2]) rfl rfl (A2 (D2 rfl) B4) ((Z5 hx1).frz)<|qm rfl<|A0 (A7 rfl rfl) rfl<|A0 (A7 rfl rfl) rfl<|A0 (A7 rfl rfl) rfl<|qm rfl<|qm rfl<|qm rfl<|es (ra2 rfl rfl)<|s0<|qm rfl<|A0 (F8 rfl rfl) rfl<|es (ra3 rfl rfl rfl)<|wi h rfl (fun hc2 h=>?_) fun hc2 h=>?_
 ·refine s0<|qm rfl<|qm rfl<|qm rfl<|es (ra2 rfl rfl)<|C4<|InlQ.mk trivial ⟨_,_,_,[(.lit (.pointer none)),.i x1.2.2],_,(B1 rfl (B1 rfl B7)),(A5 rfl (A5 rfl B6)),(Z1 (A1 A4 (A1 A4 A8)) (D9 rfl (D9 rfl M5)) (K7 _ _ _)),?_⟩
  refine qm rfl<|A0 (A7 rfl rfl) rfl<|A0 (A7 rfl rfl) rfl<|qm rfl<|qm rfl<|es (ra5 rfl rfl rfl rfl rfl)<|B3<|B9<|s0<|qm rfl<|A0 (F8 rfl rfl) rfl<|qm rfl<|es (ra6 rfl rfl rfl rfl rfl rfl)<|N0 rfl hc2<|s0<|A0 (F7 (kk:=.i64) (v:=(IArr.zero 6)) rfl rfl) rfl<|qm rfl<|G6 (H9 (kk:=.i64) (u:=(IArr.zero 6)) (v:=(IArr.zero 6)) rfl rfl rfl) rfl<|qm rfl<|qm rfl<|es (ra3 rfl rfl rfl)<|C4<|InlQ.mk trivial ⟨_,_,_,[(.lit (.pointer none)),(.agg ((cA .i64) (IArr.zero 6))),.i x1.2.2],_,(B1 rfl (M2 (F7 (kk:=.i64) rfl rfl) (B1 rfl B7))),(A5 rfl (A5 A2f (A5 rfl B6))),(Z1 (A1 A4 (A1 A5m (A1 A4 A8))) (D9 rfl (D9 A15 (D9 rfl M5))) (K7 _ _ _)),?_⟩
  refine qm rfl<|A0 (A7 rfl rfl) rfl<|A0 (A7 rfl rfl) rfl<|A0 (A7 rfl rfl) rfl<|A0 (E6 (zs:=(cA .i64) (IArr.zero 6))) rfl<|qm rfl<|G6 (H9 (kk:=.i64) (u:=(IArr.zero 6)) (v:=(IArr.zero 6)) rfl rfl rfl) rfl<|qm rfl<|es (ra5 rfl rfl rfl rfl rfl)<|B3<|B9<|s0<|qm rfl<|A0 (F8 rfl rfl) rfl<|qm rfl<|es (ra6 rfl rfl rfl rfl rfl rfl)<|N0 rfl hc2<|s0<|qm rfl<|qm rfl<|qm rfl<|es (ra2 rfl rfl)<|C4 ?_
  obtain rfl:=os h
  exact retq trivial (B1 rfl (B1 rfl B7)) (A5 rfl (A5 rfl B6)) (A1 D8 (A1 A4 A8))
 ·refine C2<|sg 5 rfl<|A0 (C5 rfl rfl rfl) rfl<|A0 A9k rfl<|A0 (N7 (cs:=[(.seq 4 (List.map C0 a0.Vans)),.i a0.Stops,.i a0.Handle,(.seq 4 (List.map A9 a0.Crates)),(.seq 2 (List.map C1 a0.Apart)),(.mp (H.length + 5))]) rfl rfl) rfl<|A0 (G0 (cs:=[(.seq 4 (List.map C0 a0.Vans)),.i a0.Stops,.i a0.Handle,(.seq 4 (List.map A9 a0.Crates)),(.seq 2 (List.map C1 a0.Apart)),(.mp (H.length + 5))]) rfl rfl rfl) rfl<|qm rfl<|qm rfl<|es (ra2 rfl rfl)<|C4<|InlQ.mk trivial ⟨_,_,_,[(.ptr (H.length + 6) 0),.i 0],_,(B1 rfl (B1 rfl B7)),(A5 rfl (A5 rfl B6)),(A24 (U4 (A2z rfl)) (D9 rfl (D9 rfl M5))),?_⟩
  refine qm rfl<|A0 (A7 rfl rfl) rfl<|A0 (A7 rfl rfl) rfl<|qm rfl<|qm rfl<|es (ra5 rfl rfl rfl rfl rfl)<|B3<|B9<|s0<|qm rfl<|A0 (J9 (v:=(.b false)) rfl rfl rfl) rfl<|qm rfl<|es (ra6 rfl rfl rfl rfl rfl rfl)<|A0c rfl rfl<|s0<|qm rfl<|A0 (D3 (f:=cI) rfl) rfl<|A0 (C3 rfl) rfl<|A0 (B5 rfl rfl rfl) rfl<|A0 (D3 (f:=A9) rfl) rfl<|A0 (F8 rfl rfl) rfl<|qm rfl<|es (ra5 rfl rfl rfl rfl rfl)<|wi h rfl (fun hc3 h=>?_) fun hc3 h=>?_
  ·refine s0<|A0 (F7 (kk:=.i64) (v:=(IArr.zero 6)) rfl rfl) rfl<|qm rfl<|G6 (H9 (kk:=.i64) (u:=(IArr.zero 6)) (v:=(IArr.zero 6)) rfl rfl rfl) rfl<|qm rfl<|es (ra3 rfl rfl rfl)<|C4<|InlQ.mk trivial ⟨_,_,_,[(.lit (.pointer none)),(.agg ((cA .i64) (IArr.zero 6))),.i 3],_,(B1 rfl (M2 (F7 (kk:=.i64) rfl rfl) (B1 rfl B7))),(A5 rfl (A5 A2f (A5 rfl B6))),(Z1 (A1 A4 (A1 A5m (A1 A4 A8))) (D9 rfl (D9 A15 (D9 rfl M5))) (K7 _ _ _)),?_⟩
   refine qm rfl<|A0 (A7 rfl rfl) rfl<|A0 (A7 rfl rfl) rfl<|A0 (A7 rfl rfl) rfl<|A0 (E6 (zs:=(cA .i64) (IArr.zero 6))) rfl<|qm rfl<|G6 (H9 (kk:=.i64) (u:=(IArr.zero 6)) (v:=(IArr.zero 6)) rfl rfl rfl) rfl<|qm rfl<|es (ra5 rfl rfl rfl rfl rfl)<|B3<|B9<|s0<|qm rfl<|A0 (J9 (v:=(.b true)) rfl rfl rfl) rfl<|qm rfl<|es (ra6 rfl rfl rfl rfl rfl rfl)<|N0 rfl rfl<|s0<|qm rfl<|qm rfl<|qm rfl<|es (ra2 rfl rfl)<|C4 ?_
   obtain rfl:=os h
   exact retq trivial (B1 rfl (B1 rfl B7)) (A5 rfl (A5 rfl B6)) (A1 D8 (A1 A4 A8))
  ·refine s0<|oB h fun x4 hx4 h=>A0 (C3 rfl) rfl<|A0 (B5 rfl rfl rfl) rfl<|A0 (D3 (f:=C0) rfl) rfl<|A0 (O0 rfl rfl) rfl<|qm rfl<|B2 (rs:=[.b x4]) rfl rfl (A2 rfl (A2 rfl (A2 rfl B4))) ((H7 hx4).frz)<|qm rfl<|es (ra4 rfl rfl rfl rfl)<|wi h rfl (fun hc5 h=>?_) fun hc5 h=>?_
   ·refine s0<|A0 (F7 (kk:=.i64) (v:=(IArr.zero 6)) rfl rfl) rfl<|qm rfl<|G6 (H9 (kk:=.i64) (u:=(IArr.zero 6)) (v:=(IArr.zero 6)) rfl rfl rfl) rfl<|qm rfl<|es (ra3 rfl rfl rfl)<|C4<|InlQ.mk trivial ⟨_,_,_,[(.lit (.pointer none)),(.agg ((cA .i64) (IArr.zero 6))),.i 4],_,(B1 rfl (M2 (F7 (kk:=.i64) rfl rfl) (B1 rfl B7))),(A5 rfl (A5 A2f (A5 rfl B6))),(Z1 (A1 A4 (A1 A5m (A1 A4 A8))) (D9 rfl (D9 A15 (D9 rfl M5))) (K7 _ _ _)),?_⟩
    refine qm rfl<|A0 (A7 rfl rfl) rfl<|A0 (A7 rfl rfl) rfl<|A0 (A7 rfl rfl) rfl<|A0 (E6 (zs:=(cA .i64) (IArr.zero 6))) rfl<|qm rfl<|G6 (H9 (kk:=.i64) (u:=(IArr.zero 6)) (v:=(IArr.zero 6)) rfl rfl rfl) rfl<|qm rfl<|es (ra5 rfl rfl rfl rfl rfl)<|B3<|B9<|s0<|qm rfl<|A0 (J9 (v:=(.b true)) rfl rfl rfl) rfl<|qm rfl<|es (ra6 rfl rfl rfl rfl rfl rfl)<|N0 rfl rfl<|s0<|qm rfl<|qm rfl<|qm rfl<|es (ra2 rfl rfl)<|C4 ?_
    obtain rfl:=os h
    exact retq trivial (B1 rfl (B1 rfl B7)) (A5 rfl (A5 rfl B6)) (A1 D8 (A1 A4 A8))
   ·refine C2<|B3<|s0<|qm rfl<|A0 (D3 (f:=cI) rfl) rfl<|qm rfl<|es (ra6 rfl rfl rfl rfl rfl rfl)<|B9<|oB h fun o11 ho11 h=>wl (fun s6=>[(1,(.seq 1 (List.map cI a1))),(4,(.ptr (H.length + 6) 0)),(5,(.ptr (H.length + 3) 0)),(36,(.seq 1 (List.map cI a1))),(37,(.i (List.length a1:Int))),(38,.i s6.1)]) (fun (q7:Unit) s6=>[(.cells (A3 a0)),.dead,(.cells (A3 a0)),(.cells ((cA .i64) s6.2)),(.cells (A3 a0)),(.map []),(.cells [(.seq 4 (List.map C0 a0.Vans)),.i a0.Stops,.i a0.Handle,(.seq 4 (List.map A9 a0.Crates)),(.seq 2 (List.map C1 a0.Apart)),(.mp (H.length + 5))])]) 7 (fun r e s' H'=>PX 1 [(1,(.seq 1 (List.map cI a1))),(4,(.ptr (H.length + 6) 0)),(5,(.ptr (H.length + 3) 0))] (H++[(.cells (A3 a0)),.dead,(.cells (A3 a0)),(.cells ((cA .i64) r)),(.cells (A3 a0)),(.map []),(.cells [(.seq 4 (List.map C0 a0.Vans)),.i a0.Stops,.i a0.Handle,(.seq 4 (List.map A9 a0.Crates)),(.seq 2 (List.map C1 a0.Apart)),(.mp (H.length + 5))])]) e s' H') () ho11 rfl rfl (fun _ _=>rfl) (fun _=>rfl) rfl (fun s6=>(bdc D8 (bdc (D5 rfl) (bdc (D5 rfl) (bdc D8 (bdc A4 (bdc A4 bdn))))))) (fun q7 s6 ys6 hs6=>?_) ?_
    ·unfold B35 at hs6
     refine s0<|A0 (F4 rfl rfl) rfl<|es (ra7 rfl rfl rfl rfl rfl rfl rfl)<|B3<|wi hs6 rfl (fun hc8 hs6=>?_) fun hc8 hs6=>?_
     ·refine C2<|B3<|B9<|s0<|oB hs6 fun x9 hx9 hs6=>qm rfl<|A0 (D4 (f:=cI) rfl rfl hx9) rfl<|A0 (D6 rfl rfl) rfl<|qm rfl<|qm rfl<|es (ra8 rfl rfl rfl rfl rfl rfl rfl rfl)<|r0<|oB hs6 fun x10 hx10 hs6=>qm rfl<|qm rfl<|A0 (D7 rfl rfl) rfl<|A0 (Z4 rfl rfl hx10) rfl<|G6 (A93 rfl rfl rfl hx10) rfl<|en (ra6 rfl rfl rfl rfl rfl rfl)<|r0<|A0 (D7 rfl rfl) rfl<|qm rfl<|en (ra6 rfl rfl rfl rfl rfl rfl) ?_
      cases hs6
      exact lnT () rfl (su6 rfl rfl rfl rfl rfl rfl)
     ·refine E3 ?_
      obtain rfl:=os hs6
      exact lx rfl px (su3 rfl rfl rfl)
    ·rintro e s' H' - ⟨rfl,rfl,rfl⟩
     refine B3<|s0<|qm rfl<|A0 (D3 (f:=cI) rfl) rfl<|qm rfl<|es (ra4 rfl rfl rfl rfl)<|B9<|oB h fun o17 ho17 h=>wl (fun s12=>[(4,(.ptr (H.length + 6) 0)),(5,(.ptr (H.length + 3) 0)),(49,(.i (List.length a1:Int))),(50,.i s12)]) (fun (q13:Unit) s12=>[(.cells (A3 a0)),.dead,(.cells (A3 a0)),(.cells ((cA .i64) o11)),(.cells (A3 a0)),(.map []),(.cells [(.seq 4 (List.map C0 a0.Vans)),.i a0.Stops,.i a0.Handle,(.seq 4 (List.map A9 a0.Crates)),(.seq 2 (List.map C1 a0.Apart)),(.mp (H.length + 5))])]) 7 (fun r e s' H'=>(match r with | (.inl v)=>PX 3 [(4,(.ptr (H.length + 6) 0)),(5,(.ptr (H.length + 3) 0))] (H++[(.cells (A3 a0)),.dead,(.cells (A3 a0)),(.cells ((cA .i64) o11)),(.cells (A3 a0)),(.map []),(.cells [(.seq 4 (List.map C0 a0.Vans)),.i a0.Stops,.i a0.Handle,(.seq 4 (List.map A9 a0.Crates)),(.seq 2 (List.map C1 a0.Apart)),(.mp (H.length + 5))])]) e s' H' | (.inr v)=>e = .ret∧s' = [(4,(.lit (.pointer none))),(5,(.ptr (H.length + 3) 0)),(6,.i 9)]∧H' = (H++[(.cells (A3 a0)),.dead,(.cells (A3 a0)),(.cells ((cA .i64) o11)),(.cells (A3 a0)),(.map []),(.cells [(.seq 4 (List.map C0 a0.Vans)),.i a0.Stops,.i a0.Handle,(.seq 4 (List.map A9 a0.Crates)),(.seq 2 (List.map C1 a0.Apart)),(.mp (H.length + 5))])]):Prop)) () ho17 rfl rfl (fun _ _=>rfl) (fun _=>rfl) rfl (fun s12=>(bdc (D5 rfl) (bdc (D5 rfl) (bdc A4 (bdc A4 bdn))))) (fun q13 s12 ys12 hs12=>?_) ?_
     ·unfold B36 at hs12
      refine s0<|A0 (F4 rfl rfl) rfl<|es (ra5 rfl rfl rfl rfl rfl)<|B3<|wi hs12 rfl (fun hc14 hs12=>?_) fun hc14 hs12=>?_
      ·refine C2<|B3<|B9<|s0<|qm rfl<|qm rfl<|es (ra5 rfl rfl rfl rfl rfl)<|s0<|oB hs12 fun x15 hx15 hs12=>qm rfl<|A0 (F7 (kk:=.i64) (v:=o11) rfl rfl) rfl<|qm rfl<|B2 (rs:=[.b x15]) rfl rfl (A2 rfl (A2 A1b (A2 rfl B4))) ((P2 (F3 rfl) hx15).frz)<|A0 (O3 rfl) rfl<|es (ra5 rfl rfl rfl rfl rfl)<|wi hs12 rfl (fun hc16 hs12=>?_) fun hc16 hs12=>?_
       ·refine s0<|A0 (F7 (kk:=.i64) (v:=o11) rfl rfl) rfl<|qm rfl<|G6 (H9 (kk:=.i64) (u:=o11) (v:=o11) rfl rfl rfl) rfl<|qm rfl<|es (ra3 rfl rfl rfl)<|C4 ?_
        obtain rfl:=os hs12
        exact lx rfl (And.intro rfl (And.intro rfl rfl)) (su3 rfl rfl rfl)
       ·refine C2<|r0<|A0 (D7 rfl rfl) rfl<|qm rfl<|en (ra4 rfl rfl rfl rfl) ?_
        cases hs12
        exact lnT () rfl (su4 rfl rfl rfl rfl)
      ·refine E3 ?_
       obtain rfl:=os hs12
       exact lx rfl px (su2 rfl rfl)
     ·rcases o17 with vo17_0 | vo17_1
      ·rintro e s' H' - ⟨rfl,rfl,rfl⟩
       refine s0<|qm rfl<|A0 (F7 (kk:=.i64) (v:=o11) rfl rfl) rfl<|qm rfl<|G6 (H9 (kk:=.i64) (u:=o11) (v:=o11) rfl rfl rfl) rfl<|qm rfl<|es (ra3 rfl rfl rfl)<|C4<|InlQ.mk trivial ⟨_,_,_,[(.ptr (H.length + 6) 0),(.agg ((cA .i64) o11)),.i 0],_,(B1 rfl (M2 (F7 (kk:=.i64) rfl rfl) (B1 rfl B7))),(A5 rfl (A5 A2f (A5 rfl B6))),(A24 (U4 (A2z rfl)) (D9 rfl (D9 A15 (D9 rfl M5)))),?_⟩
       refine qm rfl<|A0 (A7 rfl rfl) rfl<|A0 (A7 rfl rfl) rfl<|A0 (A7 rfl rfl) rfl<|A0 (E6 (zs:=(cA .i64) (IArr.zero 6))) rfl<|qm rfl<|G6 (H9 (kk:=.i64) (u:=(IArr.zero 6)) (v:=o11) rfl rfl rfl) rfl<|qm rfl<|es (ra5 rfl rfl rfl rfl rfl)<|B3<|B9<|s0<|qm rfl<|A0 (J9 (v:=(.b false)) rfl rfl rfl) rfl<|qm rfl<|es (ra6 rfl rfl rfl rfl rfl rfl)<|A0c rfl rfl<|s0<|oB h fun x18 hx18 h=>A0 (C3 rfl) rfl<|A0 (B5 rfl rfl rfl) rfl<|A0 (D3 (f:=C0) rfl) rfl<|A0 (O0 rfl rfl) rfl<|qm rfl<|A0 (I8 (rows:=List.map cI [a2]) rfl rfl (E4 (fun _=>rfl) _)) rfl<|B2 (rs:=[.b x18]) rfl rfl (A2 rfl (A2 rfl (A2 rfl B4))) ((H7 hx18).frz)<|qm rfl<|es (ra4 rfl rfl rfl rfl)<|wi h rfl (fun hc19 h=>?_) fun hc19 h=>?_
       ·refine s0<|qm rfl<|qm rfl<|es (ra2 rfl rfl)<|C4 ?_
        obtain rfl:=os h
        exact retq trivial (B1 rfl (B1 rfl B7)) (A5 rfl (A5 rfl B6)) (A1 D8 (A1 A4 A8))
       ·refine C2<|s0<|oB h fun x20 hx20 h=>qm rfl<|A0 (F7 (kk:=.i64) (v:=o11) rfl rfl) rfl<|qm rfl<|B2 (rs:=[(.seq 2 (List.map C6 x20))]) rfl rfl (A2 rfl (A2 A1b (A2 rfl B4))) ((A29 (F3 rfl) hx20).frz)<|qm rfl<|qm rfl<|es (ra2 rfl rfl)<|C4 ?_
        obtain rfl:=os h
        exact retq trivial (B1 rfl (B1 rfl B7)) (A5 rfl (A5 rfl B6)) (A1 D8 (A1 A4 A8))
      ·rintro e s' H' - ⟨rfl,rfl,rfl⟩
       refine InlQ.mk trivial ⟨_,_,_,[(.lit (.pointer none)),(.agg ((cA .i64) o11)),.i 9],_,(B1 rfl (M2 (F7 (kk:=.i64) rfl rfl) (B1 rfl B7))),(A5 rfl (A5 A2f (A5 rfl B6))),(Z1 (A1 A4 (A1 A5m (A1 A4 A8))) (D9 rfl (D9 A15 (D9 rfl M5))) (K7 _ _ _)),?_⟩
       refine qm rfl<|A0 (A7 rfl rfl) rfl<|A0 (A7 rfl rfl) rfl<|A0 (A7 rfl rfl) rfl<|A0 (E6 (zs:=(cA .i64) (IArr.zero 6))) rfl<|qm rfl<|G6 (H9 (kk:=.i64) (u:=(IArr.zero 6)) (v:=o11) rfl rfl rfl) rfl<|qm rfl<|es (ra5 rfl rfl rfl rfl rfl)<|B3<|B9<|s0<|qm rfl<|A0 (J9 (v:=(.b true)) rfl rfl rfl) rfl<|qm rfl<|es (ra6 rfl rfl rfl rfl rfl rfl)<|N0 rfl rfl<|s0<|qm rfl<|qm rfl<|qm rfl<|es (ra2 rfl rfl)<|C4 ?_
       obtain rfl:=os h
       exact retq trivial (B1 rfl (B1 rfl B7)) (A5 rfl (A5 rfl B6)) (A1 D8 (A1 A4 A8))
def B5i (a1:(List Int)) (s6:(Int × (IArr 6))):Option ((Int × (IArr 6)) ⊕ (IArr 6)) :=
 if (decide (s6.1 < (List.length a1:Int))) = true then
  (idx a1 s6.1).bind fun x9 =>
  (A0y 6 (IArr.l s6.2) s6.1).bind fun x10 =>
  some (.inl ((w64 (s6.1 + 1)),(IArr.set s6.2 s6.1 (w64 (x9 + 1)))))
 else
  some (.inr s6.2)
def B5j (a0:VaTrain) (a1:(List Int)) (o11:(IArr 6)) (s12:Int):Option (Int ⊕ (Unit ⊕ Unit)) :=
 if (decide (s12 < (List.length a1:Int))) = true then
  (I5 (van_train.mk a0) o11 s12).bind fun x15 =>
  if (!x15) = true then
  some (.inr (.inr ()))
  else
  some (.inl (w64 (s12 + 1)))
 else
  some (.inr (.inl ()))
def A4v (a0:VaTrain) (x29:(List Int)) (x30:VaVan) (s31:(Int × (List Span))):Option ((Int × (List Span)) ⊕ (List Span)) :=
 if (decide (s31.1 < a0.Stops)) = true then
  (idx x29 (w64 (s31.1 - 1))).bind fun x34 =>
  (idx s31.2 (w64 (s31.1 - 1))).bind fun x35 =>
  (idx x30.Legs s31.1).bind fun x36 =>
  (idx s31.2 (w64 (s31.1 - 1))).bind fun x37 =>
  (idx x30.Legs s31.1).bind fun x38 =>
  (idx s31.2 s31.1).bind fun x39 =>
  some (.inl ((w64 (s31.1 + 1)),(A1w s31.2 s31.1 (Span.mk (w64 ((w64 (x35.Lo + (w64 (x34 * a0.Handle)))) + x36.Lo)) (w64 ((w64 (x37.Hi + (w64 (x34 * a0.Handle)))) + x38.Hi))))))
 else
  some (.inr s31.2)
def A4w (a0:VaTrain) (x29:(List Int)) (x30:VaVan) (s41:(Int × (List Span))):Option ((Int × (List Span)) ⊕ (List Span)) :=
 if (decide (s41.1 ≥ 0)) = true then
  (idx x29 s41.1).bind fun x44 =>
  (idx s41.2 s41.1).bind fun x45 =>
  (idx s41.2 (w64 (s41.1 + 1))).bind fun x46 =>
  (idx x30.Legs (w64 (s41.1 + 1))).bind fun x47 =>
  (idx s41.2 s41.1).bind fun x48 =>
  (idx s41.2 (w64 (s41.1 + 1))).bind fun x49 =>
  (idx x30.Legs (w64 (s41.1 + 1))).bind fun x50 =>
  (idx s41.2 s41.1).bind fun x51 =>
  some (.inl ((w64 (s41.1 - 1)),(A1w s41.2 s41.1 (Span.mk (A5w x45.Lo (w64 ((w64 (x46.Lo - (w64 (x44 * a0.Handle)))) - x47.Hi))) (A89 x48.Hi (w64 ((w64 (x49.Hi - (w64 (x44 * a0.Handle)))) - x50.Lo)))))))
 else
  some (.inr s41.2)
def A7y (a0:VaTrain) (a1:(List Int)) (a2:Int) (a3:Int) (a4:Int):Option ((List Span) × Int) :=
 (V8 a0).bind fun x1 =>
 if (x1.2.2 != 0) = true then
  some (([]:List Span),x1.2.2)
 else
  if ((List.length a1:Int) != (List.length a0.Crates:Int)) = true then
  some (([]:List Span),3)
  else
  (G3 (-1) (w64 ((List.length a0.Vans:Int) - 1)) a1).bind fun x4 =>
  if x4 = true then
   some (([]:List Span),4)
  else
   (loop (B5i a1) (0,(IArr.zero 6))).bind fun (o11:(IArr 6)) =>
   (loop (B5j a0 a1 o11) 0).bind fun (o17:(Unit ⊕ Unit)) =>
   match o17 with
   | (.inl vo17_0) =>
   (G3 0 (w64 ((List.length a0.Vans:Int) - 1)) [a2]).bind fun x18 =>
   (if x18 = true then
    some true
   else
    (G3 0 (w64 (a0.Stops - 1)) [a3]).bind fun x20 =>
    some x20).bind fun x21 =>
   if x21 = true then
    some (([]:List Span),4)
   else
    (L3 (van_train.mk a0) o11 a2).bind fun x23 =>
    (idx x23 a3).bind fun x24 =>
    (idx x23 a3).bind fun x25 =>
    (G3 x24.Lo x25.Hi [a4]).bind fun x26 =>
    if x26 = true then
    some (([]:List Span),8)
    else
    (idx x23 a3).bind fun x28 =>
    (L4 (van_train.mk a0) o11 a2).bind fun x29 =>
    (idx a0.Vans a2).bind fun x30 =>
    (loop (A4v a0 x29 x30) ((w64 (a3 + 1)),(A1w x23 a3 (Span.mk a4 a4)))).bind fun (o40:(List Span)) =>
    (loop (A4w a0 x29 x30) ((w64 (a3 - 1)),o40)).bind fun (o52:(List Span)) =>
    some (o52,0)
   | (.inr vo17_1) =>
   some (([]:List Span),9)
theorem A8u {c:Sc} {H:A6} {a0:VaTrain} {a1:(List Int)} {a2:Int} {a3:Int} {a4:Int} {r:((List Span) × Int)} (h:A7y a0 a1 a2 a3 a4 = some r) :
  A5k tab c H (.fn (.func 27) [] []) [(.agg (A3 a0)),(.seq 1 (List.map cI a1)),.i a2,.i a3,.i a4] [(.seq 2 (List.map C6 r.1)),.i r.2]:= by
 unfold A7y at h
 refine cF rfl rfl<|sg 0 rfl<|A0 (G0 (cs:=A3 a0) rfl rfl rfl) rfl<|qm rfl<|qm rfl<|es (ra5 rfl rfl rfl rfl rfl)<|sg 1 rfl<|A0 (C5 rfl rfl rfl) rfl<|qm rfl<|V4 (as2:=[(.agg (A3 a0)),(.seq 1 (List.map cI a1))]) (H1:=(H++[(.cells (A3 a0)),.dead])) rfl rfl (A2 (D2 rfl) (A2 rfl B4)) rfl rfl rfl (A26 rfl)<|sg 2 rfl<|A0 (G0 (cs:=A3 a0) rfl rfl rfl) rfl<|qm rfl<|A0 (E6 (zs:=(cA .i64) (IArr.zero 6))) rfl<|qm rfl<|es (ra3 rfl rfl rfl)<|s0<|A0 (C5 rfl rfl rfl) rfl<|V4 (as2:=[(.agg (A3 a0))]) (H1:=(H++[(.cells (A3 a0)),.dead,(.cells (A3 a0)),(.cells ((cA .i64) (IArr.zero 6)))])) rfl rfl (A2 (D2 rfl) B4) rfl rfl rfl (A26 rfl)<|sg 4 rfl<|A0 (G0 (cs:=A3 a0) rfl rfl rfl) rfl<|qm rfl<|qm rfl<|es (ra1 rfl)<|B3<|s0<|oB h fun x1 hx1 h=>A0 (C5 rfl rfl rfl) rfl<|B2 (rs:=[.i x1.1,.i x1.2.1,.i x1.2.2]) rfl rfl (A2 (D2 rfl) B4) ((Z5 hx1).frz)<|qm rfl<|A0 (A7 rfl rfl) rfl<|A0 (A7 rfl rfl) rfl<|A0 (A7 rfl rfl) rfl<|qm rfl<|qm rfl<|qm rfl<|es (ra2 rfl rfl)<|s0<|qm rfl<|A0 (F8 rfl rfl) rfl<|es (ra3 rfl rfl rfl)<|wi h rfl (fun hc2 h=>?_) fun hc2 h=>?_
 ·refine s0<|qm rfl<|qm rfl<|qm rfl<|es (ra2 rfl rfl)<|C4<|InlQ.mk trivial ⟨_,_,_,[(.lit (.pointer none)),.i x1.2.2],_,(B1 rfl (B1 rfl B7)),(A5 rfl (A5 rfl B6)),(Z1 (A1 A4 (A1 A4 A8)) (D9 rfl (D9 rfl M5)) (K7 _ _ _)),?_⟩
  refine qm rfl<|A0 (A7 rfl rfl) rfl<|A0 (A7 rfl rfl) rfl<|qm rfl<|qm rfl<|es (ra5 rfl rfl rfl rfl rfl)<|B3<|B9<|s0<|qm rfl<|A0 (F8 rfl rfl) rfl<|qm rfl<|es (ra6 rfl rfl rfl rfl rfl rfl)<|N0 rfl hc2<|s0<|A0 (F7 (kk:=.i64) (v:=(IArr.zero 6)) rfl rfl) rfl<|qm rfl<|G6 (H9 (kk:=.i64) (u:=(IArr.zero 6)) (v:=(IArr.zero 6)) rfl rfl rfl) rfl<|qm rfl<|qm rfl<|es (ra3 rfl rfl rfl)<|C4<|InlQ.mk trivial ⟨_,_,_,[(.lit (.pointer none)),(.agg ((cA .i64) (IArr.zero 6))),.i x1.2.2],_,(B1 rfl (M2 (F7 (kk:=.i64) rfl rfl) (B1 rfl B7))),(A5 rfl (A5 A2f (A5 rfl B6))),(Z1 (A1 A4 (A1 A5m (A1 A4 A8))) (D9 rfl (D9 A15 (D9 rfl M5))) (K7 _ _ _)),?_⟩
  refine qm rfl<|A0 (A7 rfl rfl) rfl<|A0 (A7 rfl rfl) rfl<|A0 (A7 rfl rfl) rfl<|A0 (E6 (zs:=(cA .i64) (IArr.zero 6))) rfl<|qm rfl<|G6 (H9 (kk:=.i64) (u:=(IArr.zero 6)) (v:=(IArr.zero 6)) rfl rfl rfl) rfl<|qm rfl<|es (ra7 rfl rfl rfl rfl rfl rfl rfl)<|B3<|B9<|s0<|qm rfl<|A0 (F8 rfl rfl) rfl<|qm rfl<|es (ra8 rfl rfl rfl rfl rfl rfl rfl rfl)<|N0 rfl hc2<|s0<|qm rfl<|qm rfl<|qm rfl<|es (ra2 rfl rfl)<|C4 ?_
  obtain rfl:=os h
  refine Exists.intro [(.seq 2 (List.map C6 ([]:List Span))),.i x1.2.2] (And.intro ?_ rfl)
  exact retq trivial (B1 rfl (B1 rfl B7)) (A5 rfl (A5 rfl B6)) (A1 D8 (A1 A4 A8))
 ·refine C2<|sg 5 rfl<|A0 (C5 rfl rfl rfl) rfl<|A0 A9k rfl<|A0 (N7 (cs:=[(.seq 4 (List.map C0 a0.Vans)),.i a0.Stops,.i a0.Handle,(.seq 4 (List.map A9 a0.Crates)),(.seq 2 (List.map C1 a0.Apart)),(.mp (H.length + 5))]) rfl rfl) rfl<|A0 (G0 (cs:=[(.seq 4 (List.map C0 a0.Vans)),.i a0.Stops,.i a0.Handle,(.seq 4 (List.map A9 a0.Crates)),(.seq 2 (List.map C1 a0.Apart)),(.mp (H.length + 5))]) rfl rfl rfl) rfl<|qm rfl<|qm rfl<|es (ra2 rfl rfl)<|C4<|InlQ.mk trivial ⟨_,_,_,[(.ptr (H.length + 6) 0),.i 0],_,(B1 rfl (B1 rfl B7)),(A5 rfl (A5 rfl B6)),(A24 (U4 (A2z rfl)) (D9 rfl (D9 rfl M5))),?_⟩
  refine qm rfl<|A0 (A7 rfl rfl) rfl<|A0 (A7 rfl rfl) rfl<|qm rfl<|qm rfl<|es (ra5 rfl rfl rfl rfl rfl)<|B3<|B9<|s0<|qm rfl<|A0 (J9 (v:=(.b false)) rfl rfl rfl) rfl<|qm rfl<|es (ra6 rfl rfl rfl rfl rfl rfl)<|A0c rfl rfl<|s0<|qm rfl<|A0 (D3 (f:=cI) rfl) rfl<|A0 (C3 rfl) rfl<|A0 (B5 rfl rfl rfl) rfl<|A0 (D3 (f:=A9) rfl) rfl<|A0 (F8 rfl rfl) rfl<|qm rfl<|es (ra5 rfl rfl rfl rfl rfl)<|wi h rfl (fun hc3 h=>?_) fun hc3 h=>?_
  ·refine s0<|A0 (F7 (kk:=.i64) (v:=(IArr.zero 6)) rfl rfl) rfl<|qm rfl<|G6 (H9 (kk:=.i64) (u:=(IArr.zero 6)) (v:=(IArr.zero 6)) rfl rfl rfl) rfl<|qm rfl<|es (ra3 rfl rfl rfl)<|C4<|InlQ.mk trivial ⟨_,_,_,[(.lit (.pointer none)),(.agg ((cA .i64) (IArr.zero 6))),.i 3],_,(B1 rfl (M2 (F7 (kk:=.i64) rfl rfl) (B1 rfl B7))),(A5 rfl (A5 A2f (A5 rfl B6))),(Z1 (A1 A4 (A1 A5m (A1 A4 A8))) (D9 rfl (D9 A15 (D9 rfl M5))) (K7 _ _ _)),?_⟩
   refine qm rfl<|A0 (A7 rfl rfl) rfl<|A0 (A7 rfl rfl) rfl<|A0 (A7 rfl rfl) rfl<|A0 (E6 (zs:=(cA .i64) (IArr.zero 6))) rfl<|qm rfl<|G6 (H9 (kk:=.i64) (u:=(IArr.zero 6)) (v:=(IArr.zero 6)) rfl rfl rfl) rfl<|qm rfl<|es (ra7 rfl rfl rfl rfl rfl rfl rfl)<|B3<|B9<|s0<|qm rfl<|A0 (J9 (v:=(.b true)) rfl rfl rfl) rfl<|qm rfl<|es (ra8 rfl rfl rfl rfl rfl rfl rfl rfl)<|N0 rfl rfl<|s0<|qm rfl<|qm rfl<|qm rfl<|es (ra2 rfl rfl)<|C4 ?_
   obtain rfl:=os h
   refine Exists.intro [(.seq 2 (List.map C6 ([]:List Span))),.i 3] (And.intro ?_ rfl)
   exact retq trivial (B1 rfl (B1 rfl B7)) (A5 rfl (A5 rfl B6)) (A1 D8 (A1 A4 A8))
  ·refine s0<|oB h fun x4 hx4 h=>A0 (C3 rfl) rfl<|A0 (B5 rfl rfl rfl) rfl<|A0 (D3 (f:=C0) rfl) rfl<|A0 (O0 rfl rfl) rfl<|qm rfl<|B2 (rs:=[.b x4]) rfl rfl (A2 rfl (A2 rfl (A2 rfl B4))) ((H7 hx4).frz)<|qm rfl<|es (ra4 rfl rfl rfl rfl)<|wi h rfl (fun hc5 h=>?_) fun hc5 h=>?_
   ·refine s0<|A0 (F7 (kk:=.i64) (v:=(IArr.zero 6)) rfl rfl) rfl<|qm rfl<|G6 (H9 (kk:=.i64) (u:=(IArr.zero 6)) (v:=(IArr.zero 6)) rfl rfl rfl) rfl<|qm rfl<|es (ra3 rfl rfl rfl)<|C4<|InlQ.mk trivial ⟨_,_,_,[(.lit (.pointer none)),(.agg ((cA .i64) (IArr.zero 6))),.i 4],_,(B1 rfl (M2 (F7 (kk:=.i64) rfl rfl) (B1 rfl B7))),(A5 rfl (A5 A2f (A5 rfl B6))),(Z1 (A1 A4 (A1 A5m (A1 A4 A8))) (D9 rfl (D9 A15 (D9 rfl M5))) (K7 _ _ _)),?_⟩
    refine qm rfl<|A0 (A7 rfl rfl) rfl<|A0 (A7 rfl rfl) rfl<|A0 (A7 rfl rfl) rfl<|A0 (E6 (zs:=(cA .i64) (IArr.zero 6))) rfl<|qm rfl<|G6 (H9 (kk:=.i64) (u:=(IArr.zero 6)) (v:=(IArr.zero 6)) rfl rfl rfl) rfl<|qm rfl<|es (ra7 rfl rfl rfl rfl rfl rfl rfl)<|B3<|B9<|s0<|qm rfl<|A0 (J9 (v:=(.b true)) rfl rfl rfl) rfl<|qm rfl<|es (ra8 rfl rfl rfl rfl rfl rfl rfl rfl)<|N0 rfl rfl<|s0<|qm rfl<|qm rfl<|qm rfl<|es (ra2 rfl rfl)<|C4 ?_
    obtain rfl:=os h
    refine Exists.intro [(.seq 2 (List.map C6 ([]:List Span))),.i 4] (And.intro ?_ rfl)
    exact retq trivial (B1 rfl (B1 rfl B7)) (A5 rfl (A5 rfl B6)) (A1 D8 (A1 A4 A8))
   ·refine C2<|B3<|s0<|qm rfl<|A0 (D3 (f:=cI) rfl) rfl<|qm rfl<|es (ra6 rfl rfl rfl rfl rfl rfl)<|B9<|oB h fun o11 ho11 h=>wl (fun s6=>[(1,(.seq 1 (List.map cI a1))),(4,(.ptr (H.length + 6) 0)),(5,(.ptr (H.length + 3) 0)),(36,(.seq 1 (List.map cI a1))),(37,(.i (List.length a1:Int))),(38,.i s6.1)]) (fun (q7:Unit) s6=>[(.cells (A3 a0)),.dead,(.cells (A3 a0)),(.cells ((cA .i64) s6.2)),(.cells (A3 a0)),(.map []),(.cells [(.seq 4 (List.map C0 a0.Vans)),.i a0.Stops,.i a0.Handle,(.seq 4 (List.map A9 a0.Crates)),(.seq 2 (List.map C1 a0.Apart)),(.mp (H.length + 5))])]) 7 (fun r e s' H'=>PX 1 [(1,(.seq 1 (List.map cI a1))),(4,(.ptr (H.length + 6) 0)),(5,(.ptr (H.length + 3) 0))] (H++[(.cells (A3 a0)),.dead,(.cells (A3 a0)),(.cells ((cA .i64) r)),(.cells (A3 a0)),(.map []),(.cells [(.seq 4 (List.map C0 a0.Vans)),.i a0.Stops,.i a0.Handle,(.seq 4 (List.map A9 a0.Crates)),(.seq 2 (List.map C1 a0.Apart)),(.mp (H.length + 5))])]) e s' H') () ho11 rfl rfl (fun _ _=>rfl) (fun _=>rfl) rfl (fun s6=>(bdc D8 (bdc (D5 rfl) (bdc (D5 rfl) (bdc D8 (bdc A4 (bdc A4 bdn))))))) (fun q7 s6 ys6 hs6=>?_) ?_
    ·unfold B5i at hs6
     refine s0<|A0 (F4 rfl rfl) rfl<|es (ra7 rfl rfl rfl rfl rfl rfl rfl)<|B3<|wi hs6 rfl (fun hc8 hs6=>?_) fun hc8 hs6=>?_
     ·refine C2<|B3<|B9<|s0<|oB hs6 fun x9 hx9 hs6=>qm rfl<|A0 (D4 (f:=cI) rfl rfl hx9) rfl<|A0 (D6 rfl rfl) rfl<|qm rfl<|qm rfl<|es (ra8 rfl rfl rfl rfl rfl rfl rfl rfl)<|r0<|oB hs6 fun x10 hx10 hs6=>qm rfl<|qm rfl<|A0 (D7 rfl rfl) rfl<|A0 (Z4 rfl rfl hx10) rfl<|G6 (A93 rfl rfl rfl hx10) rfl<|en (ra6 rfl rfl rfl rfl rfl rfl)<|r0<|A0 (D7 rfl rfl) rfl<|qm rfl<|en (ra6 rfl rfl rfl rfl rfl rfl) ?_
      cases hs6
      exact lnT () rfl (su6 rfl rfl rfl rfl rfl rfl)
     ·refine E3 ?_
      obtain rfl:=os hs6
      exact lx rfl px (su3 rfl rfl rfl)
    ·rintro e s' H' - ⟨rfl,rfl,rfl⟩
     refine B3<|s0<|qm rfl<|A0 (D3 (f:=cI) rfl) rfl<|qm rfl<|es (ra4 rfl rfl rfl rfl)<|B9<|oB h fun o17 ho17 h=>wl (fun s12=>[(4,(.ptr (H.length + 6) 0)),(5,(.ptr (H.length + 3) 0)),(49,(.i (List.length a1:Int))),(50,.i s12)]) (fun (q13:Unit) s12=>[(.cells (A3 a0)),.dead,(.cells (A3 a0)),(.cells ((cA .i64) o11)),(.cells (A3 a0)),(.map []),(.cells [(.seq 4 (List.map C0 a0.Vans)),.i a0.Stops,.i a0.Handle,(.seq 4 (List.map A9 a0.Crates)),(.seq 2 (List.map C1 a0.Apart)),(.mp (H.length + 5))])]) 7 (fun r e s' H'=>(match r with | (.inl v)=>PX 3 [(4,(.ptr (H.length + 6) 0)),(5,(.ptr (H.length + 3) 0))] (H++[(.cells (A3 a0)),.dead,(.cells (A3 a0)),(.cells ((cA .i64) o11)),(.cells (A3 a0)),(.map []),(.cells [(.seq 4 (List.map C0 a0.Vans)),.i a0.Stops,.i a0.Handle,(.seq 4 (List.map A9 a0.Crates)),(.seq 2 (List.map C1 a0.Apart)),(.mp (H.length + 5))])]) e s' H' | (.inr v)=>e = .ret∧s' = [(4,(.lit (.pointer none))),(5,(.ptr (H.length + 3) 0)),(6,.i 9)]∧H' = (H++[(.cells (A3 a0)),.dead,(.cells (A3 a0)),(.cells ((cA .i64) o11)),(.cells (A3 a0)),(.map []),(.cells [(.seq 4 (List.map C0 a0.Vans)),.i a0.Stops,.i a0.Handle,(.seq 4 (List.map A9 a0.Crates)),(.seq 2 (List.map C1 a0.Apart)),(.mp (H.length + 5))])]):Prop)) () ho17 rfl rfl (fun _ _=>rfl) (fun _=>rfl) rfl (fun s12=>(bdc (D5 rfl) (bdc (D5 rfl) (bdc A4 (bdc A4 bdn))))) (fun q13 s12 ys12 hs12=>?_) ?_
     ·unfold B5j at hs12
      refine s0<|A0 (F4 rfl rfl) rfl<|es (ra5 rfl rfl rfl rfl rfl)<|B3<|wi hs12 rfl (fun hc14 hs12=>?_) fun hc14 hs12=>?_
      ·refine C2<|B3<|B9<|s0<|qm rfl<|qm rfl<|es (ra5 rfl rfl rfl rfl rfl)<|s0<|oB hs12 fun x15 hx15 hs12=>qm rfl<|A0 (F7 (kk:=.i64) (v:=o11) rfl rfl) rfl<|qm rfl<|B2 (rs:=[.b x15]) rfl rfl (A2 rfl (A2 A1b (A2 rfl B4))) ((P2 (F3 rfl) hx15).frz)<|A0 (O3 rfl) rfl<|es (ra5 rfl rfl rfl rfl rfl)<|wi hs12 rfl (fun hc16 hs12=>?_) fun hc16 hs12=>?_
       ·refine s0<|A0 (F7 (kk:=.i64) (v:=o11) rfl rfl) rfl<|qm rfl<|G6 (H9 (kk:=.i64) (u:=o11) (v:=o11) rfl rfl rfl) rfl<|qm rfl<|es (ra3 rfl rfl rfl)<|C4 ?_
        obtain rfl:=os hs12
        exact lx rfl (And.intro rfl (And.intro rfl rfl)) (su3 rfl rfl rfl)
       ·refine C2<|r0<|A0 (D7 rfl rfl) rfl<|qm rfl<|en (ra4 rfl rfl rfl rfl) ?_
        cases hs12
        exact lnT () rfl (su4 rfl rfl rfl rfl)
      ·refine E3 ?_
       obtain rfl:=os hs12
       exact lx rfl px (su2 rfl rfl)
     ·rcases o17 with vo17_0 | vo17_1
      ·rintro e s' H' - ⟨rfl,rfl,rfl⟩
       refine s0<|qm rfl<|A0 (F7 (kk:=.i64) (v:=o11) rfl rfl) rfl<|qm rfl<|G6 (H9 (kk:=.i64) (u:=o11) (v:=o11) rfl rfl rfl) rfl<|qm rfl<|es (ra3 rfl rfl rfl)<|C4<|InlQ.mk trivial ⟨_,_,_,[(.ptr (H.length + 6) 0),(.agg ((cA .i64) o11)),.i 0],_,(B1 rfl (M2 (F7 (kk:=.i64) rfl rfl) (B1 rfl B7))),(A5 rfl (A5 A2f (A5 rfl B6))),(A24 (U4 (A2z rfl)) (D9 rfl (D9 A15 (D9 rfl M5)))),?_⟩
       refine qm rfl<|A0 (A7 rfl rfl) rfl<|A0 (A7 rfl rfl) rfl<|A0 (A7 rfl rfl) rfl<|A0 (E6 (zs:=(cA .i64) (IArr.zero 6))) rfl<|qm rfl<|G6 (H9 (kk:=.i64) (u:=(IArr.zero 6)) (v:=o11) rfl rfl rfl) rfl<|qm rfl<|es (ra7 rfl rfl rfl rfl rfl rfl rfl)<|B3<|B9<|s0<|qm rfl<|A0 (J9 (v:=(.b false)) rfl rfl rfl) rfl<|qm rfl<|es (ra8 rfl rfl rfl rfl rfl rfl rfl rfl)<|A0c rfl rfl<|s0<|oB h fun x18 hx18 h=>oB h fun x21 hx21 h=>A0 (C3 rfl) rfl<|A0 (B5 rfl rfl rfl) rfl<|A0 (D3 (f:=C0) rfl) rfl<|A0 (O0 rfl rfl) rfl<|qm rfl<|A0 (I8 (rows:=List.map cI [a2]) rfl rfl (E4 (fun _=>rfl) _)) rfl<|B2 (rs:=[.b x18]) rfl rfl (A2 rfl (A2 rfl (A2 rfl B4))) ((H7 hx18).frz)<|qm rfl<|gp 7 48 (.b x21) 41 rfl rfl (fun hg19=>?_) (fun hg19=>?_) ?_
       ·obtain rfl:=os (bt hx21 hg19)
        exact nF rfl hg19 rfl<|nF rfl hg19 rfl<|nF rfl hg19 rfl<|nF rfl hg19 rfl<|nF rfl hg19 rfl<|H8 (E9 rfl (by rw [hg19]; rfl)) rfl<|A0 (C8 rfl hg19 rfl) rfl<|ge 7 rfl rfl rfl
       ·refine oB (bf hx21 hg19) fun x20 hx20 hx21=>?_
        obtain rfl:=os hx21
        exact gF rfl hg19<|A0 (C3 rfl) rfl<|gF rfl hg19<|A0 (B5 rfl rfl rfl) rfl<|gF rfl hg19<|A0 (O0 rfl rfl) rfl<|gF rfl hg19<|qm rfl<|gF rfl hg19<|A0 (I8 (rows:=List.map cI [a3]) rfl rfl (E4 (fun _=>rfl) _)) rfl<|gF rfl hg19<|B2 (rs:=[.b x20]) rfl rfl (A2 rfl (A2 rfl (A2 rfl B4))) ((H7 hx20).frz)<|A0 (C7 rfl hg19 rfl) rfl<|ge 7 rfl rfl rfl
       refine qm rfl<|es (ra7 rfl rfl rfl rfl rfl rfl rfl)<|wi h rfl (fun hc22 h=>?_) fun hc22 h=>?_
       ·refine s0<|qm rfl<|qm rfl<|es (ra2 rfl rfl)<|C4 ?_
        obtain rfl:=os h
        refine Exists.intro [(.seq 2 (List.map C6 ([]:List Span))),.i 4] (And.intro ?_ rfl)
        exact retq trivial (B1 rfl (B1 rfl B7)) (A5 rfl (A5 rfl B6)) (A1 D8 (A1 A4 A8))
       ·refine C2<|sg 7 rfl<|oB h fun x23 hx23 h=>qm rfl<|A0 (F7 (kk:=.i64) (v:=o11) rfl rfl) rfl<|qm rfl<|C36 (vs:=[(.asl (H.length + 7) (List.length x23))]) rfl rfl (A2 rfl (A2 A1b (A2 rfl B4))) (A29 (F3 rfl) hx23) (C2w (List.length_map _) rfl)<|qm rfl<|es (ra7 rfl rfl rfl rfl rfl rfl rfl)<|B3<|s0<|oB h fun x24 hx24 h=>oB h fun x25 hx25 h=>oB h fun x26 hx26 h=>qm rfl<|qm rfl<|A0 (V3 (f:=C6) rfl rfl rfl rfl hx24) rfl<|A0 (A8s rfl) rfl<|A0 (A38 (x:=(.i x24.Lo)) rfl rfl (List.length_map _) (V6 hx24) rfl) rfl<|qm rfl<|qm rfl<|A0 (V3 (f:=C6) rfl rfl rfl rfl hx25) rfl<|A0 (A8s rfl) rfl<|A0 (A38 (x:=(.i x25.Hi)) rfl rfl (List.length_map _) (V6 hx25) rfl) rfl<|qm rfl<|A0 (I8 (rows:=List.map cI [a4]) rfl rfl (E4 (fun _=>rfl) _)) rfl<|B2 (rs:=[.b x26]) rfl rfl (A2 rfl (A2 rfl (A2 rfl B4))) ((H7 hx26).frz)<|es (ra8 rfl rfl rfl rfl rfl rfl rfl rfl)<|wi h rfl (fun hc27 h=>?_) fun hc27 h=>?_
        ·refine s0<|qm rfl<|qm rfl<|es (ra2 rfl rfl)<|C4 ?_
         obtain rfl:=os h
         refine Exists.intro [(.seq 2 (List.map C6 ([]:List Span))),.i 8] (And.intro ?_ rfl)
         exact retq trivial (B1 rfl (B1 rfl B7)) (A5 rfl (A5 rfl B6)) (A1 D8 (A1 A4 A8))
        ·refine C2<|s0<|oB h fun x28 hx28 h=>qm rfl<|qm rfl<|qm rfl<|qm rfl<|A0 (N7 (cs:=C6 (Span.mk a4 a4)) rfl rfl) rfl<|A0 (V3 (f:=C6) rfl rfl rfl rfl hx28) rfl<|G6 (A4i (ds:=C6 (Span.mk a4 a4)) rfl rfl rfl rfl rfl (List.length_map _) (V6 hx28) rfl rfl) rfl ?_
         rw [A3q]
         rw [show List.length x23 = List.length (A1w x23 a3 (Span.mk a4 a4)) from (T8 _ _ _).symm]
         refine es (ra6 rfl rfl rfl rfl rfl rfl)<|s0<|oB h fun x29 hx29 h=>oB h fun x30 hx30 h=>qm rfl<|A0 (F7 (kk:=.i64) (v:=o11) rfl rfl) rfl<|qm rfl<|M6 (rs:=[(.seq 1 (List.map cI x29))]) rfl rfl (F1 rfl (F1 D8s (F1 rfl R7))) (A2 rfl (A2 A1b (A2 rfl B4))) ((A3a (D0d rfl) hx29).frz)<|qm rfl<|A0 (M9 rfl rfl) rfl<|A0 (C3 rfl) rfl<|A0 (C3 rfl) rfl<|A0 (B5 (x:=(.seq 4 (List.map C0 a0.Vans))) rfl rfl rfl) rfl<|qm rfl<|A0 (D4 (f:=C0) rfl rfl hx30) rfl<|A0 (R6 (ds:=(List.drop 3 (C0 x30))) rfl rfl) rfl<|A0 (D6 rfl rfl) rfl<|qm rfl<|qm rfl<|es (ra5 rfl rfl rfl rfl rfl)<|B3<|s0<|qm rfl<|A0 (D7 rfl rfl) rfl<|qm rfl<|es (ra6 rfl rfl rfl rfl rfl rfl)<|B9<|oB h fun o40 ho40 h=>wl (fun s31=>[(3,.i a3),(5,(.ptr (H.length + 0) 0)),(15,(.asl (H.length + 7) (List.length s31.2))),(16,(.seq 1 (List.map cI x29))),(17,(.seq 2 (List.map C6 x30.Legs))),(18,.i s31.1)]) (fun (q32:Unit) s31=>[(.cells (A3 a0)),(.cells ((cA .i64) o11)),(.cells (A3 a0)),(.cells ((cA .i64) o11)),(.cells (A3 a0)),(.map []),(.cells [(.seq 4 (List.map C0 a0.Vans)),.i a0.Stops,.i a0.Handle,(.seq 4 (List.map A9 a0.Crates)),(.seq 2 (List.map C1 a0.Apart)),(.mp (H.length + 5))]),(.arr 2 false (List.map C6 s31.2))]) 8 (fun r e s' H'=>PX 1 [(3,.i a3),(5,(.ptr (H.length + 0) 0)),(15,(.asl (H.length + 7) (List.length r))),(16,(.seq 1 (List.map cI x29))),(17,(.seq 2 (List.map C6 x30.Legs)))] (H++[(.cells (A3 a0)),(.cells ((cA .i64) o11)),(.cells (A3 a0)),(.cells ((cA .i64) o11)),(.cells (A3 a0)),(.map []),(.cells [(.seq 4 (List.map C0 a0.Vans)),.i a0.Stops,.i a0.Handle,(.seq 4 (List.map A9 a0.Crates)),(.seq 2 (List.map C1 a0.Apart)),(.mp (H.length + 5))]),(.arr 2 false (List.map C6 r))]) e s' H') () ho40 rfl rfl (fun _ _=>rfl) (fun _=>rfl) rfl (fun s31=>(bdc A4 (bdc (D5 rfl) (bdc (U8 rfl) (bdc D8 (bdc D8 (bdc A4 bdn))))))) (fun q32 s31 ys31 hs31=>?_) ?_
         ·unfold A4v at hs31
          refine B3<|s0<|qm rfl<|A0 (C3 rfl) rfl<|A0 (B5 rfl rfl rfl) rfl<|A0 (F4 rfl rfl) rfl<|es (ra7 rfl rfl rfl rfl rfl rfl rfl)<|wi hs31 rfl (fun hc33 hs31=>?_) fun hc33 hs31=>?_
          ·refine C2<|B3<|B9<|s0<|oB hs31 fun x34 hx34 hs31=>qm rfl<|qm rfl<|A0 (O0 rfl rfl) rfl<|A0 (D4 (f:=cI) rfl rfl hx34) rfl<|A0 (D6 rfl rfl) rfl<|A0 (C3 rfl) rfl<|A0 (B5 rfl rfl rfl) rfl<|A0 (C14 rfl rfl) rfl<|qm rfl<|es (ra7 rfl rfl rfl rfl rfl rfl rfl)<|r0<|oB hs31 fun x35 hx35 hs31=>oB hs31 fun x36 hx36 hs31=>oB hs31 fun x37 hx37 hs31=>oB hs31 fun x38 hx38 hs31=>oB hs31 fun x39 hx39 hs31=>qm rfl<|qm rfl<|qm rfl<|qm rfl<|A0 (O0 rfl rfl) rfl<|A0 (V3 (f:=C6) rfl rfl rfl rfl hx35) rfl<|A0 (A8s rfl) rfl<|A0 (A38 (x:=(.i x35.Lo)) rfl rfl (List.length_map _) (V6 hx35) rfl) rfl<|qm rfl<|A0 (D7 rfl rfl) rfl<|qm rfl<|qm rfl<|A0 (D4 (f:=C6) rfl rfl hx36) rfl<|A0 (R6 (ds:=(C6 x36)) rfl rfl) rfl<|A0 (D6 rfl rfl) rfl<|A0 (D7 rfl rfl) rfl<|qm rfl<|qm rfl<|A0 (O0 rfl rfl) rfl<|A0 (V3 (f:=C6) rfl rfl rfl rfl hx37) rfl<|A0 (A8s rfl) rfl<|A0 (A38 (x:=(.i x37.Hi)) rfl rfl (List.length_map _) (V6 hx37) rfl) rfl<|qm rfl<|A0 (D7 rfl rfl) rfl<|qm rfl<|qm rfl<|A0 (D4 (f:=C6) rfl rfl hx38) rfl<|A0 (R6 (ds:=(List.drop 1 (C6 x38))) rfl rfl) rfl<|A0 (D6 rfl rfl) rfl<|A0 (D7 rfl rfl) rfl<|A0 (N7 (cs:=C6 (Span.mk (w64 ((w64 (x35.Lo + (w64 (x34 * a0.Handle)))) + x36.Lo)) (w64 ((w64 (x37.Hi + (w64 (x34 * a0.Handle)))) + x38.Hi)))) rfl rfl) rfl<|A0 (V3 (f:=C6) rfl rfl rfl rfl hx39) rfl<|G6 (A4i (ds:=C6 (Span.mk (w64 ((w64 (x35.Lo + (w64 (x34 * a0.Handle)))) + x36.Lo)) (w64 ((w64 (x37.Hi + (w64 (x34 * a0.Handle)))) + x38.Hi)))) rfl rfl rfl rfl rfl (List.length_map _) (V6 hx39) rfl rfl) rfl ?_
           rw [A3q]
           rw [show List.length s31.2 = List.length (A1w s31.2 s31.1 (Span.mk (w64 ((w64 (x35.Lo + (w64 (x34 * a0.Handle)))) + x36.Lo)) (w64 ((w64 (x37.Hi + (w64 (x34 * a0.Handle)))) + x38.Hi)))) from (T8 _ _ _).symm]
           refine en (ra6 rfl rfl rfl rfl rfl rfl)<|r0<|qm rfl<|A0 (D7 rfl rfl) rfl<|qm rfl<|en (ra6 rfl rfl rfl rfl rfl rfl) ?_
           cases hs31
           exact lnT () rfl (su6 rfl rfl rfl rfl rfl rfl)
          ·refine E3 ?_
           obtain rfl:=os hs31
           exact lx rfl px (su5 rfl rfl rfl rfl rfl)
         ·rintro e s' H' - ⟨rfl,rfl,rfl⟩
          refine B3<|s0<|qm rfl<|A0 (O0 rfl rfl) rfl<|qm rfl<|es (ra5 rfl rfl rfl rfl rfl)<|B9<|oB h fun o52 ho52 h=>wl (fun s41=>[(5,(.ptr (H.length + 0) 0)),(15,(.asl (H.length + 7) (List.length s41.2))),(16,(.seq 1 (List.map cI x29))),(17,(.seq 2 (List.map C6 x30.Legs))),(20,.i s41.1)]) (fun (q42:Unit) s41=>[(.cells (A3 a0)),(.cells ((cA .i64) o11)),(.cells (A3 a0)),(.cells ((cA .i64) o11)),(.cells (A3 a0)),(.map []),(.cells [(.seq 4 (List.map C0 a0.Vans)),.i a0.Stops,.i a0.Handle,(.seq 4 (List.map A9 a0.Crates)),(.seq 2 (List.map C1 a0.Apart)),(.mp (H.length + 5))]),(.arr 2 false (List.map C6 s41.2))]) 8 (fun r e s' H'=>PX 3 [(15,(.asl (H.length + 7) (List.length r)))] (H++[(.cells (A3 a0)),(.cells ((cA .i64) o11)),(.cells (A3 a0)),(.cells ((cA .i64) o11)),(.cells (A3 a0)),(.map []),(.cells [(.seq 4 (List.map C0 a0.Vans)),.i a0.Stops,.i a0.Handle,(.seq 4 (List.map A9 a0.Crates)),(.seq 2 (List.map C1 a0.Apart)),(.mp (H.length + 5))]),(.arr 2 false (List.map C6 r))]) e s' H') () ho52 rfl rfl (fun _ _=>rfl) (fun _=>rfl) rfl (fun s41=>(bdc (D5 rfl) (bdc (U8 rfl) (bdc D8 (bdc D8 (bdc A4 bdn)))))) (fun q42 s41 ys41 hs41=>?_) ?_
          ·unfold A4w at hs41
           refine B3<|s0<|qm rfl<|A0 (B1e rfl rfl) rfl<|es (ra6 rfl rfl rfl rfl rfl rfl)<|wi hs41 rfl (fun hc43 hs41=>?_) fun hc43 hs41=>?_
           ·refine C2<|B3<|B9<|s0<|oB hs41 fun x44 hx44 hs41=>qm rfl<|qm rfl<|A0 (D4 (f:=cI) rfl rfl hx44) rfl<|A0 (D6 rfl rfl) rfl<|A0 (C3 rfl) rfl<|A0 (B5 rfl rfl rfl) rfl<|A0 (C14 rfl rfl) rfl<|qm rfl<|es (ra6 rfl rfl rfl rfl rfl rfl)<|r0<|oB hs41 fun x45 hx45 hs41=>oB hs41 fun x46 hx46 hs41=>oB hs41 fun x47 hx47 hs41=>oB hs41 fun x48 hx48 hs41=>oB hs41 fun x49 hx49 hs41=>oB hs41 fun x50 hx50 hs41=>oB hs41 fun x51 hx51 hs41=>qm rfl<|qm rfl<|qm rfl<|qm rfl<|A0 (V3 (f:=C6) rfl rfl rfl rfl hx45) rfl<|A0 (A8s rfl) rfl<|A0 (A38 (x:=(.i x45.Lo)) rfl rfl (List.length_map _) (V6 hx45) rfl) rfl<|qm rfl<|qm rfl<|A0 (D7 rfl rfl) rfl<|A0 (V3 (f:=C6) rfl rfl rfl rfl hx46) rfl<|A0 (A8s rfl) rfl<|A0 (A38 (x:=(.i x46.Lo)) rfl rfl (List.length_map _) (V6 hx46) rfl) rfl<|qm rfl<|A0 (O0 rfl rfl) rfl<|qm rfl<|qm rfl<|A0 (D7 rfl rfl) rfl<|A0 (D4 (f:=C6) rfl rfl hx47) rfl<|A0 (R6 (ds:=(List.drop 1 (C6 x47))) rfl rfl) rfl<|A0 (D6 rfl rfl) rfl<|A0 (O0 rfl rfl) rfl<|A0 (B8g rfl rfl) rfl<|qm rfl<|qm rfl<|A0 (V3 (f:=C6) rfl rfl rfl rfl hx48) rfl<|A0 (A8s rfl) rfl<|A0 (A38 (x:=(.i x48.Hi)) rfl rfl (List.length_map _) (V6 hx48) rfl) rfl<|qm rfl<|qm rfl<|A0 (D7 rfl rfl) rfl<|A0 (V3 (f:=C6) rfl rfl rfl rfl hx49) rfl<|A0 (A8s rfl) rfl<|A0 (A38 (x:=(.i x49.Hi)) rfl rfl (List.length_map _) (V6 hx49) rfl) rfl<|qm rfl<|A0 (O0 rfl rfl) rfl<|qm rfl<|qm rfl<|A0 (D7 rfl rfl) rfl ?_
            refine A0 (D4 (f:=C6) rfl rfl hx50) rfl<|A0 (R6 (ds:=(C6 x50)) rfl rfl) rfl<|A0 (D6 rfl rfl) rfl<|A0 (O0 rfl rfl) rfl<|A0 (B8g rfl rfl) rfl<|A0 (N7 (cs:=C6 (Span.mk (A5w x45.Lo (w64 ((w64 (x46.Lo - (w64 (x44 * a0.Handle)))) - x47.Hi))) (A89 x48.Hi (w64 ((w64 (x49.Hi - (w64 (x44 * a0.Handle)))) - x50.Lo))))) rfl rfl) rfl<|A0 (V3 (f:=C6) rfl rfl rfl rfl hx51) rfl<|G6 (A4i (ds:=C6 (Span.mk (A5w x45.Lo (w64 ((w64 (x46.Lo - (w64 (x44 * a0.Handle)))) - x47.Hi))) (A89 x48.Hi (w64 ((w64 (x49.Hi - (w64 (x44 * a0.Handle)))) - x50.Lo))))) rfl rfl rfl rfl rfl (List.length_map _) (V6 hx51) rfl rfl) rfl ?_
            rw [A3q]
            rw [show List.length s41.2 = List.length (A1w s41.2 s41.1 (Span.mk (A5w x45.Lo (w64 ((w64 (x46.Lo - (w64 (x44 * a0.Handle)))) - x47.Hi))) (A89 x48.Hi (w64 ((w64 (x49.Hi - (w64 (x44 * a0.Handle)))) - x50.Lo))))) from (T8 _ _ _).symm]
            refine en (ra5 rfl rfl rfl rfl rfl)<|r0<|qm rfl<|A0 (O0 rfl rfl) rfl<|qm rfl<|en (ra5 rfl rfl rfl rfl rfl) ?_
            cases hs41
            exact lnT () rfl (su5 rfl rfl rfl rfl rfl)
           ·refine E3 ?_
            obtain rfl:=os hs41
            exact lx rfl px (su1 rfl)
          ·rintro e s' H' - ⟨rfl,rfl,rfl⟩
           refine s0<|qm rfl<|qm rfl<|qm rfl<|es (ra2 rfl rfl)<|C4 ?_
           obtain rfl:=os h
           refine Exists.intro [(.fresh 2 (List.map C6 o52)),.i 0] (And.intro ?_ rfl)
           exact retq trivial (B1 rfl (B1 rfl B7)) (A5 (A6n rfl (List.length_map _)) (A5 rfl B6)) (A1 A0v (A1 A4 A8))
      ·rintro e s' H' - ⟨rfl,rfl,rfl⟩
       refine InlQ.mk trivial ⟨_,_,_,[(.lit (.pointer none)),(.agg ((cA .i64) o11)),.i 9],_,(B1 rfl (M2 (F7 (kk:=.i64) rfl rfl) (B1 rfl B7))),(A5 rfl (A5 A2f (A5 rfl B6))),(Z1 (A1 A4 (A1 A5m (A1 A4 A8))) (D9 rfl (D9 A15 (D9 rfl M5))) (K7 _ _ _)),?_⟩
       refine qm rfl<|A0 (A7 rfl rfl) rfl<|A0 (A7 rfl rfl) rfl<|A0 (A7 rfl rfl) rfl<|A0 (E6 (zs:=(cA .i64) (IArr.zero 6))) rfl<|qm rfl<|G6 (H9 (kk:=.i64) (u:=(IArr.zero 6)) (v:=o11) rfl rfl rfl) rfl<|qm rfl<|es (ra7 rfl rfl rfl rfl rfl rfl rfl)<|B3<|B9<|s0<|qm rfl<|A0 (J9 (v:=(.b true)) rfl rfl rfl) rfl<|qm rfl<|es (ra8 rfl rfl rfl rfl rfl rfl rfl rfl)<|N0 rfl rfl<|s0<|qm rfl<|qm rfl<|qm rfl<|es (ra2 rfl rfl)<|C4 ?_
       obtain rfl:=os h
       refine Exists.intro [(.seq 2 (List.map C6 ([]:List Span))),.i 9] (And.intro ?_ rfl)
       exact retq trivial (B1 rfl (B1 rfl B7)) (A5 rfl (A5 rfl B6)) (A1 D8 (A1 A4 A8))
def B37 (a1:(List Int)) (s6:(Int × (IArr 6))):Option ((Int × (IArr 6)) ⊕ (IArr 6)) :=
 if (decide (s6.1 < (List.length a1:Int))) = true then
  (idx a1 s6.1).bind fun x9 =>
  (A0y 6 (IArr.l s6.2) s6.1).bind fun x10 =>
  some (.inl ((w64 (s6.1 + 1)),(IArr.set s6.2 s6.1 (w64 (x9 + 1)))))
 else
  some (.inr s6.2)
def B38 (a0:VaTrain) (a1:(List Int)) (o11:(IArr 6)) (s12:Int):Option (Int ⊕ (Unit ⊕ Unit)) :=
 if (decide (s12 < (List.length a1:Int))) = true then
  (I5 (van_train.mk a0) o11 s12).bind fun x15 =>
  if (!x15) = true then
  some (.inr (.inr ()))
  else
  some (.inl (w64 (s12 + 1)))
 else
  some (.inr (.inl ()))
def A32 (a0:VaTrain) (a1:(List Int)) (a2:Int):Option ((List Int) × Int) :=
 (V8 a0).bind fun x1 =>
 if (x1.2.2 != 0) = true then
  some (([]:List Int),x1.2.2)
 else
  if ((List.length a1:Int) != (List.length a0.Crates:Int)) = true then
  some (([]:List Int),3)
  else
  (G3 (-1) (w64 ((List.length a0.Vans:Int) - 1)) a1).bind fun x4 =>
  if x4 = true then
   some (([]:List Int),4)
  else
   (loop (B37 a1) (0,(IArr.zero 6))).bind fun (o11:(IArr 6)) =>
   (loop (B38 a0 a1 o11) 0).bind fun (o17:(Unit ⊕ Unit)) =>
   match o17 with
   | (.inl vo17_0) =>
   (G3 0 (w64 ((List.length a0.Vans:Int) - 1)) [a2]).bind fun x18 =>
   if x18 = true then
    some (([]:List Int),4)
   else
    (L4 (van_train.mk a0) o11 a2).bind fun x20 =>
    some (x20,0)
   | (.inr vo17_1) =>
   some (([]:List Int),9)
theorem A7k {c:Sc} {H:A6} {a0:VaTrain} {a1:(List Int)} {a2:Int} {r:((List Int) × Int)} (h:A32 a0 a1 a2 = some r) :
  F2 tab c H (.fn (.func 18) [] []) [(.agg (A3 a0)),(.seq 1 (List.map cI a1)),.i a2] [(.seq 1 (List.map cI r.1)),.i r.2]:= by
 unfold A32 at h
 refine cE rfl rfl<|sg 0 rfl<|A0 (G0 (cs:=A3 a0) rfl rfl rfl) rfl<|qm rfl<|qm rfl<|es (ra3 rfl rfl rfl)<|sg 1 rfl<|A0 (C5 rfl rfl rfl) rfl<|qm rfl<|V4 (as2:=[(.agg (A3 a0)),(.seq 1 (List.map cI a1))]) (H1:=(H++[(.cells (A3 a0)),.dead])) rfl rfl (A2 (D2 rfl) (A2 rfl B4)) rfl rfl rfl (A26 rfl)<|sg 2 rfl<|A0 (G0 (cs:=A3 a0) rfl rfl rfl) rfl<|qm rfl<|A0 (E6 (zs:=(cA .i64) (IArr.zero 6))) rfl<|qm rfl<|es (ra3 rfl rfl rfl)<|s0<|A0 (C5 rfl rfl rfl) rfl<|V4 (as2:=[(.agg (A3 a0))]) (H1:=(H++[(.cells (A3 a0)),.dead,(.cells (A3 a0)),(.cells ((cA .i64) (IArr.zero 6)))])) rfl rfl (A2 (D2 rfl) B4) rfl rfl rfl (A26 rfl)<|sg 4 rfl<|A0 (G0 (cs:=A3 a0) rfl rfl rfl) rfl<|qm rfl<|qm rfl<|es (ra1 rfl)<|B3<|s0<|oB h fun x1 hx1 h=>A0 (C5 rfl rfl rfl) rfl<|B2 (rs:=[.i x1.1,.i x1.2.1,.i x1.2.2]) rfl rfl (A2 (D2 rfl) B4) ((Z5 hx1).frz)<|qm rfl<|A0 (A7 rfl rfl) rfl<|A0 (A7 rfl rfl) rfl<|A0 (A7 rfl rfl) rfl<|qm rfl<|qm rfl<|qm rfl<|es (ra2 rfl rfl)<|s0<|qm rfl<|A0 (F8 rfl rfl) rfl<|es (ra3 rfl rfl rfl)<|wi h rfl (fun hc2 h=>?_) fun hc2 h=>?_
 ·refine s0<|qm rfl<|qm rfl<|qm rfl<|es (ra2 rfl rfl)<|C4<|InlQ.mk trivial ⟨_,_,_,[(.lit (.pointer none)),.i x1.2.2],_,(B1 rfl (B1 rfl B7)),(A5 rfl (A5 rfl B6)),(Z1 (A1 A4 (A1 A4 A8)) (D9 rfl (D9 rfl M5)) (K7 _ _ _)),?_⟩
  refine qm rfl<|A0 (A7 rfl rfl) rfl<|A0 (A7 rfl rfl) rfl<|qm rfl<|qm rfl<|es (ra5 rfl rfl rfl rfl rfl)<|B3<|B9<|s0<|qm rfl<|A0 (F8 rfl rfl) rfl<|qm rfl<|es (ra6 rfl rfl rfl rfl rfl rfl)<|N0 rfl hc2<|s0<|A0 (F7 (kk:=.i64) (v:=(IArr.zero 6)) rfl rfl) rfl<|qm rfl<|G6 (H9 (kk:=.i64) (u:=(IArr.zero 6)) (v:=(IArr.zero 6)) rfl rfl rfl) rfl<|qm rfl<|qm rfl<|es (ra3 rfl rfl rfl)<|C4<|InlQ.mk trivial ⟨_,_,_,[(.lit (.pointer none)),(.agg ((cA .i64) (IArr.zero 6))),.i x1.2.2],_,(B1 rfl (M2 (F7 (kk:=.i64) rfl rfl) (B1 rfl B7))),(A5 rfl (A5 A2f (A5 rfl B6))),(Z1 (A1 A4 (A1 A5m (A1 A4 A8))) (D9 rfl (D9 A15 (D9 rfl M5))) (K7 _ _ _)),?_⟩
  refine qm rfl<|A0 (A7 rfl rfl) rfl<|A0 (A7 rfl rfl) rfl<|A0 (A7 rfl rfl) rfl<|A0 (E6 (zs:=(cA .i64) (IArr.zero 6))) rfl<|qm rfl<|G6 (H9 (kk:=.i64) (u:=(IArr.zero 6)) (v:=(IArr.zero 6)) rfl rfl rfl) rfl<|qm rfl<|es (ra5 rfl rfl rfl rfl rfl)<|B3<|B9<|s0<|qm rfl<|A0 (F8 rfl rfl) rfl<|qm rfl<|es (ra6 rfl rfl rfl rfl rfl rfl)<|N0 rfl hc2<|s0<|qm rfl<|qm rfl<|qm rfl<|es (ra2 rfl rfl)<|C4 ?_
  obtain rfl:=os h
  exact retq trivial (B1 rfl (B1 rfl B7)) (A5 rfl (A5 rfl B6)) (A1 D8 (A1 A4 A8))
 ·refine C2<|sg 5 rfl<|A0 (C5 rfl rfl rfl) rfl<|A0 A9k rfl<|A0 (N7 (cs:=[(.seq 4 (List.map C0 a0.Vans)),.i a0.Stops,.i a0.Handle,(.seq 4 (List.map A9 a0.Crates)),(.seq 2 (List.map C1 a0.Apart)),(.mp (H.length + 5))]) rfl rfl) rfl<|A0 (G0 (cs:=[(.seq 4 (List.map C0 a0.Vans)),.i a0.Stops,.i a0.Handle,(.seq 4 (List.map A9 a0.Crates)),(.seq 2 (List.map C1 a0.Apart)),(.mp (H.length + 5))]) rfl rfl rfl) rfl<|qm rfl<|qm rfl<|es (ra2 rfl rfl)<|C4<|InlQ.mk trivial ⟨_,_,_,[(.ptr (H.length + 6) 0),.i 0],_,(B1 rfl (B1 rfl B7)),(A5 rfl (A5 rfl B6)),(A24 (U4 (A2z rfl)) (D9 rfl (D9 rfl M5))),?_⟩
  refine qm rfl<|A0 (A7 rfl rfl) rfl<|A0 (A7 rfl rfl) rfl<|qm rfl<|qm rfl<|es (ra5 rfl rfl rfl rfl rfl)<|B3<|B9<|s0<|qm rfl<|A0 (J9 (v:=(.b false)) rfl rfl rfl) rfl<|qm rfl<|es (ra6 rfl rfl rfl rfl rfl rfl)<|A0c rfl rfl<|s0<|qm rfl<|A0 (D3 (f:=cI) rfl) rfl<|A0 (C3 rfl) rfl<|A0 (B5 rfl rfl rfl) rfl<|A0 (D3 (f:=A9) rfl) rfl<|A0 (F8 rfl rfl) rfl<|qm rfl<|es (ra5 rfl rfl rfl rfl rfl)<|wi h rfl (fun hc3 h=>?_) fun hc3 h=>?_
  ·refine s0<|A0 (F7 (kk:=.i64) (v:=(IArr.zero 6)) rfl rfl) rfl<|qm rfl<|G6 (H9 (kk:=.i64) (u:=(IArr.zero 6)) (v:=(IArr.zero 6)) rfl rfl rfl) rfl<|qm rfl<|es (ra3 rfl rfl rfl)<|C4<|InlQ.mk trivial ⟨_,_,_,[(.lit (.pointer none)),(.agg ((cA .i64) (IArr.zero 6))),.i 3],_,(B1 rfl (M2 (F7 (kk:=.i64) rfl rfl) (B1 rfl B7))),(A5 rfl (A5 A2f (A5 rfl B6))),(Z1 (A1 A4 (A1 A5m (A1 A4 A8))) (D9 rfl (D9 A15 (D9 rfl M5))) (K7 _ _ _)),?_⟩
   refine qm rfl<|A0 (A7 rfl rfl) rfl<|A0 (A7 rfl rfl) rfl<|A0 (A7 rfl rfl) rfl<|A0 (E6 (zs:=(cA .i64) (IArr.zero 6))) rfl<|qm rfl<|G6 (H9 (kk:=.i64) (u:=(IArr.zero 6)) (v:=(IArr.zero 6)) rfl rfl rfl) rfl<|qm rfl<|es (ra5 rfl rfl rfl rfl rfl)<|B3<|B9<|s0<|qm rfl<|A0 (J9 (v:=(.b true)) rfl rfl rfl) rfl<|qm rfl<|es (ra6 rfl rfl rfl rfl rfl rfl)<|N0 rfl rfl<|s0<|qm rfl<|qm rfl<|qm rfl<|es (ra2 rfl rfl)<|C4 ?_
   obtain rfl:=os h
   exact retq trivial (B1 rfl (B1 rfl B7)) (A5 rfl (A5 rfl B6)) (A1 D8 (A1 A4 A8))
  ·refine s0<|oB h fun x4 hx4 h=>A0 (C3 rfl) rfl<|A0 (B5 rfl rfl rfl) rfl<|A0 (D3 (f:=C0) rfl) rfl<|A0 (O0 rfl rfl) rfl<|qm rfl<|B2 (rs:=[.b x4]) rfl rfl (A2 rfl (A2 rfl (A2 rfl B4))) ((H7 hx4).frz)<|qm rfl<|es (ra4 rfl rfl rfl rfl)<|wi h rfl (fun hc5 h=>?_) fun hc5 h=>?_
   ·refine s0<|A0 (F7 (kk:=.i64) (v:=(IArr.zero 6)) rfl rfl) rfl<|qm rfl<|G6 (H9 (kk:=.i64) (u:=(IArr.zero 6)) (v:=(IArr.zero 6)) rfl rfl rfl) rfl<|qm rfl<|es (ra3 rfl rfl rfl)<|C4<|InlQ.mk trivial ⟨_,_,_,[(.lit (.pointer none)),(.agg ((cA .i64) (IArr.zero 6))),.i 4],_,(B1 rfl (M2 (F7 (kk:=.i64) rfl rfl) (B1 rfl B7))),(A5 rfl (A5 A2f (A5 rfl B6))),(Z1 (A1 A4 (A1 A5m (A1 A4 A8))) (D9 rfl (D9 A15 (D9 rfl M5))) (K7 _ _ _)),?_⟩
    refine qm rfl<|A0 (A7 rfl rfl) rfl<|A0 (A7 rfl rfl) rfl<|A0 (A7 rfl rfl) rfl<|A0 (E6 (zs:=(cA .i64) (IArr.zero 6))) rfl<|qm rfl<|G6 (H9 (kk:=.i64) (u:=(IArr.zero 6)) (v:=(IArr.zero 6)) rfl rfl rfl) rfl<|qm rfl<|es (ra5 rfl rfl rfl rfl rfl)<|B3<|B9<|s0<|qm rfl<|A0 (J9 (v:=(.b true)) rfl rfl rfl) rfl<|qm rfl<|es (ra6 rfl rfl rfl rfl rfl rfl)<|N0 rfl rfl<|s0<|qm rfl<|qm rfl<|qm rfl<|es (ra2 rfl rfl)<|C4 ?_
    obtain rfl:=os h
    exact retq trivial (B1 rfl (B1 rfl B7)) (A5 rfl (A5 rfl B6)) (A1 D8 (A1 A4 A8))
   ·refine C2<|B3<|s0<|qm rfl<|A0 (D3 (f:=cI) rfl) rfl<|qm rfl<|es (ra6 rfl rfl rfl rfl rfl rfl)<|B9<|oB h fun o11 ho11 h=>wl (fun s6=>[(1,(.seq 1 (List.map cI a1))),(4,(.ptr (H.length + 6) 0)),(5,(.ptr (H.length + 3) 0)),(36,(.seq 1 (List.map cI a1))),(37,(.i (List.length a1:Int))),(38,.i s6.1)]) (fun (q7:Unit) s6=>[(.cells (A3 a0)),.dead,(.cells (A3 a0)),(.cells ((cA .i64) s6.2)),(.cells (A3 a0)),(.map []),(.cells [(.seq 4 (List.map C0 a0.Vans)),.i a0.Stops,.i a0.Handle,(.seq 4 (List.map A9 a0.Crates)),(.seq 2 (List.map C1 a0.Apart)),(.mp (H.length + 5))])]) 7 (fun r e s' H'=>PX 1 [(1,(.seq 1 (List.map cI a1))),(4,(.ptr (H.length + 6) 0)),(5,(.ptr (H.length + 3) 0))] (H++[(.cells (A3 a0)),.dead,(.cells (A3 a0)),(.cells ((cA .i64) r)),(.cells (A3 a0)),(.map []),(.cells [(.seq 4 (List.map C0 a0.Vans)),.i a0.Stops,.i a0.Handle,(.seq 4 (List.map A9 a0.Crates)),(.seq 2 (List.map C1 a0.Apart)),(.mp (H.length + 5))])]) e s' H') () ho11 rfl rfl (fun _ _=>rfl) (fun _=>rfl) rfl (fun s6=>(bdc D8 (bdc (D5 rfl) (bdc (D5 rfl) (bdc D8 (bdc A4 (bdc A4 bdn))))))) (fun q7 s6 ys6 hs6=>?_) ?_
    ·unfold B37 at hs6
     refine s0<|A0 (F4 rfl rfl) rfl<|es (ra7 rfl rfl rfl rfl rfl rfl rfl)<|B3<|wi hs6 rfl (fun hc8 hs6=>?_) fun hc8 hs6=>?_
     ·refine C2<|B3<|B9<|s0<|oB hs6 fun x9 hx9 hs6=>qm rfl<|A0 (D4 (f:=cI) rfl rfl hx9) rfl<|A0 (D6 rfl rfl) rfl<|qm rfl<|qm rfl<|es (ra8 rfl rfl rfl rfl rfl rfl rfl rfl)<|r0<|oB hs6 fun x10 hx10 hs6=>qm rfl<|qm rfl<|A0 (D7 rfl rfl) rfl<|A0 (Z4 rfl rfl hx10) rfl<|G6 (A93 rfl rfl rfl hx10) rfl<|en (ra6 rfl rfl rfl rfl rfl rfl)<|r0<|A0 (D7 rfl rfl) rfl<|qm rfl<|en (ra6 rfl rfl rfl rfl rfl rfl) ?_
      cases hs6
      exact lnT () rfl (su6 rfl rfl rfl rfl rfl rfl)
     ·refine E3 ?_
      obtain rfl:=os hs6
      exact lx rfl px (su3 rfl rfl rfl)
    ·rintro e s' H' - ⟨rfl,rfl,rfl⟩
     refine B3<|s0<|qm rfl<|A0 (D3 (f:=cI) rfl) rfl<|qm rfl<|es (ra4 rfl rfl rfl rfl)<|B9<|oB h fun o17 ho17 h=>wl (fun s12=>[(4,(.ptr (H.length + 6) 0)),(5,(.ptr (H.length + 3) 0)),(49,(.i (List.length a1:Int))),(50,.i s12)]) (fun (q13:Unit) s12=>[(.cells (A3 a0)),.dead,(.cells (A3 a0)),(.cells ((cA .i64) o11)),(.cells (A3 a0)),(.map []),(.cells [(.seq 4 (List.map C0 a0.Vans)),.i a0.Stops,.i a0.Handle,(.seq 4 (List.map A9 a0.Crates)),(.seq 2 (List.map C1 a0.Apart)),(.mp (H.length + 5))])]) 7 (fun r e s' H'=>(match r with | (.inl v)=>PX 3 [(4,(.ptr (H.length + 6) 0)),(5,(.ptr (H.length + 3) 0))] (H++[(.cells (A3 a0)),.dead,(.cells (A3 a0)),(.cells ((cA .i64) o11)),(.cells (A3 a0)),(.map []),(.cells [(.seq 4 (List.map C0 a0.Vans)),.i a0.Stops,.i a0.Handle,(.seq 4 (List.map A9 a0.Crates)),(.seq 2 (List.map C1 a0.Apart)),(.mp (H.length + 5))])]) e s' H' | (.inr v)=>e = .ret∧s' = [(4,(.lit (.pointer none))),(5,(.ptr (H.length + 3) 0)),(6,.i 9)]∧H' = (H++[(.cells (A3 a0)),.dead,(.cells (A3 a0)),(.cells ((cA .i64) o11)),(.cells (A3 a0)),(.map []),(.cells [(.seq 4 (List.map C0 a0.Vans)),.i a0.Stops,.i a0.Handle,(.seq 4 (List.map A9 a0.Crates)),(.seq 2 (List.map C1 a0.Apart)),(.mp (H.length + 5))])]):Prop)) () ho17 rfl rfl (fun _ _=>rfl) (fun _=>rfl) rfl (fun s12=>(bdc (D5 rfl) (bdc (D5 rfl) (bdc A4 (bdc A4 bdn))))) (fun q13 s12 ys12 hs12=>?_) ?_
     ·unfold B38 at hs12
      refine s0<|A0 (F4 rfl rfl) rfl<|es (ra5 rfl rfl rfl rfl rfl)<|B3<|wi hs12 rfl (fun hc14 hs12=>?_) fun hc14 hs12=>?_
      ·refine C2<|B3<|B9<|s0<|qm rfl<|qm rfl<|es (ra5 rfl rfl rfl rfl rfl)<|s0<|oB hs12 fun x15 hx15 hs12=>qm rfl<|A0 (F7 (kk:=.i64) (v:=o11) rfl rfl) rfl<|qm rfl<|B2 (rs:=[.b x15]) rfl rfl (A2 rfl (A2 A1b (A2 rfl B4))) ((P2 (F3 rfl) hx15).frz)<|A0 (O3 rfl) rfl<|es (ra5 rfl rfl rfl rfl rfl)<|wi hs12 rfl (fun hc16 hs12=>?_) fun hc16 hs12=>?_
       ·refine s0<|A0 (F7 (kk:=.i64) (v:=o11) rfl rfl) rfl<|qm rfl<|G6 (H9 (kk:=.i64) (u:=o11) (v:=o11) rfl rfl rfl) rfl<|qm rfl<|es (ra3 rfl rfl rfl)<|C4 ?_
        obtain rfl:=os hs12
        exact lx rfl (And.intro rfl (And.intro rfl rfl)) (su3 rfl rfl rfl)
       ·refine C2<|r0<|A0 (D7 rfl rfl) rfl<|qm rfl<|en (ra4 rfl rfl rfl rfl) ?_
        cases hs12
        exact lnT () rfl (su4 rfl rfl rfl rfl)
      ·refine E3 ?_
       obtain rfl:=os hs12
       exact lx rfl px (su2 rfl rfl)
     ·rcases o17 with vo17_0 | vo17_1
      ·rintro e s' H' - ⟨rfl,rfl,rfl⟩
       refine s0<|qm rfl<|A0 (F7 (kk:=.i64) (v:=o11) rfl rfl) rfl<|qm rfl<|G6 (H9 (kk:=.i64) (u:=o11) (v:=o11) rfl rfl rfl) rfl<|qm rfl<|es (ra3 rfl rfl rfl)<|C4<|InlQ.mk trivial ⟨_,_,_,[(.ptr (H.length + 6) 0),(.agg ((cA .i64) o11)),.i 0],_,(B1 rfl (M2 (F7 (kk:=.i64) rfl rfl) (B1 rfl B7))),(A5 rfl (A5 A2f (A5 rfl B6))),(A24 (U4 (A2z rfl)) (D9 rfl (D9 A15 (D9 rfl M5)))),?_⟩
       refine qm rfl<|A0 (A7 rfl rfl) rfl<|A0 (A7 rfl rfl) rfl<|A0 (A7 rfl rfl) rfl<|A0 (E6 (zs:=(cA .i64) (IArr.zero 6))) rfl<|qm rfl<|G6 (H9 (kk:=.i64) (u:=(IArr.zero 6)) (v:=o11) rfl rfl rfl) rfl<|qm rfl<|es (ra5 rfl rfl rfl rfl rfl)<|B3<|B9<|s0<|qm rfl<|A0 (J9 (v:=(.b false)) rfl rfl rfl) rfl<|qm rfl<|es (ra6 rfl rfl rfl rfl rfl rfl)<|A0c rfl rfl<|s0<|oB h fun x18 hx18 h=>A0 (C3 rfl) rfl<|A0 (B5 rfl rfl rfl) rfl<|A0 (D3 (f:=C0) rfl) rfl<|A0 (O0 rfl rfl) rfl<|qm rfl<|A0 (I8 (rows:=List.map cI [a2]) rfl rfl (E4 (fun _=>rfl) _)) rfl<|B2 (rs:=[.b x18]) rfl rfl (A2 rfl (A2 rfl (A2 rfl B4))) ((H7 hx18).frz)<|qm rfl<|es (ra4 rfl rfl rfl rfl)<|wi h rfl (fun hc19 h=>?_) fun hc19 h=>?_
       ·refine s0<|qm rfl<|qm rfl<|es (ra2 rfl rfl)<|C4 ?_
        obtain rfl:=os h
        exact retq trivial (B1 rfl (B1 rfl B7)) (A5 rfl (A5 rfl B6)) (A1 D8 (A1 A4 A8))
       ·refine C2<|s0<|oB h fun x20 hx20 h=>qm rfl<|A0 (F7 (kk:=.i64) (v:=o11) rfl rfl) rfl<|qm rfl<|B2 (rs:=[(.seq 1 (List.map cI x20))]) rfl rfl (A2 rfl (A2 A1b (A2 rfl B4))) ((A3a (F3 rfl) hx20).frz)<|qm rfl<|qm rfl<|es (ra2 rfl rfl)<|C4 ?_
        obtain rfl:=os h
        exact retq trivial (B1 rfl (B1 rfl B7)) (A5 rfl (A5 rfl B6)) (A1 D8 (A1 A4 A8))
      ·rintro e s' H' - ⟨rfl,rfl,rfl⟩
       refine InlQ.mk trivial ⟨_,_,_,[(.lit (.pointer none)),(.agg ((cA .i64) o11)),.i 9],_,(B1 rfl (M2 (F7 (kk:=.i64) rfl rfl) (B1 rfl B7))),(A5 rfl (A5 A2f (A5 rfl B6))),(Z1 (A1 A4 (A1 A5m (A1 A4 A8))) (D9 rfl (D9 A15 (D9 rfl M5))) (K7 _ _ _)),?_⟩
       refine qm rfl<|A0 (A7 rfl rfl) rfl<|A0 (A7 rfl rfl) rfl<|A0 (A7 rfl rfl) rfl<|A0 (E6 (zs:=(cA .i64) (IArr.zero 6))) rfl<|qm rfl<|G6 (H9 (kk:=.i64) (u:=(IArr.zero 6)) (v:=o11) rfl rfl rfl) rfl<|qm rfl<|es (ra5 rfl rfl rfl rfl rfl)<|B3<|B9<|s0<|qm rfl<|A0 (J9 (v:=(.b true)) rfl rfl rfl) rfl<|qm rfl<|es (ra6 rfl rfl rfl rfl rfl rfl)<|N0 rfl rfl<|s0<|qm rfl<|qm rfl<|qm rfl<|es (ra2 rfl rfl)<|C4 ?_
       obtain rfl:=os h
       exact retq trivial (B1 rfl (B1 rfl B7)) (A5 rfl (A5 rfl B6)) (A1 D8 (A1 A4 A8))
def G2 :Option Bool :=
 (B1l).bind fun x1 =>
 (A6i).bind fun x2 =>
 (A32 x1 x2 0).bind fun x3 =>
 (A6i).bind fun x4 =>
 (A31 x1 x4 0).bind fun x5 =>
 (A6i).bind fun x6 =>
 (T9 x1 x6 0).bind fun x7 =>
 (A6i).bind fun x8 =>
 (T9 x1 x8 3).bind fun x9 =>
 (A6i).bind fun x10 =>
 (A7y x1 x10 0 1 222).bind fun x11 =>
 (X2 x1).bind fun x12 =>
 (A5h x1).bind fun x13 =>
 (B6s).bind fun x14 =>
 (A0u x14).bind fun x15 =>
 (A0u x1).bind fun x16 =>
 (A2y x1).bind fun x17 =>
 (T9 x1 x12.1 0).bind fun x18 =>
 (if ((((((((((x3.2 == 0) && (x5.2 == 0)) && (x7.2 == 0)) && (x9.2 == 0)) && (x11.2 == 0)) && (x12.2.2.2 == 0)) && (x13.2 == 0)) && (x15.2 == 0)) && (x16.2 == 9)) && (x17.2 == 0)) = true then
  (A01 x3.1 [2,0]).bind fun x29 =>
  some x29
 else
  some false).bind fun x30 =>
 (if x30 = true then
  (Y1 160 180).bind fun x32 =>
  (Y1 210 250).bind fun x33 =>
  (A2u x5.1 [x32,x33]).bind fun x34 =>
  some x34
 else
  some false).bind fun x35 =>
 (if ((x35 && (x7.1 == 1)) && (x9.1 == 0)) = true then
  (Y1 160 172).bind fun x39 =>
  (Y1 222 222).bind fun x40 =>
  (A2u x11.1 [x39,x40]).bind fun x41 =>
  some x41
 else
  some false).bind fun x42 =>
 (if x42 = true then
  (A01 x12.1 [(-1),0,1,0]).bind fun x44 =>
  some x44
 else
  some false).bind fun x45 =>
 (if (((x45 && (x12.2.1 == 3)) && (x12.2.2.1 == 0)) && ((List.length x13.1:Int) == 0)) = true then
  (A01 x15.1 [0]).bind fun x50 =>
  some x50
 else
  some false).bind fun x51 =>
 some (((x51 && (x17.1 == 10)) && (x18.2 == 0)) && (x18.1 == 2))
theorem G5 {c:Sc} {H:A6} (hscv:Z9 c H = true)  {r:Bool} (h:G2  = some r) :
  F2 tab c H (.fn (.func 26) [] []) [] [.b r]:= by
 unfold G2 at h
 refine cE rfl rfl<|s0<|qm rfl<|es .n<|sg 0 rfl<|oB h fun x1 hx1 h=>B2 (rs:=[(.agg (A3 x1))]) rfl rfl B4 ((B42 hx1).frz)<|A0 E6 rfl<|G6 (E2 (ds:=(A3 x1)) rfl rfl rfl rfl (E1 rfl) rfl) rfl<|es (ra1 rfl)<|s0<|oB h fun x2 hx2 h=>oB h fun x3 hx3 h=>A0 (C5 rfl rfl rfl) rfl<|M6 (rs:=[(.seq 1 (List.map cI x2))]) rfl rfl R7 B4 ((A5z hx2).frz)<|B2 (rs:=[(.seq 1 (List.map cI x3.1)),.i x3.2]) rfl rfl (A2 (D2 rfl) (A2 rfl (A2 rfl B4))) ((A7k hx3).frz)<|qm rfl<|A0 (A7 rfl rfl) rfl<|A0 (A7 rfl rfl) rfl<|qm rfl<|qm rfl<|es (ra3 rfl rfl rfl)<|s0<|oB h fun x4 hx4 h=>oB h fun x5 hx5 h=>A0 (C5 rfl rfl rfl) rfl<|M6 (rs:=[(.seq 1 (List.map cI x4))]) rfl rfl R7 B4 ((A5z hx4).frz)<|B2 (rs:=[(.seq 2 (List.map C6 x5.1)),.i x5.2]) rfl rfl (A2 (D2 rfl) (A2 rfl (A2 rfl B4))) ((A7j hx5).frz)<|qm rfl<|A0 (A7 rfl rfl) rfl<|A0 (A7 rfl rfl) rfl<|qm rfl<|qm rfl<|es (ra5 rfl rfl rfl rfl rfl)<|s0<|oB h fun x6 hx6 h=>oB h fun x7 hx7 h=>A0 (C5 rfl rfl rfl) rfl<|M6 (rs:=[(.seq 1 (List.map cI x6))]) rfl rfl R7 B4 ((A5z hx6).frz)<|B2 (rs:=[.i x7.1,.i x7.2]) rfl rfl (A2 (D2 rfl) (A2 rfl (A2 rfl B4))) ((A00 hx7).frz)<|qm rfl<|A0 (A7 rfl rfl) rfl<|A0 (A7 rfl rfl) rfl<|qm rfl<|qm rfl<|es (ra7 rfl rfl rfl rfl rfl rfl rfl)<|s0<|oB h fun x8 hx8 h=>oB h fun x9 hx9 h=>A0 (C5 rfl rfl rfl) rfl<|M6 (rs:=[(.seq 1 (List.map cI x8))]) rfl rfl R7 B4 ((A5z hx8).frz)<|B2 (rs:=[.i x9.1,.i x9.2]) rfl rfl (A2 (D2 rfl) (A2 rfl (A2 rfl B4))) ((A00 hx9).frz)<|qm rfl<|A0 (A7 rfl rfl) rfl<|A0 (A7 rfl rfl) rfl<|qm rfl<|qm rfl<|es (ra9 rfl rfl rfl rfl rfl rfl rfl rfl rfl)<|s0<|oB h fun x10 hx10 h=>oB h fun x11 hx11 h=>?_
 refine A0 (C5 rfl rfl rfl) rfl<|M6 (rs:=[(.seq 1 (List.map cI x10))]) rfl rfl R7 B4 ((A5z hx10).frz)<|B2 (rs:=[(.seq 2 (List.map C6 x11.1)),.i x11.2]) rfl rfl (A2 (D2 rfl) (A2 rfl (A2 rfl (A2 rfl (A2 rfl B4))))) (A8u hx11)<|qm rfl<|A0 (A7 rfl rfl) rfl<|A0 (A7 rfl rfl) rfl<|qm rfl<|qm rfl<|es (ra11 rfl rfl rfl rfl rfl rfl rfl rfl rfl rfl rfl)<|s0<|oB h fun x12 hx12 h=>A0 (C5 rfl rfl rfl) rfl<|B2 (rs:=[(.seq 1 (List.map cI x12.1)),.i x12.2.1,.i x12.2.2.1,.i x12.2.2.2]) rfl rfl (A2 (D2 rfl) B4) ((A0e (A1c hscv) hx12).frz)<|qm rfl<|A0 (A7 rfl rfl) rfl<|A0 (A7 rfl rfl) rfl<|A0 (A7 rfl rfl) rfl<|A0 (A7 rfl rfl) rfl<|qm rfl<|qm rfl<|qm rfl<|qm rfl<|es (.k rfl (.k rfl (.k rfl (.k rfl (.k rfl (.k rfl (.k rfl (.k rfl (.k rfl (.k rfl (.k rfl (.k rfl (.k rfl (.k rfl (.k rfl .n)))))))))))))))<|s0<|oB h fun x13 hx13 h=>A0 (C5 rfl rfl rfl) rfl<|B2 (rs:=[(.seq 1 (List.map cI x13.1)),.i x13.2]) rfl rfl (A2 (D2 rfl) B4) ((A7i hx13).frz)<|qm rfl<|A0 (A7 rfl rfl) rfl<|A0 (A7 rfl rfl) rfl<|qm rfl<|qm rfl<|es (.k rfl (.k rfl (.k rfl (.k rfl (.k rfl (.k rfl (.k rfl (.k rfl (.k rfl (.k rfl (.k rfl (.k rfl (.k rfl (.k rfl (.k rfl (.k rfl (.k rfl .n)))))))))))))))))<|s0<|oB h fun x14 hx14 h=>oB h fun x15 hx15 h=>B2 (rs:=[(.agg (A3 x14))]) rfl rfl B4 ((C5q hx14).frz)<|B2 (rs:=[(.seq 1 (List.map cI x15.1)),.i x15.2]) rfl rfl (A2 (D2 rfl) B4) ((A9n (A1c hscv) hx15).frz)<|qm rfl<|A0 (A7 rfl rfl) rfl<|A0 (A7 rfl rfl) rfl<|qm rfl<|qm rfl<|es (.k rfl (.k rfl (.k rfl (.k rfl (.k rfl (.k rfl (.k rfl (.k rfl (.k rfl (.k rfl (.k rfl (.k rfl (.k rfl (.k rfl (.k rfl (.k rfl (.k rfl (.k rfl (.k rfl .n)))))))))))))))))))<|s0<|oB h fun x16 hx16 h=>A0 (C5 rfl rfl rfl) rfl<|B2 (rs:=[(.seq 1 (List.map cI x16.1)),.i x16.2]) rfl rfl (A2 (D2 rfl) B4) ((A9n (A1c hscv) hx16).frz)<|qm rfl<|A0 (A7 rfl rfl) rfl<|A0 (A7 rfl rfl) rfl<|qm rfl<|qm rfl<|es (.k rfl (.k rfl (.k rfl (.k rfl (.k rfl (.k rfl (.k rfl (.k rfl (.k rfl (.k rfl (.k rfl (.k rfl (.k rfl (.k rfl (.k rfl (.k rfl (.k rfl (.k rfl (.k rfl (.k rfl .n))))))))))))))))))))<|s0<|oB h fun x17 hx17 h=>A0 (C5 rfl rfl rfl) rfl<|B2 (rs:=[.i x17.1,.i x17.2]) rfl rfl (A2 (D2 rfl) B4) ((B0r (A1c hscv) hx17).frz)<|qm rfl<|A0 (A7 rfl rfl) rfl<|A0 (A7 rfl rfl) rfl ?_
 refine qm rfl<|qm rfl<|es (.k rfl (.k rfl (.k rfl (.k rfl (.k rfl (.k rfl (.k rfl (.k rfl (.k rfl (.k rfl (.k rfl (.k rfl (.k rfl (.k rfl (.k rfl (.k rfl (.k rfl (.k rfl (.k rfl (.k rfl (.k rfl (.k rfl .n))))))))))))))))))))))<|s0<|oB h fun x18 hx18 h=>A0 (C5 rfl rfl rfl) rfl<|qm rfl<|B2 (rs:=[.i x18.1,.i x18.2]) rfl rfl (A2 (D2 rfl) (A2 rfl (A2 rfl B4))) ((A00 hx18).frz)<|qm rfl<|A0 (A7 rfl rfl) rfl<|A0 (A7 rfl rfl) rfl<|qm rfl<|qm rfl<|es (.k rfl (.k rfl (.k rfl (.k rfl (.k rfl (.k rfl (.k rfl (.k rfl (.k rfl (.k rfl (.k rfl (.k rfl (.k rfl (.k rfl (.k rfl (.k rfl (.k rfl (.k rfl (.k rfl (.k rfl (.k rfl (.k rfl (.k rfl .n)))))))))))))))))))))))<|s0<|oB h fun x30 hx30 h=>oB h fun x35 hx35 h=>oB h fun x42 hx42 h=>oB h fun x45 hx45 h=>oB h fun x51 hx51 h=>qm rfl<|A0 (G7 rfl rfl) rfl<|qm rfl<|gp 3 95 (.b ((x3.2 == 0) && (x5.2 == 0))) 92 rfl rfl (fun hg19=>?_) (fun hg19=>?_) ?_
 ·exact gT rfl hg19<|qm rfl<|gT rfl hg19<|A0 (G7 rfl rfl) rfl<|A0 (C8 rfl hg19 rfl) rfl<|ge 3 (by rw [hg19]; rfl) rfl rfl
 ·exact nT rfl hg19 rfl<|nT rfl hg19 rfl<|A0 (C7 rfl hg19 rfl) rfl<|ge 3 (by rw [hg19]; rfl) rfl rfl
 refine qm rfl<|gp 3 99 (.b (((x3.2 == 0) && (x5.2 == 0)) && (x7.2 == 0))) 96 rfl rfl (fun hg20=>?_) (fun hg20=>?_) ?_
 ·exact gT rfl hg20<|qm rfl<|gT rfl hg20<|A0 (G7 rfl rfl) rfl<|A0 (C8 rfl hg20 rfl) rfl<|ge 3 (by rw [hg20]; rfl) rfl rfl
 ·exact nT rfl hg20 rfl<|nT rfl hg20 rfl<|A0 (C7 rfl hg20 rfl) rfl<|ge 3 (by rw [hg20]; rfl) rfl rfl
 refine qm rfl<|gp 3 103 (.b ((((x3.2 == 0) && (x5.2 == 0)) && (x7.2 == 0)) && (x9.2 == 0))) 100 rfl rfl (fun hg21=>?_) (fun hg21=>?_) ?_
 ·exact gT rfl hg21<|qm rfl<|gT rfl hg21<|A0 (G7 rfl rfl) rfl<|A0 (C8 rfl hg21 rfl) rfl<|ge 3 (by rw [hg21]; rfl) rfl rfl
 ·exact nT rfl hg21 rfl<|nT rfl hg21 rfl<|A0 (C7 rfl hg21 rfl) rfl<|ge 3 (by rw [hg21]; rfl) rfl rfl
 refine qm rfl<|gp 3 107 (.b (((((x3.2 == 0) && (x5.2 == 0)) && (x7.2 == 0)) && (x9.2 == 0)) && (x11.2 == 0))) 104 rfl rfl (fun hg22=>?_) (fun hg22=>?_) ?_
 ·exact gT rfl hg22<|qm rfl<|gT rfl hg22<|A0 (G7 rfl rfl) rfl<|A0 (C8 rfl hg22 rfl) rfl<|ge 3 (by rw [hg22]; rfl) rfl rfl
 ·exact nT rfl hg22 rfl<|nT rfl hg22 rfl<|A0 (C7 rfl hg22 rfl) rfl<|ge 3 (by rw [hg22]; rfl) rfl rfl
 refine qm rfl<|gp 3 111 (.b ((((((x3.2 == 0) && (x5.2 == 0)) && (x7.2 == 0)) && (x9.2 == 0)) && (x11.2 == 0)) && (x12.2.2.2 == 0))) 108 rfl rfl (fun hg23=>?_) (fun hg23=>?_) ?_
 ·exact gT rfl hg23<|qm rfl<|gT rfl hg23<|A0 (G7 rfl rfl) rfl<|A0 (C8 rfl hg23 rfl) rfl<|ge 3 (by rw [hg23]; rfl) rfl rfl
 ·exact nT rfl hg23 rfl<|nT rfl hg23 rfl<|A0 (C7 rfl hg23 rfl) rfl<|ge 3 (by rw [hg23]; rfl) rfl rfl
 refine qm rfl<|gp 3 115 (.b (((((((x3.2 == 0) && (x5.2 == 0)) && (x7.2 == 0)) && (x9.2 == 0)) && (x11.2 == 0)) && (x12.2.2.2 == 0)) && (x13.2 == 0))) 112 rfl rfl (fun hg24=>?_) (fun hg24=>?_) ?_
 ·exact gT rfl hg24<|qm rfl<|gT rfl hg24<|A0 (G7 rfl rfl) rfl<|A0 (C8 rfl hg24 rfl) rfl<|ge 3 (by rw [hg24]; rfl) rfl rfl
 ·exact nT rfl hg24 rfl<|nT rfl hg24 rfl<|A0 (C7 rfl hg24 rfl) rfl<|ge 3 (by rw [hg24]; rfl) rfl rfl
 refine qm rfl<|gp 3 119 (.b ((((((((x3.2 == 0) && (x5.2 == 0)) && (x7.2 == 0)) && (x9.2 == 0)) && (x11.2 == 0)) && (x12.2.2.2 == 0)) && (x13.2 == 0)) && (x15.2 == 0))) 116 rfl rfl (fun hg25=>?_) (fun hg25=>?_) ?_
 ·exact gT rfl hg25<|qm rfl<|gT rfl hg25<|A0 (G7 rfl rfl) rfl<|A0 (C8 rfl hg25 rfl) rfl<|ge 3 (by rw [hg25]; rfl) rfl rfl
 ·exact nT rfl hg25 rfl<|nT rfl hg25 rfl<|A0 (C7 rfl hg25 rfl) rfl<|ge 3 (by rw [hg25]; rfl) rfl rfl
 refine qm rfl<|gp 3 123 (.b (((((((((x3.2 == 0) && (x5.2 == 0)) && (x7.2 == 0)) && (x9.2 == 0)) && (x11.2 == 0)) && (x12.2.2.2 == 0)) && (x13.2 == 0)) && (x15.2 == 0)) && (x16.2 == 9))) 120 rfl rfl (fun hg26=>?_) (fun hg26=>?_) ?_
 ·exact gT rfl hg26<|qm rfl<|gT rfl hg26<|A0 (G7 rfl rfl) rfl<|A0 (C8 rfl hg26 rfl) rfl<|ge 3 (by rw [hg26]; rfl) rfl rfl
 ·exact nT rfl hg26 rfl<|nT rfl hg26 rfl<|A0 (C7 rfl hg26 rfl) rfl<|ge 3 (by rw [hg26]; rfl) rfl rfl
 refine qm rfl<|gp 3 127 (.b ((((((((((x3.2 == 0) && (x5.2 == 0)) && (x7.2 == 0)) && (x9.2 == 0)) && (x11.2 == 0)) && (x12.2.2.2 == 0)) && (x13.2 == 0)) && (x15.2 == 0)) && (x16.2 == 9)) && (x17.2 == 0))) 124 rfl rfl (fun hg27=>?_) (fun hg27=>?_) ?_
 ·exact gT rfl hg27<|qm rfl<|gT rfl hg27<|A0 (G7 rfl rfl) rfl<|A0 (C8 rfl hg27 rfl) rfl<|ge 3 (by rw [hg27]; rfl) rfl rfl
 ·exact nT rfl hg27 rfl<|nT rfl hg27 rfl<|A0 (C7 rfl hg27 rfl) rfl<|ge 3 (by rw [hg27]; rfl) rfl rfl
 refine qm rfl<|gp 4 132 (.b x30) 128 rfl rfl (fun hg28=>?_) (fun hg28=>?_) ?_
 ·refine oB (bt hx30 hg28) fun x29 hx29 hx30=>?_
  obtain rfl:=os hx30
  exact gT rfl hg28<|qm rfl<|gT rfl hg28<|A0 (I8 (rows:=List.map cI [2,0]) rfl rfl (E4 (fun _=>rfl) _)) rfl<|gT rfl hg28<|B2 (rs:=[.b x29]) rfl rfl (A2 rfl (A2 rfl B4)) ((A1t hx29).frz)<|A0 (C8 rfl hg28 rfl) rfl<|ge 4 rfl rfl rfl
 ·obtain rfl:=os (bf hx30 hg28)
  exact nT rfl hg28 rfl<|nT rfl hg28 rfl<|H8 (E9 rfl (by rw [hg28]; rfl)) rfl<|A0 (C7 rfl hg28 rfl) rfl<|ge 4 rfl rfl rfl
 refine qm rfl<|gp 6 139 (.b x35) 133 rfl rfl (fun hg31=>?_) (fun hg31=>?_) ?_
 ·refine oB (bt hx35 hg31) fun x32 hx32 hx35=>oB hx35 fun x33 hx33 hx35=>oB hx35 fun x34 hx34 hx35=>?_
  obtain rfl:=os hx35
  exact gT rfl hg31<|qm rfl<|gT rfl hg31<|B2 (rs:=[(.agg (C6 x32))]) rfl rfl (A2 rfl (A2 rfl B4)) ((W2 hx32).frz)<|gT rfl hg31<|B2 (rs:=[(.agg (C6 x33))]) rfl rfl (A2 rfl (A2 rfl B4)) ((W2 hx33).frz)<|gT rfl hg31<|A0 (I8 (rows:=List.map C6 [x32,x33]) rfl rfl (E4 (fun _=>rfl) _)) rfl<|gT rfl hg31<|B2 (rs:=[.b x34]) rfl rfl (A2 rfl (A2 rfl B4)) ((A7g hx34).frz)<|A0 (C8 rfl hg31 rfl) rfl<|ge 6 rfl rfl rfl
 ·obtain rfl:=os (bf hx35 hg31)
  exact nT rfl hg31 rfl<|H8 (E9 rfl (by rw [hg31]; rfl)) rfl<|H8 (E9 rfl (by rw [hg31]; rfl)) rfl<|nT rfl hg31 rfl<|H8 (E9 rfl (by rw [hg31]; rfl)) rfl<|A0 (C7 rfl hg31 rfl) rfl<|ge 6 rfl rfl rfl
 refine qm rfl<|gp 3 143 (.b (x35 && (x7.1 == 1))) 140 rfl rfl (fun hg36=>?_) (fun hg36=>?_) ?_
 ·exact gT rfl hg36<|qm rfl<|gT rfl hg36<|A0 (G7 rfl rfl) rfl<|A0 (C8 rfl hg36 rfl) rfl<|ge 3 (by rw [hg36]; rfl) rfl rfl
 ·exact nT rfl hg36 rfl<|nT rfl hg36 rfl<|A0 (C7 rfl hg36 rfl) rfl<|ge 3 (by rw [hg36]; rfl) rfl rfl
 refine qm rfl<|gp 3 147 (.b ((x35 && (x7.1 == 1)) && (x9.1 == 0))) 144 rfl rfl (fun hg37=>?_) (fun hg37=>?_) ?_
 ·exact gT rfl hg37<|qm rfl<|gT rfl hg37<|A0 (G7 rfl rfl) rfl<|A0 (C8 rfl hg37 rfl) rfl<|ge 3 (by rw [hg37]; rfl) rfl rfl
 ·exact nT rfl hg37 rfl<|nT rfl hg37 rfl<|A0 (C7 rfl hg37 rfl) rfl<|ge 3 (by rw [hg37]; rfl) rfl rfl
 refine qm rfl<|gp 6 154 (.b x42) 148 rfl rfl (fun hg38=>?_) (fun hg38=>?_) ?_
 ·refine oB (bt hx42 hg38) fun x39 hx39 hx42=>oB hx42 fun x40 hx40 hx42=>oB hx42 fun x41 hx41 hx42=>?_
  obtain rfl:=os hx42
  exact gT rfl hg38<|qm rfl<|gT rfl hg38<|B2 (rs:=[(.agg (C6 x39))]) rfl rfl (A2 rfl (A2 rfl B4)) ((W2 hx39).frz)<|gT rfl hg38<|B2 (rs:=[(.agg (C6 x40))]) rfl rfl (A2 rfl (A2 rfl B4)) ((W2 hx40).frz)<|gT rfl hg38<|A0 (I8 (rows:=List.map C6 [x39,x40]) rfl rfl (E4 (fun _=>rfl) _)) rfl<|gT rfl hg38<|B2 (rs:=[.b x41]) rfl rfl (A2 rfl (A2 rfl B4)) ((A7g hx41).frz)<|A0 (C8 rfl hg38 rfl) rfl<|ge 6 rfl rfl rfl
 ·obtain rfl:=os (bf hx42 hg38)
  exact nT rfl hg38 rfl<|H8 (E9 rfl (by rw [hg38]; rfl)) rfl<|H8 (E9 rfl (by rw [hg38]; rfl)) rfl<|nT rfl hg38 rfl<|H8 (E9 rfl (by rw [hg38]; rfl)) rfl<|A0 (C7 rfl hg38 rfl) rfl<|ge 6 rfl rfl rfl
 refine qm rfl<|gp 4 159 (.b x45) 155 rfl rfl (fun hg43=>?_) (fun hg43=>?_) ?_
 ·refine oB (bt hx45 hg43) fun x44 hx44 hx45=>?_
  obtain rfl:=os hx45
  exact gT rfl hg43<|qm rfl<|gT rfl hg43<|A0 (I8 (rows:=List.map cI [(-1),0,1,0]) rfl rfl (E4 (fun _=>rfl) _)) rfl<|gT rfl hg43<|B2 (rs:=[.b x44]) rfl rfl (A2 rfl (A2 rfl B4)) ((A1t hx44).frz)<|A0 (C8 rfl hg43 rfl) rfl<|ge 4 rfl rfl rfl
 ·obtain rfl:=os (bf hx45 hg43)
  exact nT rfl hg43 rfl<|nT rfl hg43 rfl<|H8 (E9 rfl (by rw [hg43]; rfl)) rfl<|A0 (C7 rfl hg43 rfl) rfl<|ge 4 rfl rfl rfl
 refine qm rfl<|gp 3 163 (.b (x45 && (x12.2.1 == 3))) 160 rfl rfl (fun hg46=>?_) (fun hg46=>?_) ?_
 ·exact gT rfl hg46<|qm rfl<|gT rfl hg46<|A0 (G7 rfl rfl) rfl<|A0 (C8 rfl hg46 rfl) rfl<|ge 3 (by rw [hg46]; rfl) rfl rfl
 ·exact nT rfl hg46 rfl<|nT rfl hg46 rfl<|A0 (C7 rfl hg46 rfl) rfl<|ge 3 (by rw [hg46]; rfl) rfl rfl
 refine qm rfl<|gp 3 167 (.b ((x45 && (x12.2.1 == 3)) && (x12.2.2.1 == 0))) 164 rfl rfl (fun hg47=>?_) (fun hg47=>?_) ?_
 ·exact gT rfl hg47<|qm rfl<|gT rfl hg47<|A0 (G7 rfl rfl) rfl<|A0 (C8 rfl hg47 rfl) rfl<|ge 3 (by rw [hg47]; rfl) rfl rfl
 ·exact nT rfl hg47 rfl<|nT rfl hg47 rfl<|A0 (C7 rfl hg47 rfl) rfl<|ge 3 (by rw [hg47]; rfl) rfl rfl
 refine qm rfl<|gp 4 172 (.b (((x45 && (x12.2.1 == 3)) && (x12.2.2.1 == 0)) && ((List.length x13.1:Int) == 0))) 168 rfl rfl (fun hg48=>?_) (fun hg48=>?_) ?_
 ·exact gT rfl hg48<|qm rfl<|gT rfl hg48<|A0 (D3 (f:=cI) rfl) rfl<|gT rfl hg48<|A0 (G7 rfl rfl) rfl<|A0 (C8 rfl hg48 rfl) rfl<|ge 4 (by rw [hg48]; rfl) rfl rfl
 ·exact nT rfl hg48 rfl<|nT rfl hg48 rfl<|nT rfl hg48 rfl<|A0 (C7 rfl hg48 rfl) rfl<|ge 4 (by rw [hg48]; rfl) rfl rfl
 refine qm rfl<|gp 4 177 (.b x51) 173 rfl rfl (fun hg49=>?_) (fun hg49=>?_) ?_
 ·refine oB (bt hx51 hg49) fun x50 hx50 hx51=>?_
  obtain rfl:=os hx51
  exact gT rfl hg49<|qm rfl<|gT rfl hg49<|A0 (I8 (rows:=List.map cI [0]) rfl rfl (E4 (fun _=>rfl) _)) rfl<|gT rfl hg49<|B2 (rs:=[.b x50]) rfl rfl (A2 rfl (A2 rfl B4)) ((A1t hx50).frz)<|A0 (C8 rfl hg49 rfl) rfl<|ge 4 rfl rfl rfl
 ·obtain rfl:=os (bf hx51 hg49)
  exact nT rfl hg49 rfl<|nT rfl hg49 rfl<|H8 (E9 rfl (by rw [hg49]; rfl)) rfl<|A0 (C7 rfl hg49 rfl) rfl<|ge 4 rfl rfl rfl
 refine qm rfl<|gp 3 181 (.b (x51 && (x17.1 == 10))) 178 rfl rfl (fun hg52=>?_) (fun hg52=>?_) ?_
 ·exact gT rfl hg52<|qm rfl<|gT rfl hg52<|A0 (G7 rfl rfl) rfl<|A0 (C8 rfl hg52 rfl) rfl<|ge 3 (by rw [hg52]; rfl) rfl rfl
 ·exact nT rfl hg52 rfl<|nT rfl hg52 rfl<|A0 (C7 rfl hg52 rfl) rfl<|ge 3 (by rw [hg52]; rfl) rfl rfl
 refine qm rfl<|gp 3 185 (.b ((x51 && (x17.1 == 10)) && (x18.2 == 0))) 182 rfl rfl (fun hg53=>?_) (fun hg53=>?_) ?_
 ·exact gT rfl hg53<|qm rfl<|gT rfl hg53<|A0 (G7 rfl rfl) rfl<|A0 (C8 rfl hg53 rfl) rfl<|ge 3 (by rw [hg53]; rfl) rfl rfl
 ·exact nT rfl hg53 rfl<|nT rfl hg53 rfl<|A0 (C7 rfl hg53 rfl) rfl<|ge 3 (by rw [hg53]; rfl) rfl rfl
 refine qm rfl<|gp 3 189 (.b (((x51 && (x17.1 == 10)) && (x18.2 == 0)) && (x18.1 == 2))) 186 rfl rfl (fun hg54=>?_) (fun hg54=>?_) ?_
 ·exact gT rfl hg54<|qm rfl<|gT rfl hg54<|A0 (G7 rfl rfl) rfl<|A0 (C8 rfl hg54 rfl) rfl<|ge 3 (by rw [hg54]; rfl) rfl rfl
 ·exact nT rfl hg54 rfl<|nT rfl hg54 rfl<|A0 (C7 rfl hg54 rfl) rfl<|ge 3 (by rw [hg54]; rfl) rfl rfl
 refine qm rfl<|es (ra1 rfl)<|C4 ?_
 obtain rfl:=os h
 exact retq trivial (B1 rfl B7) (A5 rfl B6) (A1 A4 A8)
def A2j (a0:VaTrain) (a1:(List Int)) (a2:Int) (a3:Int) (s1:(Int × Int)) (s9:(Bool × Int)):Option ((Bool × Int) ⊕ Bool) :=
 if (decide (s9.2 < s1.2)) = true then
  (if s9.1 = true then
  some true
  else
  (idx a1 s9.2).bind fun x13 =>
  (if (x13 == a2) = true then
   (idx a0.Crates s9.2).bind fun x15 =>
   some (x15.Stop == a3)
  else
   some false).bind fun x16 =>
  some x16).bind fun x17 =>
  some (.inl (x17,(w64 (s9.2 + 1))))
 else
  some (.inr s9.1)
def A2k (a0:VaTrain) (a1:(List Int)) (a2:Int) (a3:Int) (s1:(Int × Int)):Option ((Int × Int) ⊕ Int) :=
 if (decide (s1.2 < (List.length a1:Int))) = true then
  (idx a1 s1.2).bind fun x4 =>
  (if (x4 != a2) = true then
  some true
  else
  (idx a0.Crates s1.2).bind fun x6 =>
  some (decide (x6.Stop≤a3))).bind fun x7 =>
  if x7 = true then
  some (.inl (s1.1,(w64 (s1.2 + 1))))
  else
  (loop (A2j a0 a1 a2 a3 s1) (false,0)).bind fun (o18:Bool) =>
  if o18 = true then
   some (.inl ((w64 (s1.1 + 1)),(w64 (s1.2 + 1))))
  else
   some (.inl (s1.1,(w64 (s1.2 + 1))))
 else
  some (.inr s1.1)
def W3 (a0:VaTrain) (a1:(List Int)) (a2:Int) (a3:Int):Option Int :=
 (loop (A2k a0 a1 a2 a3) (0,0)).bind fun (o20:Int) =>
 some o20
theorem A2d {c:Sc} {H:A6} {a0:VaTrain} {a1:(List Int)} {a2:Int} {a3:Int} {r:Int} (h:W3 a0 a1 a2 a3 = some r) :
  F2 tab c H (.fn (.func 45) [] []) [(.agg (A3 a0)),(.seq 1 (List.map cI a1)),.i a2,.i a3] [.i r]:= by
 unfold W3 at h
 refine cE rfl rfl<|sg 0 rfl<|A0 (G0 (cs:=A3 a0) rfl rfl rfl) rfl<|qm rfl<|es (ra4 rfl rfl rfl rfl)<|s0<|qm rfl<|es (ra5 rfl rfl rfl rfl rfl)<|B3<|s0<|qm rfl<|es (ra6 rfl rfl rfl rfl rfl rfl)<|B9<|oB h fun o20 ho20 h=>wl (fun s1=>[(1,(.seq 1 (List.map cI a1))),(2,.i a2),(3,.i a3),(4,(.ptr (H.length + 0) 0)),(9,.i s1.1),(10,.i s1.2)]) (fun (q2:Unit) s1=>[(.cells (A3 a0))]) 1 (fun r e s' H'=>PX 0 [(9,.i r)] (H++[(.cells (A3 a0))]) e s' H') () ho20 rfl rfl (fun _ _=>rfl) (fun _=>rfl) rfl (fun s1=>(bdc D8 (bdc A4 (bdc A4 (bdc (D5 rfl) (bdc A4 (bdc A4 bdn))))))) (fun q2 s1 ys1 hs1=>?_) ?_
 ·unfold A2k at hs1
  refine B3<|s0<|qm rfl<|qm rfl<|A0 (D3 (f:=cI) rfl) rfl<|A0 (F4 rfl rfl) rfl<|es (ra7 rfl rfl rfl rfl rfl rfl rfl)<|wi hs1 rfl (fun hc3 hs1=>?_) fun hc3 hs1=>?_
  ·refine C2<|B3<|B9<|B3<|s0<|oB hs1 fun x4 hx4 hs1=>oB hs1 fun x7 hx7 hs1=>qm rfl<|qm rfl<|A0 (D4 (f:=cI) rfl rfl hx4) rfl<|A0 (D6 rfl rfl) rfl<|qm rfl<|A0 (F8 rfl rfl) rfl<|qm rfl<|gp 9 34 (.b x7) 25 rfl rfl (fun hg5=>?_) (fun hg5=>?_) ?_
   ·obtain rfl:=os (bt hx7 hg5)
    exact nF rfl hg5 rfl<|nF rfl hg5 rfl<|nF rfl hg5 rfl<|nF rfl hg5 rfl<|nF rfl hg5 rfl<|nF rfl hg5 rfl<|nF rfl hg5 rfl<|nF rfl hg5 rfl<|A0 (C8 rfl hg5 rfl) rfl<|ge 9 rfl rfl rfl
   ·refine oB (bf hx7 hg5) fun x6 hx6 hx7=>?_
    obtain rfl:=os hx7
    exact gF rfl hg5<|A0 (C3 rfl) rfl<|gF rfl hg5<|A0 (B5 rfl rfl rfl) rfl<|gF rfl hg5<|qm rfl<|gF rfl hg5<|A0 (D4 (f:=A9) rfl rfl hx6) rfl<|gF rfl hg5<|A0 (R6 (ds:=(List.drop 2 (A9 x6))) rfl rfl) rfl<|gF rfl hg5<|A0 (D6 rfl rfl) rfl<|gF rfl hg5<|qm rfl<|gF rfl hg5<|A0 (A8p rfl rfl) rfl<|A0 (C7 rfl hg5 rfl) rfl<|ge 9 rfl rfl rfl
   refine es (ra7 rfl rfl rfl rfl rfl rfl rfl)<|wi hs1 rfl (fun hc8 hs1=>?_) fun hc8 hs1=>?_
   ·refine E3<|r0<|qm rfl<|A0 (D7 rfl rfl) rfl<|qm rfl<|en (ra6 rfl rfl rfl rfl rfl rfl) ?_
    cases hs1
    exact lnT () rfl (su6 rfl rfl rfl rfl rfl rfl)
   ·refine C2<|s0<|qm rfl<|es (ra7 rfl rfl rfl rfl rfl rfl rfl)<|B3<|s0<|qm rfl<|es (ra8 rfl rfl rfl rfl rfl rfl rfl rfl)<|B9<|oB hs1 fun o18 ho18 hs1=>wl (fun s9=>[(1,(.seq 1 (List.map cI a1))),(2,.i a2),(3,.i a3),(4,(.ptr (H.length + 0) 0)),(9,.i s1.1),(10,.i s1.2),(11,.b s9.1),(12,.i s9.2)]) (fun (q10:Unit) s9=>[(.cells (A3 a0))]) 1 (fun r e s' H'=>PX 2 [(1,(.seq 1 (List.map cI a1))),(2,.i a2),(3,.i a3),(4,(.ptr (H.length + 0) 0)),(9,.i s1.1),(10,.i s1.2),(11,.b r)] (H++[(.cells (A3 a0))]) e s' H') () ho18 rfl rfl (fun _ _=>rfl) (fun _=>rfl) rfl (fun s9=>(bdc D8 (bdc A4 (bdc A4 (bdc (D5 rfl) (bdc A4 (bdc A4 (bdc A4 (bdc A4 bdn))))))))) (fun q10 s9 ys9 hs9=>?_) ?_
    ·unfold A2j at hs9
     refine B3<|s0<|qm rfl<|qm rfl<|A0 (F4 rfl rfl) rfl<|es (ra9 rfl rfl rfl rfl rfl rfl rfl rfl rfl)<|wi hs9 rfl (fun hc11 hs9=>?_) fun hc11 hs9=>?_
     ·refine C2<|B3<|B9<|r0<|oB hs9 fun x17 hx17 hs9=>qm rfl<|qm rfl<|gp 17 58 (.b x17) 41 rfl rfl (fun hg12=>?_) (fun hg12=>?_) ?_
      ·obtain rfl:=os (bt hx17 hg12)
       exact nF rfl hg12 rfl<|nF rfl hg12 rfl<|nF rfl hg12 rfl<|nF rfl hg12 rfl<|nF rfl hg12 rfl<|nF rfl hg12 rfl<|nF rfl hg12 rfl<|nX rfl rfl<|nX rfl rfl<|nX rfl rfl<|nX rfl rfl<|nX rfl rfl<|nX rfl rfl<|nX rfl rfl<|nX rfl rfl<|nF rfl hg12 rfl<|A0 (C8 rfl hg12 rfl) rfl<|ge 17 rfl rfl rfl
      ·refine oB (bf hx17 hg12) fun x13 hx13 hx17=>oB hx17 fun x16 hx16 hx17=>?_
       obtain rfl:=os hx17
       refine gF rfl hg12<|qm rfl<|gF rfl hg12<|qm rfl<|gF rfl hg12<|A0 (D4 (f:=cI) rfl rfl hx13) rfl<|gF rfl hg12<|A0 (D6 rfl rfl) rfl<|gF rfl hg12<|qm rfl<|gF rfl hg12<|A0 (G7 rfl rfl) rfl<|gF rfl hg12<|qm rfl<|gq 9 57 (.b x16) 48 rfl rfl (fun hg14=>?_) (fun hg14=>?_) ?_
       ·refine oB (bt hx16 hg14) fun x15 hx15 hx16=>?_
        obtain rfl:=os hx16
        exact gT rfl hg14<|A0 (C3 rfl) rfl<|gT rfl hg14<|A0 (B5 rfl rfl rfl) rfl<|gT rfl hg14<|qm rfl<|gT rfl hg14<|A0 (D4 (f:=A9) rfl rfl hx15) rfl<|gT rfl hg14<|A0 (R6 (ds:=(List.drop 2 (A9 x15))) rfl rfl) rfl<|gT rfl hg14<|A0 (D6 rfl rfl) rfl<|gT rfl hg14<|qm rfl<|gT rfl hg14<|A0 (G7 rfl rfl) rfl<|gF rfl hg12<|A0 (C8 rfl hg14 rfl) rfl<|ge 9 rfl rfl rfl
       ·obtain rfl:=os (bf hx16 hg14)
        exact nT rfl hg14 rfl<|nT rfl hg14 rfl<|nT rfl hg14 rfl<|nT rfl hg14 rfl<|nT rfl hg14 rfl<|nT rfl hg14 rfl<|nT rfl hg14 rfl<|nT rfl hg14 rfl<|gF rfl hg12<|A0 (C7 rfl hg14 rfl) rfl<|ge 9 rfl rfl rfl
       exact A0 (C7 rfl hg12 rfl) rfl<|ge 9 rfl rfl rfl
      refine qm rfl<|en (ra8 rfl rfl rfl rfl rfl rfl rfl rfl)<|r0<|qm rfl<|A0 (D7 rfl rfl) rfl<|qm rfl<|en (ra8 rfl rfl rfl rfl rfl rfl rfl rfl) ?_
      cases hs9
      exact lnT () rfl (su8 rfl rfl rfl rfl rfl rfl rfl rfl)
     ·refine E3 ?_
      obtain rfl:=os hs9
      exact lx rfl px (su7 rfl rfl rfl rfl rfl rfl rfl)
    ·rintro e s' H' - ⟨rfl,rfl,rfl⟩
     refine s0<|qm rfl<|es (ra7 rfl rfl rfl rfl rfl rfl rfl)<|wi hs1 rfl (fun hc19 hs1=>?_) fun hc19 hs1=>?_
     ·refine r0<|qm rfl<|A0 (D7 rfl rfl) rfl<|qm rfl<|en (ra6 rfl rfl rfl rfl rfl rfl)<|r0<|qm rfl<|A0 (D7 rfl rfl) rfl<|qm rfl<|en (ra6 rfl rfl rfl rfl rfl rfl) ?_
      cases hs1
      exact lnT () rfl (su6 rfl rfl rfl rfl rfl rfl)
     ·refine C2<|r0<|qm rfl<|A0 (D7 rfl rfl) rfl<|qm rfl<|en (ra6 rfl rfl rfl rfl rfl rfl) ?_
      cases hs1
      exact lnT () rfl (su6 rfl rfl rfl rfl rfl rfl)
  ·refine E3 ?_
   obtain rfl:=os hs1
   exact lx rfl px (su1 rfl)
 ·rintro e s' H' - ⟨rfl,rfl,rfl⟩
  refine s0<|qm rfl<|qm rfl<|es (ra1 rfl)<|C4 ?_
  obtain rfl:=os h
  exact retq trivial (B1 rfl B7) (A5 rfl B6) (A1 A4 A8)
def A55 (a0:VaTrain) (a1:(List Int)) (a2:Int) (a3:Int) (s1:(Int × Int)):Option ((Int × Int) ⊕ Int) :=
 if (decide (s1.2 < a3)) = true then
  (W3 a0 a1 a2 s1.2).bind fun x4 =>
  some (.inl ((w64 (s1.1 + (w64 (a0.Handle * x4)))),(w64 (s1.2 + 1))))
 else
  some (.inr s1.1)
def A6q (a0:VaTrain) (a1:(List Int)) (a2:Int) (a3:Int):Option Int :=
 (loop (A55 a0 a1 a2 a3) (0,0)).bind fun (o5:Int) =>
 some o5
theorem B11 {c:Sc} {H:A6} {a0:VaTrain} {a1:(List Int)} {a2:Int} {a3:Int} {r:Int} (h:A6q a0 a1 a2 a3 = some r) :
  F2 tab c H (.fn (.func 73) [] []) [(.agg (A3 a0)),(.seq 1 (List.map cI a1)),.i a2,.i a3] [.i r]:= by
 unfold A6q at h
 refine cE rfl rfl<|sg 0 rfl<|A0 (G0 (cs:=A3 a0) rfl rfl rfl) rfl<|qm rfl<|es (ra4 rfl rfl rfl rfl)<|s0<|qm rfl<|es (ra5 rfl rfl rfl rfl rfl)<|B3<|s0<|qm rfl<|es (ra6 rfl rfl rfl rfl rfl rfl)<|B9<|oB h fun o5 ho5 h=>wl (fun s1=>[(1,(.seq 1 (List.map cI a1))),(2,.i a2),(3,.i a3),(4,(.ptr (H.length + 0) 0)),(9,.i s1.1),(10,.i s1.2)]) (fun (q2:Unit) s1=>[(.cells (A3 a0))]) 1 (fun r e s' H'=>PX 0 [(9,.i r)] (H++[(.cells (A3 a0))]) e s' H') () ho5 rfl rfl (fun _ _=>rfl) (fun _=>rfl) rfl (fun s1=>(bdc D8 (bdc A4 (bdc A4 (bdc (D5 rfl) (bdc A4 (bdc A4 bdn))))))) (fun q2 s1 ys1 hs1=>?_) ?_
 ·unfold A55 at hs1
  refine B3<|s0<|qm rfl<|qm rfl<|A0 (F4 rfl rfl) rfl<|es (ra7 rfl rfl rfl rfl rfl rfl rfl)<|wi hs1 rfl (fun hc3 hs1=>?_) fun hc3 hs1=>?_
  ·refine C2<|B3<|B9<|r0<|oB hs1 fun x4 hx4 hs1=>qm rfl<|A0 (C3 rfl) rfl<|A0 (B5 rfl rfl rfl) rfl<|A0 (C5 rfl rfl rfl) rfl<|qm rfl<|qm rfl<|qm rfl<|M6 (rs:=[.i x4]) rfl rfl (F1 rfl (F1 rfl (F1 rfl (F1 rfl R7)))) (A2 (D2 rfl) (A2 rfl (A2 rfl (A2 rfl B4)))) ((A2d hx4).frz)<|A0 (C14 rfl rfl) rfl<|A0 (D7 rfl rfl) rfl<|qm rfl<|en (ra6 rfl rfl rfl rfl rfl rfl)<|r0<|qm rfl<|A0 (D7 rfl rfl) rfl<|qm rfl<|en (ra6 rfl rfl rfl rfl rfl rfl) ?_
   cases hs1
   exact lnT () rfl (su6 rfl rfl rfl rfl rfl rfl)
  ·refine E3 ?_
   obtain rfl:=os hs1
   exact lx rfl px (su1 rfl)
 ·rintro e s' H' - ⟨rfl,rfl,rfl⟩
  refine s0<|qm rfl<|qm rfl<|es (ra1 rfl)<|C4 ?_
  obtain rfl:=os h
  exact retq trivial (B1 rfl B7) (A5 rfl B6) (A1 A4 A8)
def A0f (a0:VaTrain) (a1:Int) (a3:Int) (s1:(Int × Span)):Option ((Int × Span) ⊕ Span) :=
 if (decide (s1.1 < a3)) = true then
  (idx a0.Vans a1).bind fun x4 =>
  (idx x4.Legs s1.1).bind fun x5 =>
  some (.inl ((w64 (s1.1 + 1)),(Span.mk (w64 (s1.2.Lo + x5.Lo)) (w64 (s1.2.Hi + x5.Hi)))))
 else
  some (.inr s1.2)
def A3d (a0:VaTrain) (a1:Int) (a2:Int) (a3:Int):Option Span :=
 (loop (A0f a0 a1 a3) (a2,(Span.mk 0 0))).bind fun (o6:Span) =>
 some o6
theorem B12 {c:Sc} {H:A6} {a0:VaTrain} {a1:Int} {a2:Int} {a3:Int} {r:Span} (h:A3d a0 a1 a2 a3 = some r) :
  F2 tab c H (.fn (.func 74) [] []) [(.agg (A3 a0)),.i a1,.i a2,.i a3] [(.agg (C6 r))]:= by
 unfold A3d at h
 refine cE rfl rfl<|sg 0 rfl<|A0 (G0 (cs:=A3 a0) rfl rfl rfl) rfl<|A0 E6 rfl<|es (ra5 rfl rfl rfl rfl rfl)<|sg 2 rfl<|A0 E6 rfl<|es (ra6 rfl rfl rfl rfl rfl rfl)<|B3<|s0<|qm rfl<|qm rfl<|es (ra6 rfl rfl rfl rfl rfl rfl)<|B9<|oB h fun o6 ho6 h=>wl (fun s1=>[(1,.i a1),(3,.i a3),(4,(.ptr (H.length + 0) 0)),(8,(.ptr (H.length + 1) 0)),(9,(.ptr (H.length + 2) 0)),(10,.i s1.1)]) (fun (q2:Unit) s1=>[(.cells (A3 a0)),(.cells (C6 (Span.mk 0 0))),(.cells (C6 s1.2))]) 3 (fun r e s' H'=>PX 0 [(8,(.ptr (H.length + 1) 0)),(9,(.ptr (H.length + 2) 0))] (H++[(.cells (A3 a0)),(.cells (C6 (Span.mk 0 0))),(.cells (C6 r))]) e s' H') () ho6 rfl rfl (fun _ _=>rfl) (fun _=>rfl) rfl (fun s1=>(bdc A4 (bdc A4 (bdc (D5 rfl) (bdc (D5 rfl) (bdc (D5 rfl) (bdc A4 bdn))))))) (fun q2 s1 ys1 hs1=>?_) ?_
 ·unfold A0f at hs1
  refine B3<|s0<|qm rfl<|qm rfl<|A0 (F4 rfl rfl) rfl<|es (ra7 rfl rfl rfl rfl rfl rfl rfl)<|wi hs1 rfl (fun hc3 hs1=>?_) fun hc3 hs1=>?_
  ·refine C2<|B3<|B9<|sg 3 rfl<|oB hs1 fun x4 hx4 hs1=>oB hs1 fun x5 hx5 hs1=>A0 (C3 rfl) rfl<|A0 (B5 rfl rfl rfl) rfl<|qm rfl<|A0 (D4 (f:=C0) rfl rfl hx4) rfl<|A0 (R6 (ds:=(List.drop 3 (C0 x4))) rfl rfl) rfl<|A0 (D6 rfl rfl) rfl<|qm rfl<|A0 (D4 (f:=C6) rfl rfl hx5) rfl<|A0 (K0 rfl rfl) rfl<|A0 E6 rfl<|G6 (E2 (ds:=(C6 x5)) rfl rfl rfl rfl (E1 rfl) rfl) rfl<|es (ra7 rfl rfl rfl rfl rfl rfl rfl)<|r0<|A0 (C3 rfl) rfl<|A0 (B5 rfl rfl rfl) rfl<|A0 (C3 rfl) rfl<|A0 (B5 rfl rfl rfl) rfl<|A0 (D7 rfl rfl) rfl<|A0 (C3 rfl) rfl<|A0 (B5 rfl rfl rfl) rfl<|A0 (C3 rfl) rfl<|A0 (B5 rfl rfl rfl) rfl<|A0 (D7 rfl rfl) rfl<|A0 (N7 (cs:=C6 (Span.mk (w64 (s1.2.Lo + x5.Lo)) (w64 (s1.2.Hi + x5.Hi)))) rfl rfl) rfl<|G6 (E2 (ds:=(C6 (Span.mk (w64 (s1.2.Lo + x5.Lo)) (w64 (s1.2.Hi + x5.Hi))))) rfl rfl rfl rfl (E1 rfl) rfl) rfl<|en (ra6 rfl rfl rfl rfl rfl rfl)<|r0<|qm rfl<|A0 (D7 rfl rfl) rfl<|qm rfl<|en (ra6 rfl rfl rfl rfl rfl rfl) ?_
   cases hs1
   exact lnT () rfl (su6 rfl rfl rfl rfl rfl rfl)
  ·refine E3 ?_
   obtain rfl:=os hs1
   exact lx rfl px (su2 rfl rfl)
 ·rintro e s' H' - ⟨rfl,rfl,rfl⟩
  refine s0<|A0 (C5 rfl rfl rfl) rfl<|G6 (E2 (ds:=(C6 o6)) rfl rfl rfl rfl (E1 rfl) rfl) rfl<|es (ra1 rfl)<|C4 ?_
  obtain rfl:=os h
  exact retq trivial (M2 (A08 (ds:=C6 o6) rfl rfl rfl rfl) B7) (A5 (B66 rfl) B6) (A1 (A85 rfl) A8)
def A4m (a0:VaTrain) (a1:(List Int)) (a2:Int) (a3:Int):Option Span :=
 (A3d a0 a2 0 (w64 (a3 + 1))).bind fun x1 =>
 (idx a0.Vans a2).bind fun x2 =>
 (A6q a0 a1 a2 a3).bind fun x3 =>
 some (Span.mk (w64 ((w64 (x2.Leave + x3)) + x1.Lo)) (w64 ((w64 (x2.Leave + x3)) + x1.Hi)))
theorem A8t {c:Sc} {H:A6} {a0:VaTrain} {a1:(List Int)} {a2:Int} {a3:Int} {r:Span} (h:A4m a0 a1 a2 a3 = some r) :
  F2 tab c H (.fn (.func 69) [] []) [(.agg (A3 a0)),(.seq 1 (List.map cI a1)),.i a2,.i a3] [(.agg (C6 r))]:= by
 unfold A4m at h
 refine cE rfl rfl<|sg 0 rfl<|A0 (G0 (cs:=A3 a0) rfl rfl rfl) rfl<|A0 E6 rfl<|es (ra5 rfl rfl rfl rfl rfl)<|sg 2 rfl<|oB h fun x1 hx1 h=>A0 (C5 rfl rfl rfl) rfl<|qm rfl<|qm rfl<|A0 (D7 rfl rfl) rfl<|B2 (rs:=[(.agg (C6 x1))]) rfl rfl (A2 (D2 rfl) (A2 rfl (A2 rfl (A2 rfl B4)))) ((B12 hx1).frz)<|A0 E6 rfl<|G6 (E2 (ds:=(C6 x1)) rfl rfl rfl rfl (E1 rfl) rfl) rfl<|es (ra6 rfl rfl rfl rfl rfl rfl)<|s0<|oB h fun x2 hx2 h=>oB h fun x3 hx3 h=>A0 (C3 rfl) rfl<|A0 (B5 rfl rfl rfl) rfl<|qm rfl<|A0 (D4 (f:=C0) rfl rfl hx2) rfl<|A0 (R6 (ds:=(List.drop 2 (C0 x2))) rfl rfl) rfl<|A0 (D6 rfl rfl) rfl<|A0 (C5 rfl rfl rfl) rfl<|qm rfl<|qm rfl<|qm rfl<|M6 (rs:=[.i x3]) rfl rfl (F1 rfl (F1 rfl (F1 rfl (F1 rfl R7)))) (A2 (D2 rfl) (A2 rfl (A2 rfl (A2 rfl B4)))) ((B11 hx3).frz)<|A0 (D7 rfl rfl) rfl<|qm rfl<|es (ra3 rfl rfl rfl)<|s0<|qm rfl<|A0 (C3 rfl) rfl<|A0 (B5 rfl rfl rfl) rfl<|A0 (D7 rfl rfl) rfl<|qm rfl<|A0 (C3 rfl) rfl<|A0 (B5 rfl rfl rfl) rfl<|A0 (D7 rfl rfl) rfl<|A0 (N7 (cs:=C6 (Span.mk (w64 ((w64 (x2.Leave + x3)) + x1.Lo)) (w64 ((w64 (x2.Leave + x3)) + x1.Hi)))) rfl rfl) rfl<|G6 (E2 (ds:=(C6 (Span.mk (w64 ((w64 (x2.Leave + x3)) + x1.Lo)) (w64 ((w64 (x2.Leave + x3)) + x1.Hi))))) rfl rfl rfl rfl (E1 rfl) rfl) rfl<|es (ra1 rfl)<|C4 ?_
 obtain rfl:=os h
 exact retq trivial (M2 (A08 (ds:=C6 (Span.mk (w64 ((w64 (x2.Leave + x3)) + x1.Lo)) (w64 ((w64 (x2.Leave + x3)) + x1.Hi)))) rfl rfl rfl rfl) B7) (A5 (B66 rfl) B6) (A1 (A85 rfl) A8)
def A2w (a0:VaTrain) (a1:(List Int)) (a2:Int):Option Int :=
 (idx a1 a2).bind fun x1 =>
 if (x1 == (-1)) = true then
  some 2
 else
  (idx a0.Crates a2).bind fun x3 =>
  (idx a1 a2).bind fun x4 =>
  (A4m a0 a1 x4 x3.Stop).bind fun x5 =>
  if (decide (x5.Hi≤x3.By)) = true then
  some 1
  else
  if (decide (x5.Lo > x3.By)) = true then
   some 2
  else
   some 0
theorem B0q {c:Sc} {H:A6} {a0:VaTrain} {a1:(List Int)} {a2:Int} {r:Int} (h:A2w a0 a1 a2 = some r) :
  F2 tab c H (.fn (.func 71) [] []) [(.agg (A3 a0)),(.seq 1 (List.map cI a1)),.i a2] [.i r]:= by
 unfold A2w at h
 refine cE rfl rfl<|sg 0 rfl<|A0 (G0 (cs:=A3 a0) rfl rfl rfl) rfl<|qm rfl<|es (ra3 rfl rfl rfl)<|B3<|s0<|oB h fun x1 hx1 h=>qm rfl<|qm rfl<|A0 (D4 (f:=cI) rfl rfl hx1) rfl<|A0 (D6 rfl rfl) rfl<|A0 (G7 rfl rfl) rfl<|es (ra4 rfl rfl rfl rfl)<|wi h rfl (fun hc2 h=>?_) fun hc2 h=>?_
 ·refine s0<|qm rfl<|es (ra1 rfl)<|C4 ?_
  obtain rfl:=os h
  exact retq trivial (B1 rfl B7) (A5 rfl B6) (A1 A4 A8)
 ·refine C2<|sg 1 rfl<|oB h fun x3 hx3 h=>A0 (C3 rfl) rfl<|A0 (B5 rfl rfl rfl) rfl<|qm rfl<|A0 (D4 (f:=A9) rfl rfl hx3) rfl<|A0 (K0 rfl rfl) rfl<|A0 E6 rfl<|G6 (E2 (ds:=(A9 x3)) rfl rfl rfl rfl (E1 rfl) rfl) rfl<|es (ra4 rfl rfl rfl rfl)<|sg 2 rfl<|oB h fun x4 hx4 h=>oB h fun x5 hx5 h=>N8 [2] (W5 [2] rfl I7 rfl rfl) (seen0 rfl) (C5 rfl rfl rfl) rfl<|qm rfl<|qm rfl<|qm rfl<|N8 [2] (W5 [2] rfl I7 rfl rfl) (seen0 rfl) (D4 (f:=cI) rfl rfl hx4) rfl<|N8 [2] (W5 [2] rfl I7 rfl rfl) (seen0 rfl) (D6 rfl rfl) rfl<|A0 (C3 rfl) rfl<|N8 [2] (W5 [2] rfl I7 rfl rfl) (seen0 rfl) (B5 rfl rfl rfl) rfl<|N8 [2] (W5 [2] rfl I7 rfl rfl) (seen0 rfl) (B5x (rs:=[(.agg (C6 x5))]) rfl rfl (F1 rfl (F1 rfl (F1 rfl (F1 rfl R7)))) (A2 (D2 rfl) (A2 rfl (A2 rfl (A2 rfl B4)))) ((A8t hx5).frz)) rfl<|A0 E6 rfl<|G6 (E2 (ds:=(C6 x5)) rfl rfl rfl rfl (E1 rfl) rfl) rfl<|es (ra2 rfl rfl)<|B3<|s0<|A0 (C3 rfl) rfl<|A0 (B5 rfl rfl rfl) rfl<|A0 (C3 rfl) rfl<|A0 (B5 rfl rfl rfl) rfl<|A0 (A8p rfl rfl) rfl<|es (ra3 rfl rfl rfl)<|wi h rfl (fun hc6 h=>?_) fun hc6 h=>?_
  ·refine s0<|qm rfl<|es (ra1 rfl)<|C4 ?_
   obtain rfl:=os h
   exact retq trivial (B1 rfl B7) (A5 rfl B6) (A1 A4 A8)
  ·refine C2<|B3<|s0<|A0 (C3 rfl) rfl<|A0 (B5 rfl rfl rfl) rfl<|A0 (C3 rfl) rfl<|A0 (B5 rfl rfl rfl) rfl<|A0 (A37 rfl rfl) rfl<|es (ra1 rfl)<|wi h rfl (fun hc7 h=>?_) fun hc7 h=>?_
   ·refine s0<|qm rfl<|es (ra1 rfl)<|C4 ?_
    obtain rfl:=os h
    exact retq trivial (B1 rfl B7) (A5 rfl B6) (A1 A4 A8)
   ·refine C2<|s0<|qm rfl<|es (ra1 rfl)<|C4 ?_
    obtain rfl:=os h
    exact retq trivial (B1 rfl B7) (A5 rfl B6) (A1 A4 A8)
def A4j (a0:(List ByteArray)) (a1:ByteArray) (s1:Int):Option (Int ⊕ (Int ⊕ Unit)) :=
 if (decide (s1 < (List.length a0:Int))) = true then
  (idx a0 s1).bind fun x4 =>
  if (eqS x4 a1) = true then
  some (.inr (.inl s1))
  else
  some (.inl (w64 (s1 + 1)))
 else
  some (.inr (.inr ()))
def B1q (a0:(List ByteArray)) (a1:ByteArray):Option Int :=
 (loop (A4j a0 a1) 0).bind fun (o6:(Int ⊕ Unit)) =>
 match o6 with
 | (.inl vo6_0) =>
  some vo6_0
 | (.inr vo6_1) =>
  some (-1)
theorem C3s {c:Sc} {H:A6} {a0:(List ByteArray)} {a1:ByteArray} {r:Int} (h:B1q a0 a1 = some r) :
  F2 tab c H (.fn (.func 113) [] []) [(.seq 1 (List.map cS a0)),.s a1] [.i r]:= by
 unfold B1q at h
 refine cE rfl rfl<|s0<|qm rfl<|es (ra2 rfl rfl)<|B3<|s0<|qm rfl<|es (ra3 rfl rfl rfl)<|B9<|oB h fun o6 ho6 h=>wl (fun s1=>[(0,(.seq 1 (List.map cS a0))),(1,.s a1),(5,.i s1)]) (fun (q2:Unit) s1=>[]) 0 (fun r e s' H'=>(match r with | (.inl v)=>e = .ret∧RetQ H [.tmp 4] [.i v] e s' H' | (.inr v)=>PX 0 [] (H++[]) e s' H':Prop)) () ho6 rfl rfl (fun _ _=>rfl) (fun _=>rfl) rfl (fun s1=>(bdc D8 (bdc A4 (bdc A4 bdn)))) (fun q2 s1 ys1 hs1=>?_) ?_
 ·unfold A4j at hs1
  refine B3<|s0<|qm rfl<|qm rfl<|A0 (D3 (f:=cS) rfl) rfl<|A0 (F4 rfl rfl) rfl<|es (ra4 rfl rfl rfl rfl)<|wi hs1 rfl (fun hc3 hs1=>?_) fun hc3 hs1=>?_
  ·refine C2<|B3<|B9<|s0<|oB hs1 fun x4 hx4 hs1=>qm rfl<|qm rfl<|A0 (D4 (f:=cS) rfl rfl hx4) rfl<|A0 (D6 rfl rfl) rfl<|qm rfl<|A0 (D6q rfl rfl) rfl<|es (ra4 rfl rfl rfl rfl)<|wi hs1 rfl (fun hc5 hs1=>?_) fun hc5 hs1=>?_
   ·refine s0<|qm rfl<|qm rfl<|es (ra1 rfl)<|C4 ?_
    obtain rfl:=os hs1
    exact lx rfl (And.intro rfl (retq trivial (B1 rfl B7) (A5 rfl B6) (A1 A4 A8))) (Sub.refl _)
   ·refine C2<|r0<|qm rfl<|A0 (D7 rfl rfl) rfl<|qm rfl<|en (ra3 rfl rfl rfl) ?_
    cases hs1
    exact lnT () rfl (su3 rfl rfl rfl)
  ·refine E3 ?_
   obtain rfl:=os hs1
   exact lx rfl px (.nil _)
 ·rcases o6 with vo6_0 | vo6_1
  ·rintro e s' H' - ⟨rfl,hret⟩
   cases h
   exact hret
  ·rintro e s' H' - ⟨rfl,rfl,rfl⟩
   refine s0<|qm rfl<|es (ra1 rfl)<|C4 ?_
   obtain rfl:=os h
   exact retq trivial (B1 rfl B7) (A5 rfl B6) (A1 A4 A8)
def Z8 (a0:Int) (a1:Int) (a2:Int):Option Bool :=
 some ((decide (a0 ≥ a1)) && (decide (a0≤a2)))
theorem A3s {c:Sc} {H:A6} {a0:Int} {a1:Int} {a2:Int} {r:Bool} (h:Z8 a0 a1 a2 = some r) :
  F2 tab c H (.fn (.func 88) [] []) [.i a0,.i a1,.i a2] [.b r]:= by
 unfold Z8 at h
 refine cE rfl rfl<|s0<|qm rfl<|es (ra3 rfl rfl rfl)<|s0<|qm rfl<|qm rfl<|A0 (B1e rfl rfl) rfl<|qm rfl<|gp 4 14 (.b ((decide (a0 ≥ a1)) && (decide (a0≤a2)))) 10 rfl rfl (fun hg1=>?_) (fun hg1=>?_) ?_
 ·exact gT rfl hg1<|qm rfl<|gT rfl hg1<|qm rfl<|gT rfl hg1<|A0 (A8p rfl rfl) rfl<|A0 (C8 rfl hg1 rfl) rfl<|ge 4 (by rw [hg1]; rfl) rfl rfl
 ·exact nT rfl hg1 rfl<|nT rfl hg1 rfl<|nT rfl hg1 rfl<|A0 (C7 rfl hg1 rfl) rfl<|ge 4 (by rw [hg1]; rfl) rfl rfl
 refine qm rfl<|es (ra1 rfl)<|C4 ?_
 obtain rfl:=os h
 exact retq trivial (B1 rfl B7) (A5 rfl B6) (A1 A4 A8)
def A51 (a0:ByteArray) (s3:Int):Option (Int ⊕ (Bool ⊕ Unit)) :=
 if (decide (s3 < (ByteArray.size a0:Int))) = true then
  (C4x a0 s3).bind fun x6 =>
  (Z8 (w64 x6) 97 122).bind fun x7 =>
  (C4x a0 s3).bind fun x8 =>
  (Z8 (w64 x8) 48 57).bind fun x9 =>
  (if x9 = true then
  some true
  else
  (C4x a0 s3).bind fun x11 =>
  some (x11 == 46)).bind fun x12 =>
  if ((!x7) && ((s3 == 0) || (!x12))) = true then
  some (.inr (.inl false))
  else
  some (.inl (w64 (s3 + 1)))
 else
  some (.inr (.inr ()))
def B0u (a0:ByteArray):Option Bool :=
 if (((ByteArray.size a0:Int) == 0) || (decide ((ByteArray.size a0:Int) > 16))) = true then
  some false
 else
  (loop (A51 a0) 0).bind fun (o16:(Bool ⊕ Unit)) =>
  match o16 with
  | (.inl vo16_0) =>
  some vo16_0
  | (.inr vo16_1) =>
  some true
theorem C5t {c:Sc} {H:A6} {a0:ByteArray} {r:Bool} (h:B0u a0 = some r) :
  F2 tab c H (.fn (.func 112) [] []) [.s a0] [.b r]:= by
 unfold B0u at h
 refine cE rfl rfl<|s0<|qm rfl<|es (ra1 rfl)<|B3<|s0<|qm rfl<|A0 (C8y rfl) rfl<|A0 (G7 rfl rfl) rfl<|qm rfl<|gp 4 13 (.b (((ByteArray.size a0:Int) == 0) || (decide ((ByteArray.size a0:Int) > 16)))) 9 rfl rfl (fun hg1=>?_) (fun hg1=>?_) ?_
 ·exact nF rfl hg1 rfl<|nF rfl hg1 rfl<|nF rfl hg1 rfl<|A0 (C8 rfl hg1 rfl) rfl<|ge 4 (by rw [hg1]; rfl) rfl rfl
 ·exact gF rfl hg1<|qm rfl<|gF rfl hg1<|A0 (C8y rfl) rfl<|gF rfl hg1<|A0 (A37 rfl rfl) rfl<|A0 (C7 rfl hg1 rfl) rfl<|ge 4 (by rw [hg1]; rfl) rfl rfl
 refine es (ra2 rfl rfl)<|wi h rfl (fun hc2 h=>?_) fun hc2 h=>?_
 ·refine s0<|qm rfl<|es (ra1 rfl)<|C4 ?_
  obtain rfl:=os h
  exact retq trivial (B1 rfl B7) (A5 rfl B6) (A1 A4 A8)
 ·refine C2<|B3<|s0<|qm rfl<|es (ra2 rfl rfl)<|B9<|oB h fun o16 ho16 h=>wl (fun s3=>[(0,.s a0),(3,.i s3)]) (fun (q4:Unit) s3=>[]) 0 (fun r e s' H'=>(match r with | (.inl v)=>e = .ret∧RetQ H [.tmp 2] [.b v] e s' H' | (.inr v)=>PX 0 [] (H++[]) e s' H':Prop)) () ho16 rfl rfl (fun _ _=>rfl) (fun _=>rfl) rfl (fun s3=>(bdc A4 (bdc A4 bdn))) (fun q4 s3 ys3 hs3=>?_) ?_
  ·unfold A51 at hs3
   refine B3<|s0<|qm rfl<|qm rfl<|A0 (C8y rfl) rfl<|A0 (F4 rfl rfl) rfl<|es (ra3 rfl rfl rfl)<|wi hs3 rfl (fun hc5 hs3=>?_) fun hc5 hs3=>?_
   ·refine C2<|B3<|B9<|s0<|oB hs3 fun x6 hx6 hs3=>oB hs3 fun x7 hx7 hs3=>qm rfl<|qm rfl<|A0 (C3l rfl rfl hx6) rfl<|A0 (A7e rfl) rfl<|B2 (rs:=[.b x7]) rfl rfl (A2 rfl (A2 rfl (A2 rfl B4))) ((A3s hx7).frz)<|qm rfl<|es (ra3 rfl rfl rfl)<|s0<|oB hs3 fun x8 hx8 hs3=>oB hs3 fun x9 hx9 hs3=>oB hs3 fun x12 hx12 hs3=>qm rfl<|qm rfl<|A0 (C3l rfl rfl hx8) rfl<|A0 (A7e rfl) rfl<|B2 (rs:=[.b x9]) rfl rfl (A2 rfl (A2 rfl (A2 rfl B4))) ((A3s hx9).frz)<|qm rfl<|gp 5 35 (.b x12) 30 rfl rfl (fun hg10=>?_) (fun hg10=>?_) ?_
    ·obtain rfl:=os (bt hx12 hg10)
     exact nF rfl hg10 rfl<|nF rfl hg10 rfl<|nF rfl hg10 rfl<|nF rfl hg10 rfl<|A0 (C8 rfl hg10 rfl) rfl<|ge 5 rfl rfl rfl
    ·refine oB (bf hx12 hg10) fun x11 hx11 hx12=>?_
     obtain rfl:=os hx12
     exact gF rfl hg10<|qm rfl<|gF rfl hg10<|qm rfl<|gF rfl hg10<|A0 (C3l rfl rfl hx11) rfl<|gF rfl hg10<|A0 (G7 rfl rfl) rfl<|A0 (C7 rfl hg10 rfl) rfl<|ge 5 rfl rfl rfl
    refine qm rfl<|es (ra4 rfl rfl rfl rfl)<|s0<|qm rfl<|A0 (O3 rfl) rfl<|qm rfl<|gp 7 45 (.b ((!x7) && ((s3 == 0) || (!x12)))) 38 rfl rfl (fun hg13=>?_) (fun hg13=>?_) ?_
    ·refine gT rfl hg13<|qm rfl<|gT rfl hg13<|A0 (G7 rfl rfl) rfl<|gT rfl hg13<|qm rfl<|gq 3 44 (.b ((s3 == 0) || (!x12))) 41 rfl rfl (fun hg14=>?_) (fun hg14=>?_) ?_
     ·exact nF rfl hg14 rfl<|nF rfl hg14 rfl<|gT rfl hg13<|A0 (C8 rfl hg14 rfl) rfl<|ge 3 (by rw [hg14]; rfl) rfl rfl
     ·exact gF rfl hg14<|qm rfl<|gF rfl hg14<|A0 (O3 rfl) rfl<|gT rfl hg13<|A0 (C7 rfl hg14 rfl) rfl<|ge 3 (by rw [hg14]; rfl) rfl rfl
     exact A0 (C8 rfl hg13 rfl) rfl<|ge 5 (by rw [hg13]; rfl) rfl rfl
    ·exact nT rfl hg13 rfl<|nT rfl hg13 rfl<|nT rfl hg13 rfl<|nX rfl rfl<|nX rfl rfl<|nT rfl hg13 rfl<|A0 (C7 rfl hg13 rfl) rfl<|ge 7 (by rw [hg13]; rfl) rfl rfl
    refine es (ra3 rfl rfl rfl)<|wi hs3 rfl (fun hc15 hs3=>?_) fun hc15 hs3=>?_
    ·refine s0<|qm rfl<|es (ra1 rfl)<|C4 ?_
     obtain rfl:=os hs3
     exact lx rfl (And.intro rfl (retq trivial (B1 rfl B7) (A5 rfl B6) (A1 A4 A8))) (Sub.refl _)
    ·refine C2<|r0<|qm rfl<|A0 (D7 rfl rfl) rfl<|qm rfl<|en (ra2 rfl rfl) ?_
     cases hs3
     exact lnT () rfl (su2 rfl rfl)
   ·refine E3 ?_
    obtain rfl:=os hs3
    exact lx rfl px (.nil _)
  ·rcases o16 with vo16_0 | vo16_1
   ·rintro e s' H' - ⟨rfl,hret⟩
    cases h
    exact hret
   ·rintro e s' H' - ⟨rfl,rfl,rfl⟩
    refine s0<|qm rfl<|es (ra1 rfl)<|C4 ?_
    obtain rfl:=os h
    exact retq trivial (B1 rfl B7) (A5 rfl B6) (A1 A4 A8)
def A96 (a0:ByteArray) (a1:(List ByteArray)):Option Int :=
 (B0u a0).bind fun x1 =>
 if (!x1) = true then
  some 6
 else
  (B1q a1 a0).bind fun x3 =>
  if (decide (x3 ≥ 0)) = true then
  some 5
  else
  some 0
theorem B8l {c:Sc} {H:A6} {a0:ByteArray} {a1:(List ByteArray)} {r:Int} (h:A96 a0 a1 = some r) :
  F2 tab c H (.fn (.func 96) [] []) [.s a0,(.seq 1 (List.map cS a1))] [.i r]:= by
 unfold A96 at h
 refine cE rfl rfl<|s0<|qm rfl<|es (ra2 rfl rfl)<|B3<|s0<|oB h fun x1 hx1 h=>qm rfl<|B2 (rs:=[.b x1]) rfl rfl (A2 rfl B4) ((C5t hx1).frz)<|A0 (O3 rfl) rfl<|es (ra3 rfl rfl rfl)<|wi h rfl (fun hc2 h=>?_) fun hc2 h=>?_
 ·refine s0<|qm rfl<|es (ra1 rfl)<|C4 ?_
  obtain rfl:=os h
  exact retq trivial (B1 rfl B7) (A5 rfl B6) (A1 A4 A8)
 ·refine C2<|B3<|s0<|oB h fun x3 hx3 h=>qm rfl<|qm rfl<|B2 (rs:=[.i x3]) rfl rfl (A2 rfl (A2 rfl B4)) ((C3s hx3).frz)<|A0 (B1e rfl rfl) rfl<|es (ra1 rfl)<|wi h rfl (fun hc4 h=>?_) fun hc4 h=>?_
  ·refine s0<|qm rfl<|es (ra1 rfl)<|C4 ?_
   obtain rfl:=os h
   exact retq trivial (B1 rfl B7) (A5 rfl B6) (A1 A4 A8)
  ·refine C2<|s0<|qm rfl<|es (ra1 rfl)<|C4 ?_
   obtain rfl:=os h
   exact retq trivial (B1 rfl B7) (A5 rfl B6) (A1 A4 A8)
def X0 (a0:Int) (a1:Int) (a2:Int):Option Bool :=
 some ((decide (a0 ≥ a1)) && (decide (a0≤a2)))
theorem S0 {c:Sc} {H:A6} {a0:Int} {a1:Int} {a2:Int} {r:Bool} (h:X0 a0 a1 a2 = some r) :
  F2 tab c H (.fn (.func 60) [] []) [.i a0,.i a1,.i a2] [.b r]:= by
 unfold X0 at h
 refine cE rfl rfl<|s0<|qm rfl<|es (ra3 rfl rfl rfl)<|s0<|qm rfl<|qm rfl<|A0 (B1e rfl rfl) rfl<|qm rfl<|gp 4 14 (.b ((decide (a0 ≥ a1)) && (decide (a0≤a2)))) 10 rfl rfl (fun hg1=>?_) (fun hg1=>?_) ?_
 ·exact gT rfl hg1<|qm rfl<|gT rfl hg1<|qm rfl<|gT rfl hg1<|A0 (A8p rfl rfl) rfl<|A0 (C8 rfl hg1 rfl) rfl<|ge 4 (by rw [hg1]; rfl) rfl rfl
 ·exact nT rfl hg1 rfl<|nT rfl hg1 rfl<|nT rfl hg1 rfl<|A0 (C7 rfl hg1 rfl) rfl<|ge 4 (by rw [hg1]; rfl) rfl rfl
 refine qm rfl<|es (ra1 rfl)<|C4 ?_
 obtain rfl:=os h
 exact retq trivial (B1 rfl B7) (A5 rfl B6) (A1 A4 A8)
def A3u (a0:VaTrain) (s2:(Int × (List ByteArray))):Option ((Int × (List ByteArray)) ⊕ ((Int × Int) ⊕ (List ByteArray))) :=
 if (decide (s2.1 < (List.length a0.Crates:Int))) = true then
  (idx a0.Crates s2.1).bind fun x5 =>
  (A96 x5.Name s2.2).bind fun x6 =>
  (app 16 s2.2 [x5.Name]).bind fun x7 =>
  (if (x6 == 0) = true then
  (X0 x5.Size 1 9).bind fun x9 =>
  (if (!x9) = true then
   some true
  else
   (X0 x5.Stop 0 (w64 (a0.Stops - 1))).bind fun x11 =>
   some (!x11)).bind fun x12 =>
  (if x12 = true then
   some true
  else
   (X0 x5.By 0 5000).bind fun x14 =>
   some (!x14)).bind fun x15 =>
  some x15
  else
  some false).bind fun x16 =>
  if x16 = true then
  some (.inr (.inl (s2.1,7)))
  else
  if (x6 != 0) = true then
   some (.inr (.inl (s2.1,x6)))
  else
   some (.inl ((w64 (s2.1 + 1)),x7))
 else
  some (.inr (.inr s2.2))
def A7n (a0:VaTrain):Option (Int × Int) :=
 if (decide ((List.length a0.Crates:Int) > 6)) = true then
  some (0,3)
 else
  (loop (A3u a0) (0,([]:List ByteArray))).bind fun (o19:((Int × Int) ⊕ (List ByteArray))) =>
  match o19 with
  | (.inl vo19_0) =>
  some vo19_0
  | (.inr vo19_1) =>
  some (0,0)
theorem C1f {c:Sc} {H:A6} {a0:VaTrain} {r:(Int × Int)} (h:A7n a0 = some r) :
  F2 tab c H (.fn (.func 62) [] []) [(.agg (A3 a0))] [.i r.1,.i r.2]:= by
 unfold A7n at h
 refine cE rfl rfl<|sg 0 rfl<|A0 (G0 (cs:=A3 a0) rfl rfl rfl) rfl<|qm rfl<|qm rfl<|es (ra1 rfl)<|B3<|s0<|A0 (C3 rfl) rfl<|A0 (B5 rfl rfl rfl) rfl<|A0 (D3 (f:=A9) rfl) rfl<|A0 (A37 rfl rfl) rfl<|es (ra2 rfl rfl)<|wi h rfl (fun hc1 h=>?_) fun hc1 h=>?_
 ·refine s0<|qm rfl<|qm rfl<|es (ra2 rfl rfl)<|C4 ?_
  obtain rfl:=os h
  exact retq trivial (B1 rfl (B1 rfl B7)) (A5 rfl (A5 rfl B6)) (A1 A4 (A1 A4 A8))
 ·refine C2<|sg 1 rfl<|A0 A5y rfl<|es (ra2 rfl rfl)<|B3<|s0<|qm rfl<|es (ra3 rfl rfl rfl)<|B9<|oB h fun o19 ho19 h=>wl (fun s2=>[(1,(.ptr (H.length + 0) 0)),(4,(.asl (H.length + 1) (List.length s2.2))),(5,.i s2.1)]) (fun (q3:Bool) s2=>[(.cells (A3 a0)),(.arr 1 q3 (List.map cS s2.2))]) 2 (fun r e s' H'=>(match r with | (.inl v)=>e = .ret∧RetQ H [.tmp 2,.tmp 3] [.i v.1,.i v.2] e s' H' | (.inr v)=>e = (.exit 0)∧s' = []∧∃ (q0q:Bool),H' = (H++[(.cells (A3 a0)),(.arr 1 q0q (List.map cS v))]):Prop)) false ho19 rfl rfl (fun _ _=>rfl) (fun _=>rfl) rfl (fun s2=>(bdc (D5 rfl) (bdc (U8 rfl) (bdc A4 bdn)))) (fun q3 s2 ys2 hs2=>?_) ?_
  ·unfold A3u at hs2
   refine B3<|s0<|qm rfl<|A0 (C3 rfl) rfl<|A0 (B5 rfl rfl rfl) rfl<|A0 (D3 (f:=A9) rfl) rfl<|A0 (F4 rfl rfl) rfl<|es (ra4 rfl rfl rfl rfl)<|wi hs2 rfl (fun hc4 hs2=>?_) fun hc4 hs2=>?_
   ·refine C2<|B3<|B9<|sg 2 rfl<|oB hs2 fun x5 hx5 hs2=>A0 (C3 rfl) rfl<|A0 (B5 rfl rfl rfl) rfl<|qm rfl<|A0 (D4 (f:=A9) rfl rfl hx5) rfl<|A0 (K0 rfl rfl) rfl<|A0 E6 rfl<|G6 (E2 (ds:=(A9 x5)) rfl rfl rfl rfl (E1 rfl) rfl) rfl<|es (ra4 rfl rfl rfl rfl)<|s0<|oB hs2 fun x6 hx6 hs2=>A0 (C3 rfl) rfl<|A0 (B5 rfl rfl rfl) rfl<|qm rfl<|B2 (rs:=[.i x6]) rfl rfl (A2 rfl (A2 (A88 rfl (List.length_map _)) B4)) ((B8l hx6).frz)<|qm rfl<|es (ra5 rfl rfl rfl rfl rfl)<|s0<|oB hs2 fun x7 hx7 hs2=>qm rfl<|A0 (C3 rfl) rfl<|A0 (B5 rfl rfl rfl) rfl<|A0 (I8 (rows:=List.map cS [x5.Name]) rfl rfl (E4 (fun _=>rfl) _)) rfl<|A35 (W8 (f:=cS) rfl rfl rfl rfl U0 (fun _=>rfl) hx7) rfl<|qm rfl<|es (ra5 rfl rfl rfl rfl rfl)<|B3<|s0<|oB hs2 fun x16 hx16 hs2=>qm rfl<|A0 (G7 rfl rfl) rfl<|qm rfl<|gp 20 55 (.b x16) 35 rfl rfl (fun hg8=>?_) (fun hg8=>?_) ?_
    ·refine oB (bt hx16 hg8) fun x9 hx9 hx16=>oB hx16 fun x12 hx12 hx16=>oB hx16 fun x15 hx15 hx16=>?_
     obtain rfl:=os hx16
     refine gT rfl hg8<|A0 (C3 rfl) rfl<|gT rfl hg8<|A0 (B5 rfl rfl rfl) rfl<|gT rfl hg8<|B2 (rs:=[.b x9]) rfl rfl (A2 rfl (A2 rfl (A2 rfl B4))) ((S0 hx9).frz)<|gT rfl hg8<|A0 (O3 rfl) rfl<|gT rfl hg8<|qm rfl<|gq 8 48 (.b x12) 40 rfl rfl (fun hg10=>?_) (fun hg10=>?_) ?_
     ·obtain rfl:=os (bt hx12 hg10)
      exact nF rfl hg10 rfl<|nF rfl hg10 rfl<|nF rfl hg10 rfl<|nF rfl hg10 rfl<|nF rfl hg10 rfl<|H8 (E9 rfl (by rw [hg10]; rfl)) rfl<|nF rfl hg10 rfl<|gT rfl hg8<|A0 (C8 rfl hg10 rfl) rfl<|ge 8 rfl rfl rfl
     ·refine oB (bf hx12 hg10) fun x11 hx11 hx12=>?_
      obtain rfl:=os hx12
      exact gF rfl hg10<|A0 (C3 rfl) rfl<|gF rfl hg10<|A0 (B5 rfl rfl rfl) rfl<|gF rfl hg10<|A0 (C3 rfl) rfl<|gF rfl hg10<|A0 (B5 rfl rfl rfl) rfl<|gF rfl hg10<|A0 (O0 rfl rfl) rfl<|gF rfl hg10<|B2 (rs:=[.b x11]) rfl rfl (A2 rfl (A2 rfl (A2 rfl B4))) ((S0 hx11).frz)<|gF rfl hg10<|A0 (O3 rfl) rfl<|gT rfl hg8<|A0 (C7 rfl hg10 rfl) rfl<|ge 8 rfl rfl rfl
     refine gT rfl hg8<|qm rfl<|gq 5 54 (.b x15) 49 rfl rfl (fun hg13=>?_) (fun hg13=>?_) ?_
     ·obtain rfl:=os (bt hx15 hg13)
      exact nF rfl hg13 rfl<|nF rfl hg13 rfl<|H8 (E9 rfl (by rw [hg13]; rfl)) rfl<|nF rfl hg13 rfl<|gT rfl hg8<|A0 (C8 rfl hg13 rfl) rfl<|ge 5 rfl rfl rfl
     ·refine oB (bf hx15 hg13) fun x14 hx14 hx15=>?_
      obtain rfl:=os hx15
      exact gF rfl hg13<|A0 (C3 rfl) rfl<|gF rfl hg13<|A0 (B5 rfl rfl rfl) rfl<|gF rfl hg13<|B2 (rs:=[.b x14]) rfl rfl (A2 rfl (A2 rfl (A2 rfl B4))) ((S0 hx14).frz)<|gF rfl hg13<|A0 (O3 rfl) rfl<|gT rfl hg8<|A0 (C7 rfl hg13 rfl) rfl<|ge 5 rfl rfl rfl
     exact A0 (C8 rfl hg8 rfl) rfl<|ge 9 rfl rfl rfl
    ·obtain rfl:=os (bf hx16 hg8)
     exact nT rfl hg8 rfl<|nT rfl hg8 rfl<|H8 (E9 rfl (by rw [hg8]; rfl)) rfl<|nT rfl hg8 rfl<|nT rfl hg8 rfl<|nX rfl rfl<|nX rfl rfl<|nX rfl rfl<|nX rfl rfl<|nX rfl rfl<|H8 (Y3 rfl) rfl<|nX rfl rfl<|nT rfl hg8 rfl<|nT rfl hg8 rfl<|nX rfl rfl<|nX rfl rfl<|H8 (Y3 rfl) rfl<|nX rfl rfl<|nT rfl hg8 rfl<|A0 (C7 rfl hg8 rfl) rfl<|ge 20 rfl rfl rfl
    refine es (ra5 rfl rfl rfl rfl rfl)<|wi hs2 rfl (fun hc17 hs2=>?_) fun hc17 hs2=>?_
    ·refine r0<|qm rfl<|en (ra4 rfl rfl rfl rfl)<|s0<|qm rfl<|A0 (J9 (v:=(.b true)) rfl rfl rfl) rfl<|es (ra5 rfl rfl rfl rfl rfl)<|N0 rfl rfl<|s0<|qm rfl<|qm rfl<|qm rfl<|qm rfl<|es (ra2 rfl rfl)<|C4 ?_
     obtain rfl:=os hs2
     exact lx rfl (And.intro rfl (retq trivial (B1 rfl (B1 rfl B7)) (A5 rfl (A5 rfl B6)) (A1 A4 (A1 A4 A8)))) (Sub.refl _)
    ·refine C2<|s0<|qm rfl<|A0 (F8 rfl rfl) rfl<|es (ra5 rfl rfl rfl rfl rfl)<|wi hs2 rfl (fun hc18 hs2=>?_) fun hc18 hs2=>?_
     ·refine s0<|qm rfl<|qm rfl<|qm rfl<|qm rfl<|es (ra2 rfl rfl)<|C4 ?_
      obtain rfl:=os hs2
      exact lx rfl (And.intro rfl (retq trivial (B1 rfl (B1 rfl B7)) (A5 rfl (A5 rfl B6)) (A1 A4 (A1 A4 A8)))) (Sub.refl _)
     ·refine C2<|r0<|qm rfl<|A0 (D7 rfl rfl) rfl<|qm rfl<|en (ra3 rfl rfl rfl) ?_
      cases hs2
      exact lnT true rfl (su3 rfl rfl rfl)
   ·refine E3 ?_
    obtain rfl:=os hs2
    exact lx rfl (And.intro rfl (And.intro rfl ⟨q3,rfl⟩)) (.nil _)
  ·rcases o19 with vo19_0 | vo19_1
   ·rintro e s' H' - ⟨rfl,hret⟩
    cases h
    exact hret
   ·rintro e s' H' - ⟨rfl,rfl,q20,rfl⟩
    refine s0<|qm rfl<|qm rfl<|es (ra2 rfl rfl)<|C4 ?_
    obtain rfl:=os h
    exact retq trivial (B1 rfl (B1 rfl B7)) (A5 rfl (A5 rfl B6)) (A1 A4 (A1 A4 A8))
def A4t (a0:VaTrain) (s2:Int):Option (Int ⊕ ((Int × Int) ⊕ Unit)) :=
 if (decide (s2 < (List.length a0.Apart:Int))) = true then
  (idx a0.Apart s2).bind fun x5 =>
  (X0 x5.A 0 (w64 ((List.length a0.Crates:Int) - 1))).bind fun x6 =>
  (if (!x6) = true then
  some true
  else
  (X0 x5.B 0 (w64 ((List.length a0.Crates:Int) - 1))).bind fun x8 =>
  some (!x8)).bind fun x9 =>
  if x9 = true then
  some (.inr (.inl (s2,4)))
  else
  if (decide (x5.A ≥ x5.B)) = true then
   some (.inr (.inl (s2,2)))
  else
   some (.inl (w64 (s2 + 1)))
 else
  some (.inr (.inr ()))
def A83 (a0:VaTrain):Option (Int × Int) :=
 if (decide ((List.length a0.Apart:Int) > 4)) = true then
  some (0,3)
 else
  (loop (A4t a0) 0).bind fun (o12:((Int × Int) ⊕ Unit)) =>
  match o12 with
  | (.inl vo12_0) =>
  some vo12_0
  | (.inr vo12_1) =>
  some (0,0)
theorem C3z {c:Sc} {H:A6} {a0:VaTrain} {r:(Int × Int)} (h:A83 a0 = some r) :
  F2 tab c H (.fn (.func 63) [] []) [(.agg (A3 a0))] [.i r.1,.i r.2]:= by
 unfold A83 at h
 refine cE rfl rfl<|sg 0 rfl<|A0 (G0 (cs:=A3 a0) rfl rfl rfl) rfl<|qm rfl<|qm rfl<|es (ra1 rfl)<|B3<|s0<|A0 (C3 rfl) rfl<|A0 (B5 rfl rfl rfl) rfl<|A0 (D3 (f:=C1) rfl) rfl<|A0 (A37 rfl rfl) rfl<|es (ra2 rfl rfl)<|wi h rfl (fun hc1 h=>?_) fun hc1 h=>?_
 ·refine s0<|qm rfl<|qm rfl<|es (ra2 rfl rfl)<|C4 ?_
  obtain rfl:=os h
  exact retq trivial (B1 rfl (B1 rfl B7)) (A5 rfl (A5 rfl B6)) (A1 A4 (A1 A4 A8))
 ·refine C2<|B3<|s0<|qm rfl<|es (ra2 rfl rfl)<|B9<|oB h fun o12 ho12 h=>wl (fun s2=>[(1,(.ptr (H.length + 0) 0)),(4,.i s2)]) (fun (q3:Unit) s2=>[(.cells (A3 a0))]) 1 (fun r e s' H'=>(match r with | (.inl v)=>e = .ret∧RetQ H [.tmp 2,.tmp 3] [.i v.1,.i v.2] e s' H' | (.inr v)=>PX 0 [] (H++[(.cells (A3 a0))]) e s' H':Prop)) () ho12 rfl rfl (fun _ _=>rfl) (fun _=>rfl) rfl (fun s2=>(bdc (D5 rfl) (bdc A4 bdn))) (fun q3 s2 ys2 hs2=>?_) ?_
  ·unfold A4t at hs2
   refine B3<|s0<|qm rfl<|A0 (C3 rfl) rfl<|A0 (B5 rfl rfl rfl) rfl<|A0 (D3 (f:=C1) rfl) rfl<|A0 (F4 rfl rfl) rfl<|es (ra3 rfl rfl rfl)<|wi hs2 rfl (fun hc4 hs2=>?_) fun hc4 hs2=>?_
   ·refine C2<|B3<|B9<|sg 1 rfl<|oB hs2 fun x5 hx5 hs2=>A0 (C3 rfl) rfl<|A0 (B5 rfl rfl rfl) rfl<|qm rfl<|A0 (D4 (f:=C1) rfl rfl hx5) rfl<|A0 (K0 rfl rfl) rfl<|A0 E6 rfl<|G6 (E2 (ds:=(C1 x5)) rfl rfl rfl rfl (E1 rfl) rfl) rfl<|es (ra3 rfl rfl rfl)<|B3<|s0<|oB hs2 fun x6 hx6 hs2=>oB hs2 fun x9 hx9 hs2=>A0 (C3 rfl) rfl<|A0 (B5 rfl rfl rfl) rfl<|A0 (C3 rfl) rfl<|A0 (B5 rfl rfl rfl) rfl<|A0 (D3 (f:=A9) rfl) rfl<|A0 (O0 rfl rfl) rfl<|B2 (rs:=[.b x6]) rfl rfl (A2 rfl (A2 rfl (A2 rfl B4))) ((S0 hx6).frz)<|A0 (O3 rfl) rfl<|qm rfl<|gp 9 39 (.b x9) 30 rfl rfl (fun hg7=>?_) (fun hg7=>?_) ?_
    ·obtain rfl:=os (bt hx9 hg7)
     exact nF rfl hg7 rfl<|nF rfl hg7 rfl<|nF rfl hg7 rfl<|nF rfl hg7 rfl<|nF rfl hg7 rfl<|nF rfl hg7 rfl<|H8 (E9 rfl (by rw [hg7]; rfl)) rfl<|nF rfl hg7 rfl<|A0 (C8 rfl hg7 rfl) rfl<|ge 9 rfl rfl rfl
    ·refine oB (bf hx9 hg7) fun x8 hx8 hx9=>?_
     obtain rfl:=os hx9
     exact gF rfl hg7<|A0 (C3 rfl) rfl<|gF rfl hg7<|A0 (B5 rfl rfl rfl) rfl<|gF rfl hg7<|A0 (C3 rfl) rfl<|gF rfl hg7<|A0 (B5 rfl rfl rfl) rfl<|gF rfl hg7<|A0 (D3 (f:=A9) rfl) rfl<|gF rfl hg7<|A0 (O0 rfl rfl) rfl<|gF rfl hg7<|B2 (rs:=[.b x8]) rfl rfl (A2 rfl (A2 rfl (A2 rfl B4))) ((S0 hx8).frz)<|gF rfl hg7<|A0 (O3 rfl) rfl<|A0 (C7 rfl hg7 rfl) rfl<|ge 9 rfl rfl rfl
    refine es (ra4 rfl rfl rfl rfl)<|wi hs2 rfl (fun hc10 hs2=>?_) fun hc10 hs2=>?_
    ·refine s0<|qm rfl<|qm rfl<|qm rfl<|es (ra2 rfl rfl)<|C4 ?_
     obtain rfl:=os hs2
     exact lx rfl (And.intro rfl (retq trivial (B1 rfl (B1 rfl B7)) (A5 rfl (A5 rfl B6)) (A1 A4 (A1 A4 A8)))) (Sub.refl _)
    ·refine C2<|s0<|A0 (C3 rfl) rfl<|A0 (B5 rfl rfl rfl) rfl<|A0 (C3 rfl) rfl<|A0 (B5 rfl rfl rfl) rfl<|A0 (B1e rfl rfl) rfl<|es (ra3 rfl rfl rfl)<|wi hs2 rfl (fun hc11 hs2=>?_) fun hc11 hs2=>?_
     ·refine s0<|qm rfl<|qm rfl<|qm rfl<|es (ra2 rfl rfl)<|C4 ?_
      obtain rfl:=os hs2
      exact lx rfl (And.intro rfl (retq trivial (B1 rfl (B1 rfl B7)) (A5 rfl (A5 rfl B6)) (A1 A4 (A1 A4 A8)))) (Sub.refl _)
     ·refine C2<|r0<|qm rfl<|A0 (D7 rfl rfl) rfl<|qm rfl<|en (ra2 rfl rfl) ?_
      cases hs2
      exact lnT () rfl (su2 rfl rfl)
   ·refine E3 ?_
    obtain rfl:=os hs2
    exact lx rfl px (.nil _)
  ·rcases o12 with vo12_0 | vo12_1
   ·rintro e s' H' - ⟨rfl,hret⟩
    cases h
    exact hret
   ·rintro e s' H' - ⟨rfl,rfl,rfl⟩
    refine s0<|qm rfl<|qm rfl<|es (ra2 rfl rfl)<|C4 ?_
    obtain rfl:=os h
    exact retq trivial (B1 rfl (B1 rfl B7)) (A5 rfl (A5 rfl B6)) (A1 A4 (A1 A4 A8))
def B0t (a0:Span) (a1:Int) (a2:Int):Option Int :=
 (Z8 a0.Lo a1 a2).bind fun x1 =>
 (if (!x1) = true then
  some true
 else
  (Z8 a0.Hi a1 a2).bind fun x3 =>
  some (!x3)).bind fun x4 =>
 if x4 = true then
  some 7
 else
  if (decide (a0.Hi < a0.Lo)) = true then
  some 2
  else
  some 0
theorem C5r {c:Sc} {H:A6} {a0:Span} {a1:Int} {a2:Int} {r:Int} (h:B0t a0 a1 a2 = some r) :
  F2 tab c H (.fn (.func 114) [] []) [(.agg (C6 a0)),.i a1,.i a2] [.i r]:= by
 unfold B0t at h
 refine cE rfl rfl<|sg 0 rfl<|A0 (G0 (cs:=C6 a0) rfl rfl rfl) rfl<|qm rfl<|es (ra3 rfl rfl rfl)<|B3<|s0<|oB h fun x1 hx1 h=>oB h fun x4 hx4 h=>A0 (C3 rfl) rfl<|A0 (B5 rfl rfl rfl) rfl<|qm rfl<|qm rfl<|B2 (rs:=[.b x1]) rfl rfl (A2 rfl (A2 rfl (A2 rfl B4))) ((A3s hx1).frz)<|A0 (O3 rfl) rfl<|qm rfl<|gp 7 20 (.b x4) 13 rfl rfl (fun hg2=>?_) (fun hg2=>?_) ?_
 ·obtain rfl:=os (bt hx4 hg2)
  exact nF rfl hg2 rfl<|nF rfl hg2 rfl<|nF rfl hg2 rfl<|nF rfl hg2 rfl<|H8 (E9 rfl (by rw [hg2]; rfl)) rfl<|nF rfl hg2 rfl<|A0 (C8 rfl hg2 rfl) rfl<|ge 7 rfl rfl rfl
 ·refine oB (bf hx4 hg2) fun x3 hx3 hx4=>?_
  obtain rfl:=os hx4
  exact gF rfl hg2<|A0 (C3 rfl) rfl<|gF rfl hg2<|A0 (B5 rfl rfl rfl) rfl<|gF rfl hg2<|qm rfl<|gF rfl hg2<|qm rfl<|gF rfl hg2<|B2 (rs:=[.b x3]) rfl rfl (A2 rfl (A2 rfl (A2 rfl B4))) ((A3s hx3).frz)<|gF rfl hg2<|A0 (O3 rfl) rfl<|A0 (C7 rfl hg2 rfl) rfl<|ge 7 rfl rfl rfl
 refine es (ra2 rfl rfl)<|wi h rfl (fun hc5 h=>?_) fun hc5 h=>?_
 ·refine s0<|qm rfl<|es (ra1 rfl)<|C4 ?_
  obtain rfl:=os h
  exact retq trivial (B1 rfl B7) (A5 rfl B6) (A1 A4 A8)
 ·refine C2<|B3<|s0<|A0 (C3 rfl) rfl<|A0 (B5 rfl rfl rfl) rfl<|A0 (C3 rfl) rfl<|A0 (B5 rfl rfl rfl) rfl<|A0 (F4 rfl rfl) rfl<|es (ra1 rfl)<|wi h rfl (fun hc6 h=>?_) fun hc6 h=>?_
  ·refine s0<|qm rfl<|es (ra1 rfl)<|C4 ?_
   obtain rfl:=os h
   exact retq trivial (B1 rfl B7) (A5 rfl B6) (A1 A4 A8)
  ·refine C2<|s0<|qm rfl<|es (ra1 rfl)<|C4 ?_
   obtain rfl:=os h
   exact retq trivial (B1 rfl B7) (A5 rfl B6) (A1 A4 A8)
def A7o (a1:VaVan) (s7:Int):Option (Int ⊕ (Int ⊕ Unit)) :=
 if (decide (s7 < (List.length a1.Legs:Int))) = true then
  (idx a1.Legs s7).bind fun x10 =>
  (B0t x10 0 600).bind fun x11 =>
  if (x11 != 0) = true then
  some (.inr (.inl x11))
  else
  some (.inl (w64 (s7 + 1)))
 else
  some (.inr (.inr ()))
def B20 (a0:VaTrain) (a1:VaVan):Option Int :=
 (X0 a1.Room 0 20).bind fun x1 =>
 (if (!x1) = true then
  some true
 else
  (X0 a1.Leave 0 5000).bind fun x3 =>
  some (!x3)).bind fun x4 =>
 if x4 = true then
  some 7
 else
  if ((List.length a1.Legs:Int) != a0.Stops) = true then
  some 3
  else
  (loop (A7o a1) 0).bind fun (o13:(Int ⊕ Unit)) =>
  match o13 with
  | (.inl vo13_0) =>
   some vo13_0
  | (.inr vo13_1) =>
   some 0
theorem C82 {c:Sc} {H:A6} {a0:VaTrain} {a1:VaVan} {r:Int} (h:B20 a0 a1 = some r) :
  F2 tab c H (.fn (.func 97) [] []) [(.agg (A3 a0)),(.agg (C0 a1))] [.i r]:= by
 unfold B20 at h
 refine cE rfl rfl<|sg 0 rfl<|A0 (G0 (cs:=A3 a0) rfl rfl rfl) rfl<|A0 (G0 (cs:=C0 a1) rfl rfl rfl) rfl<|qm rfl<|es (ra2 rfl rfl)<|B3<|s0<|oB h fun x1 hx1 h=>oB h fun x4 hx4 h=>A0 (C3 rfl) rfl<|A0 (B5 rfl rfl rfl) rfl<|B2 (rs:=[.b x1]) rfl rfl (A2 rfl (A2 rfl (A2 rfl B4))) ((S0 hx1).frz)<|A0 (O3 rfl) rfl<|qm rfl<|gp 5 16 (.b x4) 11 rfl rfl (fun hg2=>?_) (fun hg2=>?_) ?_
 ·obtain rfl:=os (bt hx4 hg2)
  exact nF rfl hg2 rfl<|nF rfl hg2 rfl<|H8 (E9 rfl (by rw [hg2]; rfl)) rfl<|nF rfl hg2 rfl<|A0 (C8 rfl hg2 rfl) rfl<|ge 5 rfl rfl rfl
 ·refine oB (bf hx4 hg2) fun x3 hx3 hx4=>?_
  obtain rfl:=os hx4
  exact gF rfl hg2<|A0 (C3 rfl) rfl<|gF rfl hg2<|A0 (B5 rfl rfl rfl) rfl<|gF rfl hg2<|B2 (rs:=[.b x3]) rfl rfl (A2 rfl (A2 rfl (A2 rfl B4))) ((S0 hx3).frz)<|gF rfl hg2<|A0 (O3 rfl) rfl<|A0 (C7 rfl hg2 rfl) rfl<|ge 5 rfl rfl rfl
 refine es (ra3 rfl rfl rfl)<|wi h rfl (fun hc5 h=>?_) fun hc5 h=>?_
 ·refine s0<|qm rfl<|es (ra1 rfl)<|C4 ?_
  obtain rfl:=os h
  exact retq trivial (B1 rfl B7) (A5 rfl B6) (A1 A4 A8)
 ·refine C2<|B3<|s0<|A0 (C3 rfl) rfl<|A0 (B5 rfl rfl rfl) rfl<|A0 (D3 (f:=C6) rfl) rfl<|A0 (C3 rfl) rfl<|A0 (B5 rfl rfl rfl) rfl<|A0 (F8 rfl rfl) rfl<|es (ra2 rfl rfl)<|wi h rfl (fun hc6 h=>?_) fun hc6 h=>?_
  ·refine s0<|qm rfl<|es (ra1 rfl)<|C4 ?_
   obtain rfl:=os h
   exact retq trivial (B1 rfl B7) (A5 rfl B6) (A1 A4 A8)
  ·refine C2<|B3<|s0<|qm rfl<|es (ra2 rfl rfl)<|B9<|oB h fun o13 ho13 h=>wl (fun s7=>[(3,(.ptr (H.length + 1) 0)),(5,.i s7)]) (fun (q8:Unit) s7=>[(.cells (A3 a0)),(.cells (C0 a1))]) 2 (fun r e s' H'=>(match r with | (.inl v)=>e = .ret∧RetQ H [.tmp 4] [.i v] e s' H' | (.inr v)=>PX 0 [] (H++[(.cells (A3 a0)),(.cells (C0 a1))]) e s' H':Prop)) () ho13 rfl rfl (fun _ _=>rfl) (fun _=>rfl) rfl (fun s7=>(bdc (D5 rfl) (bdc A4 bdn))) (fun q8 s7 ys7 hs7=>?_) ?_
   ·unfold A7o at hs7
    refine B3<|s0<|qm rfl<|A0 (C3 rfl) rfl<|A0 (B5 rfl rfl rfl) rfl<|A0 (D3 (f:=C6) rfl) rfl<|A0 (F4 rfl rfl) rfl<|es (ra3 rfl rfl rfl)<|wi hs7 rfl (fun hc9 hs7=>?_) fun hc9 hs7=>?_
    ·refine C2<|B3<|B9<|s0<|oB hs7 fun x10 hx10 hs7=>oB hs7 fun x11 hx11 hs7=>A0 (C3 rfl) rfl<|A0 (B5 rfl rfl rfl) rfl<|qm rfl<|A0 (D4 (f:=C6) rfl rfl hx10) rfl<|A0 (K0 rfl rfl) rfl<|B2 (rs:=[.i x11]) rfl rfl (A2 (D2 rfl) (A2 rfl (A2 rfl B4))) ((C5r hx11).frz)<|qm rfl<|es (ra3 rfl rfl rfl)<|s0<|qm rfl<|A0 (F8 rfl rfl) rfl<|es (ra4 rfl rfl rfl rfl)<|wi hs7 rfl (fun hc12 hs7=>?_) fun hc12 hs7=>?_
     ·refine s0<|qm rfl<|qm rfl<|es (ra1 rfl)<|C4 ?_
      obtain rfl:=os hs7
      exact lx rfl (And.intro rfl (retq trivial (B1 rfl B7) (A5 rfl B6) (A1 A4 A8))) (Sub.refl _)
     ·refine C2<|r0<|qm rfl<|A0 (D7 rfl rfl) rfl<|qm rfl<|en (ra2 rfl rfl) ?_
      cases hs7
      exact lnT () rfl (su2 rfl rfl)
    ·refine E3 ?_
     obtain rfl:=os hs7
     exact lx rfl px (.nil _)
   ·rcases o13 with vo13_0 | vo13_1
    ·rintro e s' H' - ⟨rfl,hret⟩
     cases h
     exact hret
    ·rintro e s' H' - ⟨rfl,rfl,rfl⟩
     refine s0<|qm rfl<|es (ra1 rfl)<|C4 ?_
     obtain rfl:=os h
     exact retq trivial (B1 rfl B7) (A5 rfl B6) (A1 A4 A8)
def A58 (a0:VaTrain) (s3:(Int × (List ByteArray))):Option ((Int × (List ByteArray)) ⊕ ((Int × Int) ⊕ (List ByteArray))) :=
 if (decide (s3.1 < (List.length a0.Vans:Int))) = true then
  (idx a0.Vans s3.1).bind fun x6 =>
  (A96 x6.Name s3.2).bind fun x7 =>
  (idx a0.Vans s3.1).bind fun x8 =>
  (app 16 s3.2 [x8.Name]).bind fun x9 =>
  if (x7 == 0) = true then
  (idx a0.Vans s3.1).bind fun x11 =>
  (B20 a0 x11).bind fun x12 =>
  if (x12 != 0) = true then
   some (.inr (.inl (s3.1,x12)))
  else
   some (.inl ((w64 (s3.1 + 1)),x9))
  else
  if (x7 != 0) = true then
   some (.inr (.inl (s3.1,x7)))
  else
   some (.inl ((w64 (s3.1 + 1)),x9))
 else
  some (.inr (.inr s3.2))
def B00 (a0:VaTrain):Option (Int × Int) :=
 (X0 (List.length a0.Vans:Int) 1 3).bind fun x1 =>
 if (!x1) = true then
  some (0,3)
 else
  (loop (A58 a0) (0,([]:List ByteArray))).bind fun (o15:((Int × Int) ⊕ (List ByteArray))) =>
  match o15 with
  | (.inl vo15_0) =>
  some vo15_0
  | (.inr vo15_1) =>
  some (0,0)
theorem C5y {c:Sc} {H:A6} {a0:VaTrain} {r:(Int × Int)} (h:B00 a0 = some r) :
  F2 tab c H (.fn (.func 61) [] []) [(.agg (A3 a0))] [.i r.1,.i r.2]:= by
 unfold B00 at h
 refine cE rfl rfl<|sg 0 rfl<|A0 (G0 (cs:=A3 a0) rfl rfl rfl) rfl<|qm rfl<|qm rfl<|es (ra1 rfl)<|B3<|s0<|oB h fun x1 hx1 h=>A0 (C3 rfl) rfl<|A0 (B5 rfl rfl rfl) rfl<|A0 (D3 (f:=C0) rfl) rfl<|B2 (rs:=[.b x1]) rfl rfl (A2 rfl (A2 rfl (A2 rfl B4))) ((S0 hx1).frz)<|A0 (O3 rfl) rfl<|es (ra2 rfl rfl)<|wi h rfl (fun hc2 h=>?_) fun hc2 h=>?_
 ·refine s0<|qm rfl<|qm rfl<|es (ra2 rfl rfl)<|C4 ?_
  obtain rfl:=os h
  exact retq trivial (B1 rfl (B1 rfl B7)) (A5 rfl (A5 rfl B6)) (A1 A4 (A1 A4 A8))
 ·refine C2<|sg 1 rfl<|A0 A5y rfl<|es (ra2 rfl rfl)<|B3<|s0<|qm rfl<|es (ra3 rfl rfl rfl)<|B9<|oB h fun o15 ho15 h=>wl (fun s3=>[(1,(.ptr (H.length + 0) 0)),(4,(.asl (H.length + 1) (List.length s3.2))),(5,.i s3.1)]) (fun (q4:Bool) s3=>[(.cells (A3 a0)),(.arr 1 q4 (List.map cS s3.2))]) 2 (fun r e s' H'=>(match r with | (.inl v)=>e = .ret∧RetQ H [.tmp 2,.tmp 3] [.i v.1,.i v.2] e s' H' | (.inr v)=>e = (.exit 0)∧s' = []∧∃ (q0q:Bool),H' = (H++[(.cells (A3 a0)),(.arr 1 q0q (List.map cS v))]):Prop)) false ho15 rfl rfl (fun _ _=>rfl) (fun _=>rfl) rfl (fun s3=>(bdc (D5 rfl) (bdc (U8 rfl) (bdc A4 bdn)))) (fun q4 s3 ys3 hs3=>?_) ?_
  ·unfold A58 at hs3
   refine B3<|s0<|qm rfl<|A0 (C3 rfl) rfl<|A0 (B5 rfl rfl rfl) rfl<|A0 (D3 (f:=C0) rfl) rfl<|A0 (F4 rfl rfl) rfl<|es (ra4 rfl rfl rfl rfl)<|wi hs3 rfl (fun hc5 hs3=>?_) fun hc5 hs3=>?_
   ·refine C2<|B3<|B9<|s0<|oB hs3 fun x6 hx6 hs3=>oB hs3 fun x7 hx7 hs3=>A0 (C3 rfl) rfl<|A0 (B5 rfl rfl rfl) rfl<|qm rfl<|A0 (D4 (f:=C0) rfl rfl hx6) rfl<|A0 (R6 (ds:=(C0 x6)) rfl rfl) rfl<|A0 (D6 rfl rfl) rfl<|qm rfl<|B2 (rs:=[.i x7]) rfl rfl (A2 rfl (A2 (A88 rfl (List.length_map _)) B4)) ((B8l hx7).frz)<|qm rfl<|es (ra4 rfl rfl rfl rfl)<|s0<|oB hs3 fun x8 hx8 hs3=>oB hs3 fun x9 hx9 hs3=>qm rfl<|A0 (C3 rfl) rfl<|A0 (B5 rfl rfl rfl) rfl<|qm rfl<|A0 (D4 (f:=C0) rfl rfl hx8) rfl<|A0 (R6 (ds:=(C0 x8)) rfl rfl) rfl<|A0 (D6 rfl rfl) rfl<|A0 (I8 (rows:=List.map cS [x8.Name]) rfl rfl (E4 (fun _=>rfl) _)) rfl<|A35 (W8 (f:=cS) rfl rfl rfl rfl U0 (fun _=>rfl) hx9) rfl<|qm rfl<|es (ra4 rfl rfl rfl rfl)<|B3<|s0<|qm rfl<|A0 (G7 rfl rfl) rfl<|es (ra5 rfl rfl rfl rfl rfl)<|wi hs3 rfl (fun hc10 hs3=>?_) fun hc10 hs3=>?_
    ·refine r0<|oB hs3 fun x11 hx11 hs3=>oB hs3 fun x12 hx12 hs3=>A0 (C5 rfl rfl rfl) rfl<|A0 (C3 rfl) rfl<|A0 (B5 rfl rfl rfl) rfl<|qm rfl<|A0 (D4 (f:=C0) rfl rfl hx11) rfl<|A0 (K0 rfl rfl) rfl<|B2 (rs:=[.i x12]) rfl rfl (A2 (D2 rfl) (A2 (D2 rfl) B4)) ((C82 hx12).frz)<|qm rfl<|en (ra4 rfl rfl rfl rfl)<|s0<|qm rfl<|A0 (F8 rfl rfl) rfl<|es (ra5 rfl rfl rfl rfl rfl)<|wi hs3 rfl (fun hc13 hs3=>?_) fun hc13 hs3=>?_
     ·refine s0<|qm rfl<|qm rfl<|qm rfl<|qm rfl<|es (ra2 rfl rfl)<|C4 ?_
      obtain rfl:=os hs3
      exact lx rfl (And.intro rfl (retq trivial (B1 rfl (B1 rfl B7)) (A5 rfl (A5 rfl B6)) (A1 A4 (A1 A4 A8)))) (Sub.refl _)
     ·refine C2<|r0<|qm rfl<|A0 (D7 rfl rfl) rfl<|qm rfl<|en (ra3 rfl rfl rfl) ?_
      cases hs3
      exact lnT true rfl (su3 rfl rfl rfl)
    ·refine C2<|s0<|qm rfl<|A0 (F8 rfl rfl) rfl<|es (ra5 rfl rfl rfl rfl rfl)<|wi hs3 rfl (fun hc14 hs3=>?_) fun hc14 hs3=>?_
     ·refine s0<|qm rfl<|qm rfl<|qm rfl<|qm rfl<|es (ra2 rfl rfl)<|C4 ?_
      obtain rfl:=os hs3
      exact lx rfl (And.intro rfl (retq trivial (B1 rfl (B1 rfl B7)) (A5 rfl (A5 rfl B6)) (A1 A4 (A1 A4 A8)))) (Sub.refl _)
     ·refine C2<|r0<|qm rfl<|A0 (D7 rfl rfl) rfl<|qm rfl<|en (ra3 rfl rfl rfl) ?_
      cases hs3
      exact lnT true rfl (su3 rfl rfl rfl)
   ·refine E3 ?_
    obtain rfl:=os hs3
    exact lx rfl (And.intro rfl (And.intro rfl ⟨q4,rfl⟩)) (.nil _)
  ·rcases o15 with vo15_0 | vo15_1
   ·rintro e s' H' - ⟨rfl,hret⟩
    cases h
    exact hret
   ·rintro e s' H' - ⟨rfl,rfl,q16,rfl⟩
    refine s0<|qm rfl<|qm rfl<|es (ra2 rfl rfl)<|C4 ?_
    obtain rfl:=os h
    exact retq trivial (B1 rfl (B1 rfl B7)) (A5 rfl (A5 rfl B6)) (A1 A4 (A1 A4 A8))
def W9 (a0:VaTrain):Option (Int × Int × Int) :=
 (X0 a0.Stops 1 3).bind fun x1 =>
 (if (!x1) = true then
  some true
 else
  (X0 a0.Handle 0 60).bind fun x3 =>
  some (!x3)).bind fun x4 =>
 if x4 = true then
  some (1,0,7)
 else
  (B00 a0).bind fun x6 =>
  if (x6.2 != 0) = true then
  some (2,x6.1,x6.2)
  else
  (A7n a0).bind fun x8 =>
  if (x8.2 != 0) = true then
   some (3,x8.1,x8.2)
  else
   (A83 a0).bind fun x10 =>
   if (x10.2 != 0) = true then
   some (4,x10.1,x10.2)
   else
   some (0,0,0)
theorem A0z {c:Sc} {H:A6} {a0:VaTrain} {r:(Int × Int × Int)} (h:W9 a0 = some r) :
  F2 tab c H (.fn (.func 17) [] []) [(.agg (A3 a0))] [.i r.1,.i r.2.1,.i r.2.2]:= by
 unfold W9 at h
 refine cE rfl rfl<|sg 0 rfl<|A0 (G0 (cs:=A3 a0) rfl rfl rfl) rfl<|qm rfl<|qm rfl<|qm rfl<|es (ra1 rfl)<|B3<|s0<|oB h fun x1 hx1 h=>oB h fun x4 hx4 h=>A0 (C3 rfl) rfl<|A0 (B5 rfl rfl rfl) rfl<|B2 (rs:=[.b x1]) rfl rfl (A2 rfl (A2 rfl (A2 rfl B4))) ((S0 hx1).frz)<|A0 (O3 rfl) rfl<|qm rfl<|gp 5 16 (.b x4) 11 rfl rfl (fun hg2=>?_) (fun hg2=>?_) ?_
 ·obtain rfl:=os (bt hx4 hg2)
  exact nF rfl hg2 rfl<|nF rfl hg2 rfl<|H8 (E9 rfl (by rw [hg2]; rfl)) rfl<|nF rfl hg2 rfl<|A0 (C8 rfl hg2 rfl) rfl<|ge 5 rfl rfl rfl
 ·refine oB (bf hx4 hg2) fun x3 hx3 hx4=>?_
  obtain rfl:=os hx4
  exact gF rfl hg2<|A0 (C3 rfl) rfl<|gF rfl hg2<|A0 (B5 rfl rfl rfl) rfl<|gF rfl hg2<|B2 (rs:=[.b x3]) rfl rfl (A2 rfl (A2 rfl (A2 rfl B4))) ((S0 hx3).frz)<|gF rfl hg2<|A0 (O3 rfl) rfl<|A0 (C7 rfl hg2 rfl) rfl<|ge 5 rfl rfl rfl
 refine es (ra2 rfl rfl)<|wi h rfl (fun hc5 h=>?_) fun hc5 h=>?_
 ·refine s0<|qm rfl<|qm rfl<|qm rfl<|es (ra3 rfl rfl rfl)<|C4 ?_
  obtain rfl:=os h
  exact retq trivial (B1 rfl (B1 rfl (B1 rfl B7))) (A5 rfl (A5 rfl (A5 rfl B6))) (A1 A4 (A1 A4 (A1 A4 A8)))
 ·refine C2<|s0<|oB h fun x6 hx6 h=>A0 (C5 rfl rfl rfl) rfl<|B2 (rs:=[.i x6.1,.i x6.2]) rfl rfl (A2 (D2 rfl) B4) ((C5y hx6).frz)<|qm rfl<|A0 (A7 rfl rfl) rfl<|A0 (A7 rfl rfl) rfl<|qm rfl<|qm rfl<|es (ra3 rfl rfl rfl)<|B3<|s0<|qm rfl<|A0 (F8 rfl rfl) rfl<|es (ra4 rfl rfl rfl rfl)<|wi h rfl (fun hc7 h=>?_) fun hc7 h=>?_
  ·refine s0<|qm rfl<|qm rfl<|qm rfl<|qm rfl<|qm rfl<|es (ra3 rfl rfl rfl)<|C4 ?_
   obtain rfl:=os h
   exact retq trivial (B1 rfl (B1 rfl (B1 rfl B7))) (A5 rfl (A5 rfl (A5 rfl B6))) (A1 A4 (A1 A4 (A1 A4 A8)))
  ·refine C2<|s0<|oB h fun x8 hx8 h=>A0 (C5 rfl rfl rfl) rfl<|B2 (rs:=[.i x8.1,.i x8.2]) rfl rfl (A2 (D2 rfl) B4) ((C1f hx8).frz)<|qm rfl<|A0 (A7 rfl rfl) rfl<|A0 (A7 rfl rfl) rfl<|qm rfl<|qm rfl<|es (ra3 rfl rfl rfl)<|B3<|s0<|qm rfl<|A0 (F8 rfl rfl) rfl<|es (ra4 rfl rfl rfl rfl)<|wi h rfl (fun hc9 h=>?_) fun hc9 h=>?_
   ·refine s0<|qm rfl<|qm rfl<|qm rfl<|qm rfl<|qm rfl<|es (ra3 rfl rfl rfl)<|C4 ?_
    obtain rfl:=os h
    exact retq trivial (B1 rfl (B1 rfl (B1 rfl B7))) (A5 rfl (A5 rfl (A5 rfl B6))) (A1 A4 (A1 A4 (A1 A4 A8)))
   ·refine C2<|s0<|oB h fun x10 hx10 h=>A0 (C5 rfl rfl rfl) rfl<|B2 (rs:=[.i x10.1,.i x10.2]) rfl rfl (A2 (D2 rfl) B4) ((C3z hx10).frz)<|qm rfl<|A0 (A7 rfl rfl) rfl<|A0 (A7 rfl rfl) rfl<|qm rfl<|qm rfl<|es (ra2 rfl rfl)<|B3<|s0<|qm rfl<|A0 (F8 rfl rfl) rfl<|es (ra3 rfl rfl rfl)<|wi h rfl (fun hc11 h=>?_) fun hc11 h=>?_
    ·refine s0<|qm rfl<|qm rfl<|qm rfl<|qm rfl<|qm rfl<|es (ra3 rfl rfl rfl)<|C4 ?_
     obtain rfl:=os h
     exact retq trivial (B1 rfl (B1 rfl (B1 rfl B7))) (A5 rfl (A5 rfl (A5 rfl B6))) (A1 A4 (A1 A4 (A1 A4 A8)))
    ·refine C2<|s0<|qm rfl<|qm rfl<|qm rfl<|es (ra3 rfl rfl rfl)<|C4 ?_
     obtain rfl:=os h
     exact retq trivial (B1 rfl (B1 rfl (B1 rfl B7))) (A5 rfl (A5 rfl (A5 rfl B6))) (A1 A4 (A1 A4 (A1 A4 A8)))
def A0g (a0:VaTrain) (a1:(List Int)) (a2:Int) (s1:(Int × Int)):Option ((Int × Int) ⊕ Int) :=
 if (decide (s1.2 < (List.length a1:Int))) = true then
  (idx a1 s1.2).bind fun x4 =>
  if (x4 == a2) = true then
  (idx a0.Crates s1.2).bind fun x6 =>
  some (.inl ((w64 (s1.1 + x6.Size)),(w64 (s1.2 + 1))))
  else
  some (.inl (s1.1,(w64 (s1.2 + 1))))
 else
  some (.inr s1.1)
def A6s (a0:VaTrain) (a1:(List Int)) (a2:Int):Option Int :=
 (loop (A0g a0 a1 a2) (0,0)).bind fun (o7:Int) =>
 some o7
theorem C5w {c:Sc} {H:A6} {a0:VaTrain} {a1:(List Int)} {a2:Int} {r:Int} (h:A6s a0 a1 a2 = some r) :
  F2 tab c H (.fn (.func 105) [] []) [(.agg (A3 a0)),(.seq 1 (List.map cI a1)),.i a2] [.i r]:= by
 unfold A6s at h
 refine cE rfl rfl<|sg 0 rfl<|A0 (G0 (cs:=A3 a0) rfl rfl rfl) rfl<|qm rfl<|es (ra3 rfl rfl rfl)<|s0<|qm rfl<|es (ra4 rfl rfl rfl rfl)<|B3<|s0<|qm rfl<|es (ra5 rfl rfl rfl rfl rfl)<|B9<|oB h fun o7 ho7 h=>wl (fun s1=>[(1,(.seq 1 (List.map cI a1))),(2,.i a2),(3,(.ptr (H.length + 0) 0)),(7,.i s1.1),(8,.i s1.2)]) (fun (q2:Unit) s1=>[(.cells (A3 a0))]) 1 (fun r e s' H'=>PX 0 [(7,.i r)] (H++[(.cells (A3 a0))]) e s' H') () ho7 rfl rfl (fun _ _=>rfl) (fun _=>rfl) rfl (fun s1=>(bdc D8 (bdc A4 (bdc (D5 rfl) (bdc A4 (bdc A4 bdn)))))) (fun q2 s1 ys1 hs1=>?_) ?_
 ·unfold A0g at hs1
  refine B3<|s0<|qm rfl<|qm rfl<|A0 (D3 (f:=cI) rfl) rfl<|A0 (F4 rfl rfl) rfl<|es (ra6 rfl rfl rfl rfl rfl rfl)<|wi hs1 rfl (fun hc3 hs1=>?_) fun hc3 hs1=>?_
  ·refine C2<|B3<|B9<|s0<|oB hs1 fun x4 hx4 hs1=>qm rfl<|qm rfl<|A0 (D4 (f:=cI) rfl rfl hx4) rfl<|A0 (D6 rfl rfl) rfl<|qm rfl<|A0 (G7 rfl rfl) rfl<|es (ra6 rfl rfl rfl rfl rfl rfl)<|wi hs1 rfl (fun hc5 hs1=>?_) fun hc5 hs1=>?_
   ·refine r0<|oB hs1 fun x6 hx6 hs1=>qm rfl<|A0 (C3 rfl) rfl<|A0 (B5 rfl rfl rfl) rfl<|qm rfl<|A0 (D4 (f:=A9) rfl rfl hx6) rfl<|A0 (R6 (ds:=(List.drop 1 (A9 x6))) rfl rfl) rfl<|A0 (D6 rfl rfl) rfl<|A0 (D7 rfl rfl) rfl<|qm rfl<|en (ra5 rfl rfl rfl rfl rfl)<|r0<|qm rfl<|A0 (D7 rfl rfl) rfl<|qm rfl<|en (ra5 rfl rfl rfl rfl rfl) ?_
    cases hs1
    exact lnT () rfl (su5 rfl rfl rfl rfl rfl)
   ·refine C2<|r0<|qm rfl<|A0 (D7 rfl rfl) rfl<|qm rfl<|en (ra5 rfl rfl rfl rfl rfl) ?_
    cases hs1
    exact lnT () rfl (su5 rfl rfl rfl rfl rfl)
  ·refine E3 ?_
   obtain rfl:=os hs1
   exact lx rfl px (su1 rfl)
 ·rintro e s' H' - ⟨rfl,rfl,rfl⟩
  refine s0<|qm rfl<|qm rfl<|es (ra1 rfl)<|C4 ?_
  obtain rfl:=os h
  exact retq trivial (B1 rfl B7) (A5 rfl B6) (A1 A4 A8)
def S3 (a0:VaTrain) (a1:(List Int)) (s1:Int):Option (Int ⊕ (Bool ⊕ Unit)) :=
 if (decide (s1 < (List.length a0.Vans:Int))) = true then
  (A6s a0 a1 s1).bind fun x4 =>
  (idx a0.Vans s1).bind fun x5 =>
  if (decide (x4 > x5.Room)) = true then
  some (.inr (.inl false))
  else
  some (.inl (w64 (s1 + 1)))
 else
  some (.inr (.inr ()))
def S4 (a0:VaTrain) (a1:(List Int)) (s8:Int):Option (Int ⊕ (Bool ⊕ Unit)) :=
 if (decide (s8 < (List.length a0.Apart:Int))) = true then
  (idx a0.Apart s8).bind fun x11 =>
  (if (decide (x11.B < (List.length a1:Int))) = true then
  (idx a1 x11.A).bind fun x13 =>
  (idx a1 x11.B).bind fun x14 =>
  some (x13 == x14)
  else
  some false).bind fun x15 =>
  (if x15 = true then
  (idx a1 x11.A).bind fun x17 =>
  some (x17 != (-1))
  else
  some false).bind fun x18 =>
  if x18 = true then
  some (.inr (.inl false))
  else
  some (.inl (w64 (s8 + 1)))
 else
  some (.inr (.inr ()))
def S9 (a0:VaTrain) (a1:(List Int)):Option Bool :=
 (loop (S3 a0 a1) 0).bind fun (o7:(Bool ⊕ Unit)) =>
 match o7 with
 | (.inl vo7_0) =>
  some vo7_0
 | (.inr vo7_1) =>
  (loop (S4 a0 a1) 0).bind fun (o20:(Bool ⊕ Unit)) =>
  match o20 with
  | (.inl vo20_0) =>
  some vo20_0
  | (.inr vo20_1) =>
  some true
theorem A48 {c:Sc} {H:A6} {a0:VaTrain} {a1:(List Int)} {r:Bool} (h:S9 a0 a1 = some r) :
  F2 tab c H (.fn (.func 87) [] []) [(.agg (A3 a0)),(.seq 1 (List.map cI a1))] [.b r]:= by
 unfold S9 at h
 refine cE rfl rfl<|sg 0 rfl<|A0 (G0 (cs:=A3 a0) rfl rfl rfl) rfl<|qm rfl<|es (ra2 rfl rfl)<|B3<|s0<|qm rfl<|es (ra3 rfl rfl rfl)<|B9<|oB h fun o7 ho7 h=>wl (fun s1=>[(1,(.seq 1 (List.map cI a1))),(2,(.ptr (H.length + 0) 0)),(5,.i s1)]) (fun (q2:Unit) s1=>[(.cells (A3 a0))]) 1 (fun r e s' H'=>(match r with | (.inl v)=>e = .ret∧RetQ H [.tmp 4] [.b v] e s' H' | (.inr v)=>PX 0 [(1,(.seq 1 (List.map cI a1))),(2,(.ptr (H.length + 0) 0))] (H++[(.cells (A3 a0))]) e s' H':Prop)) () ho7 rfl rfl (fun _ _=>rfl) (fun _=>rfl) rfl (fun s1=>(bdc D8 (bdc (D5 rfl) (bdc A4 bdn)))) (fun q2 s1 ys1 hs1=>?_) ?_
 ·unfold S3 at hs1
  refine B3<|s0<|qm rfl<|A0 (C3 rfl) rfl<|A0 (B5 rfl rfl rfl) rfl<|A0 (D3 (f:=C0) rfl) rfl<|A0 (F4 rfl rfl) rfl<|es (ra4 rfl rfl rfl rfl)<|wi hs1 rfl (fun hc3 hs1=>?_) fun hc3 hs1=>?_
  ·refine C2<|B3<|B9<|s0<|oB hs1 fun x4 hx4 hs1=>oB hs1 fun x5 hx5 hs1=>A0 (C5 rfl rfl rfl) rfl<|qm rfl<|qm rfl<|M6 (rs:=[.i x4]) rfl rfl (F1 rfl (F1 rfl (F1 rfl R7))) (A2 (D2 rfl) (A2 rfl (A2 rfl B4))) ((C5w hx4).frz)<|A0 (C3 rfl) rfl<|A0 (B5 rfl rfl rfl) rfl<|qm rfl<|A0 (D4 (f:=C0) rfl rfl hx5) rfl<|A0 (R6 (ds:=(List.drop 1 (C0 x5))) rfl rfl) rfl<|A0 (D6 rfl rfl) rfl<|A0 (A37 rfl rfl) rfl<|es (ra4 rfl rfl rfl rfl)<|wi hs1 rfl (fun hc6 hs1=>?_) fun hc6 hs1=>?_
   ·refine s0<|qm rfl<|es (ra1 rfl)<|C4 ?_
    obtain rfl:=os hs1
    exact lx rfl (And.intro rfl (retq trivial (B1 rfl B7) (A5 rfl B6) (A1 A4 A8))) (Sub.refl _)
   ·refine C2<|r0<|qm rfl<|A0 (D7 rfl rfl) rfl<|qm rfl<|en (ra3 rfl rfl rfl) ?_
    cases hs1
    exact lnT () rfl (su3 rfl rfl rfl)
  ·refine E3 ?_
   obtain rfl:=os hs1
   exact lx rfl px (su2 rfl rfl)
 ·rcases o7 with vo7_0 | vo7_1
  ·rintro e s' H' - ⟨rfl,hret⟩
   cases h
   exact hret
  ·rintro e s' H' - ⟨rfl,rfl,rfl⟩
   refine B3<|s0<|qm rfl<|es (ra3 rfl rfl rfl)<|B9<|oB h fun o20 ho20 h=>wl (fun s8=>[(1,(.seq 1 (List.map cI a1))),(2,(.ptr (H.length + 0) 0)),(6,.i s8)]) (fun (q9:Unit) s8=>[(.cells (A3 a0))]) 1 (fun r e s' H'=>(match r with | (.inl v)=>e = .ret∧RetQ H [.tmp 4] [.b v] e s' H' | (.inr v)=>PX 2 [] (H++[(.cells (A3 a0))]) e s' H':Prop)) () ho20 rfl rfl (fun _ _=>rfl) (fun _=>rfl) rfl (fun s8=>(bdc D8 (bdc (D5 rfl) (bdc A4 bdn)))) (fun q9 s8 ys8 hs8=>?_) ?_
   ·unfold S4 at hs8
    refine B3<|s0<|qm rfl<|A0 (C3 rfl) rfl<|A0 (B5 rfl rfl rfl) rfl<|A0 (D3 (f:=C1) rfl) rfl<|A0 (F4 rfl rfl) rfl<|es (ra4 rfl rfl rfl rfl)<|wi hs8 rfl (fun hc10 hs8=>?_) fun hc10 hs8=>?_
    ·refine C2<|B3<|B9<|sg 1 rfl<|oB hs8 fun x11 hx11 hs8=>A0 (C3 rfl) rfl<|A0 (B5 rfl rfl rfl) rfl<|qm rfl<|A0 (D4 (f:=C1) rfl rfl hx11) rfl<|A0 (K0 rfl rfl) rfl<|A0 E6 rfl<|G6 (E2 (ds:=(C1 x11)) rfl rfl rfl rfl (E1 rfl) rfl) rfl<|es (ra4 rfl rfl rfl rfl)<|s0<|oB hs8 fun x15 hx15 hs8=>oB hs8 fun x18 hx18 hs8=>A0 (C3 rfl) rfl<|A0 (B5 rfl rfl rfl) rfl<|qm rfl<|A0 (D3 (f:=cI) rfl) rfl<|A0 (F4 rfl rfl) rfl<|qm rfl<|gp 12 55 (.b x15) 43 rfl rfl (fun hg12=>?_) (fun hg12=>?_) ?_
     ·refine oB (bt hx15 hg12) fun x13 hx13 hx15=>oB hx15 fun x14 hx14 hx15=>?_
      obtain rfl:=os hx15
      exact gT rfl hg12<|qm rfl<|gT rfl hg12<|A0 (C3 rfl) rfl<|gT rfl hg12<|A0 (B5 rfl rfl rfl) rfl<|gT rfl hg12<|A0 (D4 (f:=cI) rfl rfl hx13) rfl<|gT rfl hg12<|A0 (D6 rfl rfl) rfl<|gT rfl hg12<|qm rfl<|gT rfl hg12<|A0 (C3 rfl) rfl<|gT rfl hg12<|A0 (B5 rfl rfl rfl) rfl<|gT rfl hg12<|A0 (D4 (f:=cI) rfl rfl hx14) rfl<|gT rfl hg12<|A0 (D6 rfl rfl) rfl<|gT rfl hg12<|A0 (G7 rfl rfl) rfl<|A0 (C8 rfl hg12 rfl) rfl<|ge 12 rfl rfl rfl
     ·obtain rfl:=os (bf hx15 hg12)
      exact nT rfl hg12 rfl<|nT rfl hg12 rfl<|nT rfl hg12 rfl<|nT rfl hg12 rfl<|nT rfl hg12 rfl<|nT rfl hg12 rfl<|nT rfl hg12 rfl<|nT rfl hg12 rfl<|nT rfl hg12 rfl<|nT rfl hg12 rfl<|nT rfl hg12 rfl<|A0 (C7 rfl hg12 rfl) rfl<|ge 12 rfl rfl rfl
     refine qm rfl<|gp 7 63 (.b x18) 56 rfl rfl (fun hg16=>?_) (fun hg16=>?_) ?_
     ·refine oB (bt hx18 hg16) fun x17 hx17 hx18=>?_
      obtain rfl:=os hx18
      exact gT rfl hg16<|qm rfl<|gT rfl hg16<|A0 (C3 rfl) rfl<|gT rfl hg16<|A0 (B5 rfl rfl rfl) rfl<|gT rfl hg16<|A0 (D4 (f:=cI) rfl rfl hx17) rfl<|gT rfl hg16<|A0 (D6 rfl rfl) rfl<|gT rfl hg16<|A0 (F8 rfl rfl) rfl<|A0 (C8 rfl hg16 rfl) rfl<|ge 7 rfl rfl rfl
     ·obtain rfl:=os (bf hx18 hg16)
      exact nT rfl hg16 rfl<|nT rfl hg16 rfl<|nT rfl hg16 rfl<|nT rfl hg16 rfl<|nT rfl hg16 rfl<|nT rfl hg16 rfl<|A0 (C7 rfl hg16 rfl) rfl<|ge 7 rfl rfl rfl
     refine es (ra4 rfl rfl rfl rfl)<|wi hs8 rfl (fun hc19 hs8=>?_) fun hc19 hs8=>?_
     ·refine s0<|qm rfl<|es (ra1 rfl)<|C4 ?_
      obtain rfl:=os hs8
      exact lx rfl (And.intro rfl (retq trivial (B1 rfl B7) (A5 rfl B6) (A1 A4 A8))) (Sub.refl _)
     ·refine C2<|r0<|qm rfl<|A0 (D7 rfl rfl) rfl<|qm rfl<|en (ra3 rfl rfl rfl) ?_
      cases hs8
      exact lnT () rfl (su3 rfl rfl rfl)
    ·refine E3 ?_
     obtain rfl:=os hs8
     exact lx rfl px (.nil _)
   ·rcases o20 with vo20_0 | vo20_1
    ·rintro e s' H' - ⟨rfl,hret⟩
     cases h
     exact hret
    ·rintro e s' H' - ⟨rfl,rfl,rfl⟩
     refine s0<|qm rfl<|es (ra1 rfl)<|C4 ?_
     obtain rfl:=os h
     exact retq trivial (B1 rfl B7) (A5 rfl B6) (A1 A4 A8)
end Vn
end
