/- Texts that the claim stands on, one behind another. -/
import Derived.Test.YtbheamjhjgoccaaDoorA5
set_option linter.unusedVariables false
set_option linter.unusedSimpArgs false
set_option linter.unnecessarySimpa false
section
set_option maxRecDepth 100000
set_option maxHeartbeats 0
namespace Rm
open Go Am Go.Proofs.YtbheamjhjgoccaaDoor.Cd
def A6u (a1:RoPlan) (s9:(Int × room_plan)):Option ((Int × room_plan) ⊕ (room_plan ⊕ Unit)) :=
 if (decide (s9.1 < (List.length a1.At:Int))) = true then
  (idx a1.At s9.1).bind fun x12 =>
  (if (x12 != (-1)) = true then
  (slc a1.At 0 s9.1).bind fun x14 =>
  (M2 x14 x12).bind fun x15 =>
  some x15
  else
  some false).bind fun x16 =>
  if x16 = true then
  some (.inr (.inr ()))
  else
  (idx (Ar5.l s9.2.at_) s9.1).bind fun x18 =>
  some (.inl ((w64 (s9.1 + 1)),(room_plan.mk s9.2.lit_ (Ar5.set s9.2.at_ s9.1 (w64 (x12 + 1))))))
 else
  some (.inr (.inl s9.2))
def A6v (a0:RoHouse) (vo19_0:room_plan) (s20:Int):Option (Int ⊕ (Unit ⊕ Unit)) :=
 if (decide (s20 < 5)) = true then
  (idx (Ar5.l vo19_0.at_) s20).bind fun x23 =>
  (if (decide (x23 > 0)) = true then
  (P1 (room_house.mk a0) s20 (w64 (x23 - 1)) vo19_0.lit_).bind fun x25 =>
  some (x25 != 1)
  else
  some false).bind fun x26 =>
  if x26 = true then
  some (.inr (.inr ()))
  else
  some (.inl (w64 (s20 + 1)))
 else
  some (.inr (.inl ()))
def A4o (a0:RoHouse) (a1:RoPlan):Option (Int × Int) :=
 (Q5 a0).bind fun x1 =>
 if (x1.2.2 != 0) = true then
  some (0,x1.2.2)
 else
  (B18 .i64 1 a0.Stoves).bind fun x3 =>
  (I2 0 (w64 (x3 - 1)) [a1.Lit]).bind fun x4 =>
  if x4 = true then
  some (0,7)
  else
  if ((List.length a1.At:Int) != (List.length a0.Figures:Int)) = true then
   some (0,3)
  else
   (I2 (-1) (w64 ((List.length a0.Places:Int) - 1)) a1.At).bind fun x7 =>
   if x7 = true then
   some (0,4)
   else
   (loop (A6u a1) (0,(room_plan.mk a1.Lit (Ar5.mk 0 0 0 0 0)))).bind fun (o19:(room_plan ⊕ Unit)) =>
   match o19 with
   | (.inl vo19_0) =>
    (loop (A6v a0 vo19_0) 0).bind fun (o28:(Unit ⊕ Unit)) =>
    match o28 with
    | (.inl vo28_0) =>
    (R4 (room_house.mk a0) vo19_0.at_ true).bind fun x29 =>
    if (!x29) = true then
     some (0,9)
    else
     (X3 (room_house.mk a0) vo19_0.at_).bind fun x31 =>
     some (x31,0)
    | (.inr vo28_1) =>
    some (0,9)
   | (.inr vo19_1) =>
    some (0,5)
theorem A6m {c:Sc} {H:A3} {a0:RoHouse} {a1:RoPlan} {r:(Int × Int)} (h:A4o a0 a1 = some r) :
  E8 tab c H (.fn (.func 27) [] []) [(.agg (A6 a0)),(.agg (B8 a1))] [.i r.1,.i r.2]:= by
 unfold A4o at h
 refine cE rfl rfl<|sg 0 rfl<|A0 (G2 (cs:=A6 a0) rfl rfl rfl) rfl<|A0 (G2 (cs:=B8 a1) rfl rfl rfl) rfl<|qm rfl<|qm rfl<|es (ra2 rfl rfl)<|sg 2 rfl<|A0 (C5 rfl rfl rfl) rfl<|A0 (C5 rfl rfl rfl) rfl<|L5 (as2:=[(.agg (A6 a0)),(.agg (B8 a1))]) (H1:=(H++[(.cells (A6 a0)),(.cells (B8 a1)),.dead])) rfl rfl (A5 (D9 rfl) (A5 (D9 rfl) B9)) rfl rfl rfl (O7 rfl)<|sg 3 rfl<|A0 (G2 (cs:=A6 a0) rfl rfl rfl) rfl<|A0 (G2 (cs:=B8 a1) rfl rfl rfl) rfl<|qm rfl<|A0 D2 rfl<|qm rfl<|es (ra3 rfl rfl rfl)<|sg 6 rfl<|A0 (C5 rfl rfl rfl) rfl<|A0 (C5 rfl rfl rfl) rfl<|L5 (as2:=[(.agg (A6 a0)),(.agg (B8 a1))]) (H1:=(H++[(.cells (A6 a0)),(.cells (B8 a1)),.dead,(.cells (A6 a0)),(.cells (B8 a1)),(.cells (A1 (room_plan.mk 0 (Ar5.mk 0 0 0 0 0)))),.dead])) rfl rfl (A5 (D9 rfl) (A5 (D9 rfl) B9)) rfl rfl rfl (O7 rfl)<|sg 7 rfl<|A0 (G2 (cs:=A6 a0) rfl rfl rfl) rfl<|A0 (G2 (cs:=B8 a1) rfl rfl rfl) rfl<|qm rfl<|A0 D2 rfl<|qm rfl<|es (ra3 rfl rfl rfl)<|s0<|A0 (C5 rfl rfl rfl) rfl<|L5 (as2:=[(.agg (A6 a0))]) (H1:=(H++[(.cells (A6 a0)),(.cells (B8 a1)),.dead,(.cells (A6 a0)),(.cells (B8 a1)),(.cells (A1 (room_plan.mk 0 (Ar5.mk 0 0 0 0 0)))),.dead,(.cells (A6 a0)),(.cells (B8 a1)),(.cells (A1 (room_plan.mk 0 (Ar5.mk 0 0 0 0 0))))])) rfl rfl (A5 (D9 rfl) B9) rfl rfl rfl (O7 rfl)<|sg 10 rfl<|A0 (G2 (cs:=A6 a0) rfl rfl rfl) rfl<|qm rfl<|qm rfl<|es (ra1 rfl)<|s0<|oB h fun x1 hx1 h=>A0 (C5 rfl rfl rfl) rfl<|C2 (rs:=[.i x1.1,.i x1.2.1,.i x1.2.2]) rfl rfl (A5 (D9 rfl) B9) ((O2 hx1).frz)<|qm rfl<|A0 (A7 rfl rfl) rfl<|A0 (A7 rfl rfl) rfl<|A0 (A7 rfl rfl) rfl<|qm rfl<|qm rfl<|qm rfl<|es (ra2 rfl rfl)<|sg 11 rfl<|A0 (C5 rfl rfl rfl) rfl<|A0 (F2 (cs:=[.b false,(.fn (.func 112) [] [])]) rfl rfl) rfl<|A0 (F2 (cs:=[.b true,(.fn (.func 113) [] [])]) rfl rfl) rfl<|A0 (A1y (rows:=[[.b false,(.fn (.func 112) [] [])],[.b true,(.fn (.func 113) [] [])]]) rfl rfl) rfl<|A0 (F2 (cs:=[.i a0.Weather.Lo,.i a0.Weather.Hi,.i a0.Stoves,(.seq 1 (List.map cI a0.Holds)),(.seq 4 (List.map B5 a0.Places)),(.seq 6 (List.map B2 a0.Figures)),(.seq 1 (List.map cI a0.Bill)),(.xseq 2 [[.b false,(.fn (.func 112) [] [])],[.b true,(.fn (.func 113) [] [])]])]) rfl rfl) rfl<|A0 (G2 (cs:=[.i a0.Weather.Lo,.i a0.Weather.Hi,.i a0.Stoves,(.seq 1 (List.map cI a0.Holds)),(.seq 4 (List.map B5 a0.Places)),(.seq 6 (List.map B2 a0.Figures)),(.seq 1 (List.map cI a0.Bill)),(.xseq 2 [[.b false,(.fn (.func 112) [] [])],[.b true,(.fn (.func 113) [] [])]])]) rfl rfl rfl) rfl<|qm rfl<|qm rfl<|qm rfl<|es (ra2 rfl rfl)<|C4 ?_
 refine InlQ.mk trivial ⟨_,_,_,[(.ptr (H.length + 11) 0),.i x1.2.2],_,(A9 rfl (A9 rfl B7)),(A4 rfl (A4 rfl B6)),(P6 (K1 (P4 rfl)) (C0 rfl (C0 rfl G3))),?_⟩
 refine qm rfl<|A0 (A7 rfl rfl) rfl<|A0 (A7 rfl rfl) rfl<|qm rfl<|qm rfl<|es (ra5 rfl rfl rfl rfl rfl)<|C3<|D0<|s0<|qm rfl<|A0 (M7 rfl rfl) rfl<|qm rfl<|es (ra6 rfl rfl rfl rfl rfl rfl)<|wi h rfl (fun hc2 h=>?_) fun hc2 h=>?_
 ·refine s0<|A0 (C5 rfl rfl rfl) rfl<|qm rfl<|E4 (C1 (ds:=(A1 (room_plan.mk 0 (Ar5.mk 0 0 0 0 0)))) rfl rfl rfl rfl (B3 rfl) rfl) rfl<|qm rfl<|qm rfl<|es (ra3 rfl rfl rfl)<|C4<|InlQ.mk trivial ⟨_,_,_,[(.lit (.pointer none)),(.agg (A1 (room_plan.mk 0 (Ar5.mk 0 0 0 0 0)))),.i x1.2.2],_,(A9 rfl (E5 (E2 (ds:=A1 (room_plan.mk 0 (Ar5.mk 0 0 0 0 0))) rfl rfl rfl rfl) (A9 rfl B7))),(A4 rfl (A4 (H9 rfl) (A4 rfl B6))),(M5 (A2 A8 (A2 (F9 rfl) (A2 A8 B1))) (C0 rfl (C0 rfl (C0 rfl G3))) (F1 _ _ _)),?_⟩
  refine qm rfl<|A0 (A7 rfl rfl) rfl<|A0 (A7 rfl rfl) rfl<|A0 (A7 rfl rfl) rfl<|A0 D2 rfl<|qm rfl<|E4 (C1 (ds:=(A1 (room_plan.mk 0 (Ar5.mk 0 0 0 0 0)))) rfl rfl rfl rfl (B3 rfl) rfl) rfl<|qm rfl<|es (ra4 rfl rfl rfl rfl)<|C3<|s0<|qm rfl<|A0 (M7 rfl rfl) rfl<|es (ra5 rfl rfl rfl rfl rfl)<|I3 rfl hc2<|s0<|A0 (C5 rfl rfl rfl) rfl<|qm rfl<|E4 (C1 (ds:=(A1 (room_plan.mk 0 (Ar5.mk 0 0 0 0 0)))) rfl rfl rfl rfl (B3 rfl) rfl) rfl<|qm rfl<|qm rfl<|es (ra3 rfl rfl rfl)<|C4<|InlQ.mk trivial ⟨_,_,_,[(.lit (.pointer none)),(.agg (A1 (room_plan.mk 0 (Ar5.mk 0 0 0 0 0)))),.i x1.2.2],_,(A9 rfl (E5 (E2 (ds:=A1 (room_plan.mk 0 (Ar5.mk 0 0 0 0 0))) rfl rfl rfl rfl) (A9 rfl B7))),(A4 rfl (A4 (H9 rfl) (A4 rfl B6))),(M5 (A2 A8 (A2 (F9 rfl) (A2 A8 B1))) (C0 rfl (C0 rfl (C0 rfl G3))) (F1 _ _ _)),?_⟩
  refine qm rfl<|A0 (A7 rfl rfl) rfl<|A0 (A7 rfl rfl) rfl<|A0 (A7 rfl rfl) rfl<|A0 D2 rfl<|qm rfl<|E4 (C1 (ds:=(A1 (room_plan.mk 0 (Ar5.mk 0 0 0 0 0)))) rfl rfl rfl rfl (B3 rfl) rfl) rfl<|qm rfl<|es (ra3 rfl rfl rfl)<|C3<|s0<|qm rfl<|A0 (M7 rfl rfl) rfl<|es (ra4 rfl rfl rfl rfl)<|I3 rfl hc2<|s0<|qm rfl<|qm rfl<|qm rfl<|es (ra2 rfl rfl)<|C4 ?_
  obtain rfl:=os h
  exact retq trivial (A9 rfl (A9 rfl B7)) (A4 rfl (A4 rfl B6)) (A2 A8 (A2 A8 B1))
 ·refine s0<|oB h fun x3 hx3 h=>oB h fun x4 hx4 h=>A0 (C9 rfl) rfl<|A0 (D1 rfl rfl rfl) rfl<|A0 (A70 rfl rfl hx3) rfl<|A0 (Y2 rfl rfl) rfl<|A0 (C9 rfl) rfl<|A0 (D1 rfl rfl rfl) rfl<|A0 (K3 (rows:=List.map cI [a1.Lit]) rfl rfl (E6 (fun _=>rfl) _)) rfl<|C2 (rs:=[.b x4]) rfl rfl (A5 rfl (A5 rfl (A5 rfl B9))) ((F3 hx4).frz)<|qm rfl<|es (ra5 rfl rfl rfl rfl rfl)<|wi h rfl (fun hc5 h=>?_) fun hc5 h=>?_
  ·refine s0<|A0 (C5 rfl rfl rfl) rfl<|qm rfl<|E4 (C1 (ds:=(A1 (room_plan.mk 0 (Ar5.mk 0 0 0 0 0)))) rfl rfl rfl rfl (B3 rfl) rfl) rfl<|qm rfl<|es (ra3 rfl rfl rfl)<|C4<|InlQ.mk trivial ⟨_,_,_,[(.lit (.pointer none)),(.agg (A1 (room_plan.mk 0 (Ar5.mk 0 0 0 0 0)))),.i 7],_,(A9 rfl (E5 (E2 (ds:=A1 (room_plan.mk 0 (Ar5.mk 0 0 0 0 0))) rfl rfl rfl rfl) (A9 rfl B7))),(A4 rfl (A4 (H9 rfl) (A4 rfl B6))),(M5 (A2 A8 (A2 (F9 rfl) (A2 A8 B1))) (C0 rfl (C0 rfl (C0 rfl G3))) (F1 _ _ _)),?_⟩
   refine qm rfl<|A0 (A7 rfl rfl) rfl<|A0 (A7 rfl rfl) rfl<|A0 (A7 rfl rfl) rfl<|A0 D2 rfl<|qm rfl<|E4 (C1 (ds:=(A1 (room_plan.mk 0 (Ar5.mk 0 0 0 0 0)))) rfl rfl rfl rfl (B3 rfl) rfl) rfl<|qm rfl<|es (ra4 rfl rfl rfl rfl)<|C3<|s0<|qm rfl<|A0 (F4 (v:=(.b true)) rfl rfl rfl) rfl<|es (ra5 rfl rfl rfl rfl rfl)<|I3 rfl rfl<|s0<|A0 (C5 rfl rfl rfl) rfl<|qm rfl<|E4 (C1 (ds:=(A1 (room_plan.mk 0 (Ar5.mk 0 0 0 0 0)))) rfl rfl rfl rfl (B3 rfl) rfl) rfl<|qm rfl<|qm rfl<|es (ra3 rfl rfl rfl)<|C4<|InlQ.mk trivial ⟨_,_,_,[(.lit (.pointer none)),(.agg (A1 (room_plan.mk 0 (Ar5.mk 0 0 0 0 0)))),.i 7],_,(A9 rfl (E5 (E2 (ds:=A1 (room_plan.mk 0 (Ar5.mk 0 0 0 0 0))) rfl rfl rfl rfl) (A9 rfl B7))),(A4 rfl (A4 (H9 rfl) (A4 rfl B6))),(M5 (A2 A8 (A2 (F9 rfl) (A2 A8 B1))) (C0 rfl (C0 rfl (C0 rfl G3))) (F1 _ _ _)),?_⟩
   refine qm rfl<|A0 (A7 rfl rfl) rfl<|A0 (A7 rfl rfl) rfl<|A0 (A7 rfl rfl) rfl<|A0 D2 rfl<|qm rfl<|E4 (C1 (ds:=(A1 (room_plan.mk 0 (Ar5.mk 0 0 0 0 0)))) rfl rfl rfl rfl (B3 rfl) rfl) rfl<|qm rfl<|es (ra3 rfl rfl rfl)<|C3<|s0<|qm rfl<|A0 (F4 (v:=(.b true)) rfl rfl rfl) rfl<|es (ra4 rfl rfl rfl rfl)<|I3 rfl rfl<|s0<|qm rfl<|qm rfl<|qm rfl<|es (ra2 rfl rfl)<|C4 ?_
   obtain rfl:=os h
   exact retq trivial (A9 rfl (A9 rfl B7)) (A4 rfl (A4 rfl B6)) (A2 A8 (A2 A8 B1))
  ·refine s0<|A0 (C9 rfl) rfl<|A0 (D1 rfl rfl rfl) rfl<|A0 (E9 (f:=cI) rfl) rfl<|A0 (C9 rfl) rfl<|A0 (D1 rfl rfl rfl) rfl<|A0 (E9 (f:=B2) rfl) rfl<|A0 (M7 rfl rfl) rfl<|qm rfl<|es (ra5 rfl rfl rfl rfl rfl)<|wi h rfl (fun hc6 h=>?_) fun hc6 h=>?_
   ·refine s0<|A0 (C5 rfl rfl rfl) rfl<|qm rfl<|E4 (C1 (ds:=(A1 (room_plan.mk 0 (Ar5.mk 0 0 0 0 0)))) rfl rfl rfl rfl (B3 rfl) rfl) rfl<|qm rfl<|es (ra3 rfl rfl rfl)<|C4<|InlQ.mk trivial ⟨_,_,_,[(.lit (.pointer none)),(.agg (A1 (room_plan.mk 0 (Ar5.mk 0 0 0 0 0)))),.i 3],_,(A9 rfl (E5 (E2 (ds:=A1 (room_plan.mk 0 (Ar5.mk 0 0 0 0 0))) rfl rfl rfl rfl) (A9 rfl B7))),(A4 rfl (A4 (H9 rfl) (A4 rfl B6))),(M5 (A2 A8 (A2 (F9 rfl) (A2 A8 B1))) (C0 rfl (C0 rfl (C0 rfl G3))) (F1 _ _ _)),?_⟩
    refine qm rfl<|A0 (A7 rfl rfl) rfl<|A0 (A7 rfl rfl) rfl<|A0 (A7 rfl rfl) rfl<|A0 D2 rfl<|qm rfl<|E4 (C1 (ds:=(A1 (room_plan.mk 0 (Ar5.mk 0 0 0 0 0)))) rfl rfl rfl rfl (B3 rfl) rfl) rfl<|qm rfl<|es (ra4 rfl rfl rfl rfl)<|C3<|s0<|qm rfl<|A0 (F4 (v:=(.b true)) rfl rfl rfl) rfl<|es (ra5 rfl rfl rfl rfl rfl)<|I3 rfl rfl<|s0<|A0 (C5 rfl rfl rfl) rfl<|qm rfl<|E4 (C1 (ds:=(A1 (room_plan.mk 0 (Ar5.mk 0 0 0 0 0)))) rfl rfl rfl rfl (B3 rfl) rfl) rfl<|qm rfl<|qm rfl<|es (ra3 rfl rfl rfl)<|C4<|InlQ.mk trivial ⟨_,_,_,[(.lit (.pointer none)),(.agg (A1 (room_plan.mk 0 (Ar5.mk 0 0 0 0 0)))),.i 3],_,(A9 rfl (E5 (E2 (ds:=A1 (room_plan.mk 0 (Ar5.mk 0 0 0 0 0))) rfl rfl rfl rfl) (A9 rfl B7))),(A4 rfl (A4 (H9 rfl) (A4 rfl B6))),(M5 (A2 A8 (A2 (F9 rfl) (A2 A8 B1))) (C0 rfl (C0 rfl (C0 rfl G3))) (F1 _ _ _)),?_⟩
    refine qm rfl<|A0 (A7 rfl rfl) rfl<|A0 (A7 rfl rfl) rfl<|A0 (A7 rfl rfl) rfl<|A0 D2 rfl<|qm rfl<|E4 (C1 (ds:=(A1 (room_plan.mk 0 (Ar5.mk 0 0 0 0 0)))) rfl rfl rfl rfl (B3 rfl) rfl) rfl<|qm rfl<|es (ra3 rfl rfl rfl)<|C3<|s0<|qm rfl<|A0 (F4 (v:=(.b true)) rfl rfl rfl) rfl<|es (ra4 rfl rfl rfl rfl)<|I3 rfl rfl<|s0<|qm rfl<|qm rfl<|qm rfl<|es (ra2 rfl rfl)<|C4 ?_
    obtain rfl:=os h
    exact retq trivial (A9 rfl (A9 rfl B7)) (A4 rfl (A4 rfl B6)) (A2 A8 (A2 A8 B1))
   ·refine s0<|oB h fun x7 hx7 h=>A0 (C9 rfl) rfl<|A0 (D1 rfl rfl rfl) rfl<|A0 (E9 (f:=B5) rfl) rfl<|A0 (Y2 rfl rfl) rfl<|A0 (C9 rfl) rfl<|A0 (D1 rfl rfl rfl) rfl<|C2 (rs:=[.b x7]) rfl rfl (A5 rfl (A5 rfl (A5 rfl B9))) ((F3 hx7).frz)<|qm rfl<|es (ra4 rfl rfl rfl rfl)<|wi h rfl (fun hc8 h=>?_) fun hc8 h=>?_
    ·refine s0<|A0 (C5 rfl rfl rfl) rfl<|qm rfl<|E4 (C1 (ds:=(A1 (room_plan.mk 0 (Ar5.mk 0 0 0 0 0)))) rfl rfl rfl rfl (B3 rfl) rfl) rfl<|qm rfl<|es (ra3 rfl rfl rfl)<|C4<|InlQ.mk trivial ⟨_,_,_,[(.lit (.pointer none)),(.agg (A1 (room_plan.mk 0 (Ar5.mk 0 0 0 0 0)))),.i 4],_,(A9 rfl (E5 (E2 (ds:=A1 (room_plan.mk 0 (Ar5.mk 0 0 0 0 0))) rfl rfl rfl rfl) (A9 rfl B7))),(A4 rfl (A4 (H9 rfl) (A4 rfl B6))),(M5 (A2 A8 (A2 (F9 rfl) (A2 A8 B1))) (C0 rfl (C0 rfl (C0 rfl G3))) (F1 _ _ _)),?_⟩
     refine qm rfl<|A0 (A7 rfl rfl) rfl<|A0 (A7 rfl rfl) rfl<|A0 (A7 rfl rfl) rfl<|A0 D2 rfl<|qm rfl<|E4 (C1 (ds:=(A1 (room_plan.mk 0 (Ar5.mk 0 0 0 0 0)))) rfl rfl rfl rfl (B3 rfl) rfl) rfl<|qm rfl<|es (ra4 rfl rfl rfl rfl)<|C3<|s0<|qm rfl<|A0 (F4 (v:=(.b true)) rfl rfl rfl) rfl<|es (ra5 rfl rfl rfl rfl rfl)<|I3 rfl rfl<|s0<|A0 (C5 rfl rfl rfl) rfl<|qm rfl<|E4 (C1 (ds:=(A1 (room_plan.mk 0 (Ar5.mk 0 0 0 0 0)))) rfl rfl rfl rfl (B3 rfl) rfl) rfl<|qm rfl<|qm rfl<|es (ra3 rfl rfl rfl)<|C4<|InlQ.mk trivial ⟨_,_,_,[(.lit (.pointer none)),(.agg (A1 (room_plan.mk 0 (Ar5.mk 0 0 0 0 0)))),.i 4],_,(A9 rfl (E5 (E2 (ds:=A1 (room_plan.mk 0 (Ar5.mk 0 0 0 0 0))) rfl rfl rfl rfl) (A9 rfl B7))),(A4 rfl (A4 (H9 rfl) (A4 rfl B6))),(M5 (A2 A8 (A2 (F9 rfl) (A2 A8 B1))) (C0 rfl (C0 rfl (C0 rfl G3))) (F1 _ _ _)),?_⟩
     refine qm rfl<|A0 (A7 rfl rfl) rfl<|A0 (A7 rfl rfl) rfl<|A0 (A7 rfl rfl) rfl<|A0 D2 rfl<|qm rfl<|E4 (C1 (ds:=(A1 (room_plan.mk 0 (Ar5.mk 0 0 0 0 0)))) rfl rfl rfl rfl (B3 rfl) rfl) rfl<|qm rfl<|es (ra3 rfl rfl rfl)<|C3<|s0<|qm rfl<|A0 (F4 (v:=(.b true)) rfl rfl rfl) rfl<|es (ra4 rfl rfl rfl rfl)<|I3 rfl rfl<|s0<|qm rfl<|qm rfl<|qm rfl<|es (ra2 rfl rfl)<|C4 ?_
     obtain rfl:=os h
     exact retq trivial (A9 rfl (A9 rfl B7)) (A4 rfl (A4 rfl B6)) (A2 A8 (A2 A8 B1))
    ·refine C6<|s0<|A0 (C9 rfl) rfl<|A0 (D1 rfl rfl rfl) rfl<|A0 (C9 rfl) rfl<|E4 (C1 (ds:=(A1 (room_plan.mk a1.Lit (Ar5.mk 0 0 0 0 0)))) rfl rfl rfl rfl (B3 rfl) rfl) rfl<|es (ra3 rfl rfl rfl)<|C3<|s0<|A0 (C9 rfl) rfl<|A0 (D1 rfl rfl rfl) rfl<|A0 (E9 (f:=cI) rfl) rfl<|qm rfl<|es (ra6 rfl rfl rfl rfl rfl rfl)<|D0<|oB h fun o19 ho19 h=>wl (fun s9=>[(3,(.ptr (H.length + 8) 0)),(4,(.ptr (H.length + 11) 0)),(5,(.ptr (H.length + 9) 0)),(51,(.seq 1 (List.map cI a1.At))),(52,(.i (List.length a1.At:Int))),(53,.i s9.1)]) (fun (q10:Unit) s9=>[(.cells (A6 a0)),(.cells (B8 a1)),.dead,(.cells (A6 a0)),(.cells (B8 a1)),(.cells (A1 (room_plan.mk 0 (Ar5.mk 0 0 0 0 0)))),.dead,(.cells (A6 a0)),(.cells (B8 a1)),(.cells (A1 s9.2)),(.cells (A6 a0)),(.cells [.i a0.Weather.Lo,.i a0.Weather.Hi,.i a0.Stoves,(.seq 1 (List.map cI a0.Holds)),(.seq 4 (List.map B5 a0.Places)),(.seq 6 (List.map B2 a0.Figures)),(.seq 1 (List.map cI a0.Bill)),(.xseq 2 [[.b false,(.fn (.func 112) [] [])],[.b true,(.fn (.func 113) [] [])]])])]) 12 (fun r e s' H'=>(match r with | (.inl v)=>PX 1 [(4,(.ptr (H.length + 11) 0)),(5,(.ptr (H.length + 9) 0))] (H++[(.cells (A6 a0)),(.cells (B8 a1)),.dead,(.cells (A6 a0)),(.cells (B8 a1)),(.cells (A1 (room_plan.mk 0 (Ar5.mk 0 0 0 0 0)))),.dead,(.cells (A6 a0)),(.cells (B8 a1)),(.cells (A1 v)),(.cells (A6 a0)),(.cells [.i a0.Weather.Lo,.i a0.Weather.Hi,.i a0.Stoves,(.seq 1 (List.map cI a0.Holds)),(.seq 4 (List.map B5 a0.Places)),(.seq 6 (List.map B2 a0.Figures)),(.seq 1 (List.map cI a0.Bill)),(.xseq 2 [[.b false,(.fn (.func 112) [] [])],[.b true,(.fn (.func 113) [] [])]])])]) e s' H' | (.inr v)=>e = .ret∧s' = [(4,(.lit (.pointer none))),(5,(.ptr (H.length + 9) 0)),(6,.i 5)]∧H' = (H++[(.cells (A6 a0)),(.cells (B8 a1)),.dead,(.cells (A6 a0)),(.cells (B8 a1)),(.cells (A1 (room_plan.mk 0 (Ar5.mk 0 0 0 0 0)))),.dead,(.cells (A6 a0)),(.cells (B8 a1)),(.cells (A1 (room_plan.mk 0 (Ar5.mk 0 0 0 0 0)))),(.cells (A6 a0)),(.cells [.i a0.Weather.Lo,.i a0.Weather.Hi,.i a0.Stoves,(.seq 1 (List.map cI a0.Holds)),(.seq 4 (List.map B5 a0.Places)),(.seq 6 (List.map B2 a0.Figures)),(.seq 1 (List.map cI a0.Bill)),(.xseq 2 [[.b false,(.fn (.func 112) [] [])],[.b true,(.fn (.func 113) [] [])]])])]):Prop)) () ho19 rfl rfl (fun _ _=>rfl) (fun _=>rfl) rfl (fun s9=>(bdc (G4 rfl) (bdc (G4 rfl) (bdc (G4 rfl) (bdc M4 (bdc A8 (bdc A8 bdn))))))) (fun q10 s9 ys9 hs9=>?_) ?_
     ·unfold A6u at hs9
      refine s0<|A0 (L7 rfl rfl) rfl<|es (ra7 rfl rfl rfl rfl rfl rfl rfl)<|C3<|wi hs9 rfl (fun hc11 hs9=>?_) fun hc11 hs9=>?_
      ·refine C6<|C3<|D0<|s0<|oB hs9 fun x12 hx12 hs9=>qm rfl<|A0 (N7 (f:=cI) rfl rfl hx12) rfl<|A0 (P7 rfl rfl) rfl<|qm rfl<|qm rfl<|es (ra8 rfl rfl rfl rfl rfl rfl rfl rfl)<|C3<|s0<|oB hs9 fun x16 hx16 hs9=>qm rfl<|A0 (M7 rfl rfl) rfl<|qm rfl<|gp 7 67 (.b x16) 60 rfl rfl (fun hg13=>?_) (fun hg13=>?_) ?_
       ·refine oB (bt hx16 hg13) fun x14 hx14 hx16=>oB hx16 fun x15 hx15 hx16=>?_
        obtain rfl:=os hx16
        exact gT rfl hg13<|A0 (C9 rfl) rfl<|gT rfl hg13<|A0 (D1 rfl rfl rfl) rfl<|gT rfl hg13<|qm rfl<|gT rfl hg13<|A0 (A5e (f:=cI) rfl rfl rfl hx14) rfl<|gT rfl hg13<|qm rfl<|gT rfl hg13<|C2 (rs:=[.b x15]) rfl rfl (A5 rfl (A5 rfl B9)) ((Q4 hx15).frz)<|A0 (D6 rfl hg13 rfl) rfl<|ge 7 rfl rfl rfl
       ·obtain rfl:=os (bf hx16 hg13)
        exact nT rfl hg13 rfl<|nT rfl hg13 rfl<|nT rfl hg13 rfl<|nT rfl hg13 rfl<|nT rfl hg13 rfl<|T4 (K9 rfl (by rw [hg13]; rfl)) rfl<|A0 (D7 rfl hg13 rfl) rfl<|ge 7 rfl rfl rfl
       refine es (ra9 rfl rfl rfl rfl rfl rfl rfl rfl rfl)<|wi hs9 rfl (fun hc17 hs9=>?_) fun hc17 hs9=>?_
       ·refine s0<|A0 (F2 (cs:=A1 (room_plan.mk 0 (Ar5.mk 0 0 0 0 0))) rfl rfl) rfl<|qm rfl<|E4 (C1 (ds:=(A1 (room_plan.mk 0 (Ar5.mk 0 0 0 0 0)))) rfl rfl rfl rfl (B3 rfl) rfl) rfl<|qm rfl<|es (ra3 rfl rfl rfl)<|C4 ?_
        obtain rfl:=os hs9
        exact lx rfl (And.intro rfl (And.intro rfl rfl)) (su3 rfl rfl rfl)
       ·refine C6<|r0<|oB hs9 fun x18 hx18 hs9=>qm rfl<|qm rfl<|A0 (I1 rfl rfl) rfl<|A0 (C9 rfl) rfl<|A0 (A3e (e:=Ar5.l s9.2.at_) rfl rfl rfl hx18) rfl<|E4 (A3t (f:=cI) (e:=Ar5.l s9.2.at_) (e2:=Ar5.l (Ar5.set s9.2.at_ s9.1 (w64 (x12 + 1)))) (z:=(w64 (x12 + 1))) (ds:=(A1 (room_plan.mk s9.2.lit_ (Ar5.set s9.2.at_ s9.1 (w64 (x12 + 1)))))) rfl rfl rfl rfl rfl rfl (fun _=>rfl) hx18 (Ar5.set_l hx18) rfl (B3 rfl)) rfl<|en (ra6 rfl rfl rfl rfl rfl rfl)<|r0<|A0 (I1 rfl rfl) rfl<|qm rfl<|en (ra6 rfl rfl rfl rfl rfl rfl) ?_
        cases hs9
        exact lnT () rfl (su6 rfl rfl rfl rfl rfl rfl)
      ·refine J0 ?_
       obtain rfl:=os hs9
       exact lx rfl px (su2 rfl rfl)
     ·rcases o19 with vo19_0 | vo19_1
      ·rintro e s' H' - ⟨rfl,rfl,rfl⟩
       refine s0<|qm rfl<|A0 (C5 rfl rfl rfl) rfl<|qm rfl<|E4 (C1 (ds:=(A1 vo19_0)) rfl rfl rfl rfl (B3 rfl) rfl) rfl<|qm rfl<|es (ra3 rfl rfl rfl)<|C4<|InlQ.mk trivial ⟨_,_,_,[(.ptr (H.length + 11) 0),(.agg (A1 vo19_0)),.i 0],_,(A9 rfl (E5 (E2 (ds:=A1 vo19_0) rfl rfl rfl rfl) (A9 rfl B7))),(A4 rfl (A4 (H9 rfl) (A4 rfl B6))),(P6 (K1 (P4 rfl)) (C0 rfl (C0 rfl (C0 rfl G3)))),?_⟩
       refine qm rfl<|A0 (A7 rfl rfl) rfl<|A0 (A7 rfl rfl) rfl<|A0 (A7 rfl rfl) rfl<|A0 D2 rfl<|qm rfl<|E4 (C1 (ds:=(A1 vo19_0)) rfl rfl rfl rfl (B3 rfl) rfl) rfl<|qm rfl<|es (ra4 rfl rfl rfl rfl)<|C3<|s0<|qm rfl<|A0 (F4 (v:=(.b false)) rfl rfl rfl) rfl<|es (ra5 rfl rfl rfl rfl rfl)<|V8 rfl rfl<|C6<|C3<|s0<|A0 (C9 rfl) rfl<|A0 (E2 (ds:=(J8 cI) vo19_0.at_) rfl rfl rfl rfl) rfl<|qm rfl<|es (ra5 rfl rfl rfl rfl rfl)<|D0<|oB h fun o28 ho28 h=>wl (fun s20=>[(5,(.ptr (H.length + 5) 0)),(7,(.ptr (H.length + 11) 0)),(8,(.ptr (H.length + 6) 0)),(24,(.agg ((J8 cI) vo19_0.at_))),(25,.i s20)]) (fun (q21:Unit) s20=>[(.cells (A6 a0)),(.cells (B8 a1)),.dead,(.cells (A6 a0)),(.cells (B8 a1)),(.cells (A1 (room_plan.mk 0 (Ar5.mk 0 0 0 0 0)))),(.cells (A1 vo19_0)),(.cells (A6 a0)),(.cells (B8 a1)),(.cells (A1 vo19_0)),(.cells (A6 a0)),(.cells [.i a0.Weather.Lo,.i a0.Weather.Hi,.i a0.Stoves,(.seq 1 (List.map cI a0.Holds)),(.seq 4 (List.map B5 a0.Places)),(.seq 6 (List.map B2 a0.Figures)),(.seq 1 (List.map cI a0.Bill)),(.xseq 2 [[.b false,(.fn (.func 112) [] [])],[.b true,(.fn (.func 113) [] [])]])])]) 12 (fun r e s' H'=>(match r with | (.inl v)=>PX 0 [(5,(.ptr (H.length + 5) 0)),(7,(.ptr (H.length + 11) 0)),(8,(.ptr (H.length + 6) 0))] (H++[(.cells (A6 a0)),(.cells (B8 a1)),.dead,(.cells (A6 a0)),(.cells (B8 a1)),(.cells (A1 (room_plan.mk 0 (Ar5.mk 0 0 0 0 0)))),(.cells (A1 vo19_0)),(.cells (A6 a0)),(.cells (B8 a1)),(.cells (A1 vo19_0)),(.cells (A6 a0)),(.cells [.i a0.Weather.Lo,.i a0.Weather.Hi,.i a0.Stoves,(.seq 1 (List.map cI a0.Holds)),(.seq 4 (List.map B5 a0.Places)),(.seq 6 (List.map B2 a0.Figures)),(.seq 1 (List.map cI a0.Bill)),(.xseq 2 [[.b false,(.fn (.func 112) [] [])],[.b true,(.fn (.func 113) [] [])]])])]) e s' H' | (.inr v)=>e = .ret∧s' = [(4,(.lit (.pointer none))),(5,(.ptr (H.length + 5) 0)),(6,.i 9)]∧H' = (H++[(.cells (A6 a0)),(.cells (B8 a1)),.dead,(.cells (A6 a0)),(.cells (B8 a1)),(.cells (A1 vo19_0)),(.cells (A1 vo19_0)),(.cells (A6 a0)),(.cells (B8 a1)),(.cells (A1 vo19_0)),(.cells (A6 a0)),(.cells [.i a0.Weather.Lo,.i a0.Weather.Hi,.i a0.Stoves,(.seq 1 (List.map cI a0.Holds)),(.seq 4 (List.map B5 a0.Places)),(.seq 6 (List.map B2 a0.Figures)),(.seq 1 (List.map cI a0.Bill)),(.xseq 2 [[.b false,(.fn (.func 112) [] [])],[.b true,(.fn (.func 113) [] [])]])])]):Prop)) () ho28 rfl rfl (fun _ _=>rfl) (fun _=>rfl) rfl (fun s20=>(bdc (G4 rfl) (bdc (G4 rfl) (bdc (G4 rfl) (bdc (F9 rfl) (bdc A8 bdn)))))) (fun q21 s20 ys20 hs20=>?_) ?_
       ·unfold A6v at hs20
        refine s0<|A0 (L7 rfl rfl) rfl<|es (ra6 rfl rfl rfl rfl rfl rfl)<|C3<|wi hs20 rfl (fun hc22 hs20=>?_) fun hc22 hs20=>?_
        ·refine C6<|C3<|D0<|s0<|oB hs20 fun x23 hx23 hs20=>qm rfl<|A0 (A1c (f:=cI) (g:=fun n=>(.i n)) (e:=Ar5.l vo19_0.at_) (fun _=>rfl) rfl rfl rfl rfl hx23) rfl<|qm rfl<|qm rfl<|es (ra7 rfl rfl rfl rfl rfl rfl rfl)<|s0<|oB hs20 fun x26 hx26 hs20=>qm rfl<|A0 (A09 rfl rfl) rfl<|qm rfl<|gp 9 40 (.b x26) 31 rfl rfl (fun hg24=>?_) (fun hg24=>?_) ?_
         ·refine oB (bt hx26 hg24) fun x25 hx25 hx26=>?_
          obtain rfl:=os hx26
          exact gT rfl hg24<|qm rfl<|gT rfl hg24<|qm rfl<|gT rfl hg24<|qm rfl<|gT rfl hg24<|A0 (Y2 rfl rfl) rfl<|gT rfl hg24<|A0 (C9 rfl) rfl<|gT rfl hg24<|A0 (D1 rfl rfl rfl) rfl<|gT rfl hg24<|C2 (rs:=[.i x25]) rfl rfl (A5 rfl (A5 rfl (A5 rfl (A5 rfl B9)))) ((Q3 (D5 rfl) hx25).frz)<|gT rfl hg24<|A0 (M7 rfl rfl) rfl<|A0 (D6 rfl hg24 rfl) rfl<|ge 9 rfl rfl rfl
         ·obtain rfl:=os (bf hx26 hg24)
          exact nT rfl hg24 rfl<|nT rfl hg24 rfl<|nT rfl hg24 rfl<|nT rfl hg24 rfl<|nT rfl hg24 rfl<|nT rfl hg24 rfl<|T4 (K9 rfl (by rw [hg24]; rfl)) rfl<|nT rfl hg24 rfl<|A0 (D7 rfl hg24 rfl) rfl<|ge 9 rfl rfl rfl
         refine es (ra6 rfl rfl rfl rfl rfl rfl)<|wi hs20 rfl (fun hc27 hs20=>?_) fun hc27 hs20=>?_
         ·refine s0<|A0 (C5 rfl rfl rfl) rfl<|qm rfl<|E4 (C1 (ds:=(A1 vo19_0)) rfl rfl rfl rfl (B3 rfl) rfl) rfl<|qm rfl<|es (ra3 rfl rfl rfl)<|C4 ?_
          obtain rfl:=os hs20
          exact lx rfl (And.intro rfl (And.intro rfl rfl)) (su3 rfl rfl rfl)
         ·refine C6<|r0<|A0 (I1 rfl rfl) rfl<|qm rfl<|en (ra5 rfl rfl rfl rfl rfl) ?_
          cases hs20
          exact lnT () rfl (su5 rfl rfl rfl rfl rfl)
        ·refine J0 ?_
         obtain rfl:=os hs20
         exact lx rfl px (su3 rfl rfl rfl)
       ·rcases o28 with vo28_0 | vo28_1
        ·rintro e s' H' - ⟨rfl,rfl,rfl⟩
         refine C3<|s0<|oB h fun x29 hx29 h=>qm rfl<|A0 (C9 rfl) rfl<|A0 (E2 (ds:=(J8 cI) vo19_0.at_) rfl rfl rfl rfl) rfl<|C2 (rs:=[.b x29]) rfl rfl (A5 rfl (A5 (D9 rfl) (A5 rfl B9))) ((N8 (D5 rfl) hx29).frz)<|A0 (A5t rfl) rfl<|es (ra4 rfl rfl rfl rfl)<|wi h rfl (fun hc30 h=>?_) fun hc30 h=>?_
         ·refine s0<|A0 (C5 rfl rfl rfl) rfl<|qm rfl<|E4 (C1 (ds:=(A1 vo19_0)) rfl rfl rfl rfl (B3 rfl) rfl) rfl<|qm rfl<|es (ra3 rfl rfl rfl)<|C4<|InlQ.mk trivial ⟨_,_,_,[(.lit (.pointer none)),(.agg (A1 vo19_0)),.i 9],_,(A9 rfl (E5 (E2 (ds:=A1 vo19_0) rfl rfl rfl rfl) (A9 rfl B7))),(A4 rfl (A4 (H9 rfl) (A4 rfl B6))),(M5 (A2 A8 (A2 (F9 rfl) (A2 A8 B1))) (C0 rfl (C0 rfl (C0 rfl G3))) (F1 _ _ _)),?_⟩
          refine qm rfl<|A0 (A7 rfl rfl) rfl<|A0 (A7 rfl rfl) rfl<|A0 (A7 rfl rfl) rfl<|A0 D2 rfl<|qm rfl<|E4 (C1 (ds:=(A1 vo19_0)) rfl rfl rfl rfl (B3 rfl) rfl) rfl<|qm rfl<|es (ra3 rfl rfl rfl)<|C3<|s0<|qm rfl<|A0 (F4 (v:=(.b true)) rfl rfl rfl) rfl<|es (ra4 rfl rfl rfl rfl)<|I3 rfl rfl<|s0<|qm rfl<|qm rfl<|qm rfl<|es (ra2 rfl rfl)<|C4 ?_
          obtain rfl:=os h
          exact retq trivial (A9 rfl (A9 rfl B7)) (A4 rfl (A4 rfl B6)) (A2 A8 (A2 A8 B1))
         ·refine C6<|s0<|qm rfl<|A0 (C5 rfl rfl rfl) rfl<|qm rfl<|E4 (C1 (ds:=(A1 vo19_0)) rfl rfl rfl rfl (B3 rfl) rfl) rfl<|qm rfl<|es (ra3 rfl rfl rfl)<|C4<|InlQ.mk trivial ⟨_,_,_,[(.ptr (H.length + 11) 0),(.agg (A1 vo19_0)),.i 0],_,(A9 rfl (E5 (E2 (ds:=A1 vo19_0) rfl rfl rfl rfl) (A9 rfl B7))),(A4 rfl (A4 (H9 rfl) (A4 rfl B6))),(P6 (K1 (P4 rfl)) (C0 rfl (C0 rfl (C0 rfl G3)))),?_⟩
          refine qm rfl<|A0 (A7 rfl rfl) rfl<|A0 (A7 rfl rfl) rfl<|A0 (A7 rfl rfl) rfl<|A0 D2 rfl<|qm rfl<|E4 (C1 (ds:=(A1 vo19_0)) rfl rfl rfl rfl (B3 rfl) rfl) rfl<|qm rfl<|es (ra3 rfl rfl rfl)<|C3<|s0<|qm rfl<|A0 (F4 (v:=(.b false)) rfl rfl rfl) rfl<|es (ra4 rfl rfl rfl rfl)<|V8 rfl rfl<|C6<|s0<|oB h fun x31 hx31 h=>qm rfl<|A0 (C9 rfl) rfl<|A0 (E2 (ds:=(J8 cI) vo19_0.at_) rfl rfl rfl rfl) rfl<|C2 (rs:=[.i x31]) rfl rfl (A5 rfl (A5 (D9 rfl) B9)) ((A1t (D5 rfl) hx31).frz)<|qm rfl<|qm rfl<|es (ra2 rfl rfl)<|C4 ?_
          obtain rfl:=os h
          exact retq trivial (A9 rfl (A9 rfl B7)) (A4 rfl (A4 rfl B6)) (A2 A8 (A2 A8 B1))
        ·rintro e s' H' - ⟨rfl,rfl,rfl⟩
         refine InlQ.mk trivial ⟨_,_,_,[(.lit (.pointer none)),(.agg (A1 vo19_0)),.i 9],_,(A9 rfl (E5 (E2 (ds:=A1 vo19_0) rfl rfl rfl rfl) (A9 rfl B7))),(A4 rfl (A4 (H9 rfl) (A4 rfl B6))),(M5 (A2 A8 (A2 (F9 rfl) (A2 A8 B1))) (C0 rfl (C0 rfl (C0 rfl G3))) (F1 _ _ _)),?_⟩
         refine qm rfl<|A0 (A7 rfl rfl) rfl<|A0 (A7 rfl rfl) rfl<|A0 (A7 rfl rfl) rfl<|A0 D2 rfl<|qm rfl<|E4 (C1 (ds:=(A1 vo19_0)) rfl rfl rfl rfl (B3 rfl) rfl) rfl<|qm rfl<|es (ra3 rfl rfl rfl)<|C3<|s0<|qm rfl<|A0 (F4 (v:=(.b true)) rfl rfl rfl) rfl<|es (ra4 rfl rfl rfl rfl)<|I3 rfl rfl<|s0<|qm rfl<|qm rfl<|qm rfl<|es (ra2 rfl rfl)<|C4 ?_
         obtain rfl:=os h
         exact retq trivial (A9 rfl (A9 rfl B7)) (A4 rfl (A4 rfl B6)) (A2 A8 (A2 A8 B1))
      ·rintro e s' H' - ⟨rfl,rfl,rfl⟩
       refine InlQ.mk trivial ⟨_,_,_,[(.lit (.pointer none)),(.agg (A1 (room_plan.mk 0 (Ar5.mk 0 0 0 0 0)))),.i 5],_,(A9 rfl (E5 (E2 (ds:=A1 (room_plan.mk 0 (Ar5.mk 0 0 0 0 0))) rfl rfl rfl rfl) (A9 rfl B7))),(A4 rfl (A4 (H9 rfl) (A4 rfl B6))),(M5 (A2 A8 (A2 (F9 rfl) (A2 A8 B1))) (C0 rfl (C0 rfl (C0 rfl G3))) (F1 _ _ _)),?_⟩
       refine qm rfl<|A0 (A7 rfl rfl) rfl<|A0 (A7 rfl rfl) rfl<|A0 (A7 rfl rfl) rfl<|A0 D2 rfl<|qm rfl<|E4 (C1 (ds:=(A1 (room_plan.mk 0 (Ar5.mk 0 0 0 0 0)))) rfl rfl rfl rfl (B3 rfl) rfl) rfl<|qm rfl<|es (ra4 rfl rfl rfl rfl)<|C3<|s0<|qm rfl<|A0 (F4 (v:=(.b true)) rfl rfl rfl) rfl<|es (ra5 rfl rfl rfl rfl rfl)<|I3 rfl rfl<|s0<|A0 (C5 rfl rfl rfl) rfl<|qm rfl<|E4 (C1 (ds:=(A1 (room_plan.mk 0 (Ar5.mk 0 0 0 0 0)))) rfl rfl rfl rfl (B3 rfl) rfl) rfl<|qm rfl<|qm rfl<|es (ra3 rfl rfl rfl)<|C4<|InlQ.mk trivial ⟨_,_,_,[(.lit (.pointer none)),(.agg (A1 (room_plan.mk 0 (Ar5.mk 0 0 0 0 0)))),.i 5],_,(A9 rfl (E5 (E2 (ds:=A1 (room_plan.mk 0 (Ar5.mk 0 0 0 0 0))) rfl rfl rfl rfl) (A9 rfl B7))),(A4 rfl (A4 (H9 rfl) (A4 rfl B6))),(M5 (A2 A8 (A2 (F9 rfl) (A2 A8 B1))) (C0 rfl (C0 rfl (C0 rfl G3))) (F1 _ _ _)),?_⟩
       refine qm rfl<|A0 (A7 rfl rfl) rfl<|A0 (A7 rfl rfl) rfl<|A0 (A7 rfl rfl) rfl<|A0 D2 rfl<|qm rfl<|E4 (C1 (ds:=(A1 (room_plan.mk 0 (Ar5.mk 0 0 0 0 0)))) rfl rfl rfl rfl (B3 rfl) rfl) rfl<|qm rfl<|es (ra3 rfl rfl rfl)<|C3<|s0<|qm rfl<|A0 (F4 (v:=(.b true)) rfl rfl rfl) rfl<|es (ra4 rfl rfl rfl rfl)<|I3 rfl rfl<|s0<|qm rfl<|qm rfl<|qm rfl<|es (ra2 rfl rfl)<|C4 ?_
       obtain rfl:=os h
       exact retq trivial (A9 rfl (A9 rfl B7)) (A4 rfl (A4 rfl B6)) (A2 A8 (A2 A8 B1))
def A25 (a0:RoHouse) (a1:Int) (a2:Int):Option (Span × Int) :=
 (Q5 a0).bind fun x1 =>
 (if (x1.2.2 == 0) = true then
  (X1 (room_house.mk a0) a1 a2).bind fun x4 =>
  some x4
  else
  some x1.2.2).bind fun (p2:Int) =>
 if (p2 != 0) = true then
  some ((Span.mk 0 0),p2)
 else
  (R8 (room_house.mk a0) a1 a2).bind fun x6 =>
  some (x6,0)
theorem A5h {c:Sc} {H:A3} {a0:RoHouse} {a1:Int} {a2:Int} {r:(Span × Int)} (h:A25 a0 a1 a2 = some r) :
  E8 tab c H (.fn (.func 19) [] []) [(.agg (A6 a0)),.i a1,.i a2] [(.agg (E0 r.1)),.i r.2]:= by
 unfold A25 at h
 refine cE rfl rfl<|sg 0 rfl<|A0 (G2 (cs:=A6 a0) rfl rfl rfl) rfl<|A0 D2 rfl<|qm rfl<|es (ra4 rfl rfl rfl rfl)<|s0<|A0 (C5 rfl rfl rfl) rfl<|L5 (as2:=[(.agg (A6 a0))]) (H1:=(H++[(.cells (A6 a0)),(.cells (E0 (Span.mk 0 0)))])) rfl rfl (A5 (D9 rfl) B9) rfl rfl rfl (O7 rfl)<|sg 2 rfl<|A0 (G2 (cs:=A6 a0) rfl rfl rfl) rfl<|qm rfl<|qm rfl<|es (ra1 rfl)<|s0<|oB h fun x1 hx1 h=>A0 (C5 rfl rfl rfl) rfl<|C2 (rs:=[.i x1.1,.i x1.2.1,.i x1.2.2]) rfl rfl (A5 (D9 rfl) B9) ((O2 hx1).frz)<|qm rfl<|A0 (A7 rfl rfl) rfl<|A0 (A7 rfl rfl) rfl<|A0 (A7 rfl rfl) rfl<|qm rfl<|qm rfl<|qm rfl<|es (ra2 rfl rfl)<|sg 3 rfl<|A0 (C5 rfl rfl rfl) rfl<|A0 (F2 (cs:=[.b false,(.fn (.func 112) [] [])]) rfl rfl) rfl<|A0 (F2 (cs:=[.b true,(.fn (.func 113) [] [])]) rfl rfl) rfl<|A0 (A1y (rows:=[[.b false,(.fn (.func 112) [] [])],[.b true,(.fn (.func 113) [] [])]]) rfl rfl) rfl<|A0 (F2 (cs:=[.i a0.Weather.Lo,.i a0.Weather.Hi,.i a0.Stoves,(.seq 1 (List.map cI a0.Holds)),(.seq 4 (List.map B5 a0.Places)),(.seq 6 (List.map B2 a0.Figures)),(.seq 1 (List.map cI a0.Bill)),(.xseq 2 [[.b false,(.fn (.func 112) [] [])],[.b true,(.fn (.func 113) [] [])]])]) rfl rfl) rfl<|A0 (G2 (cs:=[.i a0.Weather.Lo,.i a0.Weather.Hi,.i a0.Stoves,(.seq 1 (List.map cI a0.Holds)),(.seq 4 (List.map B5 a0.Places)),(.seq 6 (List.map B2 a0.Figures)),(.seq 1 (List.map cI a0.Bill)),(.xseq 2 [[.b false,(.fn (.func 112) [] [])],[.b true,(.fn (.func 113) [] [])]])]) rfl rfl rfl) rfl<|qm rfl<|qm rfl<|qm rfl<|es (ra2 rfl rfl)<|C4<|InlQ.mk trivial ⟨_,_,_,[(.ptr (H.length + 3) 0),.i x1.2.2],_,(A9 rfl (A9 rfl B7)),(A4 rfl (A4 rfl B6)),(P6 (K1 (P4 rfl)) (C0 rfl (C0 rfl G3))),?_⟩
 refine qm rfl<|A0 (A7 rfl rfl) rfl<|A0 (A7 rfl rfl) rfl<|qm rfl<|qm rfl<|es (ra5 rfl rfl rfl rfl rfl)<|C3<|s0<|qm rfl<|A0 (J6 rfl rfl) rfl<|es (ra6 rfl rfl rfl rfl rfl rfl)<|oB h fun p2 hp2 h=>C4g (Q1:=fun e s' H'=>e = .normal∧s' = [(1,.i a1),(2,.i a2),(6,(.ptr (H.length + 1) 0)),(8,(.ptr (H.length + 3) 0)),(9,.i p2)]∧H' = (H++[(.cells (A6 a0)),(.cells (E0 (Span.mk 0 0))),(.cells (A6 a0)),(.cells [.i a0.Weather.Lo,.i a0.Weather.Hi,.i a0.Stoves,(.seq 1 (List.map cI a0.Holds)),(.seq 4 (List.map B5 a0.Places)),(.seq 6 (List.map B2 a0.Figures)),(.seq 1 (List.map cI a0.Bill)),(.xseq 2 [[.b false,(.fn (.func 112) [] [])],[.b true,(.fn (.func 113) [] [])]])])])) ?_ ?_
 ·refine wi hp2 rfl (fun hc3 hp2=>?_) fun hc3 hp2=>?_
  ·refine r0<|oB hp2 fun x4 hx4 hp2=>qm rfl<|qm rfl<|qm rfl<|C2 (rs:=[.i x4]) rfl rfl (A5 rfl (A5 rfl (A5 rfl B9))) ((A1r (D5 rfl) hx4).frz)<|qm rfl<|en (ra5 rfl rfl rfl rfl rfl) ?_
   obtain rfl:=os hp2
   exact me (And.intro rfl (And.intro rfl rfl)) (su5 rfl rfl rfl rfl rfl)
  ·refine C6 ?_
   obtain rfl:=os hp2
   exact me (And.intro rfl (And.intro rfl rfl)) (su5 rfl rfl rfl rfl rfl)
 ·rintro e s' H' ⟨rfl,rfl,rfl⟩
  refine C3<|s0<|qm rfl<|A0 (M7 rfl rfl) rfl<|es (ra6 rfl rfl rfl rfl rfl rfl)<|wi h rfl (fun hc5 h=>?_) fun hc5 h=>?_
  ·refine s0<|A0 (F2 (cs:=E0 (Span.mk 0 0)) rfl rfl) rfl<|qm rfl<|E4 (C1 (ds:=(E0 (Span.mk 0 0))) rfl rfl rfl rfl (B3 rfl) rfl) rfl<|qm rfl<|es (ra2 rfl rfl)<|C4 ?_
   obtain rfl:=os h
   exact retq trivial (E5 (E2 (ds:=E0 (Span.mk 0 0)) rfl rfl rfl rfl) (A9 rfl B7)) (A4 (H9 rfl) (A4 rfl B6)) (A2 (F9 rfl) (A2 A8 B1))
  ·refine C6<|s0<|oB h fun x6 hx6 h=>qm rfl<|qm rfl<|qm rfl<|C2 (rs:=[(.agg (E0 x6))]) rfl rfl (A5 rfl (A5 rfl (A5 rfl B9))) ((W3 (D5 rfl) hx6).frz)<|E4 (C1 (ds:=(E0 x6)) rfl rfl rfl rfl (B3 rfl) rfl) rfl<|qm rfl<|es (ra2 rfl rfl)<|C4 ?_
   obtain rfl:=os h
   exact retq trivial (E5 (E2 (ds:=E0 x6) rfl rfl rfl rfl) (A9 rfl B7)) (A4 (H9 rfl) (A4 rfl B6)) (A2 (F9 rfl) (A2 A8 B1))
def A0t  (x2:room_plan) (s3:Unit):Option (Unit ⊕ Unit) :=
 some (.inr ())
def A2m (a0:room_house):Option Bool :=
 (A77 a0 Unit Unit A0t ()).bind fun (o4:(Unit ⊕ Unit)) =>
 match o4 with
 | (.inl vo4_5) =>
  some false
 | (.inr vo4_6) =>
  some true
theorem A75 {c:Sc} {H:A3} (hscv:U7 c H = true) (hcl:clH H.length H = true) {a0:room_house} {b0:Nat} (hb0:hcells H b0 = some [.i a0.RoHouse.Weather.Lo,.i a0.RoHouse.Weather.Hi,.i a0.RoHouse.Stoves,(.seq 1 (List.map cI a0.RoHouse.Holds)),(.seq 4 (List.map B5 a0.RoHouse.Places)),(.seq 6 (List.map B2 a0.RoHouse.Figures)),(.seq 1 (List.map cI a0.RoHouse.Bill)),(.xseq 2 [[.b false,(.fn (.func 112) [] [])],[.b true,(.fn (.func 113) [] [])]])]) {r:Bool} (h:A2m a0 = some r) :
  E8 tab c H (.fn (.func 97) [] []) [.ptr b0 0] [.b r]:= by
 unfold A2m at h
 refine cE rfl rfl<|sg 0 rfl<|A0 D2 rfl<|es (ra2 rfl rfl)<|C3<|s0<|qm rfl<|L5 (as2:=[.ptr b0 0]) (H1:=(H++[(.cells (cB false))])) rfl rfl (A5 rfl B9) rfl rfl rfl (O7 rfl)<|sg 1 rfl<|A0 (G2 (cs:=[.ptr b0 0]) rfl rfl rfl) rfl<|qm rfl<|es (ra1 rfl)<|s0<|A0 (A1m rfl rfl) rfl<|qm rfl<|es (ra1 rfl)<|C4<|InlQ.mk trivial ⟨_,_,_,[(.fn (.func 116) [] [(.ptr (H.length + 1) 0)])],_,(A9 rfl B7),(A4 rfl B6),(P6 (K1 (B0n (K1 (P4 rfl)))) (C0 rfl G3)),?_⟩
 refine es (ra2 rfl rfl)<|D0<|oB h fun o4 ho4 h=>?_
 have hb0_lt:=W9 hb0
 refine B4u (σ:=Unit) (ρ:=Unit) (k:=2) (ea:=(fun (x2:room_plan)=>(.agg (A1 x2)))) (body:=A0t) (pre:=fun H1=>hcells H1 (H.length + 1) = some [.ptr b0 0]∧hcells H1 b0 = some (A8z a0)) (B1u (t:=a0) (b1:=H.length + 1) (bt:=b0)) A50 [(2,(.ptr (H.length + 0) 0))] (fun s3=>[(.cells (cB false)),(.cells [.ptr b0 0])]) (fun (vo4_6:Unit)=>[(.cells (cB true)),(.cells [.ptr b0 0])]) (fun _=>.ret) ho4 (fun _=>rfl) rfl (fun S hS=>M0 (live:=[2]) rfl (by decide) (Sub.trans (su1 rfl) hS)) rfl (fun _=>rfl) (fun _=>rfl) hcl (by rw [Bool.and_eq_true,Bool.and_eq_true]; exact ⟨⟨by kernel_rfl,by kernel_rfl⟩,(by simp [clH,clS,AO.cl,AV.cl,clL,clM,clR,W6,A6a,A6b,A0f,J8,cI,cB,cS,G5,freeL,AV.free,freeR,Nat.blt,M8,Y8,G8,P0,F7,N1,H8,O9,K7,R1,G9,L9,V0,Y9] <;> omega)⟩) (fun _=>(by simp [clH,clS,AO.cl,AV.cl,clL,clM,clR,W6,A6a,A6b,A0f,J8,cI,cB,cS,G5,freeL,AV.free,freeR,Nat.blt,M8,Y8,G8,P0,F7,N1,H8,O9,K7,R1,G9,L9,V0,Y9] <;> omega)) (fun _=>(by simp [clH,clS,AO.cl,AV.cl,clL,clM,clR,W6,A6a,A6b,A0f,J8,cI,cB,cS,G5,freeL,AV.free,freeR,Nat.blt,M8,Y8,G8,P0,F7,N1,H8,O9,K7,R1,G9,L9,V0,Y9] <;> omega)) (fun _=>(by simp [clH,clS,AO.cl,AV.cl,clL,clM,clR,W6,A6a,A6b,A0f,J8,cI,cB,cS,G5,freeL,AV.free,freeR,Nat.blt,M8,Y8,G8,P0,F7,N1,H8,O9,K7,R1,G9,L9,V0,Y9] <;> omega)) ⟨fun _ _=>(And.intro (D5 rfl) (J7 hb0 _)),fun _ _=>(And.intro (D5 rfl) (J7 hb0 _))⟩ (B16 hscv) (fun c x2 s3 o hs3 y0_2 y1_2=>?_) ?_
 ·unfold A0t at hs3
  refine C6<|⟨_,rfl,rfl,rfl,?_⟩
  refine D0<|s0<|E4 (C1 (ds:=(cB true)) rfl rfl rfl rfl (B3 rfl) rfl) rfl<|es .n<|C4 ?_
  cases hs3
  exact ⟨_,rfl,rfl,rfl⟩
 ·rcases o4 with vo4_5 | vo4_6
  ·refine s0<|E4 (C1 (ds:=(cB false)) rfl rfl rfl rfl (B3 rfl) rfl) rfl<|es (ra1 rfl)<|C4 ?_
   obtain rfl:=os h
   exact retq trivial (E5 (D1 (x:=(.b false)) rfl rfl rfl) B7) (A4 rfl B6) (A2 A8 B1)
  ·obtain rfl:=os h
   exact retq trivial (E5 (D1 (x:=(.b true)) rfl rfl rfl) B7) (A4 rfl B6) (A2 A8 B1)
def Q9 (a0:Int):Option Int :=
 if (a0 == 0) = true then
  some 64
 else
  (A9c .u64 (IntKind.u64.wrap ((K6 .u64 a0 (IntKind.u64.wrap (0 - a0))) * 285870213051353865)) 58).bind fun x2 =>
  (idx gl1 x2).bind fun x3 =>
  some (w64 x3)
theorem A1o {c:Sc} {H:A3} {a0:Int} {r:Int} (h:Q9 a0 = some r) :
  E8 tab c H (.fn (.func 126) [] []) [(.lit (.int .u64 a0))] [.i r]:= by
 unfold Q9 at h
 refine cE rfl rfl<|s0<|qm rfl<|es (ra1 rfl)<|C3<|s0<|qm rfl<|A0 (J6 rfl rfl) rfl<|es (ra2 rfl rfl)<|wi h rfl (fun hc1 h=>?_) fun hc1 h=>?_
 ·refine s0<|qm rfl<|es (ra1 rfl)<|C4 ?_
  obtain rfl:=os h
  exact retq trivial (A9 rfl B7) (A4 rfl B6) (A2 A8 B1)
 ·refine C6<|s0<|oB h fun x2 hx2 h=>oB h fun x3 hx3 h=>qm rfl<|qm rfl<|A0 (C2k rfl rfl) rfl<|A0 (F4 (v:=(.lit (.int .u64 (K6 .u64 a0 (IntKind.u64.wrap (0 - a0)))))) rfl rfl rfl) rfl<|A0 (F4 (v:=(.lit (.int .u64 (IntKind.u64.wrap ((K6 .u64 a0 (IntKind.u64.wrap (0 - a0))) * 285870213051353865))))) rfl rfl rfl) rfl<|A0 (A5d rfl rfl hx2) rfl<|A0 (C2a (e:=gl1) (g:=fun n=>(.lit (.int .u8 n))) rfl rfl rfl hx3) rfl<|A0 (C0y (g:=fun n=>(.lit (.int .u8 n))) rfl hx3) rfl<|A0 (B1e rfl) rfl<|qm rfl<|es (ra1 rfl)<|C4 ?_
  obtain rfl:=os h
  exact retq trivial (A9 rfl B7) (A4 rfl B6) (A2 A8 B1)
def T3 (a0:Int):Option Int :=
 (Q9 a0).bind fun x1 =>
 some x1
theorem A2i {c:Sc} {H:A3} {a0:Int} {r:Int} (h:T3 a0 = some r) :
  E8 tab c H (.fn (.func 118) [] []) [(.lit (.int .u64 a0))] [.i r]:= by
 unfold T3 at h
 refine cE rfl rfl<|s0<|qm rfl<|es (ra1 rfl)<|C3<|V8 rfl rfl<|C6<|s0<|oB h fun x1 hx1 h=>qm rfl<|C2 (rs:=[.i x1]) rfl rfl (A5 rfl B9) ((A1o hx1).frz)<|qm rfl<|es (ra1 rfl)<|C4 ?_
 obtain rfl:=os h
 exact retq trivial (A9 rfl B7) (A4 rfl B6) (A2 A8 B1)
def A8f  (s1:(Int × (List Int))):Option ((Int × (List Int)) ⊕ (List Int)) :=
 if (s1.1 != 0) = true then
  (T3 (IntKind.u64.wrap s1.1)).bind fun x4 =>
  (app 8 s1.2 [x4]).bind fun x5 =>
  some (.inl ((A92 s1.1 (w64 (s1.1 - 1))),x5))
 else
  some (.inr s1.2)
def A9b (a0:Int):Option (List Int) :=
 (loop A8f (a0,([]:List Int))).bind fun (o6:(List Int)) =>
 some o6
theorem B4p {c:Sc} {H:A3} {a0:Int} {r:(List Int)} (h:A9b a0 = some r) :
  E8 tab c H (.fn (.func 95) [] []) [.i a0] [(.fresh 1 (List.map cI r))]:= by
 unfold A9b at h
 refine cE rfl rfl<|sg 0 rfl<|A0 B8j rfl<|es (ra2 rfl rfl)<|C3<|D0<|oB h fun o6 ho6 h=>wl (fun s1=>[(0,.i s1.1),(2,(.asl (H.length + 0) (List.length s1.2)))]) (fun (q2:Unit) s1=>[(.arr 1 false (List.map cI s1.2))]) 1 (fun r e s' H'=>PX 0 [(2,(.asl (H.length + 0) (List.length r)))] (H++[(.arr 1 false (List.map cI r))]) e s' H') () ho6 rfl rfl (fun _ _=>rfl) (fun _=>rfl) rfl (fun s1=>(bdc A8 (bdc (B6q rfl) bdn))) (fun q2 s1 ys1 hs1=>?_) ?_
 ·unfold A8f at hs1
  refine C3<|s0<|qm rfl<|A0 (M7 rfl rfl) rfl<|es (ra3 rfl rfl rfl)<|wi hs1 rfl (fun hc3 hs1=>?_) fun hc3 hs1=>?_
  ·refine C6<|C3<|D0<|r0<|oB hs1 fun x4 hx4 hs1=>oB hs1 fun x5 hx5 hs1=>qm rfl<|qm rfl<|A0 (B1e rfl) rfl<|C2 (rs:=[.i x4]) rfl rfl (A5 rfl B9) ((A2i hx4).frz)<|A0 (K3 (rows:=List.map cI [x4]) rfl rfl (E6 (fun _=>rfl) _)) rfl<|B1s (B67 (f:=cI) rfl rfl rfl rfl B7i (fun _=>rfl) hx5) rfl<|qm rfl<|en (ra2 rfl rfl)<|r0<|qm rfl<|qm rfl<|A0 (Y2 rfl rfl) rfl<|A0 (F4 (v:=(.i (A92 s1.1 (w64 (s1.1 - 1))))) rfl rfl rfl) rfl<|qm rfl<|en (ra2 rfl rfl) ?_
   cases hs1
   exact lnT () rfl (su2 rfl rfl)
  ·refine J0 ?_
   obtain rfl:=os hs1
   exact lx rfl px (su1 rfl)
 ·rintro e s' H' - ⟨rfl,rfl,rfl⟩
  refine s0<|qm rfl<|qm rfl<|es (ra1 rfl)<|C4 ?_
  obtain rfl:=os h
  exact retq trivial (A9 rfl B7) (A4 (B4q rfl (List.length_map _)) B6) (A2 A7k B1)
def A02 (a0:Int):Option Bool :=
 some (a0 != a0)
theorem A3u {c:Sc} {H:A3} {a0:Int} {r:Bool} (h:A02 a0 = some r) :
  E8 tab c H (.fn (.func 127) [] []) [.i a0] [.b r]:= by
 unfold A02 at h
 refine cE rfl rfl<|s0<|qm rfl<|es (ra1 rfl)<|s0<|qm rfl<|qm rfl<|A0 (M7 rfl rfl) rfl<|qm rfl<|es (ra1 rfl)<|C4 ?_
 obtain rfl:=os h
 exact retq trivial (A9 rfl B7) (A4 rfl B6) (A2 A8 B1)
def A1k (a0:Int) (a1:Int):Option Int :=
 (A02 a0).bind fun x1 =>
 (A02 a1).bind fun x2 =>
 if x1 = true then
  if x2 = true then
  some 0
  else
  some (-1)
 else
  if x2 = true then
  some 1
  else
  if (decide (a0 < a1)) = true then
   some (-1)
  else
   if (decide (a0 > a1)) = true then
   some 1
   else
   some 0
theorem A66 {c:Sc} {H:A3} {a0:Int} {a1:Int} {r:Int} (h:A1k a0 a1 = some r) :
  E8 tab c H (.fn (.func 119) [] []) [.i a0,.i a1] [.i r]:= by
 unfold A1k at h
 refine cE rfl rfl<|s0<|qm rfl<|es (ra2 rfl rfl)<|s0<|oB h fun x1 hx1 h=>qm rfl<|C2 (rs:=[.b x1]) rfl rfl (A5 rfl B9) ((A3u hx1).frz)<|qm rfl<|es (ra3 rfl rfl rfl)<|s0<|oB h fun x2 hx2 h=>qm rfl<|C2 (rs:=[.b x2]) rfl rfl (A5 rfl B9) ((A3u hx2).frz)<|qm rfl<|es (ra4 rfl rfl rfl rfl)<|C3<|s0<|qm rfl<|es (ra4 rfl rfl rfl rfl)<|wi h rfl (fun hc3 h=>?_) fun hc3 h=>?_
 ·refine C3<|s0<|qm rfl<|es (ra1 rfl)<|wi h rfl (fun hc4 h=>?_) fun hc4 h=>?_
  ·refine s0<|qm rfl<|es (ra1 rfl)<|C4 ?_
   obtain rfl:=os h
   exact retq trivial (A9 rfl B7) (A4 rfl B6) (A2 A8 B1)
  ·refine C6<|s0<|qm rfl<|es (ra1 rfl)<|C4 ?_
   obtain rfl:=os h
   exact retq trivial (A9 rfl B7) (A4 rfl B6) (A2 A8 B1)
 ·refine C6<|C3<|s0<|qm rfl<|es (ra3 rfl rfl rfl)<|wi h rfl (fun hc5 h=>?_) fun hc5 h=>?_
  ·refine s0<|qm rfl<|es (ra1 rfl)<|C4 ?_
   obtain rfl:=os h
   exact retq trivial (A9 rfl B7) (A4 rfl B6) (A2 A8 B1)
  ·refine C6<|C3<|s0<|qm rfl<|qm rfl<|A0 (L7 rfl rfl) rfl<|es (ra3 rfl rfl rfl)<|wi h rfl (fun hc6 h=>?_) fun hc6 h=>?_
   ·refine s0<|qm rfl<|es (ra1 rfl)<|C4 ?_
    obtain rfl:=os h
    exact retq trivial (A9 rfl B7) (A4 rfl B6) (A2 A8 B1)
   ·refine C6<|C3<|s0<|qm rfl<|qm rfl<|A0 (A09 rfl rfl) rfl<|es (ra1 rfl)<|wi h rfl (fun hc7 h=>?_) fun hc7 h=>?_
    ·refine s0<|qm rfl<|es (ra1 rfl)<|C4 ?_
     obtain rfl:=os h
     exact retq trivial (A9 rfl B7) (A4 rfl B6) (A2 A8 B1)
    ·refine C6<|s0<|qm rfl<|es (ra1 rfl)<|C4 ?_
     obtain rfl:=os h
     exact retq trivial (A9 rfl B7) (A4 rfl B6) (A2 A8 B1)
def X6 (a0:(List Int)) (a1:(List Int)) (s1:Int):Option (Int ⊕ (Int ⊕ Unit)) :=
 if (decide (s1 < (List.length a0:Int))) = true then
  (idx a0 s1).bind fun x4 =>
  if (decide (s1 ≥ (List.length a1:Int))) = true then
  some (.inr (.inl 1))
  else
  (idx a1 s1).bind fun x6 =>
  (A1k x4 x6).bind fun x7 =>
  if (x7 != 0) = true then
   some (.inr (.inl x7))
  else
   some (.inl (w64 (s1 + 1)))
 else
  some (.inr (.inr ()))
def U8 (a0:(List Int)) (a1:(List Int)):Option Int :=
 (loop (X6 a0 a1) 0).bind fun (o9:(Int ⊕ Unit)) =>
 match o9 with
 | (.inl vo9_0) =>
  some vo9_0
 | (.inr vo9_1) =>
  if (decide ((List.length a0:Int) < (List.length a1:Int))) = true then
  some (-1)
  else
  some 0
theorem A2u {c:Sc} {H:A3} {a0:(List Int)} {a1:(List Int)} {r:Int} (h:U8 a0 a1 = some r) :
  E8 tab c H (.fn (.func 96) [] []) [(.seq 1 (List.map cI a0)),(.seq 1 (List.map cI a1))] [.i r]:= by
 unfold U8 at h
 refine cE rfl rfl<|s0<|qm rfl<|es (ra2 rfl rfl)<|C3<|s0<|qm rfl<|A0 (E9 (f:=cI) rfl) rfl<|qm rfl<|es (ra5 rfl rfl rfl rfl rfl)<|D0<|oB h fun o9 ho9 h=>wl (fun s1=>[(0,(.seq 1 (List.map cI a0))),(1,(.seq 1 (List.map cI a1))),(9,(.seq 1 (List.map cI a0))),(10,(.i (List.length a0:Int))),(11,.i s1)]) (fun (q2:Unit) s1=>[]) 0 (fun r e s' H'=>(match r with | (.inl v)=>e = .ret∧RetQ H [.tmp 4] [.i v] e s' H' | (.inr v)=>PX 0 [(0,(.seq 1 (List.map cI a0))),(1,(.seq 1 (List.map cI a1)))] (H++[]) e s' H':Prop)) () ho9 rfl rfl (fun _ _=>rfl) (fun _=>rfl) rfl (fun s1=>(bdc M4 (bdc M4 (bdc M4 (bdc A8 (bdc A8 bdn)))))) (fun q2 s1 ys1 hs1=>?_) ?_
 ·unfold X6 at hs1
  refine s0<|A0 (L7 rfl rfl) rfl<|es (ra6 rfl rfl rfl rfl rfl rfl)<|C3<|wi hs1 rfl (fun hc3 hs1=>?_) fun hc3 hs1=>?_
  ·refine C6<|C3<|D0<|s0<|oB hs1 fun x4 hx4 hs1=>qm rfl<|A0 (N7 (f:=cI) rfl rfl hx4) rfl<|A0 (P7 rfl rfl) rfl<|qm rfl<|qm rfl<|es (ra7 rfl rfl rfl rfl rfl rfl rfl)<|C3<|s0<|qm rfl<|qm rfl<|A0 (E9 (f:=cI) rfl) rfl<|A0 (B0l rfl rfl) rfl<|es (ra8 rfl rfl rfl rfl rfl rfl rfl rfl)<|wi hs1 rfl (fun hc5 hs1=>?_) fun hc5 hs1=>?_
   ·refine s0<|qm rfl<|es (ra1 rfl)<|C4 ?_
    obtain rfl:=os hs1
    exact lx rfl (And.intro rfl (retq trivial (A9 rfl B7) (A4 rfl B6) (A2 A8 B1))) (Sub.refl _)
   ·refine C6<|s0<|oB hs1 fun x6 hx6 hs1=>qm rfl<|qm rfl<|A0 (N7 (f:=cI) rfl rfl hx6) rfl<|A0 (P7 rfl rfl) rfl<|qm rfl<|es (ra7 rfl rfl rfl rfl rfl rfl rfl)<|s0<|oB hs1 fun x7 hx7 hs1=>qm rfl<|qm rfl<|C2 (rs:=[.i x7]) rfl rfl (A5 rfl (A5 rfl B9)) ((A66 hx7).frz)<|qm rfl<|es (ra6 rfl rfl rfl rfl rfl rfl)<|s0<|qm rfl<|A0 (M7 rfl rfl) rfl<|es (ra7 rfl rfl rfl rfl rfl rfl rfl)<|wi hs1 rfl (fun hc8 hs1=>?_) fun hc8 hs1=>?_
    ·refine s0<|qm rfl<|qm rfl<|es (ra1 rfl)<|C4 ?_
     obtain rfl:=os hs1
     exact lx rfl (And.intro rfl (retq trivial (A9 rfl B7) (A4 rfl B6) (A2 A8 B1))) (Sub.refl _)
    ·refine C6<|r0<|A0 (I1 rfl rfl) rfl<|qm rfl<|en (ra5 rfl rfl rfl rfl rfl) ?_
     cases hs1
     exact lnT () rfl (su5 rfl rfl rfl rfl rfl)
  ·refine J0 ?_
   obtain rfl:=os hs1
   exact lx rfl px (su2 rfl rfl)
 ·rcases o9 with vo9_0 | vo9_1
  ·rintro e s' H' - ⟨rfl,hret⟩
   cases h
   exact hret
  ·rintro e s' H' - ⟨rfl,rfl,rfl⟩
   refine C3<|s0<|qm rfl<|A0 (E9 (f:=cI) rfl) rfl<|qm rfl<|A0 (E9 (f:=cI) rfl) rfl<|A0 (L7 rfl rfl) rfl<|es (ra1 rfl)<|wi h rfl (fun hc10 h=>?_) fun hc10 h=>?_
   ·refine s0<|qm rfl<|es (ra1 rfl)<|C4 ?_
    obtain rfl:=os h
    exact retq trivial (A9 rfl B7) (A4 rfl B6) (A2 A8 B1)
   ·refine C6<|s0<|qm rfl<|es (ra1 rfl)<|C4 ?_
    obtain rfl:=os h
    exact retq trivial (A9 rfl B7) (A4 rfl B6) (A2 A8 B1)
end Rm
end
section
set_option maxRecDepth 100000
namespace Rm
open Go Am Go.Proofs.YtbheamjhjgoccaaDoor.Cd
def B6j (t:RoHouse) (b:List Int):RoHouse:=⟨t.Weather,t.Stoves,t.Holds,t.Places,t.Figures,b⟩
def A5l (a0:RoHouse) (set:Int) (s:Int × List Int):Option ((Int × List Int) ⊕ List Int) :=
 if (decide (s.1 < (List.length a0.Bill:Int))) = true then
  (idx a0.Bill s.1).bind fun n =>
  (A9c .i64 set s.1).bind fun q =>
  if (A92 q 1 == 0) = true then
   (app 8 s.2 [n]).bind fun b =>
   some (.inl (w64 (s.1 + 1),b))
  else some (.inl (w64 (s.1 + 1),s.2))
 else some (.inr s.2)
def A3i (l breaks:List Int) (found:Bool):Option Bool :=
 if found = true then
  if (decide ((l.length:Int) > (breaks.length:Int))) = true then some true
  else if ((l.length:Int) == (breaks.length:Int)) = true then
   (U8 l breaks).bind fun z=>some (decide (z > 0))
  else some false
 else some false
def A2k (a0:RoHouse) (n:Int) (s:Int × Bool × List Int):Option ((Int × Bool × List Int) ⊕ List Int) :=
 if (decide (s.1 < n)) = true then
  (A9b s.1).bind fun l =>
  (A3i l s.2.2 s.2.1).bind fun skip =>
  if skip = true then some (.inl (w64 (s.1 + 1),s.2.1,s.2.2))
  else
   (loop (A5l a0 s.1) (0,[])).bind fun b =>
   (A2m ⟨B6j a0 b⟩).bind fun k =>
   if k = true then some (.inl (w64 (s.1 + 1),true,l))
   else some (.inl (w64 (s.1 + 1),s.2.1,s.2.2))
 else some (.inr s.2.2)
def A1g (a0:RoHouse):Option (List Int × Int) :=
 (Q5 a0).bind fun x1 =>
 if (x1.2.2 != 0) = true then some (([]:List Int),x1.2.2)
 else
  (B18 .i64 1 (List.length a0.Bill:Int)).bind fun n =>
  (loop (A2k a0 n) (0,false,([]:List Int))).bind fun o =>
  some (o,0)
def A40 (t:RoHouse) (v:AV):List AV:=[.i t.Weather.Lo,.i t.Weather.Hi,.i t.Stoves,(.seq 1 (List.map cI t.Holds)),(.seq 4 (List.map B5 t.Places)),(.seq 6 (List.map B2 t.Figures)),v,.xseq 2 [[.b false,(.fn (.func 112) [] [])],[.b true,(.fn (.func 113) [] [])]]]
def arB (p:Bool) (r:List Int):AO:=.arr 1 p (r.map cI)
def tlB (g:List (List Int)):List AO:=g.map (arB true)
def lB (t:RoHouse) (v:AV) (g:List AO):List AO:=.cells (A6 t) :: .cells (A6 t) :: .cells (A40 t v) :: g
section
variable {T:Tab} {s:B4} {H0 H:A3} {l:List AO} {c:Sc} {n0 N:Nat} {hc:List (Option (List Nat))} {ops:List AOper} {R:B4→A3→Prop}
theorem gU {d:Nat} {op:AOp} {t:Nat} {w:Bool} {hid:List Nat} {hida:List (Nat × List Nat)} {inc src:Nat} (hw:wanted s (some (t,w)) = some false) (hwr:writes op = true) (k:J4 T c n0 ops ((d,.tup []) :: s) H (none :: hc) R) :
  J4 T c n0 (⟨some d,op,some (t,w),hid,hida,inc,src⟩ :: ops) s H hc R:=T4 hw hwr k
theorem gV {d:Nat} {op:AOp} {t:Nat} {w:Bool} {hid:List Nat} {hida:List (Nat × List Nat)} {inc src:Nat} (hw:wanted s (some (t,w)) = some false) (hwr:writes op = false) (k:J4 T c n0 ops ((d,.tup []) :: s) H hc R) :
  J4 T c n0 (⟨some d,op,some (t,w),hid,hida,inc,src⟩ :: ops) s H hc R:=B8m hw hwr k
theorem fvc {H1 H2:A3} {v v':AV} {l l':List AV} (h:frv H v = some (v',H1)) (k:S3 H1 l = some (l',H2)):S3 H (v :: l) = some (v' :: l',H2):= by simp only [S3,h,k]
end
theorem B93 {N:Nat}:∀g:List (List Int),clH N (tlB g) = true
 | []=>rfl
 | r :: g=>by
  have ih:=B93 (N:=N) g
  unfold tlB clH at ih ⊢
  rw [List.map_cons,List.all_cons,ih,Bool.and_true]
  unfold arB
  simp only [AO.cl]
  exact W6 (fun x=>rfl) r
theorem C46 {N:Nat} (t:RoHouse) (b:List Int) (g:List (List Int)):clH N (lB t (.seq 1 (b.map cI)) (tlB g)) = true:= by
 have h:=B93 (N:=N) g
 unfold lB clH at h ⊢
 simp only [List.all_cons,h,Bool.and_true]
 simp [AO.cl,clL_free _ (H8 t),A40,clL,AV.cl,clR,G5,cI,freeL,AV.free,G8,F7]
theorem A94 {c:Sc} {H:A3} (hscv:U7 c H = true) (hcl:clH H.length H = true) {a0:RoHouse} {r:((List Int) × Int)} (h:A1g a0 = some r) :
  E8 tab c H (.fn (.func 36) [] []) [(.agg (A6 a0))] [(.seq 1 (List.map cI r.1)),.i r.2]:= by
 unfold A1g at h
 refine cE rfl rfl<|sg 0 rfl<|A0 (G2 (cs:=A6 a0) rfl rfl rfl) rfl<|qm rfl<|qm rfl<|es (ra2 rfl rfl)<|s0<|A0 (C5 rfl rfl rfl) rfl<|L5 (as2:=[(.agg (A6 a0))]) (H1:=(H++[(.cells (A6 a0))])) rfl rfl (A5 (D9 rfl) B9) rfl rfl rfl (O7 rfl)<|sg 1 rfl<|A0 (G2 (cs:=A6 a0) rfl rfl rfl) rfl<|qm rfl<|qm rfl<|es (ra1 rfl)<|s0<|oB h fun x1 hx1 h=>A0 (C5 rfl rfl rfl) rfl<|C2 (rs:=[.i x1.1,.i x1.2.1,.i x1.2.2]) rfl rfl (A5 (D9 rfl) B9) ((O2 hx1).frz)<|qm rfl<|A0 (A7 rfl rfl) rfl<|A0 (A7 rfl rfl) rfl<|A0 (A7 rfl rfl) rfl<|qm rfl<|qm rfl<|qm rfl<|es (ra2 rfl rfl)<|sg 2 rfl<|A0 (C5 rfl rfl rfl) rfl<|A0 (F2 (cs:=[.b false,(.fn (.func 112) [] [])]) rfl rfl) rfl<|A0 (F2 (cs:=[.b true,(.fn (.func 113) [] [])]) rfl rfl) rfl<|A0 (A1y (rows:=[[.b false,(.fn (.func 112) [] [])],[.b true,(.fn (.func 113) [] [])]]) rfl rfl) rfl<|A0 (F2 (cs:=A40 a0 (.seq 1 (List.map cI a0.Bill))) rfl rfl) rfl<|A0 (G2 (cs:=A40 a0 (.seq 1 (List.map cI a0.Bill))) rfl rfl rfl) rfl<|qm rfl<|qm rfl<|qm rfl<|es (ra2 rfl rfl)<|C4<|InlQ.mk trivial ⟨_,_,_,[(.ptr (H.length + 2) 0),.i x1.2.2],_,(A9 rfl (A9 rfl B7)),(A4 rfl (A4 rfl B6)),(P6 (K1 (P4 rfl)) (C0 rfl (C0 rfl G3))),?_⟩
 refine qm rfl<|A0 (A7 rfl rfl) rfl<|A0 (A7 rfl rfl) rfl<|qm rfl<|qm rfl<|es (ra4 rfl rfl rfl rfl)<|C3<|s0<|qm rfl<|A0 (M7 rfl rfl) rfl<|es (ra5 rfl rfl rfl rfl rfl)<|wi h rfl (fun hc2 h=>?_) fun hc2 h=>?_
 ·refine s0<|qm rfl<|qm rfl<|qm rfl<|es (ra2 rfl rfl)<|C4 ?_
  obtain rfl:=os h
  exact retq trivial (A9 rfl (A9 rfl B7)) (A4 rfl (A4 rfl B6)) (A2 M4 (A2 A8 B1))
 refine oB h fun n hn h=>oB h fun o ho h=>?_
 refine C6<|s0<|qm rfl<|es (ra4 rfl rfl rfl rfl)<|C3<|s0<|A0 (C9 rfl) rfl<|A0 (D1 rfl rfl rfl) rfl<|A0 (E9 (f:=cI) rfl) rfl<|A0 (A70 rfl rfl hn) rfl<|qm rfl<|es (ra6 rfl rfl rfl rfl rfl rfl)<|D0 ?_
 refine A2a (C1p (γ:=List Int × List (List Int)) (live:=[1,2,4,5,21,22]) (body:=A2k a0 n) (fun x=>[(1,.ptr (H.length + 0) 0),(2,.seq 1 (x.2.2.map cI)),(4,.ptr (H.length + 2) 0),(5,.b x.2.1),(21,.i n),(22,.i x.1)]) (fun g x=>H++lB a0 (.seq 1 (g.1.map cI)) (tlB g.2))
  (fun r e s' H'=>e = .exit 0∧s' = [(2,.seq 1 (r.map cI))]∧∃ l',H' = H++l') (fun _=>rfl) (by decide) ?_ ho (a0.Bill,[])) ?_
 ·intro g x o' hb
  unfold A2k at hb
  refine s0<|A0 (L7 rfl rfl) rfl<|es (ra7 rfl rfl rfl rfl rfl rfl rfl)<|C3<|wi hb rfl (fun hc hb=>?_) fun hc hb=>?_
  ·refine oB hb fun l hl hb=>oB hb fun skip hsk hb=>?_
   refine C6<|C3<|D0<|s0<|qm rfl<|qm rfl<|es (ra7 rfl rfl rfl rfl rfl rfl rfl)<|s0<|qm rfl<|C2 (rs:=[.seq 1 (l.map cI)]) rfl rfl (A5 rfl B9) ((B4p hl).frz)<|qm rfl<|es (ra8 rfl rfl rfl rfl rfl rfl rfl rfl)<|C3<|s0<|qm rfl<|qm rfl ?_
   refine gp 19 47 (.b skip) 28 rfl rfl (fun hg1=>?_) (fun hg1=>?_) ?_
   ·unfold A3i at hsk
    rw [if_pos hg1] at hsk
    refine gT rfl hg1<|qm rfl<|gT rfl hg1<|A0 (E9 (f:=cI) rfl) rfl<|gT rfl hg1<|qm rfl<|gT rfl hg1<|A0 (E9 (f:=cI) rfl) rfl<|gT rfl hg1<|A0 (A09 rfl rfl) rfl<|gT rfl hg1<|qm rfl ?_
    cases h2:decide ((l.length:Int) > (x.2.2.length:Int)) with
    | true =>
     rw [if_pos h2] at hsk
     cases hsk
     exact nF rfl rfl rfl<|nF rfl rfl rfl<|nF rfl rfl rfl<|nF rfl rfl rfl<|nF rfl rfl rfl<|nF rfl rfl rfl<|gV rfl rfl<|gV rfl rfl<|gU rfl rfl<|gV rfl rfl<|nF rfl rfl rfl<|gT rfl hg1<|A0 (D6 rfl rfl rfl) rfl<|A0 (D6 rfl hg1 rfl) rfl<|ge 19 rfl rfl rfl
    | false =>
     rw [if_neg (by rw [h2]; decide)] at hsk
     refine gF rfl rfl<|qm rfl<|gF rfl rfl<|A0 (E9 (f:=cI) rfl) rfl<|gF rfl rfl<|qm rfl<|gF rfl rfl<|A0 (E9 (f:=cI) rfl) rfl<|gF rfl rfl<|A0 (J6 rfl rfl) rfl<|gF rfl rfl<|qm rfl ?_
     cases h3:((l.length:Int) == (x.2.2.length:Int)) with
     | true =>
      rw [if_pos h3] at hsk
      refine oB hsk fun z hz hsk=>?_
      cases hsk
      exact gT rfl rfl<|qm rfl<|gT rfl rfl<|qm rfl<|gT rfl rfl<|C2 (rs:=[.i z]) rfl rfl (A5 rfl (A5 rfl B9)) ((A2u hz).frz)<|gT rfl rfl<|A0 (A09 rfl rfl) rfl<|gF rfl rfl<|A0 (D6 rfl rfl rfl) rfl<|gT rfl hg1<|A0 (D7 rfl rfl rfl) rfl<|A0 (D6 rfl hg1 rfl) rfl<|ge 19 rfl rfl rfl
     | false =>
      rw [if_neg (by rw [h3]; decide)] at hsk
      cases hsk
      exact nT rfl rfl rfl<|nT rfl rfl rfl<|gN rfl rfl rfl<|nT rfl rfl rfl<|gF rfl rfl<|A0 (D7 rfl rfl rfl) rfl<|gT rfl hg1<|A0 (D7 rfl rfl rfl) rfl<|A0 (D6 rfl hg1 rfl) rfl<|ge 19 rfl rfl rfl
   ·unfold A3i at hsk
    rw [if_neg (by rw [hg1]; decide)] at hsk
    cases hsk
    exact nT rfl hg1 rfl<|nT rfl hg1 rfl<|nT rfl hg1 rfl<|nT rfl hg1 rfl<|nT rfl hg1 rfl<|nT rfl hg1 rfl<|gV rfl rfl<|gV rfl rfl<|gV rfl rfl<|gV rfl rfl<|gV rfl rfl<|gV rfl rfl<|gV rfl rfl<|gV rfl rfl<|gU rfl rfl<|gV rfl rfl<|gV rfl rfl<|nT rfl hg1 rfl<|A0 (D7 rfl hg1 rfl) rfl<|ge 19 rfl rfl rfl
   refine es (ra9 rfl rfl rfl rfl rfl rfl rfl rfl rfl)<|wi hb rfl (fun hc2 hb=>?_) fun hc2 hb=>?_
   ·refine J0<|r0<|A0 (I1 rfl rfl) rfl<|qm rfl<|en (ra6 rfl rfl rfl rfl rfl rfl) ?_
    cases hb
    exact ⟨rfl,su6 rfl rfl rfl rfl rfl rfl,g,rfl⟩
   refine oB hb fun b hb2 hb=>oB hb fun k hk hb=>?_
   refine C6<|sg ((tlB g.2).length + 3) rfl<|qm rfl<|A0 (N0 rfl rfl) rfl<|A0 (C9 rfl) rfl<|A0 (C9 rfl) rfl<|E4 (C01 (cs:=A40 a0 (.seq 1 (g.1.map cI))) (ds:=A40 a0 (.asl (H.length + ((tlB g.2).length + 3 + 0)) 0)) rfl rfl rfl (A21 (Nat.le_add_right _ _)) rfl) rfl<|es (ra8 rfl rfl rfl rfl rfl rfl rfl rfl) ?_
   have e1:((lB a0 (.seq 1 (g.1.map cI)) (tlB g.2)++List.replicate 1 AO.dead).set ((tlB g.2).length + 3 + 0) (.arr 1 false [])).set 2 (.cells (A40 a0 (.asl (H.length + ((tlB g.2).length + 3 + 0)) 0))) = lB a0 (.asl (H.length + ((tlB g.2).length + 3)) 0) (tlB g.2++[arB false []]):= by
    show (AO.cells _ :: AO.cells _ :: AO.cells _ :: ((tlB g.2++[AO.dead]).set (tlB g.2).length (.arr 1 false []))) = _
    rw [B5o _ _ _ rfl]; rfl
   rw [e1]
   have hlN:∀v q,(lB a0 v (tlB g.2++[q])).length = (tlB g.2).length + 4:=fun v q=>by simp [lB]
   have hget:∀v q,(lB a0 v (tlB g.2++[q]))[(tlB g.2).length + 3]? = some q:=fun v q=>C0j (tlB g.2) q rfl
   have hset:∀v q q',(lB a0 v (tlB g.2++[q])).set ((tlB g.2).length + 3) q' = lB a0 v (tlB g.2++[q']):=fun v q q'=>by
    show (AO.cells _ :: AO.cells _ :: AO.cells _ :: ((tlB g.2++[q]).set (tlB g.2).length q')) = _
    rw [B5o _ _ _ rfl]; rfl
   refine C3<|s0<|A0 (C9 rfl) rfl<|A0 (D1 rfl rfl rfl) rfl<|A0 (E9 (f:=cI) rfl) rfl<|qm rfl<|es (ra11 rfl rfl rfl rfl rfl rfl rfl rfl rfl rfl rfl)<|D0<|wl (fun y=>[(1,.ptr (H.length + 0) 0),(2,.seq 1 (x.2.2.map cI)),(4,.ptr (H.length + 2) 0),(5,.b x.2.1),(6,.i x.1),(7,.seq 1 (l.map cI)),(21,.i n),(22,.i x.1),(53,.seq 1 (a0.Bill.map cI)),(54,.i (List.length a0.Bill:Int)),(55,.i y.1)]) (fun (q2:Unit) y=>lB a0 (.asl (H.length + ((tlB g.2).length + 3)) y.2.length) (tlB g.2++[arB false y.2])) ((tlB g.2).length + 4) (fun r e s' H'=>PX 2 [(1,.ptr (H.length + 0) 0),(2,.seq 1 (x.2.2.map cI)),(4,.ptr (H.length + 2) 0),(5,.b x.2.1),(7,.seq 1 (l.map cI)),(21,.i n),(22,.i x.1)] (H++lB a0 (.asl (H.length + ((tlB g.2).length + 3)) r.length) (tlB g.2++[arB false r])) e s' H') () hb2 rfl rfl (fun _ _=>hlN _ _) (fun _=>rfl) rfl (fun y=>(bdc (G4 rfl) (bdc M4 (bdc (G4 rfl) (bdc A8 (bdc A8 (bdc M4 (bdc A8 (bdc A8 (bdc M4 (bdc A8 (bdc A8 bdn)))))))))))) (fun q2 y o' hy=>?_) ?_
   ·unfold A5l at hy
    refine s0<|A0 (L7 rfl rfl) rfl<|es (ra12 rfl rfl rfl rfl rfl rfl rfl rfl rfl rfl rfl rfl)<|C3<|wi hy rfl (fun hc3 hy=>?_) fun hc3 hy=>?_
    ·refine oB hy fun z hz hy=>oB hy fun q hq hy=>?_
     refine C6<|C3<|D0<|s0<|qm rfl<|A0 (N7 (f:=cI) rfl rfl hz) rfl<|A0 (P7 rfl rfl) rfl<|qm rfl<|qm rfl<|es (ra13 rfl rfl rfl rfl rfl rfl rfl rfl rfl rfl rfl rfl rfl)<|s0<|qm rfl<|qm rfl<|A0 (A5d rfl rfl hq) rfl<|A0 (F4 (v:=(.i (A92 q 1))) rfl rfl rfl) rfl<|A0 (J6 rfl rfl) rfl<|es (ra13 rfl rfl rfl rfl rfl rfl rfl rfl rfl rfl rfl rfl rfl)<|wi hy rfl (fun hc4 hy=>?_) fun hc4 hy=>?_
     ·refine oB hy fun w hw hy=>?_
      refine r0<|qm rfl<|qm rfl<|A0 (N0 rfl rfl) rfl<|A0 (C9 rfl) rfl<|A0 (C9 rfl) rfl<|A0 (D1 rfl rfl rfl) rfl<|qm rfl<|A0 (K3 (rows:=[[.i z]]) rfl rfl rfl) rfl<|B1s (B67 (f:=cI) (d:=y.2) (m:=[z]) rfl rfl (hget _ _) rfl B7i (fun _=>rfl) hw) rfl<|A0 (N0 rfl rfl) rfl<|A0 (C9 rfl) rfl<|A0 (C9 rfl) rfl ?_
      rw [hset]
      refine E4 (C1 (ds:=A40 a0 (.asl (H.length + ((tlB g.2).length + 3)) w.length)) rfl rfl rfl rfl (C2m ?_ ?_) rfl) rfl<|en (ra11 rfl rfl rfl rfl rfl rfl rfl rfl rfl rfl rfl)<|r0<|A0 (I1 rfl rfl) rfl<|qm rfl<|en (ra11 rfl rfl rfl rfl rfl rfl rfl rfl rfl rfl rfl) ?_
      ·simp only [AV.bd]; exact Nat.ble_eq_true_of_le (by omega)
      ·exact C5t (Nat.le_add_right _ _) (C3y hscv)
      cases hy
      exact lnT () (List.take_of_length_le (Nat.le_of_eq (hlN _ _))) (su11 rfl rfl rfl rfl rfl rfl rfl rfl rfl rfl rfl)
     ·refine C6<|r0<|A0 (I1 rfl rfl) rfl<|qm rfl<|en (ra11 rfl rfl rfl rfl rfl rfl rfl rfl rfl rfl rfl) ?_
      cases hy
      exact lnT () (List.take_of_length_le (Nat.le_of_eq (hlN _ _))) (su11 rfl rfl rfl rfl rfl rfl rfl rfl rfl rfl rfl)
    ·refine J0 ?_
     obtain rfl:=os hy
     exact lx rfl px (su7 rfl rfl rfl rfl rfl rfl rfl)
   rintro e s' H' - ⟨rfl,rfl,rfl⟩
   have hfz:S3 (H++lB a0 (.asl (H.length + ((tlB g.2).length + 3)) b.length) (tlB g.2++[arB false b])) (A40 a0 (.asl (H.length + ((tlB g.2).length + 3)) b.length)) = some (A40 a0 (.seq 1 (b.map cI)),H++lB a0 (.asl (H.length + ((tlB g.2).length + 3)) b.length) (tlB g.2++[arB true b])):= by
    have h1:frv (H++lB a0 (.asl (H.length + ((tlB g.2).length + 3)) b.length) (tlB g.2++[arB false b])) (.asl (H.length + ((tlB g.2).length + 3)) b.length) = some (.seq 1 (b.map cI),H++lB a0 (.asl (H.length + ((tlB g.2).length + 3)) b.length) (tlB g.2++[arB true b])):= by
     have:=B6z (H0:=H) (l:=lB a0 (.asl (H.length + ((tlB g.2).length + 3)) b.length) (tlB g.2++[arB false b])) (hget _ (arB false b)) (List.length_map (cI))
     rw [hset] at this
     exact this
    exact fvc rfl<|fvc rfl<|fvc rfl<|fvc rfl<|fvc rfl<|fvc rfl<|fvc h1<|fvc rfl rfl
   have e2:(lB a0 (.asl (H.length + ((tlB g.2).length + 3)) b.length) (tlB g.2++[arB true b])).set 2 (.cells (A40 a0 (.seq 1 (b.map cI)))) = lB a0 (.seq 1 (b.map cI)) (tlB (g.2++[b])):= by
    show (AO.cells _ :: AO.cells _ :: AO.cells _ :: (tlB g.2++[arB true b])) = _
    unfold lB tlB
    rw [List.map_append]; rfl
   refine C3<|C54 (C2u rfl rfl hfz rfl) ?_
   rw [e2]
   have hcan:E8 tab ⟨H.length,c.cur :: c.outer⟩ (H++lB a0 (.seq 1 (b.map cI)) (tlB (g.2++[b]))) (.fn (.func 97) [] []) [.ptr (H.length + 2) 0] [.b k]:=A75 (a0:=⟨B6j a0 b⟩) (b0:=H.length + 2) (B16 hscv) (C1t hcl (C46 a0 b _)) (D5 (l:=lB a0 (.seq 1 (b.map cI)) (tlB (g.2++[b]))) rfl) hk
   refine r0<|qm rfl<|C2 (rs:=[.b k]) rfl rfl (A5 rfl B9) (hcan.frz)<|es (ra8 rfl rfl rfl rfl rfl rfl rfl rfl) ?_
   cases k with
   | true =>
    refine I3 rfl rfl<|r0<|qm rfl<|qm rfl<|qm rfl<|en (ra6 rfl rfl rfl rfl rfl rfl)<|r0<|A0 (I1 rfl rfl) rfl<|qm rfl<|en (ra6 rfl rfl rfl rfl rfl rfl) ?_
    cases hb
    exact ⟨rfl,su6 rfl rfl rfl rfl rfl rfl,(b,g.2++[b]),rfl⟩
   | false =>
    refine V8 rfl rfl<|C6<|r0<|A0 (I1 rfl rfl) rfl<|qm rfl<|en (ra6 rfl rfl rfl rfl rfl rfl) ?_
    cases hb
    exact ⟨rfl,su6 rfl rfl rfl rfl rfl rfl,(b,g.2++[b]),rfl⟩
  ·refine J0 ?_
   cases hb
   exact ⟨rfl,_,su1 rfl,rfl,rfl,_,rfl⟩
 ·intro e s' H' q
  obtain ⟨_,rfl,rfl,l',rfl⟩:=q
  cases h
  refine s0<|qm rfl<|qm rfl<|qm rfl<|es (ra2 rfl rfl)<|C4 ?_
  exact retq trivial (A9 rfl (A9 rfl B7)) (A4 rfl (A4 rfl B6)) (A2 M4 (A2 A8 B1))
theorem A5f {c:Sc} {H:A3} (hscv:U7 c H = true) {a0:RoHouse} {r:((List Int) × Int)} (h:A1g a0 = some r) :
  E8 tab c H (.fn (.func 36) [] []) [(.agg (A6 a0))] [(.seq 1 (List.map cI r.1)),.i r.2]:=A42 A50 (A94 (c:=⟨0,[]⟩) (H:=[]) rfl rfl h) (by simp [freeL,AV.free,H8]) (by simp [freeL,AV.free,G5,cI]) hscv
end Rm
end
section
set_option maxRecDepth 100000
set_option maxHeartbeats 0
namespace Rm
open Go Am Go.Proofs.YtbheamjhjgoccaaDoor.Cd
def A2z :Option Bool :=
 (W0 [3]).bind fun x1 =>
 (W0 ([]:List Int)).bind fun x2 =>
 (A25 x1 1 1).bind fun x3 =>
 (A31 x1 0 1 1).bind fun x4 =>
 (A31 x1 2 1 1).bind fun x5 =>
 (A30 x1).bind fun x6 =>
 (W1 1 [1,(-1),2]).bind fun x7 =>
 (A4o x1 x7).bind fun x8 =>
 (W1 1 [1,0,2]).bind fun x9 =>
 (A7a x1 x9).bind fun x10 =>
 (W0 [1,3]).bind fun x11 =>
 (A1g x11).bind fun x12 =>
 (A2l x1).bind fun x13 =>
 (A2l x2).bind fun x14 =>
 (A4n x1 0).bind fun x15 =>
 (A24 x1 x6.1).bind fun x16 =>
 (if (((((((((((x3.2 == 0) && (x4.2 == 0)) && (x5.2 == 0)) && (x6.2.2 == 0)) && (x8.2 == 9)) && (x10.2 == 0)) && (x12.2 == 0)) && (x13.2 == 0)) && (x14.2 == 0)) && (x15.2 == 0)) && (x16.2.2 == 0)) = true then
  (Q2 45 70).bind fun x28 =>
  some ((x3.1.Lo == x28.Lo) && ((x3.1.Hi == x28.Hi) && true))
 else
  some false).bind fun x29 =>
 (if ((x29 && (x4.1 == 1)) && (x5.1 == 0)) = true then
  (W1 1 [(-1),0,2]).bind fun x33 =>
  (A4l x6.1 x33).bind fun x34 =>
  some x34
 else
  some false).bind fun x35 =>
 (if (x35 && (x6.2.1 == 12)) = true then
  (A00 x10.1 [350,320]).bind fun x38 =>
  some x38
 else
  some false).bind fun x39 =>
 (if x39 = true then
  (A00 x12.1 [0]).bind fun x41 =>
  some x41
 else
  some false).bind fun x42 =>
 (if x42 = true then
  (A00 x13.1 [0]).bind fun x44 =>
  some x44
 else
  some false).bind fun x45 =>
 some ((((x45 && ((List.length x14.1:Int) == 0)) && (x15.1 == 1)) && (x16.1 == 1)) && (x16.2.1 == 0))
theorem B1m {c:Sc} {H:A3} (hscv:U7 c H = true)  {r:Bool} (h:A2z  = some r) :
  E8 tab c H (.fn (.func 23) [] []) [] [.b r]:= by
 unfold A2z at h
 refine cE rfl rfl<|s0<|qm rfl<|es .n<|sg 0 rfl<|oB h fun x1 hx1 h=>oB h fun x2 hx2 h=>A0 (K3 (rows:=List.map cI [3]) rfl rfl (E6 (fun _=>rfl) _)) rfl<|C2 (rs:=[(.agg (A6 x1))]) rfl rfl (A5 rfl B9) ((W2 hx1).frz)<|C2 (rs:=[(.agg (A6 x2))]) rfl rfl (A5 rfl B9) ((W2 hx2).frz)<|A0 D2 rfl<|A0 D2 rfl<|E4 (C1 (ds:=(A6 x1)) rfl rfl rfl rfl (B3 rfl) rfl) rfl<|E4 (C1 (ds:=(A6 x2)) rfl rfl rfl rfl (B3 rfl) rfl) rfl<|es (ra2 rfl rfl)<|sg 2 rfl<|oB h fun x3 hx3 h=>A0 (C5 rfl rfl rfl) rfl<|C2 (rs:=[(.agg (E0 x3.1)),.i x3.2]) rfl rfl (A5 (D9 rfl) (A5 rfl (A5 rfl B9))) ((A5h hx3).frz)<|qm rfl<|A0 (A7 rfl rfl) rfl<|A0 (A7 rfl rfl) rfl<|A0 D2 rfl<|E4 (C1 (ds:=(E0 x3.1)) rfl rfl rfl rfl (B3 rfl) rfl) rfl<|qm rfl<|es (ra4 rfl rfl rfl rfl)<|s0<|oB h fun x4 hx4 h=>A0 (C5 rfl rfl rfl) rfl<|C2 (rs:=[.i x4.1,.i x4.2]) rfl rfl (A5 (D9 rfl) (A5 rfl (A5 rfl (A5 rfl B9)))) ((A4h hx4).frz)<|qm rfl<|A0 (A7 rfl rfl) rfl<|A0 (A7 rfl rfl) rfl<|qm rfl<|qm rfl<|es (ra6 rfl rfl rfl rfl rfl rfl)<|s0<|oB h fun x5 hx5 h=>A0 (C5 rfl rfl rfl) rfl<|C2 (rs:=[.i x5.1,.i x5.2]) rfl rfl (A5 (D9 rfl) (A5 rfl (A5 rfl (A5 rfl B9)))) ((A4h hx5).frz)<|qm rfl<|A0 (A7 rfl rfl) rfl<|A0 (A7 rfl rfl) rfl<|qm rfl<|qm rfl<|es (ra8 rfl rfl rfl rfl rfl rfl rfl rfl)<|sg 3 rfl<|oB h fun x6 hx6 h=>A0 (C5 rfl rfl rfl) rfl<|C2 (rs:=[(.agg (B8 x6.1)),.i x6.2.1,.i x6.2.2]) rfl rfl (A5 (D9 rfl) B9) (A71 (B16 hscv) hx6)<|qm rfl<|A0 (A7 rfl rfl) rfl<|A0 (A7 rfl rfl) rfl<|A0 (A7 rfl rfl) rfl<|A0 D2 rfl<|E4 (C1 (ds:=(B8 x6.1)) rfl rfl rfl rfl (B3 rfl) rfl) rfl<|qm rfl<|qm rfl<|es (ra11 rfl rfl rfl rfl rfl rfl rfl rfl rfl rfl rfl)<|s0<|oB h fun x7 hx7 h=>?_
 refine oB h fun x8 hx8 h=>A0 (C5 rfl rfl rfl) rfl<|A0 (K3 (rows:=List.map cI [1,(-1),2]) rfl rfl (E6 (fun _=>rfl) _)) rfl<|A1e (rs:=[(.agg (B8 x7))]) rfl rfl (N2 rfl (N2 rfl A3g)) (A5 rfl (A5 rfl B9)) ((V3 hx7).frz)<|C2 (rs:=[.i x8.1,.i x8.2]) rfl rfl (A5 (D9 rfl) (A5 (D9 rfl) B9)) ((A6m hx8).frz)<|qm rfl<|A0 (A7 rfl rfl) rfl<|A0 (A7 rfl rfl) rfl<|qm rfl<|qm rfl<|es (ra12 rfl rfl rfl rfl rfl rfl rfl rfl rfl rfl rfl rfl)<|s0<|oB h fun x9 hx9 h=>oB h fun x10 hx10 h=>A0 (C5 rfl rfl rfl) rfl<|A0 (K3 (rows:=List.map cI [1,0,2]) rfl rfl (E6 (fun _=>rfl) _)) rfl<|A1e (rs:=[(.agg (B8 x9))]) rfl rfl (N2 rfl (N2 rfl A3g)) (A5 rfl (A5 rfl B9)) ((V3 hx9).frz)<|C2 (rs:=[(.seq 1 (List.map cI x10.1)),.i x10.2]) rfl rfl (A5 (D9 rfl) (A5 (D9 rfl) B9)) ((B2q hx10).frz)<|qm rfl<|A0 (A7 rfl rfl) rfl<|A0 (A7 rfl rfl) rfl<|qm rfl<|qm rfl<|es (ra14 rfl rfl rfl rfl rfl rfl rfl rfl rfl rfl rfl rfl rfl rfl)<|s0<|oB h fun x11 hx11 h=>oB h fun x12 hx12 h=>A0 (K3 (rows:=List.map cI [1,3]) rfl rfl (E6 (fun _=>rfl) _)) rfl<|C2 (rs:=[(.agg (A6 x11))]) rfl rfl (A5 rfl B9) ((W2 hx11).frz)<|C2 (rs:=[(.seq 1 (List.map cI x12.1)),.i x12.2]) rfl rfl (A5 (D9 rfl) B9) ((A5f (B16 hscv) hx12).frz)<|qm rfl<|A0 (A7 rfl rfl) rfl<|A0 (A7 rfl rfl) rfl<|qm rfl<|qm rfl<|es (.k rfl (.k rfl (.k rfl (.k rfl (.k rfl (.k rfl (.k rfl (.k rfl (.k rfl (.k rfl (.k rfl (.k rfl (.k rfl (.k rfl (.k rfl (.k rfl .n))))))))))))))))<|s0<|oB h fun x13 hx13 h=>A0 (C5 rfl rfl rfl) rfl<|C2 (rs:=[(.seq 1 (List.map cI x13.1)),.i x13.2]) rfl rfl (A5 (D9 rfl) B9) ((A6l (B16 hscv) hx13).frz)<|qm rfl<|A0 (A7 rfl rfl) rfl<|A0 (A7 rfl rfl) rfl<|qm rfl<|qm rfl<|es (.k rfl (.k rfl (.k rfl (.k rfl (.k rfl (.k rfl (.k rfl (.k rfl (.k rfl (.k rfl (.k rfl (.k rfl (.k rfl (.k rfl (.k rfl (.k rfl (.k rfl (.k rfl .n))))))))))))))))))<|s0<|oB h fun x14 hx14 h=>A0 (C5 rfl rfl rfl) rfl<|C2 (rs:=[(.seq 1 (List.map cI x14.1)),.i x14.2]) rfl rfl (A5 (D9 rfl) B9) ((A6l (B16 hscv) hx14).frz)<|qm rfl<|A0 (A7 rfl rfl) rfl<|A0 (A7 rfl rfl) rfl<|qm rfl<|qm rfl<|es (.k rfl (.k rfl (.k rfl (.k rfl (.k rfl (.k rfl (.k rfl (.k rfl (.k rfl (.k rfl (.k rfl (.k rfl (.k rfl (.k rfl (.k rfl (.k rfl (.k rfl (.k rfl (.k rfl .n)))))))))))))))))))<|s0<|oB h fun x15 hx15 h=>A0 (C5 rfl rfl rfl) rfl<|C2 (rs:=[.i x15.1,.i x15.2]) rfl rfl (A5 (D9 rfl) (A5 rfl B9)) ((A6k hx15).frz)<|qm rfl ?_
 refine A0 (A7 rfl rfl) rfl<|A0 (A7 rfl rfl) rfl<|qm rfl<|qm rfl<|es (.k rfl (.k rfl (.k rfl (.k rfl (.k rfl (.k rfl (.k rfl (.k rfl (.k rfl (.k rfl (.k rfl (.k rfl (.k rfl (.k rfl (.k rfl (.k rfl (.k rfl (.k rfl (.k rfl (.k rfl (.k rfl .n)))))))))))))))))))))<|s0<|oB h fun x16 hx16 h=>A0 (C5 rfl rfl rfl) rfl<|A0 (C5 rfl rfl rfl) rfl<|C2 (rs:=[.i x16.1,.i x16.2.1,.i x16.2.2]) rfl rfl (A5 (D9 rfl) (A5 (D9 rfl) B9)) ((A5g hx16).frz)<|qm rfl<|A0 (A7 rfl rfl) rfl<|A0 (A7 rfl rfl) rfl<|A0 (A7 rfl rfl) rfl<|qm rfl<|qm rfl<|qm rfl<|es (.k rfl (.k rfl (.k rfl (.k rfl (.k rfl (.k rfl (.k rfl (.k rfl (.k rfl (.k rfl (.k rfl (.k rfl (.k rfl (.k rfl (.k rfl (.k rfl (.k rfl (.k rfl (.k rfl (.k rfl (.k rfl (.k rfl (.k rfl .n)))))))))))))))))))))))<|s0<|oB h fun x29 hx29 h=>oB h fun x35 hx35 h=>oB h fun x39 hx39 h=>oB h fun x42 hx42 h=>oB h fun x45 hx45 h=>qm rfl<|A0 (J6 rfl rfl) rfl<|qm rfl<|gp 3 98 (.b ((x3.2 == 0) && (x4.2 == 0))) 95 rfl rfl (fun hg17=>?_) (fun hg17=>?_) ?_
 ·exact gT rfl hg17<|qm rfl<|gT rfl hg17<|A0 (J6 rfl rfl) rfl<|A0 (D6 rfl hg17 rfl) rfl<|ge 3 (by rw [hg17]; rfl) rfl rfl
 ·exact nT rfl hg17 rfl<|nT rfl hg17 rfl<|A0 (D7 rfl hg17 rfl) rfl<|ge 3 (by rw [hg17]; rfl) rfl rfl
 refine qm rfl<|gp 3 102 (.b (((x3.2 == 0) && (x4.2 == 0)) && (x5.2 == 0))) 99 rfl rfl (fun hg18=>?_) (fun hg18=>?_) ?_
 ·exact gT rfl hg18<|qm rfl<|gT rfl hg18<|A0 (J6 rfl rfl) rfl<|A0 (D6 rfl hg18 rfl) rfl<|ge 3 (by rw [hg18]; rfl) rfl rfl
 ·exact nT rfl hg18 rfl<|nT rfl hg18 rfl<|A0 (D7 rfl hg18 rfl) rfl<|ge 3 (by rw [hg18]; rfl) rfl rfl
 refine qm rfl<|gp 3 106 (.b ((((x3.2 == 0) && (x4.2 == 0)) && (x5.2 == 0)) && (x6.2.2 == 0))) 103 rfl rfl (fun hg19=>?_) (fun hg19=>?_) ?_
 ·exact gT rfl hg19<|qm rfl<|gT rfl hg19<|A0 (J6 rfl rfl) rfl<|A0 (D6 rfl hg19 rfl) rfl<|ge 3 (by rw [hg19]; rfl) rfl rfl
 ·exact nT rfl hg19 rfl<|nT rfl hg19 rfl<|A0 (D7 rfl hg19 rfl) rfl<|ge 3 (by rw [hg19]; rfl) rfl rfl
 refine qm rfl<|gp 3 110 (.b (((((x3.2 == 0) && (x4.2 == 0)) && (x5.2 == 0)) && (x6.2.2 == 0)) && (x8.2 == 9))) 107 rfl rfl (fun hg20=>?_) (fun hg20=>?_) ?_
 ·exact gT rfl hg20<|qm rfl<|gT rfl hg20<|A0 (J6 rfl rfl) rfl<|A0 (D6 rfl hg20 rfl) rfl<|ge 3 (by rw [hg20]; rfl) rfl rfl
 ·exact nT rfl hg20 rfl<|nT rfl hg20 rfl<|A0 (D7 rfl hg20 rfl) rfl<|ge 3 (by rw [hg20]; rfl) rfl rfl
 refine qm rfl<|gp 3 114 (.b ((((((x3.2 == 0) && (x4.2 == 0)) && (x5.2 == 0)) && (x6.2.2 == 0)) && (x8.2 == 9)) && (x10.2 == 0))) 111 rfl rfl (fun hg21=>?_) (fun hg21=>?_) ?_
 ·exact gT rfl hg21<|qm rfl<|gT rfl hg21<|A0 (J6 rfl rfl) rfl<|A0 (D6 rfl hg21 rfl) rfl<|ge 3 (by rw [hg21]; rfl) rfl rfl
 ·exact nT rfl hg21 rfl<|nT rfl hg21 rfl<|A0 (D7 rfl hg21 rfl) rfl<|ge 3 (by rw [hg21]; rfl) rfl rfl
 refine qm rfl<|gp 3 118 (.b (((((((x3.2 == 0) && (x4.2 == 0)) && (x5.2 == 0)) && (x6.2.2 == 0)) && (x8.2 == 9)) && (x10.2 == 0)) && (x12.2 == 0))) 115 rfl rfl (fun hg22=>?_) (fun hg22=>?_) ?_
 ·exact gT rfl hg22<|qm rfl<|gT rfl hg22<|A0 (J6 rfl rfl) rfl<|A0 (D6 rfl hg22 rfl) rfl<|ge 3 (by rw [hg22]; rfl) rfl rfl
 ·exact nT rfl hg22 rfl<|nT rfl hg22 rfl<|A0 (D7 rfl hg22 rfl) rfl<|ge 3 (by rw [hg22]; rfl) rfl rfl
 refine qm rfl<|gp 3 122 (.b ((((((((x3.2 == 0) && (x4.2 == 0)) && (x5.2 == 0)) && (x6.2.2 == 0)) && (x8.2 == 9)) && (x10.2 == 0)) && (x12.2 == 0)) && (x13.2 == 0))) 119 rfl rfl (fun hg23=>?_) (fun hg23=>?_) ?_
 ·exact gT rfl hg23<|qm rfl<|gT rfl hg23<|A0 (J6 rfl rfl) rfl<|A0 (D6 rfl hg23 rfl) rfl<|ge 3 (by rw [hg23]; rfl) rfl rfl
 ·exact nT rfl hg23 rfl<|nT rfl hg23 rfl<|A0 (D7 rfl hg23 rfl) rfl<|ge 3 (by rw [hg23]; rfl) rfl rfl
 refine qm rfl<|gp 3 126 (.b (((((((((x3.2 == 0) && (x4.2 == 0)) && (x5.2 == 0)) && (x6.2.2 == 0)) && (x8.2 == 9)) && (x10.2 == 0)) && (x12.2 == 0)) && (x13.2 == 0)) && (x14.2 == 0))) 123 rfl rfl (fun hg24=>?_) (fun hg24=>?_) ?_
 ·exact gT rfl hg24<|qm rfl<|gT rfl hg24<|A0 (J6 rfl rfl) rfl<|A0 (D6 rfl hg24 rfl) rfl<|ge 3 (by rw [hg24]; rfl) rfl rfl
 ·exact nT rfl hg24 rfl<|nT rfl hg24 rfl<|A0 (D7 rfl hg24 rfl) rfl<|ge 3 (by rw [hg24]; rfl) rfl rfl
 refine qm rfl<|gp 3 130 (.b ((((((((((x3.2 == 0) && (x4.2 == 0)) && (x5.2 == 0)) && (x6.2.2 == 0)) && (x8.2 == 9)) && (x10.2 == 0)) && (x12.2 == 0)) && (x13.2 == 0)) && (x14.2 == 0)) && (x15.2 == 0))) 127 rfl rfl (fun hg25=>?_) (fun hg25=>?_) ?_
 ·exact gT rfl hg25<|qm rfl<|gT rfl hg25<|A0 (J6 rfl rfl) rfl<|A0 (D6 rfl hg25 rfl) rfl<|ge 3 (by rw [hg25]; rfl) rfl rfl
 ·exact nT rfl hg25 rfl<|nT rfl hg25 rfl<|A0 (D7 rfl hg25 rfl) rfl<|ge 3 (by rw [hg25]; rfl) rfl rfl
 refine qm rfl<|gp 3 134 (.b (((((((((((x3.2 == 0) && (x4.2 == 0)) && (x5.2 == 0)) && (x6.2.2 == 0)) && (x8.2 == 9)) && (x10.2 == 0)) && (x12.2 == 0)) && (x13.2 == 0)) && (x14.2 == 0)) && (x15.2 == 0)) && (x16.2.2 == 0))) 131 rfl rfl (fun hg26=>?_) (fun hg26=>?_) ?_
 ·exact gT rfl hg26<|qm rfl<|gT rfl hg26<|A0 (J6 rfl rfl) rfl<|A0 (D6 rfl hg26 rfl) rfl<|ge 3 (by rw [hg26]; rfl) rfl rfl
 ·exact nT rfl hg26 rfl<|nT rfl hg26 rfl<|A0 (D7 rfl hg26 rfl) rfl<|ge 3 (by rw [hg26]; rfl) rfl rfl
 refine qm rfl<|gp 4 139 (.b x29) 135 rfl rfl (fun hg27=>?_) (fun hg27=>?_) ?_
 ·refine oB (bt hx29 hg27) fun x28 hx28 hx29=>?_
  obtain rfl:=os hx29
  exact gT rfl hg27<|A0 (C5 rfl rfl rfl) rfl<|gT rfl hg27<|A1e (rs:=[(.agg (E0 x28))]) rfl rfl (N2 rfl (N2 rfl A3g)) (A5 rfl (A5 rfl B9)) ((O1 hx28).frz)<|gT rfl hg27<|A0 (B4m (a:=E0 x3.1) (b:=E0 x28) rfl rfl rfl rfl (Z0 (Z0 B0b))) rfl<|A0 (D6 rfl hg27 rfl) rfl<|ge 4 rfl rfl rfl
 ·obtain rfl:=os (bf hx29 hg27)
  exact nT rfl hg27 rfl<|nT rfl hg27 rfl<|nT rfl hg27 rfl<|A0 (D7 rfl hg27 rfl) rfl<|ge 4 rfl rfl rfl
 refine qm rfl<|gp 3 143 (.b (x29 && (x4.1 == 1))) 140 rfl rfl (fun hg30=>?_) (fun hg30=>?_) ?_
 ·exact gT rfl hg30<|qm rfl<|gT rfl hg30<|A0 (J6 rfl rfl) rfl<|A0 (D6 rfl hg30 rfl) rfl<|ge 3 (by rw [hg30]; rfl) rfl rfl
 ·exact nT rfl hg30 rfl<|nT rfl hg30 rfl<|A0 (D7 rfl hg30 rfl) rfl<|ge 3 (by rw [hg30]; rfl) rfl rfl
 refine qm rfl<|gp 3 147 (.b ((x29 && (x4.1 == 1)) && (x5.1 == 0))) 144 rfl rfl (fun hg31=>?_) (fun hg31=>?_) ?_
 ·exact gT rfl hg31<|qm rfl<|gT rfl hg31<|A0 (J6 rfl rfl) rfl<|A0 (D6 rfl hg31 rfl) rfl<|ge 3 (by rw [hg31]; rfl) rfl rfl
 ·exact nT rfl hg31 rfl<|nT rfl hg31 rfl<|A0 (D7 rfl hg31 rfl) rfl<|ge 3 (by rw [hg31]; rfl) rfl rfl
 refine qm rfl<|gp 5 153 (.b x35) 148 rfl rfl (fun hg32=>?_) (fun hg32=>?_) ?_
 ·refine oB (bt hx35 hg32) fun x33 hx33 hx35=>oB hx35 fun x34 hx34 hx35=>?_
  obtain rfl:=os hx35
  exact gT rfl hg32<|A0 (C5 rfl rfl rfl) rfl<|gT rfl hg32<|A0 (K3 (rows:=List.map cI [(-1),0,2]) rfl rfl (E6 (fun _=>rfl) _)) rfl<|gT rfl hg32<|A1e (rs:=[(.agg (B8 x33))]) rfl rfl (N2 rfl (N2 rfl A3g)) (A5 rfl (A5 rfl B9)) ((V3 hx33).frz)<|gT rfl hg32<|C2 (rs:=[.b x34]) rfl rfl (A5 (D9 rfl) (A5 (D9 rfl) B9)) ((A6j hx34).frz)<|A0 (D6 rfl hg32 rfl) rfl<|ge 5 rfl rfl rfl
 ·obtain rfl:=os (bf hx35 hg32)
  exact nT rfl hg32 rfl<|nT rfl hg32 rfl<|nT rfl hg32 rfl<|T4 (K9 rfl (by rw [hg32]; rfl)) rfl<|A0 (D7 rfl hg32 rfl) rfl<|ge 5 rfl rfl rfl
 refine qm rfl<|gp 3 157 (.b (x35 && (x6.2.1 == 12))) 154 rfl rfl (fun hg36=>?_) (fun hg36=>?_) ?_
 ·exact gT rfl hg36<|qm rfl<|gT rfl hg36<|A0 (J6 rfl rfl) rfl<|A0 (D6 rfl hg36 rfl) rfl<|ge 3 (by rw [hg36]; rfl) rfl rfl
 ·exact nT rfl hg36 rfl<|nT rfl hg36 rfl<|A0 (D7 rfl hg36 rfl) rfl<|ge 3 (by rw [hg36]; rfl) rfl rfl
 refine qm rfl<|gp 4 162 (.b x39) 158 rfl rfl (fun hg37=>?_) (fun hg37=>?_) ?_
 ·refine oB (bt hx39 hg37) fun x38 hx38 hx39=>?_
  obtain rfl:=os hx39
  exact gT rfl hg37<|qm rfl<|gT rfl hg37<|A0 (K3 (rows:=List.map cI [350,320]) rfl rfl (E6 (fun _=>rfl) _)) rfl<|gT rfl hg37<|C2 (rs:=[.b x38]) rfl rfl (A5 rfl (A5 rfl B9)) ((A05 hx38).frz)<|A0 (D6 rfl hg37 rfl) rfl<|ge 4 rfl rfl rfl
 ·obtain rfl:=os (bf hx39 hg37)
  exact nT rfl hg37 rfl<|nT rfl hg37 rfl<|T4 (K9 rfl (by rw [hg37]; rfl)) rfl<|A0 (D7 rfl hg37 rfl) rfl<|ge 4 rfl rfl rfl
 refine qm rfl<|gp 4 167 (.b x42) 163 rfl rfl (fun hg40=>?_) (fun hg40=>?_) ?_
 ·refine oB (bt hx42 hg40) fun x41 hx41 hx42=>?_
  obtain rfl:=os hx42
  exact gT rfl hg40<|qm rfl<|gT rfl hg40<|A0 (K3 (rows:=List.map cI [0]) rfl rfl (E6 (fun _=>rfl) _)) rfl<|gT rfl hg40<|C2 (rs:=[.b x41]) rfl rfl (A5 rfl (A5 rfl B9)) ((A05 hx41).frz)<|A0 (D6 rfl hg40 rfl) rfl<|ge 4 rfl rfl rfl
 ·obtain rfl:=os (bf hx42 hg40)
  exact nT rfl hg40 rfl<|nT rfl hg40 rfl<|T4 (K9 rfl (by rw [hg40]; rfl)) rfl<|A0 (D7 rfl hg40 rfl) rfl<|ge 4 rfl rfl rfl
 refine qm rfl<|gp 4 172 (.b x45) 168 rfl rfl (fun hg43=>?_) (fun hg43=>?_) ?_
 ·refine oB (bt hx45 hg43) fun x44 hx44 hx45=>?_
  obtain rfl:=os hx45
  exact gT rfl hg43<|qm rfl<|gT rfl hg43<|A0 (K3 (rows:=List.map cI [0]) rfl rfl (E6 (fun _=>rfl) _)) rfl<|gT rfl hg43<|C2 (rs:=[.b x44]) rfl rfl (A5 rfl (A5 rfl B9)) ((A05 hx44).frz)<|A0 (D6 rfl hg43 rfl) rfl<|ge 4 rfl rfl rfl
 ·obtain rfl:=os (bf hx45 hg43)
  exact nT rfl hg43 rfl<|nT rfl hg43 rfl<|T4 (K9 rfl (by rw [hg43]; rfl)) rfl<|A0 (D7 rfl hg43 rfl) rfl<|ge 4 rfl rfl rfl
 refine qm rfl<|gp 4 177 (.b (x45 && ((List.length x14.1:Int) == 0))) 173 rfl rfl (fun hg46=>?_) (fun hg46=>?_) ?_
 ·exact gT rfl hg46<|qm rfl<|gT rfl hg46<|A0 (E9 (f:=cI) rfl) rfl<|gT rfl hg46<|A0 (J6 rfl rfl) rfl<|A0 (D6 rfl hg46 rfl) rfl<|ge 4 (by rw [hg46]; rfl) rfl rfl
 ·exact nT rfl hg46 rfl<|nT rfl hg46 rfl<|nT rfl hg46 rfl<|A0 (D7 rfl hg46 rfl) rfl<|ge 4 (by rw [hg46]; rfl) rfl rfl
 refine qm rfl<|gp 3 181 (.b ((x45 && ((List.length x14.1:Int) == 0)) && (x15.1 == 1))) 178 rfl rfl (fun hg47=>?_) (fun hg47=>?_) ?_
 ·exact gT rfl hg47<|qm rfl<|gT rfl hg47<|A0 (J6 rfl rfl) rfl<|A0 (D6 rfl hg47 rfl) rfl<|ge 3 (by rw [hg47]; rfl) rfl rfl
 ·exact nT rfl hg47 rfl<|nT rfl hg47 rfl<|A0 (D7 rfl hg47 rfl) rfl<|ge 3 (by rw [hg47]; rfl) rfl rfl
 refine qm rfl<|gp 3 185 (.b (((x45 && ((List.length x14.1:Int) == 0)) && (x15.1 == 1)) && (x16.1 == 1))) 182 rfl rfl (fun hg48=>?_) (fun hg48=>?_) ?_
 ·exact gT rfl hg48<|qm rfl<|gT rfl hg48<|A0 (J6 rfl rfl) rfl<|A0 (D6 rfl hg48 rfl) rfl<|ge 3 (by rw [hg48]; rfl) rfl rfl
 ·exact nT rfl hg48 rfl<|nT rfl hg48 rfl<|A0 (D7 rfl hg48 rfl) rfl<|ge 3 (by rw [hg48]; rfl) rfl rfl
 refine qm rfl<|gp 3 189 (.b ((((x45 && ((List.length x14.1:Int) == 0)) && (x15.1 == 1)) && (x16.1 == 1)) && (x16.2.1 == 0))) 186 rfl rfl (fun hg49=>?_) (fun hg49=>?_) ?_
 ·exact gT rfl hg49<|qm rfl<|gT rfl hg49<|A0 (J6 rfl rfl) rfl<|A0 (D6 rfl hg49 rfl) rfl<|ge 3 (by rw [hg49]; rfl) rfl rfl
 ·exact nT rfl hg49 rfl<|nT rfl hg49 rfl<|A0 (D7 rfl hg49 rfl) rfl<|ge 3 (by rw [hg49]; rfl) rfl rfl
 refine qm rfl<|es (ra1 rfl)<|C4 ?_
 obtain rfl:=os h
 exact retq trivial (A9 rfl B7) (A4 rfl B6) (A2 A8 B1)
def A1l :Option Bool :=
 (W0 [3]).bind fun x1 =>
 (W0 ([]:List Int)).bind fun x2 =>
 (A25 x1 1 0).bind fun x3 =>
 (A31 x1 0 1 0).bind fun x4 =>
 (A30 x2).bind fun x5 =>
 (W1 1 [1,0,(-1)]).bind fun x6 =>
 (A4o x1 x6).bind fun x7 =>
 (A1g x1).bind fun x8 =>
 (A4n x1 1).bind fun x9 =>
 (W1 1 [(-1),(-1),2]).bind fun x10 =>
 (A24 x1 x10).bind fun x11 =>
 (if (((((((x3.2 == 0) && (x4.2 == 0)) && (x5.2.2 == 0)) && (x7.2 == 9)) && (x8.2 == 0)) && (x9.2 == 0)) && (x11.2.2 == 0)) = true then
  (Q2 30 50).bind fun x19 =>
  some ((x3.1.Lo == x19.Lo) && ((x3.1.Hi == x19.Hi) && true))
 else
  some false).bind fun x20 =>
 (if (x20 && (x4.1 == 0)) = true then
  (W1 1 [(-1),0,2]).bind fun x23 =>
  (A4l x5.1 x23).bind fun x24 =>
  some x24
 else
  some false).bind fun x25 =>
 (if (((((x25 && (x5.2.1 == 12)) && ((List.length x8.1:Int) == 0)) && (x9.1 == 0)) && (x11.1 == 2)) && (x11.2.1 == 3)) = true then
  (A2z).bind fun x32 =>
  some x32
 else
  some false).bind fun x33 =>
 some x33
theorem A67 {c:Sc} {H:A3} (hscv:U7 c H = true)  {r:Bool} (h:A1l  = some r) :
  E8 tab c H (.fn (.func 7) [] []) [] [.b r]:= by
 unfold A1l at h
 refine cE rfl rfl<|s0<|qm rfl<|es .n<|sg 0 rfl<|oB h fun x1 hx1 h=>oB h fun x2 hx2 h=>A0 (K3 (rows:=List.map cI [3]) rfl rfl (E6 (fun _=>rfl) _)) rfl<|C2 (rs:=[(.agg (A6 x1))]) rfl rfl (A5 rfl B9) ((W2 hx1).frz)<|C2 (rs:=[(.agg (A6 x2))]) rfl rfl (A5 rfl B9) ((W2 hx2).frz)<|A0 D2 rfl<|A0 D2 rfl<|E4 (C1 (ds:=(A6 x1)) rfl rfl rfl rfl (B3 rfl) rfl) rfl<|E4 (C1 (ds:=(A6 x2)) rfl rfl rfl rfl (B3 rfl) rfl) rfl<|es (ra2 rfl rfl)<|sg 2 rfl<|oB h fun x3 hx3 h=>A0 (C5 rfl rfl rfl) rfl<|C2 (rs:=[(.agg (E0 x3.1)),.i x3.2]) rfl rfl (A5 (D9 rfl) (A5 rfl (A5 rfl B9))) ((A5h hx3).frz)<|qm rfl<|A0 (A7 rfl rfl) rfl<|A0 (A7 rfl rfl) rfl<|A0 D2 rfl<|E4 (C1 (ds:=(E0 x3.1)) rfl rfl rfl rfl (B3 rfl) rfl) rfl<|qm rfl<|es (ra4 rfl rfl rfl rfl)<|s0<|oB h fun x4 hx4 h=>A0 (C5 rfl rfl rfl) rfl<|C2 (rs:=[.i x4.1,.i x4.2]) rfl rfl (A5 (D9 rfl) (A5 rfl (A5 rfl (A5 rfl B9)))) ((A4h hx4).frz)<|qm rfl<|A0 (A7 rfl rfl) rfl<|A0 (A7 rfl rfl) rfl<|qm rfl<|qm rfl<|es (ra6 rfl rfl rfl rfl rfl rfl)<|sg 3 rfl<|oB h fun x5 hx5 h=>A0 (C5 rfl rfl rfl) rfl<|C2 (rs:=[(.agg (B8 x5.1)),.i x5.2.1,.i x5.2.2]) rfl rfl (A5 (D9 rfl) B9) (A71 (B16 hscv) hx5)<|qm rfl<|A0 (A7 rfl rfl) rfl<|A0 (A7 rfl rfl) rfl<|A0 (A7 rfl rfl) rfl<|A0 D2 rfl<|E4 (C1 (ds:=(B8 x5.1)) rfl rfl rfl rfl (B3 rfl) rfl) rfl<|qm rfl<|qm rfl<|es (ra8 rfl rfl rfl rfl rfl rfl rfl rfl)<|s0<|oB h fun x6 hx6 h=>oB h fun x7 hx7 h=>A0 (C5 rfl rfl rfl) rfl<|A0 (K3 (rows:=List.map cI [1,0,(-1)]) rfl rfl (E6 (fun _=>rfl) _)) rfl<|A1e (rs:=[(.agg (B8 x6))]) rfl rfl (N2 rfl (N2 rfl A3g)) (A5 rfl (A5 rfl B9)) ((V3 hx6).frz)<|C2 (rs:=[.i x7.1,.i x7.2]) rfl rfl (A5 (D9 rfl) (A5 (D9 rfl) B9)) ((A6m hx7).frz)<|qm rfl<|A0 (A7 rfl rfl) rfl<|A0 (A7 rfl rfl) rfl<|qm rfl<|qm rfl ?_
 refine es (ra9 rfl rfl rfl rfl rfl rfl rfl rfl rfl)<|s0<|oB h fun x8 hx8 h=>A0 (C5 rfl rfl rfl) rfl<|C2 (rs:=[(.seq 1 (List.map cI x8.1)),.i x8.2]) rfl rfl (A5 (D9 rfl) B9) ((A5f (B16 hscv) hx8).frz)<|qm rfl<|A0 (A7 rfl rfl) rfl<|A0 (A7 rfl rfl) rfl<|qm rfl<|qm rfl<|es (ra11 rfl rfl rfl rfl rfl rfl rfl rfl rfl rfl rfl)<|s0<|oB h fun x9 hx9 h=>A0 (C5 rfl rfl rfl) rfl<|C2 (rs:=[.i x9.1,.i x9.2]) rfl rfl (A5 (D9 rfl) (A5 rfl B9)) ((A6k hx9).frz)<|qm rfl<|A0 (A7 rfl rfl) rfl<|A0 (A7 rfl rfl) rfl<|qm rfl<|qm rfl<|es (ra13 rfl rfl rfl rfl rfl rfl rfl rfl rfl rfl rfl rfl rfl)<|s0<|oB h fun x10 hx10 h=>oB h fun x11 hx11 h=>A0 (C5 rfl rfl rfl) rfl<|A0 (K3 (rows:=List.map cI [(-1),(-1),2]) rfl rfl (E6 (fun _=>rfl) _)) rfl<|A1e (rs:=[(.agg (B8 x10))]) rfl rfl (N2 rfl (N2 rfl A3g)) (A5 rfl (A5 rfl B9)) ((V3 hx10).frz)<|C2 (rs:=[.i x11.1,.i x11.2.1,.i x11.2.2]) rfl rfl (A5 (D9 rfl) (A5 (D9 rfl) B9)) ((A5g hx11).frz)<|qm rfl<|A0 (A7 rfl rfl) rfl<|A0 (A7 rfl rfl) rfl<|A0 (A7 rfl rfl) rfl<|qm rfl<|qm rfl<|qm rfl<|es (.k rfl (.k rfl (.k rfl (.k rfl (.k rfl (.k rfl (.k rfl (.k rfl (.k rfl (.k rfl (.k rfl (.k rfl (.k rfl (.k rfl (.k rfl .n)))))))))))))))<|s0<|oB h fun x20 hx20 h=>oB h fun x25 hx25 h=>oB h fun x33 hx33 h=>qm rfl<|A0 (J6 rfl rfl) rfl<|qm rfl<|gp 3 68 (.b ((x3.2 == 0) && (x4.2 == 0))) 65 rfl rfl (fun hg12=>?_) (fun hg12=>?_) ?_
 ·exact gT rfl hg12<|qm rfl<|gT rfl hg12<|A0 (J6 rfl rfl) rfl<|A0 (D6 rfl hg12 rfl) rfl<|ge 3 (by rw [hg12]; rfl) rfl rfl
 ·exact nT rfl hg12 rfl<|nT rfl hg12 rfl<|A0 (D7 rfl hg12 rfl) rfl<|ge 3 (by rw [hg12]; rfl) rfl rfl
 refine qm rfl<|gp 3 72 (.b (((x3.2 == 0) && (x4.2 == 0)) && (x5.2.2 == 0))) 69 rfl rfl (fun hg13=>?_) (fun hg13=>?_) ?_
 ·exact gT rfl hg13<|qm rfl<|gT rfl hg13<|A0 (J6 rfl rfl) rfl<|A0 (D6 rfl hg13 rfl) rfl<|ge 3 (by rw [hg13]; rfl) rfl rfl
 ·exact nT rfl hg13 rfl<|nT rfl hg13 rfl<|A0 (D7 rfl hg13 rfl) rfl<|ge 3 (by rw [hg13]; rfl) rfl rfl
 refine qm rfl<|gp 3 76 (.b ((((x3.2 == 0) && (x4.2 == 0)) && (x5.2.2 == 0)) && (x7.2 == 9))) 73 rfl rfl (fun hg14=>?_) (fun hg14=>?_) ?_
 ·exact gT rfl hg14<|qm rfl<|gT rfl hg14<|A0 (J6 rfl rfl) rfl<|A0 (D6 rfl hg14 rfl) rfl<|ge 3 (by rw [hg14]; rfl) rfl rfl
 ·exact nT rfl hg14 rfl<|nT rfl hg14 rfl<|A0 (D7 rfl hg14 rfl) rfl<|ge 3 (by rw [hg14]; rfl) rfl rfl
 refine qm rfl<|gp 3 80 (.b (((((x3.2 == 0) && (x4.2 == 0)) && (x5.2.2 == 0)) && (x7.2 == 9)) && (x8.2 == 0))) 77 rfl rfl (fun hg15=>?_) (fun hg15=>?_) ?_
 ·exact gT rfl hg15<|qm rfl<|gT rfl hg15<|A0 (J6 rfl rfl) rfl<|A0 (D6 rfl hg15 rfl) rfl<|ge 3 (by rw [hg15]; rfl) rfl rfl
 ·exact nT rfl hg15 rfl<|nT rfl hg15 rfl<|A0 (D7 rfl hg15 rfl) rfl<|ge 3 (by rw [hg15]; rfl) rfl rfl
 refine qm rfl<|gp 3 84 (.b ((((((x3.2 == 0) && (x4.2 == 0)) && (x5.2.2 == 0)) && (x7.2 == 9)) && (x8.2 == 0)) && (x9.2 == 0))) 81 rfl rfl (fun hg16=>?_) (fun hg16=>?_) ?_
 ·exact gT rfl hg16<|qm rfl<|gT rfl hg16<|A0 (J6 rfl rfl) rfl<|A0 (D6 rfl hg16 rfl) rfl<|ge 3 (by rw [hg16]; rfl) rfl rfl
 ·exact nT rfl hg16 rfl<|nT rfl hg16 rfl<|A0 (D7 rfl hg16 rfl) rfl<|ge 3 (by rw [hg16]; rfl) rfl rfl
 refine qm rfl<|gp 3 88 (.b (((((((x3.2 == 0) && (x4.2 == 0)) && (x5.2.2 == 0)) && (x7.2 == 9)) && (x8.2 == 0)) && (x9.2 == 0)) && (x11.2.2 == 0))) 85 rfl rfl (fun hg17=>?_) (fun hg17=>?_) ?_
 ·exact gT rfl hg17<|qm rfl<|gT rfl hg17<|A0 (J6 rfl rfl) rfl<|A0 (D6 rfl hg17 rfl) rfl<|ge 3 (by rw [hg17]; rfl) rfl rfl
 ·exact nT rfl hg17 rfl<|nT rfl hg17 rfl<|A0 (D7 rfl hg17 rfl) rfl<|ge 3 (by rw [hg17]; rfl) rfl rfl
 refine qm rfl<|gp 4 93 (.b x20) 89 rfl rfl (fun hg18=>?_) (fun hg18=>?_) ?_
 ·refine oB (bt hx20 hg18) fun x19 hx19 hx20=>?_
  obtain rfl:=os hx20
  exact gT rfl hg18<|A0 (C5 rfl rfl rfl) rfl<|gT rfl hg18<|A1e (rs:=[(.agg (E0 x19))]) rfl rfl (N2 rfl (N2 rfl A3g)) (A5 rfl (A5 rfl B9)) ((O1 hx19).frz)<|gT rfl hg18<|A0 (B4m (a:=E0 x3.1) (b:=E0 x19) rfl rfl rfl rfl (Z0 (Z0 B0b))) rfl<|A0 (D6 rfl hg18 rfl) rfl<|ge 4 rfl rfl rfl
 ·obtain rfl:=os (bf hx20 hg18)
  exact nT rfl hg18 rfl<|nT rfl hg18 rfl<|nT rfl hg18 rfl<|A0 (D7 rfl hg18 rfl) rfl<|ge 4 rfl rfl rfl
 refine qm rfl<|gp 3 97 (.b (x20 && (x4.1 == 0))) 94 rfl rfl (fun hg21=>?_) (fun hg21=>?_) ?_
 ·exact gT rfl hg21<|qm rfl<|gT rfl hg21<|A0 (J6 rfl rfl) rfl<|A0 (D6 rfl hg21 rfl) rfl<|ge 3 (by rw [hg21]; rfl) rfl rfl
 ·exact nT rfl hg21 rfl<|nT rfl hg21 rfl<|A0 (D7 rfl hg21 rfl) rfl<|ge 3 (by rw [hg21]; rfl) rfl rfl
 refine qm rfl<|gp 5 103 (.b x25) 98 rfl rfl (fun hg22=>?_) (fun hg22=>?_) ?_
 ·refine oB (bt hx25 hg22) fun x23 hx23 hx25=>oB hx25 fun x24 hx24 hx25=>?_
  obtain rfl:=os hx25
  exact gT rfl hg22<|A0 (C5 rfl rfl rfl) rfl<|gT rfl hg22<|A0 (K3 (rows:=List.map cI [(-1),0,2]) rfl rfl (E6 (fun _=>rfl) _)) rfl<|gT rfl hg22<|A1e (rs:=[(.agg (B8 x23))]) rfl rfl (N2 rfl (N2 rfl A3g)) (A5 rfl (A5 rfl B9)) ((V3 hx23).frz)<|gT rfl hg22<|C2 (rs:=[.b x24]) rfl rfl (A5 (D9 rfl) (A5 (D9 rfl) B9)) ((A6j hx24).frz)<|A0 (D6 rfl hg22 rfl) rfl<|ge 5 rfl rfl rfl
 ·obtain rfl:=os (bf hx25 hg22)
  exact nT rfl hg22 rfl<|nT rfl hg22 rfl<|nT rfl hg22 rfl<|T4 (K9 rfl (by rw [hg22]; rfl)) rfl<|A0 (D7 rfl hg22 rfl) rfl<|ge 5 rfl rfl rfl
 refine qm rfl<|gp 3 107 (.b (x25 && (x5.2.1 == 12))) 104 rfl rfl (fun hg26=>?_) (fun hg26=>?_) ?_
 ·exact gT rfl hg26<|qm rfl<|gT rfl hg26<|A0 (J6 rfl rfl) rfl<|A0 (D6 rfl hg26 rfl) rfl<|ge 3 (by rw [hg26]; rfl) rfl rfl
 ·exact nT rfl hg26 rfl<|nT rfl hg26 rfl<|A0 (D7 rfl hg26 rfl) rfl<|ge 3 (by rw [hg26]; rfl) rfl rfl
 refine qm rfl<|gp 4 112 (.b ((x25 && (x5.2.1 == 12)) && ((List.length x8.1:Int) == 0))) 108 rfl rfl (fun hg27=>?_) (fun hg27=>?_) ?_
 ·exact gT rfl hg27<|qm rfl<|gT rfl hg27<|A0 (E9 (f:=cI) rfl) rfl<|gT rfl hg27<|A0 (J6 rfl rfl) rfl<|A0 (D6 rfl hg27 rfl) rfl<|ge 4 (by rw [hg27]; rfl) rfl rfl
 ·exact nT rfl hg27 rfl<|nT rfl hg27 rfl<|nT rfl hg27 rfl<|A0 (D7 rfl hg27 rfl) rfl<|ge 4 (by rw [hg27]; rfl) rfl rfl
 refine qm rfl<|gp 3 116 (.b (((x25 && (x5.2.1 == 12)) && ((List.length x8.1:Int) == 0)) && (x9.1 == 0))) 113 rfl rfl (fun hg28=>?_) (fun hg28=>?_) ?_
 ·exact gT rfl hg28<|qm rfl<|gT rfl hg28<|A0 (J6 rfl rfl) rfl<|A0 (D6 rfl hg28 rfl) rfl<|ge 3 (by rw [hg28]; rfl) rfl rfl
 ·exact nT rfl hg28 rfl<|nT rfl hg28 rfl<|A0 (D7 rfl hg28 rfl) rfl<|ge 3 (by rw [hg28]; rfl) rfl rfl
 refine qm rfl<|gp 3 120 (.b ((((x25 && (x5.2.1 == 12)) && ((List.length x8.1:Int) == 0)) && (x9.1 == 0)) && (x11.1 == 2))) 117 rfl rfl (fun hg29=>?_) (fun hg29=>?_) ?_
 ·exact gT rfl hg29<|qm rfl<|gT rfl hg29<|A0 (J6 rfl rfl) rfl<|A0 (D6 rfl hg29 rfl) rfl<|ge 3 (by rw [hg29]; rfl) rfl rfl
 ·exact nT rfl hg29 rfl<|nT rfl hg29 rfl<|A0 (D7 rfl hg29 rfl) rfl<|ge 3 (by rw [hg29]; rfl) rfl rfl
 refine qm rfl<|gp 3 124 (.b (((((x25 && (x5.2.1 == 12)) && ((List.length x8.1:Int) == 0)) && (x9.1 == 0)) && (x11.1 == 2)) && (x11.2.1 == 3))) 121 rfl rfl (fun hg30=>?_) (fun hg30=>?_) ?_
 ·exact gT rfl hg30<|qm rfl<|gT rfl hg30<|A0 (J6 rfl rfl) rfl<|A0 (D6 rfl hg30 rfl) rfl<|ge 3 (by rw [hg30]; rfl) rfl rfl
 ·exact nT rfl hg30 rfl<|nT rfl hg30 rfl<|A0 (D7 rfl hg30 rfl) rfl<|ge 3 (by rw [hg30]; rfl) rfl rfl
 refine qm rfl<|gp 2 127 (.b x33) 125 rfl rfl (fun hg31=>?_) (fun hg31=>?_) ?_
 ·refine oB (bt hx33 hg31) fun x32 hx32 hx33=>?_
  obtain rfl:=os hx33
  exact gT rfl hg31<|C2 (rs:=[.b x32]) rfl rfl B9 ((B1m (B16 hscv) hx32).frz)<|A0 (D6 rfl hg31 rfl) rfl<|ge 2 rfl rfl rfl
 ·obtain rfl:=os (bf hx33 hg31)
  exact T4 (K9 rfl (by rw [hg31]; rfl)) rfl<|A0 (D7 rfl hg31 rfl) rfl<|ge 2 rfl rfl rfl
 refine qm rfl<|es (ra1 rfl)<|C4 ?_
 obtain rfl:=os h
 exact retq trivial (A9 rfl B7) (A4 rfl B6) (A2 A8 B1)
end Rm
end
section
set_option maxRecDepth 100000
set_option maxHeartbeats 0
namespace Rm
open Go Am
theorem B14:A1l = some true:= by decide +kernel
end Rm
end
