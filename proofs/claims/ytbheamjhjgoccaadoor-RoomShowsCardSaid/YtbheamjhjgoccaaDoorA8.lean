/- Texts that the claim stands on, one behind another. -/
import Derived.Test.YtbheamjhjgoccaaDoorA7
set_option linter.unusedVariables false
set_option linter.unusedSimpArgs false
set_option linter.unnecessarySimpa false
section
set_option maxRecDepth 100000
set_option maxHeartbeats 0
namespace Rm
open Go Am Go.Proofs.YtbheamjhjgoccaaDoor.Cd
def B0p (a1:RoPlan) (s9:(Int × room_plan)):Option ((Int × room_plan) ⊕ (room_plan ⊕ Unit)) :=
 if (decide (s9.1 < (List.length a1.At:Int))) = true then
  (idx a1.At s9.1).bind fun x12 =>
  (if (x12 != (-1)) = true then
  (slc a1.At 0 s9.1).bind fun x14 =>
  (K4 x14 x12).bind fun x15 =>
  some x15
  else
  some false).bind fun x16 =>
  if x16 = true then
  some (.inr (.inr ()))
  else
  (idx (Ar5.l s9.2.at_) s9.1).bind fun x18 =>
  some (.inl ((w64 (s9.1 + 1)),(room_plan.mk s9.2.lit_ (Ar5.set s9.2.at_ s9.1 (w64 (x12 + 1))))))
 else
  some (.inr (.inl s9.2))
def Y0 (a0:RoHouse) (vo19_0:room_plan) (s20:Int):Option (Int ⊕ (Unit ⊕ Unit)) :=
 if (decide (s20 < 5)) = true then
  (idx (Ar5.l vo19_0.at_) s20).bind fun x23 =>
  (if (decide (x23 > 0)) = true then
  (O5 (room_house.mk a0) s20 (w64 (x23 - 1)) vo19_0.lit_).bind fun x25 =>
  some (x25 != 1)
  else
  some false).bind fun x26 =>
  if x26 = true then
  some (.inr (.inr ()))
  else
  some (.inl (w64 (s20 + 1)))
 else
  some (.inr (.inl ()))
def A2n (a0:RoHouse) (a1:RoPlan):Option (Int × Int) :=
 (O6 a0).bind fun x1 =>
 if (x1.2.2 != 0) = true then
  some (0,x1.2.2)
 else
  (B22 .i64 1 a0.Stoves).bind fun x3 =>
  (F9 0 (w64 (x3 - 1)) [a1.Lit]).bind fun x4 =>
  if x4 = true then
  some (0,7)
  else
  if ((List.length a1.At:Int) != (List.length a0.Figures:Int)) = true then
   some (0,3)
  else
   (F9 (-1) (w64 ((List.length a0.Places:Int) - 1)) a1.At).bind fun x7 =>
   if x7 = true then
   some (0,4)
   else
   (loop (B0p a1) (0,(room_plan.mk a1.Lit (Ar5.mk 0 0 0 0 0)))).bind fun (o19:(room_plan ⊕ Unit)) =>
   match o19 with
   | (.inl vo19_0) =>
    (loop (Y0 a0 vo19_0) 0).bind fun (o28:(Unit ⊕ Unit)) =>
    match o28 with
    | (.inl vo28_0) =>
    (M9 (room_house.mk a0) vo19_0.at_ true).bind fun x29 =>
    if (!x29) = true then
     some (0,9)
    else
     (R2 (room_house.mk a0) vo19_0.at_).bind fun x31 =>
     some (x31,0)
    | (.inr vo28_1) =>
    some (0,9)
   | (.inr vo19_1) =>
    some (0,5)
theorem A6o {c:Sc} {H:A5} {a0:RoHouse} {a1:RoPlan} {r:(Int × Int)} (h:A2n a0 a1 = some r) :
  E5 tab c H (.fn (.func 27) [] []) [(.agg (A4 a0)),(.agg (B5 a1))] [.i r.1,.i r.2]:= by
 unfold A2n at h
 refine cE rfl rfl<|sg 0 rfl<|A0 (E7 (cs:=A4 a0) rfl rfl rfl) rfl<|A0 (E7 (cs:=B5 a1) rfl rfl rfl) rfl<|qm rfl<|qm rfl<|es (ra2 rfl rfl)<|sg 2 rfl<|A0 (C3 rfl rfl rfl) rfl<|A0 (C3 rfl rfl rfl) rfl<|N9 (as2:=[(.agg (A4 a0)),(.agg (B5 a1))]) (H1:=(H++[(.cells (A4 a0)),(.cells (B5 a1)),.dead])) rfl rfl (A2 (D1 rfl) (A2 (D1 rfl) C0)) rfl rfl rfl (S5 rfl)<|sg 3 rfl<|A0 (E7 (cs:=A4 a0) rfl rfl rfl) rfl<|A0 (E7 (cs:=B5 a1) rfl rfl rfl) rfl<|qm rfl<|A0 D6 rfl<|qm rfl<|es (ra3 rfl rfl rfl)<|sg 6 rfl<|A0 (C3 rfl rfl rfl) rfl<|A0 (C3 rfl rfl rfl) rfl<|N9 (as2:=[(.agg (A4 a0)),(.agg (B5 a1))]) (H1:=(H++[(.cells (A4 a0)),(.cells (B5 a1)),.dead,(.cells (A4 a0)),(.cells (B5 a1)),(.cells (A6 (room_plan.mk 0 (Ar5.mk 0 0 0 0 0)))),.dead])) rfl rfl (A2 (D1 rfl) (A2 (D1 rfl) C0)) rfl rfl rfl (S5 rfl)<|sg 7 rfl<|A0 (E7 (cs:=A4 a0) rfl rfl rfl) rfl<|A0 (E7 (cs:=B5 a1) rfl rfl rfl) rfl<|qm rfl<|A0 D6 rfl<|qm rfl<|es (ra3 rfl rfl rfl)<|s0<|A0 (C3 rfl rfl rfl) rfl<|N9 (as2:=[(.agg (A4 a0))]) (H1:=(H++[(.cells (A4 a0)),(.cells (B5 a1)),.dead,(.cells (A4 a0)),(.cells (B5 a1)),(.cells (A6 (room_plan.mk 0 (Ar5.mk 0 0 0 0 0)))),.dead,(.cells (A4 a0)),(.cells (B5 a1)),(.cells (A6 (room_plan.mk 0 (Ar5.mk 0 0 0 0 0))))])) rfl rfl (A2 (D1 rfl) C0) rfl rfl rfl (S5 rfl)<|sg 10 rfl<|A0 (E7 (cs:=A4 a0) rfl rfl rfl) rfl<|qm rfl<|qm rfl<|es (ra1 rfl)<|s0<|oB h fun x1 hx1 h=>A0 (C3 rfl rfl rfl) rfl<|B7 (rs:=[.i x1.1,.i x1.2.1,.i x1.2.2]) rfl rfl (A2 (D1 rfl) C0) ((P4 hx1).frz)<|qm rfl<|A0 (A8 rfl rfl) rfl<|A0 (A8 rfl rfl) rfl<|A0 (A8 rfl rfl) rfl<|qm rfl<|qm rfl<|qm rfl<|es (ra2 rfl rfl)<|sg 11 rfl<|A0 (C3 rfl rfl rfl) rfl<|A0 (F8 (cs:=[.b false,(.fn (.func 112) [] [])]) rfl rfl) rfl<|A0 (F8 (cs:=[.b true,(.fn (.func 113) [] [])]) rfl rfl) rfl<|A0 (A4r (rows:=[[.b false,(.fn (.func 112) [] [])],[.b true,(.fn (.func 113) [] [])]]) rfl rfl) rfl<|A0 (F8 (cs:=[.i a0.Weather.Lo,.i a0.Weather.Hi,.i a0.Stoves,(.seq 1 (List.map cI a0.Holds)),(.seq 4 (List.map B8 a0.Places)),(.seq 6 (List.map B2 a0.Figures)),(.seq 1 (List.map cI a0.Bill)),(.xseq 2 [[.b false,(.fn (.func 112) [] [])],[.b true,(.fn (.func 113) [] [])]])]) rfl rfl) rfl<|A0 (E7 (cs:=[.i a0.Weather.Lo,.i a0.Weather.Hi,.i a0.Stoves,(.seq 1 (List.map cI a0.Holds)),(.seq 4 (List.map B8 a0.Places)),(.seq 6 (List.map B2 a0.Figures)),(.seq 1 (List.map cI a0.Bill)),(.xseq 2 [[.b false,(.fn (.func 112) [] [])],[.b true,(.fn (.func 113) [] [])]])]) rfl rfl rfl) rfl<|qm rfl<|qm rfl<|qm rfl<|es (ra2 rfl rfl)<|C4 ?_
 refine InlQ.mk trivial ⟨_,_,_,[(.ptr (H.length + 11) 0),.i x1.2.2],_,(A9 rfl (A9 rfl B4)),(A3 rfl (A3 rfl B3)),(T7 (M2 (T5 rfl)) (D0 rfl (D0 rfl I4))),?_⟩
 refine qm rfl<|A0 (A8 rfl rfl) rfl<|A0 (A8 rfl rfl) rfl<|qm rfl<|qm rfl<|es (ra5 rfl rfl rfl rfl rfl)<|B9<|C8<|s0<|qm rfl<|A0 (I7 rfl rfl) rfl<|qm rfl<|es (ra6 rfl rfl rfl rfl rfl rfl)<|wi h rfl (fun hc2 h=>?_) fun hc2 h=>?_
 ·refine s0<|A0 (C3 rfl rfl rfl) rfl<|qm rfl<|E8 (C7 (ds:=(A6 (room_plan.mk 0 (Ar5.mk 0 0 0 0 0)))) rfl rfl rfl rfl (B6 rfl) rfl) rfl<|qm rfl<|qm rfl<|es (ra3 rfl rfl rfl)<|C4<|InlQ.mk trivial ⟨_,_,_,[(.lit (.pointer none)),(.agg (A6 (room_plan.mk 0 (Ar5.mk 0 0 0 0 0)))),.i x1.2.2],_,(A9 rfl (F1 (E3 (ds:=A6 (room_plan.mk 0 (Ar5.mk 0 0 0 0 0))) rfl rfl rfl rfl) (A9 rfl B4))),(A3 rfl (A3 (I5 rfl) (A3 rfl B3))),(P3 (A1 A7 (A1 (G5 rfl) (A1 A7 B1))) (D0 rfl (D0 rfl (D0 rfl I4))) (G4 _ _ _)),?_⟩
  refine qm rfl<|A0 (A8 rfl rfl) rfl<|A0 (A8 rfl rfl) rfl<|A0 (A8 rfl rfl) rfl<|A0 D6 rfl<|qm rfl<|E8 (C7 (ds:=(A6 (room_plan.mk 0 (Ar5.mk 0 0 0 0 0)))) rfl rfl rfl rfl (B6 rfl) rfl) rfl<|qm rfl<|es (ra4 rfl rfl rfl rfl)<|B9<|s0<|qm rfl<|A0 (I7 rfl rfl) rfl<|es (ra5 rfl rfl rfl rfl rfl)<|J7 rfl hc2<|s0<|A0 (C3 rfl rfl rfl) rfl<|qm rfl<|E8 (C7 (ds:=(A6 (room_plan.mk 0 (Ar5.mk 0 0 0 0 0)))) rfl rfl rfl rfl (B6 rfl) rfl) rfl<|qm rfl<|qm rfl<|es (ra3 rfl rfl rfl)<|C4<|InlQ.mk trivial ⟨_,_,_,[(.lit (.pointer none)),(.agg (A6 (room_plan.mk 0 (Ar5.mk 0 0 0 0 0)))),.i x1.2.2],_,(A9 rfl (F1 (E3 (ds:=A6 (room_plan.mk 0 (Ar5.mk 0 0 0 0 0))) rfl rfl rfl rfl) (A9 rfl B4))),(A3 rfl (A3 (I5 rfl) (A3 rfl B3))),(P3 (A1 A7 (A1 (G5 rfl) (A1 A7 B1))) (D0 rfl (D0 rfl (D0 rfl I4))) (G4 _ _ _)),?_⟩
  refine qm rfl<|A0 (A8 rfl rfl) rfl<|A0 (A8 rfl rfl) rfl<|A0 (A8 rfl rfl) rfl<|A0 D6 rfl<|qm rfl<|E8 (C7 (ds:=(A6 (room_plan.mk 0 (Ar5.mk 0 0 0 0 0)))) rfl rfl rfl rfl (B6 rfl) rfl) rfl<|qm rfl<|es (ra3 rfl rfl rfl)<|B9<|s0<|qm rfl<|A0 (I7 rfl rfl) rfl<|es (ra4 rfl rfl rfl rfl)<|J7 rfl hc2<|s0<|qm rfl<|qm rfl<|qm rfl<|es (ra2 rfl rfl)<|C4 ?_
  obtain rfl:=os h
  exact retq trivial (A9 rfl (A9 rfl B4)) (A3 rfl (A3 rfl B3)) (A1 A7 (A1 A7 B1))
 ·refine s0<|oB h fun x3 hx3 h=>oB h fun x4 hx4 h=>A0 (C6 rfl) rfl<|A0 (C5 rfl rfl rfl) rfl<|A0 (B2a rfl rfl hx3) rfl<|A0 (W6 rfl rfl) rfl<|A0 (C6 rfl) rfl<|A0 (C5 rfl rfl rfl) rfl<|A0 (L4 (rows:=List.map cI [a1.Lit]) rfl rfl (F2 (fun _=>rfl) _)) rfl<|B7 (rs:=[.b x4]) rfl rfl (A2 rfl (A2 rfl (A2 rfl C0))) ((G7 hx4).frz)<|qm rfl<|es (ra5 rfl rfl rfl rfl rfl)<|wi h rfl (fun hc5 h=>?_) fun hc5 h=>?_
  ·refine s0<|A0 (C3 rfl rfl rfl) rfl<|qm rfl<|E8 (C7 (ds:=(A6 (room_plan.mk 0 (Ar5.mk 0 0 0 0 0)))) rfl rfl rfl rfl (B6 rfl) rfl) rfl<|qm rfl<|es (ra3 rfl rfl rfl)<|C4<|InlQ.mk trivial ⟨_,_,_,[(.lit (.pointer none)),(.agg (A6 (room_plan.mk 0 (Ar5.mk 0 0 0 0 0)))),.i 7],_,(A9 rfl (F1 (E3 (ds:=A6 (room_plan.mk 0 (Ar5.mk 0 0 0 0 0))) rfl rfl rfl rfl) (A9 rfl B4))),(A3 rfl (A3 (I5 rfl) (A3 rfl B3))),(P3 (A1 A7 (A1 (G5 rfl) (A1 A7 B1))) (D0 rfl (D0 rfl (D0 rfl I4))) (G4 _ _ _)),?_⟩
   refine qm rfl<|A0 (A8 rfl rfl) rfl<|A0 (A8 rfl rfl) rfl<|A0 (A8 rfl rfl) rfl<|A0 D6 rfl<|qm rfl<|E8 (C7 (ds:=(A6 (room_plan.mk 0 (Ar5.mk 0 0 0 0 0)))) rfl rfl rfl rfl (B6 rfl) rfl) rfl<|qm rfl<|es (ra4 rfl rfl rfl rfl)<|B9<|s0<|qm rfl<|A0 (G3 (v:=(.b true)) rfl rfl rfl) rfl<|es (ra5 rfl rfl rfl rfl rfl)<|J7 rfl rfl<|s0<|A0 (C3 rfl rfl rfl) rfl<|qm rfl<|E8 (C7 (ds:=(A6 (room_plan.mk 0 (Ar5.mk 0 0 0 0 0)))) rfl rfl rfl rfl (B6 rfl) rfl) rfl<|qm rfl<|qm rfl<|es (ra3 rfl rfl rfl)<|C4<|InlQ.mk trivial ⟨_,_,_,[(.lit (.pointer none)),(.agg (A6 (room_plan.mk 0 (Ar5.mk 0 0 0 0 0)))),.i 7],_,(A9 rfl (F1 (E3 (ds:=A6 (room_plan.mk 0 (Ar5.mk 0 0 0 0 0))) rfl rfl rfl rfl) (A9 rfl B4))),(A3 rfl (A3 (I5 rfl) (A3 rfl B3))),(P3 (A1 A7 (A1 (G5 rfl) (A1 A7 B1))) (D0 rfl (D0 rfl (D0 rfl I4))) (G4 _ _ _)),?_⟩
   refine qm rfl<|A0 (A8 rfl rfl) rfl<|A0 (A8 rfl rfl) rfl<|A0 (A8 rfl rfl) rfl<|A0 D6 rfl<|qm rfl<|E8 (C7 (ds:=(A6 (room_plan.mk 0 (Ar5.mk 0 0 0 0 0)))) rfl rfl rfl rfl (B6 rfl) rfl) rfl<|qm rfl<|es (ra3 rfl rfl rfl)<|B9<|s0<|qm rfl<|A0 (G3 (v:=(.b true)) rfl rfl rfl) rfl<|es (ra4 rfl rfl rfl rfl)<|J7 rfl rfl<|s0<|qm rfl<|qm rfl<|qm rfl<|es (ra2 rfl rfl)<|C4 ?_
   obtain rfl:=os h
   exact retq trivial (A9 rfl (A9 rfl B4)) (A3 rfl (A3 rfl B3)) (A1 A7 (A1 A7 B1))
  ·refine s0<|A0 (C6 rfl) rfl<|A0 (C5 rfl rfl rfl) rfl<|A0 (E0 (f:=cI) rfl) rfl<|A0 (C6 rfl) rfl<|A0 (C5 rfl rfl rfl) rfl<|A0 (E0 (f:=B2) rfl) rfl<|A0 (I7 rfl rfl) rfl<|qm rfl<|es (ra5 rfl rfl rfl rfl rfl)<|wi h rfl (fun hc6 h=>?_) fun hc6 h=>?_
   ·refine s0<|A0 (C3 rfl rfl rfl) rfl<|qm rfl<|E8 (C7 (ds:=(A6 (room_plan.mk 0 (Ar5.mk 0 0 0 0 0)))) rfl rfl rfl rfl (B6 rfl) rfl) rfl<|qm rfl<|es (ra3 rfl rfl rfl)<|C4<|InlQ.mk trivial ⟨_,_,_,[(.lit (.pointer none)),(.agg (A6 (room_plan.mk 0 (Ar5.mk 0 0 0 0 0)))),.i 3],_,(A9 rfl (F1 (E3 (ds:=A6 (room_plan.mk 0 (Ar5.mk 0 0 0 0 0))) rfl rfl rfl rfl) (A9 rfl B4))),(A3 rfl (A3 (I5 rfl) (A3 rfl B3))),(P3 (A1 A7 (A1 (G5 rfl) (A1 A7 B1))) (D0 rfl (D0 rfl (D0 rfl I4))) (G4 _ _ _)),?_⟩
    refine qm rfl<|A0 (A8 rfl rfl) rfl<|A0 (A8 rfl rfl) rfl<|A0 (A8 rfl rfl) rfl<|A0 D6 rfl<|qm rfl<|E8 (C7 (ds:=(A6 (room_plan.mk 0 (Ar5.mk 0 0 0 0 0)))) rfl rfl rfl rfl (B6 rfl) rfl) rfl<|qm rfl<|es (ra4 rfl rfl rfl rfl)<|B9<|s0<|qm rfl<|A0 (G3 (v:=(.b true)) rfl rfl rfl) rfl<|es (ra5 rfl rfl rfl rfl rfl)<|J7 rfl rfl<|s0<|A0 (C3 rfl rfl rfl) rfl<|qm rfl<|E8 (C7 (ds:=(A6 (room_plan.mk 0 (Ar5.mk 0 0 0 0 0)))) rfl rfl rfl rfl (B6 rfl) rfl) rfl<|qm rfl<|qm rfl<|es (ra3 rfl rfl rfl)<|C4<|InlQ.mk trivial ⟨_,_,_,[(.lit (.pointer none)),(.agg (A6 (room_plan.mk 0 (Ar5.mk 0 0 0 0 0)))),.i 3],_,(A9 rfl (F1 (E3 (ds:=A6 (room_plan.mk 0 (Ar5.mk 0 0 0 0 0))) rfl rfl rfl rfl) (A9 rfl B4))),(A3 rfl (A3 (I5 rfl) (A3 rfl B3))),(P3 (A1 A7 (A1 (G5 rfl) (A1 A7 B1))) (D0 rfl (D0 rfl (D0 rfl I4))) (G4 _ _ _)),?_⟩
    refine qm rfl<|A0 (A8 rfl rfl) rfl<|A0 (A8 rfl rfl) rfl<|A0 (A8 rfl rfl) rfl<|A0 D6 rfl<|qm rfl<|E8 (C7 (ds:=(A6 (room_plan.mk 0 (Ar5.mk 0 0 0 0 0)))) rfl rfl rfl rfl (B6 rfl) rfl) rfl<|qm rfl<|es (ra3 rfl rfl rfl)<|B9<|s0<|qm rfl<|A0 (G3 (v:=(.b true)) rfl rfl rfl) rfl<|es (ra4 rfl rfl rfl rfl)<|J7 rfl rfl<|s0<|qm rfl<|qm rfl<|qm rfl<|es (ra2 rfl rfl)<|C4 ?_
    obtain rfl:=os h
    exact retq trivial (A9 rfl (A9 rfl B4)) (A3 rfl (A3 rfl B3)) (A1 A7 (A1 A7 B1))
   ·refine s0<|oB h fun x7 hx7 h=>A0 (C6 rfl) rfl<|A0 (C5 rfl rfl rfl) rfl<|A0 (E0 (f:=B8) rfl) rfl<|A0 (W6 rfl rfl) rfl<|A0 (C6 rfl) rfl<|A0 (C5 rfl rfl rfl) rfl<|B7 (rs:=[.b x7]) rfl rfl (A2 rfl (A2 rfl (A2 rfl C0))) ((G7 hx7).frz)<|qm rfl<|es (ra4 rfl rfl rfl rfl)<|wi h rfl (fun hc8 h=>?_) fun hc8 h=>?_
    ·refine s0<|A0 (C3 rfl rfl rfl) rfl<|qm rfl<|E8 (C7 (ds:=(A6 (room_plan.mk 0 (Ar5.mk 0 0 0 0 0)))) rfl rfl rfl rfl (B6 rfl) rfl) rfl<|qm rfl<|es (ra3 rfl rfl rfl)<|C4<|InlQ.mk trivial ⟨_,_,_,[(.lit (.pointer none)),(.agg (A6 (room_plan.mk 0 (Ar5.mk 0 0 0 0 0)))),.i 4],_,(A9 rfl (F1 (E3 (ds:=A6 (room_plan.mk 0 (Ar5.mk 0 0 0 0 0))) rfl rfl rfl rfl) (A9 rfl B4))),(A3 rfl (A3 (I5 rfl) (A3 rfl B3))),(P3 (A1 A7 (A1 (G5 rfl) (A1 A7 B1))) (D0 rfl (D0 rfl (D0 rfl I4))) (G4 _ _ _)),?_⟩
     refine qm rfl<|A0 (A8 rfl rfl) rfl<|A0 (A8 rfl rfl) rfl<|A0 (A8 rfl rfl) rfl<|A0 D6 rfl<|qm rfl<|E8 (C7 (ds:=(A6 (room_plan.mk 0 (Ar5.mk 0 0 0 0 0)))) rfl rfl rfl rfl (B6 rfl) rfl) rfl<|qm rfl<|es (ra4 rfl rfl rfl rfl)<|B9<|s0<|qm rfl<|A0 (G3 (v:=(.b true)) rfl rfl rfl) rfl<|es (ra5 rfl rfl rfl rfl rfl)<|J7 rfl rfl<|s0<|A0 (C3 rfl rfl rfl) rfl<|qm rfl<|E8 (C7 (ds:=(A6 (room_plan.mk 0 (Ar5.mk 0 0 0 0 0)))) rfl rfl rfl rfl (B6 rfl) rfl) rfl<|qm rfl<|qm rfl<|es (ra3 rfl rfl rfl)<|C4<|InlQ.mk trivial ⟨_,_,_,[(.lit (.pointer none)),(.agg (A6 (room_plan.mk 0 (Ar5.mk 0 0 0 0 0)))),.i 4],_,(A9 rfl (F1 (E3 (ds:=A6 (room_plan.mk 0 (Ar5.mk 0 0 0 0 0))) rfl rfl rfl rfl) (A9 rfl B4))),(A3 rfl (A3 (I5 rfl) (A3 rfl B3))),(P3 (A1 A7 (A1 (G5 rfl) (A1 A7 B1))) (D0 rfl (D0 rfl (D0 rfl I4))) (G4 _ _ _)),?_⟩
     refine qm rfl<|A0 (A8 rfl rfl) rfl<|A0 (A8 rfl rfl) rfl<|A0 (A8 rfl rfl) rfl<|A0 D6 rfl<|qm rfl<|E8 (C7 (ds:=(A6 (room_plan.mk 0 (Ar5.mk 0 0 0 0 0)))) rfl rfl rfl rfl (B6 rfl) rfl) rfl<|qm rfl<|es (ra3 rfl rfl rfl)<|B9<|s0<|qm rfl<|A0 (G3 (v:=(.b true)) rfl rfl rfl) rfl<|es (ra4 rfl rfl rfl rfl)<|J7 rfl rfl<|s0<|qm rfl<|qm rfl<|qm rfl<|es (ra2 rfl rfl)<|C4 ?_
     obtain rfl:=os h
     exact retq trivial (A9 rfl (A9 rfl B4)) (A3 rfl (A3 rfl B3)) (A1 A7 (A1 A7 B1))
    ·refine C2<|s0<|A0 (C6 rfl) rfl<|A0 (C5 rfl rfl rfl) rfl<|A0 (C6 rfl) rfl<|E8 (C7 (ds:=(A6 (room_plan.mk a1.Lit (Ar5.mk 0 0 0 0 0)))) rfl rfl rfl rfl (B6 rfl) rfl) rfl<|es (ra3 rfl rfl rfl)<|B9<|s0<|A0 (C6 rfl) rfl<|A0 (C5 rfl rfl rfl) rfl<|A0 (E0 (f:=cI) rfl) rfl<|qm rfl<|es (ra6 rfl rfl rfl rfl rfl rfl)<|C8<|oB h fun o19 ho19 h=>wl (fun s9=>[(3,(.ptr (H.length + 8) 0)),(4,(.ptr (H.length + 11) 0)),(5,(.ptr (H.length + 9) 0)),(51,(.seq 1 (List.map cI a1.At))),(52,(.i (List.length a1.At:Int))),(53,.i s9.1)]) (fun (q10:Unit) s9=>[(.cells (A4 a0)),(.cells (B5 a1)),.dead,(.cells (A4 a0)),(.cells (B5 a1)),(.cells (A6 (room_plan.mk 0 (Ar5.mk 0 0 0 0 0)))),.dead,(.cells (A4 a0)),(.cells (B5 a1)),(.cells (A6 s9.2)),(.cells (A4 a0)),(.cells [.i a0.Weather.Lo,.i a0.Weather.Hi,.i a0.Stoves,(.seq 1 (List.map cI a0.Holds)),(.seq 4 (List.map B8 a0.Places)),(.seq 6 (List.map B2 a0.Figures)),(.seq 1 (List.map cI a0.Bill)),(.xseq 2 [[.b false,(.fn (.func 112) [] [])],[.b true,(.fn (.func 113) [] [])]])])]) 12 (fun r e s' H'=>(match r with | (.inl v)=>PX 1 [(4,(.ptr (H.length + 11) 0)),(5,(.ptr (H.length + 9) 0))] (H++[(.cells (A4 a0)),(.cells (B5 a1)),.dead,(.cells (A4 a0)),(.cells (B5 a1)),(.cells (A6 (room_plan.mk 0 (Ar5.mk 0 0 0 0 0)))),.dead,(.cells (A4 a0)),(.cells (B5 a1)),(.cells (A6 v)),(.cells (A4 a0)),(.cells [.i a0.Weather.Lo,.i a0.Weather.Hi,.i a0.Stoves,(.seq 1 (List.map cI a0.Holds)),(.seq 4 (List.map B8 a0.Places)),(.seq 6 (List.map B2 a0.Figures)),(.seq 1 (List.map cI a0.Bill)),(.xseq 2 [[.b false,(.fn (.func 112) [] [])],[.b true,(.fn (.func 113) [] [])]])])]) e s' H' | (.inr v)=>e = .ret∧s' = [(4,(.lit (.pointer none))),(5,(.ptr (H.length + 9) 0)),(6,.i 5)]∧H' = (H++[(.cells (A4 a0)),(.cells (B5 a1)),.dead,(.cells (A4 a0)),(.cells (B5 a1)),(.cells (A6 (room_plan.mk 0 (Ar5.mk 0 0 0 0 0)))),.dead,(.cells (A4 a0)),(.cells (B5 a1)),(.cells (A6 (room_plan.mk 0 (Ar5.mk 0 0 0 0 0)))),(.cells (A4 a0)),(.cells [.i a0.Weather.Lo,.i a0.Weather.Hi,.i a0.Stoves,(.seq 1 (List.map cI a0.Holds)),(.seq 4 (List.map B8 a0.Places)),(.seq 6 (List.map B2 a0.Figures)),(.seq 1 (List.map cI a0.Bill)),(.xseq 2 [[.b false,(.fn (.func 112) [] [])],[.b true,(.fn (.func 113) [] [])]])])]):Prop)) () ho19 rfl rfl (fun _ _=>rfl) (fun _=>rfl) rfl (fun s9=>(bdc (E2 rfl) (bdc (E2 rfl) (bdc (E2 rfl) (bdc M4 (bdc A7 (bdc A7 bdn))))))) (fun q10 s9 ys9 hs9=>?_) ?_
     ·unfold B0p at hs9
      refine s0<|A0 (I6 rfl rfl) rfl<|es (ra7 rfl rfl rfl rfl rfl rfl rfl)<|B9<|wi hs9 rfl (fun hc11 hs9=>?_) fun hc11 hs9=>?_
      ·refine C2<|B9<|C8<|s0<|oB hs9 fun x12 hx12 hs9=>qm rfl<|A0 (F4 (f:=cI) rfl rfl hx12) rfl<|A0 (F6 rfl rfl) rfl<|qm rfl<|qm rfl<|es (ra8 rfl rfl rfl rfl rfl rfl rfl rfl)<|B9<|s0<|oB hs9 fun x16 hx16 hs9=>qm rfl<|A0 (I7 rfl rfl) rfl<|qm rfl<|gp 7 67 (.b x16) 60 rfl rfl (fun hg13=>?_) (fun hg13=>?_) ?_
       ·refine oB (bt hx16 hg13) fun x14 hx14 hx16=>oB hx16 fun x15 hx15 hx16=>?_
        obtain rfl:=os hx16
        exact gT rfl hg13<|A0 (C6 rfl) rfl<|gT rfl hg13<|A0 (C5 rfl rfl rfl) rfl<|gT rfl hg13<|qm rfl<|gT rfl hg13<|A0 (A63 (f:=cI) rfl rfl rfl hx14) rfl<|gT rfl hg13<|qm rfl<|gT rfl hg13<|B7 (rs:=[.b x15]) rfl rfl (A2 rfl (A2 rfl C0)) ((V3 hx15).frz)<|A0 (D2 rfl hg13 rfl) rfl<|ge 7 rfl rfl rfl
       ·obtain rfl:=os (bf hx16 hg13)
        exact nT rfl hg13 rfl<|nT rfl hg13 rfl<|nT rfl hg13 rfl<|nT rfl hg13 rfl<|nT rfl hg13 rfl<|L5 (F3 rfl (by rw [hg13]; rfl)) rfl<|A0 (D3 rfl hg13 rfl) rfl<|ge 7 rfl rfl rfl
       refine es (ra9 rfl rfl rfl rfl rfl rfl rfl rfl rfl)<|wi hs9 rfl (fun hc17 hs9=>?_) fun hc17 hs9=>?_
       ·refine s0<|A0 (F8 (cs:=A6 (room_plan.mk 0 (Ar5.mk 0 0 0 0 0))) rfl rfl) rfl<|qm rfl<|E8 (C7 (ds:=(A6 (room_plan.mk 0 (Ar5.mk 0 0 0 0 0)))) rfl rfl rfl rfl (B6 rfl) rfl) rfl<|qm rfl<|es (ra3 rfl rfl rfl)<|C4 ?_
        obtain rfl:=os hs9
        exact lx rfl (And.intro rfl (And.intro rfl rfl)) (su3 rfl rfl rfl)
       ·refine C2<|r0<|oB hs9 fun x18 hx18 hs9=>qm rfl<|qm rfl<|A0 (E6 rfl rfl) rfl<|A0 (C6 rfl) rfl<|A0 (A1s (e:=Ar5.l s9.2.at_) rfl rfl rfl hx18) rfl<|E8 (A64 (f:=cI) (e:=Ar5.l s9.2.at_) (e2:=Ar5.l (Ar5.set s9.2.at_ s9.1 (w64 (x12 + 1)))) (z:=(w64 (x12 + 1))) (ds:=(A6 (room_plan.mk s9.2.lit_ (Ar5.set s9.2.at_ s9.1 (w64 (x12 + 1)))))) rfl rfl rfl rfl rfl rfl (fun _=>rfl) hx18 (Ar5.set_l hx18) rfl (B6 rfl)) rfl<|en (ra6 rfl rfl rfl rfl rfl rfl)<|r0<|A0 (E6 rfl rfl) rfl<|qm rfl<|en (ra6 rfl rfl rfl rfl rfl rfl) ?_
        cases hs9
        exact lnT () rfl (su6 rfl rfl rfl rfl rfl rfl)
      ·refine F5 ?_
       obtain rfl:=os hs9
       exact lx rfl px (su2 rfl rfl)
     ·rcases o19 with vo19_0 | vo19_1
      ·rintro e s' H' - ⟨rfl,rfl,rfl⟩
       refine s0<|qm rfl<|A0 (C3 rfl rfl rfl) rfl<|qm rfl<|E8 (C7 (ds:=(A6 vo19_0)) rfl rfl rfl rfl (B6 rfl) rfl) rfl<|qm rfl<|es (ra3 rfl rfl rfl)<|C4<|InlQ.mk trivial ⟨_,_,_,[(.ptr (H.length + 11) 0),(.agg (A6 vo19_0)),.i 0],_,(A9 rfl (F1 (E3 (ds:=A6 vo19_0) rfl rfl rfl rfl) (A9 rfl B4))),(A3 rfl (A3 (I5 rfl) (A3 rfl B3))),(T7 (M2 (T5 rfl)) (D0 rfl (D0 rfl (D0 rfl I4)))),?_⟩
       refine qm rfl<|A0 (A8 rfl rfl) rfl<|A0 (A8 rfl rfl) rfl<|A0 (A8 rfl rfl) rfl<|A0 D6 rfl<|qm rfl<|E8 (C7 (ds:=(A6 vo19_0)) rfl rfl rfl rfl (B6 rfl) rfl) rfl<|qm rfl<|es (ra4 rfl rfl rfl rfl)<|B9<|s0<|qm rfl<|A0 (G3 (v:=(.b false)) rfl rfl rfl) rfl<|es (ra5 rfl rfl rfl rfl rfl)<|A03 rfl rfl<|C2<|B9<|s0<|A0 (C6 rfl) rfl<|A0 (E3 (ds:=(L9 cI) vo19_0.at_) rfl rfl rfl rfl) rfl<|qm rfl<|es (ra5 rfl rfl rfl rfl rfl)<|C8<|oB h fun o28 ho28 h=>wl (fun s20=>[(5,(.ptr (H.length + 5) 0)),(7,(.ptr (H.length + 11) 0)),(8,(.ptr (H.length + 6) 0)),(24,(.agg ((L9 cI) vo19_0.at_))),(25,.i s20)]) (fun (q21:Unit) s20=>[(.cells (A4 a0)),(.cells (B5 a1)),.dead,(.cells (A4 a0)),(.cells (B5 a1)),(.cells (A6 (room_plan.mk 0 (Ar5.mk 0 0 0 0 0)))),(.cells (A6 vo19_0)),(.cells (A4 a0)),(.cells (B5 a1)),(.cells (A6 vo19_0)),(.cells (A4 a0)),(.cells [.i a0.Weather.Lo,.i a0.Weather.Hi,.i a0.Stoves,(.seq 1 (List.map cI a0.Holds)),(.seq 4 (List.map B8 a0.Places)),(.seq 6 (List.map B2 a0.Figures)),(.seq 1 (List.map cI a0.Bill)),(.xseq 2 [[.b false,(.fn (.func 112) [] [])],[.b true,(.fn (.func 113) [] [])]])])]) 12 (fun r e s' H'=>(match r with | (.inl v)=>PX 0 [(5,(.ptr (H.length + 5) 0)),(7,(.ptr (H.length + 11) 0)),(8,(.ptr (H.length + 6) 0))] (H++[(.cells (A4 a0)),(.cells (B5 a1)),.dead,(.cells (A4 a0)),(.cells (B5 a1)),(.cells (A6 (room_plan.mk 0 (Ar5.mk 0 0 0 0 0)))),(.cells (A6 vo19_0)),(.cells (A4 a0)),(.cells (B5 a1)),(.cells (A6 vo19_0)),(.cells (A4 a0)),(.cells [.i a0.Weather.Lo,.i a0.Weather.Hi,.i a0.Stoves,(.seq 1 (List.map cI a0.Holds)),(.seq 4 (List.map B8 a0.Places)),(.seq 6 (List.map B2 a0.Figures)),(.seq 1 (List.map cI a0.Bill)),(.xseq 2 [[.b false,(.fn (.func 112) [] [])],[.b true,(.fn (.func 113) [] [])]])])]) e s' H' | (.inr v)=>e = .ret∧s' = [(4,(.lit (.pointer none))),(5,(.ptr (H.length + 5) 0)),(6,.i 9)]∧H' = (H++[(.cells (A4 a0)),(.cells (B5 a1)),.dead,(.cells (A4 a0)),(.cells (B5 a1)),(.cells (A6 vo19_0)),(.cells (A6 vo19_0)),(.cells (A4 a0)),(.cells (B5 a1)),(.cells (A6 vo19_0)),(.cells (A4 a0)),(.cells [.i a0.Weather.Lo,.i a0.Weather.Hi,.i a0.Stoves,(.seq 1 (List.map cI a0.Holds)),(.seq 4 (List.map B8 a0.Places)),(.seq 6 (List.map B2 a0.Figures)),(.seq 1 (List.map cI a0.Bill)),(.xseq 2 [[.b false,(.fn (.func 112) [] [])],[.b true,(.fn (.func 113) [] [])]])])]):Prop)) () ho28 rfl rfl (fun _ _=>rfl) (fun _=>rfl) rfl (fun s20=>(bdc (E2 rfl) (bdc (E2 rfl) (bdc (E2 rfl) (bdc (G5 rfl) (bdc A7 bdn)))))) (fun q21 s20 ys20 hs20=>?_) ?_
       ·unfold Y0 at hs20
        refine s0<|A0 (I6 rfl rfl) rfl<|es (ra6 rfl rfl rfl rfl rfl rfl)<|B9<|wi hs20 rfl (fun hc22 hs20=>?_) fun hc22 hs20=>?_
        ·refine C2<|B9<|C8<|s0<|oB hs20 fun x23 hx23 hs20=>qm rfl<|A0 (A35 (f:=cI) (g:=fun n=>(.i n)) (e:=Ar5.l vo19_0.at_) (fun _=>rfl) rfl rfl rfl rfl hx23) rfl<|qm rfl<|qm rfl<|es (ra7 rfl rfl rfl rfl rfl rfl rfl)<|s0<|oB hs20 fun x26 hx26 hs20=>qm rfl<|A0 (A00 rfl rfl) rfl<|qm rfl<|gp 9 40 (.b x26) 31 rfl rfl (fun hg24=>?_) (fun hg24=>?_) ?_
         ·refine oB (bt hx26 hg24) fun x25 hx25 hx26=>?_
          obtain rfl:=os hx26
          exact gT rfl hg24<|qm rfl<|gT rfl hg24<|qm rfl<|gT rfl hg24<|qm rfl<|gT rfl hg24<|A0 (W6 rfl rfl) rfl<|gT rfl hg24<|A0 (C6 rfl) rfl<|gT rfl hg24<|A0 (C5 rfl rfl rfl) rfl<|gT rfl hg24<|B7 (rs:=[.i x25]) rfl rfl (A2 rfl (A2 rfl (A2 rfl (A2 rfl C0)))) ((V2 (D7 rfl) hx25).frz)<|gT rfl hg24<|A0 (I7 rfl rfl) rfl<|A0 (D2 rfl hg24 rfl) rfl<|ge 9 rfl rfl rfl
         ·obtain rfl:=os (bf hx26 hg24)
          exact nT rfl hg24 rfl<|nT rfl hg24 rfl<|nT rfl hg24 rfl<|nT rfl hg24 rfl<|nT rfl hg24 rfl<|nT rfl hg24 rfl<|L5 (F3 rfl (by rw [hg24]; rfl)) rfl<|nT rfl hg24 rfl<|A0 (D3 rfl hg24 rfl) rfl<|ge 9 rfl rfl rfl
         refine es (ra6 rfl rfl rfl rfl rfl rfl)<|wi hs20 rfl (fun hc27 hs20=>?_) fun hc27 hs20=>?_
         ·refine s0<|A0 (C3 rfl rfl rfl) rfl<|qm rfl<|E8 (C7 (ds:=(A6 vo19_0)) rfl rfl rfl rfl (B6 rfl) rfl) rfl<|qm rfl<|es (ra3 rfl rfl rfl)<|C4 ?_
          obtain rfl:=os hs20
          exact lx rfl (And.intro rfl (And.intro rfl rfl)) (su3 rfl rfl rfl)
         ·refine C2<|r0<|A0 (E6 rfl rfl) rfl<|qm rfl<|en (ra5 rfl rfl rfl rfl rfl) ?_
          cases hs20
          exact lnT () rfl (su5 rfl rfl rfl rfl rfl)
        ·refine F5 ?_
         obtain rfl:=os hs20
         exact lx rfl px (su3 rfl rfl rfl)
       ·rcases o28 with vo28_0 | vo28_1
        ·rintro e s' H' - ⟨rfl,rfl,rfl⟩
         refine B9<|s0<|oB h fun x29 hx29 h=>qm rfl<|A0 (C6 rfl) rfl<|A0 (E3 (ds:=(L9 cI) vo19_0.at_) rfl rfl rfl rfl) rfl<|B7 (rs:=[.b x29]) rfl rfl (A2 rfl (A2 (D1 rfl) (A2 rfl C0))) ((Q9 (D7 rfl) hx29).frz)<|A0 (U5 rfl) rfl<|es (ra4 rfl rfl rfl rfl)<|wi h rfl (fun hc30 h=>?_) fun hc30 h=>?_
         ·refine s0<|A0 (C3 rfl rfl rfl) rfl<|qm rfl<|E8 (C7 (ds:=(A6 vo19_0)) rfl rfl rfl rfl (B6 rfl) rfl) rfl<|qm rfl<|es (ra3 rfl rfl rfl)<|C4<|InlQ.mk trivial ⟨_,_,_,[(.lit (.pointer none)),(.agg (A6 vo19_0)),.i 9],_,(A9 rfl (F1 (E3 (ds:=A6 vo19_0) rfl rfl rfl rfl) (A9 rfl B4))),(A3 rfl (A3 (I5 rfl) (A3 rfl B3))),(P3 (A1 A7 (A1 (G5 rfl) (A1 A7 B1))) (D0 rfl (D0 rfl (D0 rfl I4))) (G4 _ _ _)),?_⟩
          refine qm rfl<|A0 (A8 rfl rfl) rfl<|A0 (A8 rfl rfl) rfl<|A0 (A8 rfl rfl) rfl<|A0 D6 rfl<|qm rfl<|E8 (C7 (ds:=(A6 vo19_0)) rfl rfl rfl rfl (B6 rfl) rfl) rfl<|qm rfl<|es (ra3 rfl rfl rfl)<|B9<|s0<|qm rfl<|A0 (G3 (v:=(.b true)) rfl rfl rfl) rfl<|es (ra4 rfl rfl rfl rfl)<|J7 rfl rfl<|s0<|qm rfl<|qm rfl<|qm rfl<|es (ra2 rfl rfl)<|C4 ?_
          obtain rfl:=os h
          exact retq trivial (A9 rfl (A9 rfl B4)) (A3 rfl (A3 rfl B3)) (A1 A7 (A1 A7 B1))
         ·refine C2<|s0<|qm rfl<|A0 (C3 rfl rfl rfl) rfl<|qm rfl<|E8 (C7 (ds:=(A6 vo19_0)) rfl rfl rfl rfl (B6 rfl) rfl) rfl<|qm rfl<|es (ra3 rfl rfl rfl)<|C4<|InlQ.mk trivial ⟨_,_,_,[(.ptr (H.length + 11) 0),(.agg (A6 vo19_0)),.i 0],_,(A9 rfl (F1 (E3 (ds:=A6 vo19_0) rfl rfl rfl rfl) (A9 rfl B4))),(A3 rfl (A3 (I5 rfl) (A3 rfl B3))),(T7 (M2 (T5 rfl)) (D0 rfl (D0 rfl (D0 rfl I4)))),?_⟩
          refine qm rfl<|A0 (A8 rfl rfl) rfl<|A0 (A8 rfl rfl) rfl<|A0 (A8 rfl rfl) rfl<|A0 D6 rfl<|qm rfl<|E8 (C7 (ds:=(A6 vo19_0)) rfl rfl rfl rfl (B6 rfl) rfl) rfl<|qm rfl<|es (ra3 rfl rfl rfl)<|B9<|s0<|qm rfl<|A0 (G3 (v:=(.b false)) rfl rfl rfl) rfl<|es (ra4 rfl rfl rfl rfl)<|A03 rfl rfl<|C2<|s0<|oB h fun x31 hx31 h=>qm rfl<|A0 (C6 rfl) rfl<|A0 (E3 (ds:=(L9 cI) vo19_0.at_) rfl rfl rfl rfl) rfl<|B7 (rs:=[.i x31]) rfl rfl (A2 rfl (A2 (D1 rfl) C0)) ((A4q (D7 rfl) hx31).frz)<|qm rfl<|qm rfl<|es (ra2 rfl rfl)<|C4 ?_
          obtain rfl:=os h
          exact retq trivial (A9 rfl (A9 rfl B4)) (A3 rfl (A3 rfl B3)) (A1 A7 (A1 A7 B1))
        ·rintro e s' H' - ⟨rfl,rfl,rfl⟩
         refine InlQ.mk trivial ⟨_,_,_,[(.lit (.pointer none)),(.agg (A6 vo19_0)),.i 9],_,(A9 rfl (F1 (E3 (ds:=A6 vo19_0) rfl rfl rfl rfl) (A9 rfl B4))),(A3 rfl (A3 (I5 rfl) (A3 rfl B3))),(P3 (A1 A7 (A1 (G5 rfl) (A1 A7 B1))) (D0 rfl (D0 rfl (D0 rfl I4))) (G4 _ _ _)),?_⟩
         refine qm rfl<|A0 (A8 rfl rfl) rfl<|A0 (A8 rfl rfl) rfl<|A0 (A8 rfl rfl) rfl<|A0 D6 rfl<|qm rfl<|E8 (C7 (ds:=(A6 vo19_0)) rfl rfl rfl rfl (B6 rfl) rfl) rfl<|qm rfl<|es (ra3 rfl rfl rfl)<|B9<|s0<|qm rfl<|A0 (G3 (v:=(.b true)) rfl rfl rfl) rfl<|es (ra4 rfl rfl rfl rfl)<|J7 rfl rfl<|s0<|qm rfl<|qm rfl<|qm rfl<|es (ra2 rfl rfl)<|C4 ?_
         obtain rfl:=os h
         exact retq trivial (A9 rfl (A9 rfl B4)) (A3 rfl (A3 rfl B3)) (A1 A7 (A1 A7 B1))
      ·rintro e s' H' - ⟨rfl,rfl,rfl⟩
       refine InlQ.mk trivial ⟨_,_,_,[(.lit (.pointer none)),(.agg (A6 (room_plan.mk 0 (Ar5.mk 0 0 0 0 0)))),.i 5],_,(A9 rfl (F1 (E3 (ds:=A6 (room_plan.mk 0 (Ar5.mk 0 0 0 0 0))) rfl rfl rfl rfl) (A9 rfl B4))),(A3 rfl (A3 (I5 rfl) (A3 rfl B3))),(P3 (A1 A7 (A1 (G5 rfl) (A1 A7 B1))) (D0 rfl (D0 rfl (D0 rfl I4))) (G4 _ _ _)),?_⟩
       refine qm rfl<|A0 (A8 rfl rfl) rfl<|A0 (A8 rfl rfl) rfl<|A0 (A8 rfl rfl) rfl<|A0 D6 rfl<|qm rfl<|E8 (C7 (ds:=(A6 (room_plan.mk 0 (Ar5.mk 0 0 0 0 0)))) rfl rfl rfl rfl (B6 rfl) rfl) rfl<|qm rfl<|es (ra4 rfl rfl rfl rfl)<|B9<|s0<|qm rfl<|A0 (G3 (v:=(.b true)) rfl rfl rfl) rfl<|es (ra5 rfl rfl rfl rfl rfl)<|J7 rfl rfl<|s0<|A0 (C3 rfl rfl rfl) rfl<|qm rfl<|E8 (C7 (ds:=(A6 (room_plan.mk 0 (Ar5.mk 0 0 0 0 0)))) rfl rfl rfl rfl (B6 rfl) rfl) rfl<|qm rfl<|qm rfl<|es (ra3 rfl rfl rfl)<|C4<|InlQ.mk trivial ⟨_,_,_,[(.lit (.pointer none)),(.agg (A6 (room_plan.mk 0 (Ar5.mk 0 0 0 0 0)))),.i 5],_,(A9 rfl (F1 (E3 (ds:=A6 (room_plan.mk 0 (Ar5.mk 0 0 0 0 0))) rfl rfl rfl rfl) (A9 rfl B4))),(A3 rfl (A3 (I5 rfl) (A3 rfl B3))),(P3 (A1 A7 (A1 (G5 rfl) (A1 A7 B1))) (D0 rfl (D0 rfl (D0 rfl I4))) (G4 _ _ _)),?_⟩
       refine qm rfl<|A0 (A8 rfl rfl) rfl<|A0 (A8 rfl rfl) rfl<|A0 (A8 rfl rfl) rfl<|A0 D6 rfl<|qm rfl<|E8 (C7 (ds:=(A6 (room_plan.mk 0 (Ar5.mk 0 0 0 0 0)))) rfl rfl rfl rfl (B6 rfl) rfl) rfl<|qm rfl<|es (ra3 rfl rfl rfl)<|B9<|s0<|qm rfl<|A0 (G3 (v:=(.b true)) rfl rfl rfl) rfl<|es (ra4 rfl rfl rfl rfl)<|J7 rfl rfl<|s0<|qm rfl<|qm rfl<|qm rfl<|es (ra2 rfl rfl)<|C4 ?_
       obtain rfl:=os h
       exact retq trivial (A9 rfl (A9 rfl B4)) (A3 rfl (A3 rfl B3)) (A1 A7 (A1 A7 B1))
def A3h  (x2:room_plan) (s3:Unit):Option (Unit ⊕ Unit) :=
 some (.inr ())
def A5q (a0:room_house):Option Bool :=
 (B2l a0 Unit Unit A3h ()).bind fun (o4:(Unit ⊕ Unit)) =>
 match o4 with
 | (.inl vo4_5) =>
  some false
 | (.inr vo4_6) =>
  some true
theorem B2h {c:Sc} {H:A5} (hscv:A0a c H = true) (hcl:clH H.length H = true) {a0:room_house} {b0:Nat} (hb0:hcells H b0 = some [.i a0.RoHouse.Weather.Lo,.i a0.RoHouse.Weather.Hi,.i a0.RoHouse.Stoves,(.seq 1 (List.map cI a0.RoHouse.Holds)),(.seq 4 (List.map B8 a0.RoHouse.Places)),(.seq 6 (List.map B2 a0.RoHouse.Figures)),(.seq 1 (List.map cI a0.RoHouse.Bill)),(.xseq 2 [[.b false,(.fn (.func 112) [] [])],[.b true,(.fn (.func 113) [] [])]])]) {r:Bool} (h:A5q a0 = some r) :
  E5 tab c H (.fn (.func 97) [] []) [.ptr b0 0] [.b r]:= by
 unfold A5q at h
 refine cE rfl rfl<|sg 0 rfl<|A0 D6 rfl<|es (ra2 rfl rfl)<|B9<|s0<|qm rfl<|N9 (as2:=[.ptr b0 0]) (H1:=(H++[(.cells (cB false))])) rfl rfl (A2 rfl C0) rfl rfl rfl (S5 rfl)<|sg 1 rfl<|A0 (E7 (cs:=[.ptr b0 0]) rfl rfl rfl) rfl<|qm rfl<|es (ra1 rfl)<|s0<|A0 (A4h rfl rfl) rfl<|qm rfl<|es (ra1 rfl)<|C4<|InlQ.mk trivial ⟨_,_,_,[(.fn (.func 116) [] [(.ptr (H.length + 1) 0)])],_,(A9 rfl B4),(A3 rfl B3),(T7 (M2 (B5r (M2 (T5 rfl)))) (D0 rfl I4)),?_⟩
 refine es (ra2 rfl rfl)<|C8<|oB h fun o4 ho4 h=>?_
 have hb0_lt:=A1l hb0
 refine C05 (σ:=Unit) (ρ:=Unit) (k:=2) (ea:=(fun (x2:room_plan)=>(.agg (A6 x2)))) (body:=A3h) (pre:=fun H1=>hcells H1 (H.length + 1) = some [.ptr b0 0]∧hcells H1 b0 = some (B3m a0)) (B66 (t:=a0) (b1:=H.length + 1) (bt:=b0)) A9q [(2,(.ptr (H.length + 0) 0))] (fun s3=>[(.cells (cB false)),(.cells [.ptr b0 0])]) (fun (vo4_6:Unit)=>[(.cells (cB true)),(.cells [.ptr b0 0])]) (fun _=>.ret) ho4 (fun _=>rfl) rfl (fun S hS=>O4 (live:=[2]) rfl (by decide) (Sub.trans (su1 rfl) hS)) rfl (fun _=>rfl) (fun _=>rfl) hcl (by rw [Bool.and_eq_true,Bool.and_eq_true]; exact ⟨⟨by kernel_rfl,by kernel_rfl⟩,(by simp [clH,clS,AO.cl,AV.cl,clL,clM,clR,A1i,A7l,A94,A20,L9,cI,cB,cS,I8,freeL,AV.free,freeR,Nat.blt,P7,A19,J1,T0,H9,Q4,J5,S9,N1,W2,J2,O2,A0s,A2a] <;> omega)⟩) (fun _=>(by simp [clH,clS,AO.cl,AV.cl,clL,clM,clR,A1i,A7l,A94,A20,L9,cI,cB,cS,I8,freeL,AV.free,freeR,Nat.blt,P7,A19,J1,T0,H9,Q4,J5,S9,N1,W2,J2,O2,A0s,A2a] <;> omega)) (fun _=>(by simp [clH,clS,AO.cl,AV.cl,clL,clM,clR,A1i,A7l,A94,A20,L9,cI,cB,cS,I8,freeL,AV.free,freeR,Nat.blt,P7,A19,J1,T0,H9,Q4,J5,S9,N1,W2,J2,O2,A0s,A2a] <;> omega)) (fun _=>(by simp [clH,clS,AO.cl,AV.cl,clL,clM,clR,A1i,A7l,A94,A20,L9,cI,cB,cS,I8,freeL,AV.free,freeR,Nat.blt,P7,A19,J1,T0,H9,Q4,J5,S9,N1,W2,J2,O2,A0s,A2a] <;> omega)) ⟨fun _ _=>(And.intro (D7 rfl) (L8 hb0 _)),fun _ _=>(And.intro (D7 rfl) (L8 hb0 _))⟩ (B34 hscv) (fun c x2 s3 o hs3 y0_2 y1_2=>?_) ?_
 ·unfold A3h at hs3
  refine C2<|⟨_,rfl,rfl,rfl,?_⟩
  refine C8<|s0<|E8 (C7 (ds:=(cB true)) rfl rfl rfl rfl (B6 rfl) rfl) rfl<|es .n<|C4 ?_
  cases hs3
  exact ⟨_,rfl,rfl,rfl⟩
 ·rcases o4 with vo4_5 | vo4_6
  ·refine s0<|E8 (C7 (ds:=(cB false)) rfl rfl rfl rfl (B6 rfl) rfl) rfl<|es (ra1 rfl)<|C4 ?_
   obtain rfl:=os h
   exact retq trivial (F1 (C5 (x:=(.b false)) rfl rfl rfl) B4) (A3 rfl B3) (A1 A7 B1)
  ·obtain rfl:=os h
   exact retq trivial (F1 (C5 (x:=(.b true)) rfl rfl rfl) B4) (A3 rfl B3) (A1 A7 B1)
def V9 (a0:Int):Option Int :=
 if (a0 == 0) = true then
  some 64
 else
  (B1c .u64 (IntKind.u64.wrap ((N0 .u64 a0 (IntKind.u64.wrap (0 - a0))) * 285870213051353865)) 58).bind fun x2 =>
  (idx gl1 x2).bind fun x3 =>
  some (w64 x3)
theorem A4j {c:Sc} {H:A5} {a0:Int} {r:Int} (h:V9 a0 = some r) :
  E5 tab c H (.fn (.func 126) [] []) [(.lit (.int .u64 a0))] [.i r]:= by
 unfold V9 at h
 refine cE rfl rfl<|s0<|qm rfl<|es (ra1 rfl)<|B9<|s0<|qm rfl<|A0 (G1 rfl rfl) rfl<|es (ra2 rfl rfl)<|wi h rfl (fun hc1 h=>?_) fun hc1 h=>?_
 ·refine s0<|qm rfl<|es (ra1 rfl)<|C4 ?_
  obtain rfl:=os h
  exact retq trivial (A9 rfl B4) (A3 rfl B3) (A1 A7 B1)
 ·refine C2<|s0<|oB h fun x2 hx2 h=>oB h fun x3 hx3 h=>qm rfl<|qm rfl<|A0 (D0j rfl rfl) rfl<|A0 (G3 (v:=(.lit (.int .u64 (N0 .u64 a0 (IntKind.u64.wrap (0 - a0)))))) rfl rfl rfl) rfl<|A0 (G3 (v:=(.lit (.int .u64 (IntKind.u64.wrap ((N0 .u64 a0 (IntKind.u64.wrap (0 - a0))) * 285870213051353865))))) rfl rfl rfl) rfl<|A0 (A8e rfl rfl hx2) rfl<|A0 (D0a (e:=gl1) (g:=fun n=>(.lit (.int .u8 n))) rfl rfl rfl hx3) rfl<|A0 (C8o (g:=fun n=>(.lit (.int .u8 n))) rfl hx3) rfl<|A0 (B04 rfl) rfl<|qm rfl<|es (ra1 rfl)<|C4 ?_
  obtain rfl:=os h
  exact retq trivial (A9 rfl B4) (A3 rfl B3) (A1 A7 B1)
def Y8 (a0:Int):Option Int :=
 (V9 a0).bind fun x1 =>
 some x1
theorem A5g {c:Sc} {H:A5} {a0:Int} {r:Int} (h:Y8 a0 = some r) :
  E5 tab c H (.fn (.func 118) [] []) [(.lit (.int .u64 a0))] [.i r]:= by
 unfold Y8 at h
 refine cE rfl rfl<|s0<|qm rfl<|es (ra1 rfl)<|B9<|A03 rfl rfl<|C2<|s0<|oB h fun x1 hx1 h=>qm rfl<|B7 (rs:=[.i x1]) rfl rfl (A2 rfl C0) ((A4j hx1).frz)<|qm rfl<|es (ra1 rfl)<|C4 ?_
 obtain rfl:=os h
 exact retq trivial (A9 rfl B4) (A3 rfl B3) (A1 A7 B1)
def B2x  (s1:(Int × (List Int))):Option ((Int × (List Int)) ⊕ (List Int)) :=
 if (s1.1 != 0) = true then
  (Y8 (IntKind.u64.wrap s1.1)).bind fun x4 =>
  (app 8 s1.2 [x4]).bind fun x5 =>
  some (.inl ((B28 s1.1 (w64 (s1.1 - 1))),x5))
 else
  some (.inr s1.2)
def B33 (a0:Int):Option (List Int) :=
 (loop B2x (a0,([]:List Int))).bind fun (o6:(List Int)) =>
 some o6
theorem C0w {c:Sc} {H:A5} {a0:Int} {r:(List Int)} (h:B33 a0 = some r) :
  E5 tab c H (.fn (.func 95) [] []) [.i a0] [(.fresh 1 (List.map cI r))]:= by
 unfold B33 at h
 refine cE rfl rfl<|sg 0 rfl<|A0 B6p rfl<|es (ra2 rfl rfl)<|B9<|C8<|oB h fun o6 ho6 h=>wl (fun s1=>[(0,.i s1.1),(2,(.asl (H.length + 0) (List.length s1.2)))]) (fun (q2:Unit) s1=>[(.arr 1 false (List.map cI s1.2))]) 1 (fun r e s' H'=>PX 0 [(2,(.asl (H.length + 0) (List.length r)))] (H++[(.arr 1 false (List.map cI r))]) e s' H') () ho6 rfl rfl (fun _ _=>rfl) (fun _=>rfl) rfl (fun s1=>(bdc A7 (bdc (B0s rfl) bdn))) (fun q2 s1 ys1 hs1=>?_) ?_
 ·unfold B2x at hs1
  refine B9<|s0<|qm rfl<|A0 (I7 rfl rfl) rfl<|es (ra3 rfl rfl rfl)<|wi hs1 rfl (fun hc3 hs1=>?_) fun hc3 hs1=>?_
  ·refine C2<|B9<|C8<|r0<|oB hs1 fun x4 hx4 hs1=>oB hs1 fun x5 hx5 hs1=>qm rfl<|qm rfl<|A0 (B04 rfl) rfl<|B7 (rs:=[.i x4]) rfl rfl (A2 rfl C0) ((A5g hx4).frz)<|A0 (L4 (rows:=List.map cI [x4]) rfl rfl (F2 (fun _=>rfl) _)) rfl<|B2j (B3s (f:=cI) rfl rfl rfl rfl B30 (fun _=>rfl) hx5) rfl<|qm rfl<|en (ra2 rfl rfl)<|r0<|qm rfl<|qm rfl<|A0 (W6 rfl rfl) rfl<|A0 (G3 (v:=(.i (B28 s1.1 (w64 (s1.1 - 1))))) rfl rfl rfl) rfl<|qm rfl<|en (ra2 rfl rfl) ?_
   cases hs1
   exact lnT () rfl (su2 rfl rfl)
  ·refine F5 ?_
   obtain rfl:=os hs1
   exact lx rfl px (su1 rfl)
 ·rintro e s' H' - ⟨rfl,rfl,rfl⟩
  refine s0<|qm rfl<|qm rfl<|es (ra1 rfl)<|C4 ?_
  obtain rfl:=os h
  exact retq trivial (A9 rfl B4) (A3 (B64 rfl (List.length_map _)) B3) (A1 A8k B1)
def A3v (a0:Int):Option Bool :=
 some (a0 != a0)
theorem A65 {c:Sc} {H:A5} {a0:Int} {r:Bool} (h:A3v a0 = some r) :
  E5 tab c H (.fn (.func 127) [] []) [.i a0] [.b r]:= by
 unfold A3v at h
 refine cE rfl rfl<|s0<|qm rfl<|es (ra1 rfl)<|s0<|qm rfl<|qm rfl<|A0 (I7 rfl rfl) rfl<|qm rfl<|es (ra1 rfl)<|C4 ?_
 obtain rfl:=os h
 exact retq trivial (A9 rfl B4) (A3 rfl B3) (A1 A7 B1)
def A4e (a0:Int) (a1:Int):Option Int :=
 (A3v a0).bind fun x1 =>
 (A3v a1).bind fun x2 =>
 if x1 = true then
  if x2 = true then
  some 0
  else
  some (-1)
 else
  if x2 = true then
  some 1
  else
  if (decide (a0 < a1)) = true then
   some (-1)
  else
   if (decide (a0 > a1)) = true then
   some 1
   else
   some 0
theorem B05 {c:Sc} {H:A5} {a0:Int} {a1:Int} {r:Int} (h:A4e a0 a1 = some r) :
  E5 tab c H (.fn (.func 119) [] []) [.i a0,.i a1] [.i r]:= by
 unfold A4e at h
 refine cE rfl rfl<|s0<|qm rfl<|es (ra2 rfl rfl)<|s0<|oB h fun x1 hx1 h=>qm rfl<|B7 (rs:=[.b x1]) rfl rfl (A2 rfl C0) ((A65 hx1).frz)<|qm rfl<|es (ra3 rfl rfl rfl)<|s0<|oB h fun x2 hx2 h=>qm rfl<|B7 (rs:=[.b x2]) rfl rfl (A2 rfl C0) ((A65 hx2).frz)<|qm rfl<|es (ra4 rfl rfl rfl rfl)<|B9<|s0<|qm rfl<|es (ra4 rfl rfl rfl rfl)<|wi h rfl (fun hc3 h=>?_) fun hc3 h=>?_
 ·refine B9<|s0<|qm rfl<|es (ra1 rfl)<|wi h rfl (fun hc4 h=>?_) fun hc4 h=>?_
  ·refine s0<|qm rfl<|es (ra1 rfl)<|C4 ?_
   obtain rfl:=os h
   exact retq trivial (A9 rfl B4) (A3 rfl B3) (A1 A7 B1)
  ·refine C2<|s0<|qm rfl<|es (ra1 rfl)<|C4 ?_
   obtain rfl:=os h
   exact retq trivial (A9 rfl B4) (A3 rfl B3) (A1 A7 B1)
 ·refine C2<|B9<|s0<|qm rfl<|es (ra3 rfl rfl rfl)<|wi h rfl (fun hc5 h=>?_) fun hc5 h=>?_
  ·refine s0<|qm rfl<|es (ra1 rfl)<|C4 ?_
   obtain rfl:=os h
   exact retq trivial (A9 rfl B4) (A3 rfl B3) (A1 A7 B1)
  ·refine C2<|B9<|s0<|qm rfl<|qm rfl<|A0 (I6 rfl rfl) rfl<|es (ra3 rfl rfl rfl)<|wi h rfl (fun hc6 h=>?_) fun hc6 h=>?_
   ·refine s0<|qm rfl<|es (ra1 rfl)<|C4 ?_
    obtain rfl:=os h
    exact retq trivial (A9 rfl B4) (A3 rfl B3) (A1 A7 B1)
   ·refine C2<|B9<|s0<|qm rfl<|qm rfl<|A0 (A00 rfl rfl) rfl<|es (ra1 rfl)<|wi h rfl (fun hc7 h=>?_) fun hc7 h=>?_
    ·refine s0<|qm rfl<|es (ra1 rfl)<|C4 ?_
     obtain rfl:=os h
     exact retq trivial (A9 rfl B4) (A3 rfl B3) (A1 A7 B1)
    ·refine C2<|s0<|qm rfl<|es (ra1 rfl)<|C4 ?_
     obtain rfl:=os h
     exact retq trivial (A9 rfl B4) (A3 rfl B3) (A1 A7 B1)
def A1q (a0:(List Int)) (a1:(List Int)) (s1:Int):Option (Int ⊕ (Int ⊕ Unit)) :=
 if (decide (s1 < (List.length a0:Int))) = true then
  (idx a0 s1).bind fun x4 =>
  if (decide (s1 ≥ (List.length a1:Int))) = true then
  some (.inr (.inl 1))
  else
  (idx a1 s1).bind fun x6 =>
  (A4e x4 x6).bind fun x7 =>
  if (x7 != 0) = true then
   some (.inr (.inl x7))
  else
   some (.inl (w64 (s1 + 1)))
 else
  some (.inr (.inr ()))
def A0p (a0:(List Int)) (a1:(List Int)):Option Int :=
 (loop (A1q a0 a1) 0).bind fun (o9:(Int ⊕ Unit)) =>
 match o9 with
 | (.inl vo9_0) =>
  some vo9_0
 | (.inr vo9_1) =>
  if (decide ((List.length a0:Int) < (List.length a1:Int))) = true then
  some (-1)
  else
  some 0
theorem A52 {c:Sc} {H:A5} {a0:(List Int)} {a1:(List Int)} {r:Int} (h:A0p a0 a1 = some r) :
  E5 tab c H (.fn (.func 96) [] []) [(.seq 1 (List.map cI a0)),(.seq 1 (List.map cI a1))] [.i r]:= by
 unfold A0p at h
 refine cE rfl rfl<|s0<|qm rfl<|es (ra2 rfl rfl)<|B9<|s0<|qm rfl<|A0 (E0 (f:=cI) rfl) rfl<|qm rfl<|es (ra5 rfl rfl rfl rfl rfl)<|C8<|oB h fun o9 ho9 h=>wl (fun s1=>[(0,(.seq 1 (List.map cI a0))),(1,(.seq 1 (List.map cI a1))),(9,(.seq 1 (List.map cI a0))),(10,(.i (List.length a0:Int))),(11,.i s1)]) (fun (q2:Unit) s1=>[]) 0 (fun r e s' H'=>(match r with | (.inl v)=>e = .ret∧RetQ H [.tmp 4] [.i v] e s' H' | (.inr v)=>PX 0 [(0,(.seq 1 (List.map cI a0))),(1,(.seq 1 (List.map cI a1)))] (H++[]) e s' H':Prop)) () ho9 rfl rfl (fun _ _=>rfl) (fun _=>rfl) rfl (fun s1=>(bdc M4 (bdc M4 (bdc M4 (bdc A7 (bdc A7 bdn)))))) (fun q2 s1 ys1 hs1=>?_) ?_
 ·unfold A1q at hs1
  refine s0<|A0 (I6 rfl rfl) rfl<|es (ra6 rfl rfl rfl rfl rfl rfl)<|B9<|wi hs1 rfl (fun hc3 hs1=>?_) fun hc3 hs1=>?_
  ·refine C2<|B9<|C8<|s0<|oB hs1 fun x4 hx4 hs1=>qm rfl<|A0 (F4 (f:=cI) rfl rfl hx4) rfl<|A0 (F6 rfl rfl) rfl<|qm rfl<|qm rfl<|es (ra7 rfl rfl rfl rfl rfl rfl rfl)<|B9<|s0<|qm rfl<|qm rfl<|A0 (E0 (f:=cI) rfl) rfl<|A0 (A97 rfl rfl) rfl<|es (ra8 rfl rfl rfl rfl rfl rfl rfl rfl)<|wi hs1 rfl (fun hc5 hs1=>?_) fun hc5 hs1=>?_
   ·refine s0<|qm rfl<|es (ra1 rfl)<|C4 ?_
    obtain rfl:=os hs1
    exact lx rfl (And.intro rfl (retq trivial (A9 rfl B4) (A3 rfl B3) (A1 A7 B1))) (Sub.refl _)
   ·refine C2<|s0<|oB hs1 fun x6 hx6 hs1=>qm rfl<|qm rfl<|A0 (F4 (f:=cI) rfl rfl hx6) rfl<|A0 (F6 rfl rfl) rfl<|qm rfl<|es (ra7 rfl rfl rfl rfl rfl rfl rfl)<|s0<|oB hs1 fun x7 hx7 hs1=>qm rfl<|qm rfl<|B7 (rs:=[.i x7]) rfl rfl (A2 rfl (A2 rfl C0)) ((B05 hx7).frz)<|qm rfl<|es (ra6 rfl rfl rfl rfl rfl rfl)<|s0<|qm rfl<|A0 (I7 rfl rfl) rfl<|es (ra7 rfl rfl rfl rfl rfl rfl rfl)<|wi hs1 rfl (fun hc8 hs1=>?_) fun hc8 hs1=>?_
    ·refine s0<|qm rfl<|qm rfl<|es (ra1 rfl)<|C4 ?_
     obtain rfl:=os hs1
     exact lx rfl (And.intro rfl (retq trivial (A9 rfl B4) (A3 rfl B3) (A1 A7 B1))) (Sub.refl _)
    ·refine C2<|r0<|A0 (E6 rfl rfl) rfl<|qm rfl<|en (ra5 rfl rfl rfl rfl rfl) ?_
     cases hs1
     exact lnT () rfl (su5 rfl rfl rfl rfl rfl)
  ·refine F5 ?_
   obtain rfl:=os hs1
   exact lx rfl px (su2 rfl rfl)
 ·rcases o9 with vo9_0 | vo9_1
  ·rintro e s' H' - ⟨rfl,hret⟩
   cases h
   exact hret
  ·rintro e s' H' - ⟨rfl,rfl,rfl⟩
   refine B9<|s0<|qm rfl<|A0 (E0 (f:=cI) rfl) rfl<|qm rfl<|A0 (E0 (f:=cI) rfl) rfl<|A0 (I6 rfl rfl) rfl<|es (ra1 rfl)<|wi h rfl (fun hc10 h=>?_) fun hc10 h=>?_
   ·refine s0<|qm rfl<|es (ra1 rfl)<|C4 ?_
    obtain rfl:=os h
    exact retq trivial (A9 rfl B4) (A3 rfl B3) (A1 A7 B1)
   ·refine C2<|s0<|qm rfl<|es (ra1 rfl)<|C4 ?_
    obtain rfl:=os h
    exact retq trivial (A9 rfl B4) (A3 rfl B3) (A1 A7 B1)
end Rm
end
section
set_option maxRecDepth 100000
namespace Rm
open Go Am Go.Proofs.YtbheamjhjgoccaaDoor.Cd
def C23 (t:RoHouse) (b:List Int):RoHouse:=⟨t.Weather,t.Stoves,t.Holds,t.Places,t.Figures,b⟩
def A88 (a0:RoHouse) (set:Int) (s:Int × List Int):Option ((Int × List Int) ⊕ List Int) :=
 if (decide (s.1 < (List.length a0.Bill:Int))) = true then
  (idx a0.Bill s.1).bind fun n =>
  (B1c .i64 set s.1).bind fun q =>
  if (B28 q 1 == 0) = true then
   (app 8 s.2 [n]).bind fun b =>
   some (.inl (w64 (s.1 + 1),b))
  else some (.inl (w64 (s.1 + 1),s.2))
 else some (.inr s.2)
def A6q (l breaks:List Int) (found:Bool):Option Bool :=
 if found = true then
  if (decide ((l.length:Int) > (breaks.length:Int))) = true then some true
  else if ((l.length:Int) == (breaks.length:Int)) = true then
   (A0p l breaks).bind fun z=>some (decide (z > 0))
  else some false
 else some false
def A5o (a0:RoHouse) (n:Int) (s:Int × Bool × List Int):Option ((Int × Bool × List Int) ⊕ List Int) :=
 if (decide (s.1 < n)) = true then
  (B33 s.1).bind fun l =>
  (A6q l s.2.2 s.2.1).bind fun skip =>
  if skip = true then some (.inl (w64 (s.1 + 1),s.2.1,s.2.2))
  else
   (loop (A88 a0 s.1) (0,[])).bind fun b =>
   (A5q ⟨C23 a0 b⟩).bind fun k =>
   if k = true then some (.inl (w64 (s.1 + 1),true,l))
   else some (.inl (w64 (s.1 + 1),s.2.1,s.2.2))
 else some (.inr s.2.2)
def A4b (a0:RoHouse):Option (List Int × Int) :=
 (O6 a0).bind fun x1 =>
 if (x1.2.2 != 0) = true then some (([]:List Int),x1.2.2)
 else
  (B22 .i64 1 (List.length a0.Bill:Int)).bind fun n =>
  (loop (A5o a0 n) (0,false,([]:List Int))).bind fun o =>
  some (o,0)
def A8l (t:RoHouse) (v:AV):List AV:=[.i t.Weather.Lo,.i t.Weather.Hi,.i t.Stoves,(.seq 1 (List.map cI t.Holds)),(.seq 4 (List.map B8 t.Places)),(.seq 6 (List.map B2 t.Figures)),v,.xseq 2 [[.b false,(.fn (.func 112) [] [])],[.b true,(.fn (.func 113) [] [])]]]
def arB (p:Bool) (r:List Int):AO:=.arr 1 p (r.map cI)
def tlB (g:List (List Int)):List AO:=g.map (arB true)
def lB (t:RoHouse) (v:AV) (g:List AO):List AO:=.cells (A4 t) :: .cells (A4 t) :: .cells (A8l t v) :: g
section
variable {T:Tab} {s:C1} {H0 H:A5} {l:List AO} {c:Sc} {n0 N:Nat} {hc:List (Option (List Nat))} {ops:List AOper} {R:C1→A5→Prop}
theorem gU {d:Nat} {op:AOp} {t:Nat} {w:Bool} {hid:List Nat} {hida:List (Nat × List Nat)} {inc src:Nat} (hw:wanted s (some (t,w)) = some false) (hwr:writes op = true) (k:L2 T c n0 ops ((d,.tup []) :: s) H (none :: hc) R) :
  L2 T c n0 (⟨some d,op,some (t,w),hid,hida,inc,src⟩ :: ops) s H hc R:=L5 hw hwr k
theorem gV {d:Nat} {op:AOp} {t:Nat} {w:Bool} {hid:List Nat} {hida:List (Nat × List Nat)} {inc src:Nat} (hw:wanted s (some (t,w)) = some false) (hwr:writes op = false) (k:L2 T c n0 ops ((d,.tup []) :: s) H hc R) :
  L2 T c n0 (⟨some d,op,some (t,w),hid,hida,inc,src⟩ :: ops) s H hc R:=C5o hw hwr k
theorem fvc {H1 H2:A5} {v v':AV} {l l':List AV} (h:frv H v = some (v',H1)) (k:X4 H1 l = some (l',H2)):X4 H (v :: l) = some (v' :: l',H2):= by simp only [X4,h,k]
end
theorem C7n {N:Nat}:∀g:List (List Int),clH N (tlB g) = true
 | []=>rfl
 | r :: g=>by
  have ih:=C7n (N:=N) g
  unfold tlB clH at ih ⊢
  rw [List.map_cons,List.all_cons,ih,Bool.and_true]
  unfold arB
  simp only [AO.cl]
  exact A1i (fun x=>rfl) r
theorem D29 {N:Nat} (t:RoHouse) (b:List Int) (g:List (List Int)):clH N (lB t (.seq 1 (b.map cI)) (tlB g)) = true:= by
 have h:=C7n (N:=N) g
 unfold lB clH at h ⊢
 simp only [List.all_cons,h,Bool.and_true]
 simp [AO.cl,clL_free _ (J5 t),A8l,clL,AV.cl,clR,I8,cI,freeL,AV.free,J1,H9]
theorem B43 {c:Sc} {H:A5} (hscv:A0a c H = true) (hcl:clH H.length H = true) {a0:RoHouse} {r:((List Int) × Int)} (h:A4b a0 = some r) :
  E5 tab c H (.fn (.func 36) [] []) [(.agg (A4 a0))] [(.seq 1 (List.map cI r.1)),.i r.2]:= by
 unfold A4b at h
 refine cE rfl rfl<|sg 0 rfl<|A0 (E7 (cs:=A4 a0) rfl rfl rfl) rfl<|qm rfl<|qm rfl<|es (ra2 rfl rfl)<|s0<|A0 (C3 rfl rfl rfl) rfl<|N9 (as2:=[(.agg (A4 a0))]) (H1:=(H++[(.cells (A4 a0))])) rfl rfl (A2 (D1 rfl) C0) rfl rfl rfl (S5 rfl)<|sg 1 rfl<|A0 (E7 (cs:=A4 a0) rfl rfl rfl) rfl<|qm rfl<|qm rfl<|es (ra1 rfl)<|s0<|oB h fun x1 hx1 h=>A0 (C3 rfl rfl rfl) rfl<|B7 (rs:=[.i x1.1,.i x1.2.1,.i x1.2.2]) rfl rfl (A2 (D1 rfl) C0) ((P4 hx1).frz)<|qm rfl<|A0 (A8 rfl rfl) rfl<|A0 (A8 rfl rfl) rfl<|A0 (A8 rfl rfl) rfl<|qm rfl<|qm rfl<|qm rfl<|es (ra2 rfl rfl)<|sg 2 rfl<|A0 (C3 rfl rfl rfl) rfl<|A0 (F8 (cs:=[.b false,(.fn (.func 112) [] [])]) rfl rfl) rfl<|A0 (F8 (cs:=[.b true,(.fn (.func 113) [] [])]) rfl rfl) rfl<|A0 (A4r (rows:=[[.b false,(.fn (.func 112) [] [])],[.b true,(.fn (.func 113) [] [])]]) rfl rfl) rfl<|A0 (F8 (cs:=A8l a0 (.seq 1 (List.map cI a0.Bill))) rfl rfl) rfl<|A0 (E7 (cs:=A8l a0 (.seq 1 (List.map cI a0.Bill))) rfl rfl rfl) rfl<|qm rfl<|qm rfl<|qm rfl<|es (ra2 rfl rfl)<|C4<|InlQ.mk trivial ⟨_,_,_,[(.ptr (H.length + 2) 0),.i x1.2.2],_,(A9 rfl (A9 rfl B4)),(A3 rfl (A3 rfl B3)),(T7 (M2 (T5 rfl)) (D0 rfl (D0 rfl I4))),?_⟩
 refine qm rfl<|A0 (A8 rfl rfl) rfl<|A0 (A8 rfl rfl) rfl<|qm rfl<|qm rfl<|es (ra4 rfl rfl rfl rfl)<|B9<|s0<|qm rfl<|A0 (I7 rfl rfl) rfl<|es (ra5 rfl rfl rfl rfl rfl)<|wi h rfl (fun hc2 h=>?_) fun hc2 h=>?_
 ·refine s0<|qm rfl<|qm rfl<|qm rfl<|es (ra2 rfl rfl)<|C4 ?_
  obtain rfl:=os h
  exact retq trivial (A9 rfl (A9 rfl B4)) (A3 rfl (A3 rfl B3)) (A1 M4 (A1 A7 B1))
 refine oB h fun n hn h=>oB h fun o ho h=>?_
 refine C2<|s0<|qm rfl<|es (ra4 rfl rfl rfl rfl)<|B9<|s0<|A0 (C6 rfl) rfl<|A0 (C5 rfl rfl rfl) rfl<|A0 (E0 (f:=cI) rfl) rfl<|A0 (B2a rfl rfl hn) rfl<|qm rfl<|es (ra6 rfl rfl rfl rfl rfl rfl)<|C8 ?_
 refine A46 (C9l (γ:=List Int × List (List Int)) (live:=[1,2,4,5,21,22]) (body:=A5o a0 n) (fun x=>[(1,.ptr (H.length + 0) 0),(2,.seq 1 (x.2.2.map cI)),(4,.ptr (H.length + 2) 0),(5,.b x.2.1),(21,.i n),(22,.i x.1)]) (fun g x=>H++lB a0 (.seq 1 (g.1.map cI)) (tlB g.2))
  (fun r e s' H'=>e = .exit 0∧s' = [(2,.seq 1 (r.map cI))]∧∃ l',H' = H++l') (fun _=>rfl) (by decide) ?_ ho (a0.Bill,[])) ?_
 ·intro g x o' hb
  unfold A5o at hb
  refine s0<|A0 (I6 rfl rfl) rfl<|es (ra7 rfl rfl rfl rfl rfl rfl rfl)<|B9<|wi hb rfl (fun hc hb=>?_) fun hc hb=>?_
  ·refine oB hb fun l hl hb=>oB hb fun skip hsk hb=>?_
   refine C2<|B9<|C8<|s0<|qm rfl<|qm rfl<|es (ra7 rfl rfl rfl rfl rfl rfl rfl)<|s0<|qm rfl<|B7 (rs:=[.seq 1 (l.map cI)]) rfl rfl (A2 rfl C0) ((C0w hl).frz)<|qm rfl<|es (ra8 rfl rfl rfl rfl rfl rfl rfl rfl)<|B9<|s0<|qm rfl<|qm rfl ?_
   refine gp 19 47 (.b skip) 28 rfl rfl (fun hg1=>?_) (fun hg1=>?_) ?_
   ·unfold A6q at hsk
    rw [if_pos hg1] at hsk
    refine gT rfl hg1<|qm rfl<|gT rfl hg1<|A0 (E0 (f:=cI) rfl) rfl<|gT rfl hg1<|qm rfl<|gT rfl hg1<|A0 (E0 (f:=cI) rfl) rfl<|gT rfl hg1<|A0 (A00 rfl rfl) rfl<|gT rfl hg1<|qm rfl ?_
    cases h2:decide ((l.length:Int) > (x.2.2.length:Int)) with
    | true =>
     rw [if_pos h2] at hsk
     cases hsk
     exact nF rfl rfl rfl<|nF rfl rfl rfl<|nF rfl rfl rfl<|nF rfl rfl rfl<|nF rfl rfl rfl<|nF rfl rfl rfl<|gV rfl rfl<|gV rfl rfl<|gU rfl rfl<|gV rfl rfl<|nF rfl rfl rfl<|gT rfl hg1<|A0 (D2 rfl rfl rfl) rfl<|A0 (D2 rfl hg1 rfl) rfl<|ge 19 rfl rfl rfl
    | false =>
     rw [if_neg (by rw [h2]; decide)] at hsk
     refine gF rfl rfl<|qm rfl<|gF rfl rfl<|A0 (E0 (f:=cI) rfl) rfl<|gF rfl rfl<|qm rfl<|gF rfl rfl<|A0 (E0 (f:=cI) rfl) rfl<|gF rfl rfl<|A0 (G1 rfl rfl) rfl<|gF rfl rfl<|qm rfl ?_
     cases h3:((l.length:Int) == (x.2.2.length:Int)) with
     | true =>
      rw [if_pos h3] at hsk
      refine oB hsk fun z hz hsk=>?_
      cases hsk
      exact gT rfl rfl<|qm rfl<|gT rfl rfl<|qm rfl<|gT rfl rfl<|B7 (rs:=[.i z]) rfl rfl (A2 rfl (A2 rfl C0)) ((A52 hz).frz)<|gT rfl rfl<|A0 (A00 rfl rfl) rfl<|gF rfl rfl<|A0 (D2 rfl rfl rfl) rfl<|gT rfl hg1<|A0 (D3 rfl rfl rfl) rfl<|A0 (D2 rfl hg1 rfl) rfl<|ge 19 rfl rfl rfl
     | false =>
      rw [if_neg (by rw [h3]; decide)] at hsk
      cases hsk
      exact nT rfl rfl rfl<|nT rfl rfl rfl<|gN rfl rfl rfl<|nT rfl rfl rfl<|gF rfl rfl<|A0 (D3 rfl rfl rfl) rfl<|gT rfl hg1<|A0 (D3 rfl rfl rfl) rfl<|A0 (D2 rfl hg1 rfl) rfl<|ge 19 rfl rfl rfl
   ·unfold A6q at hsk
    rw [if_neg (by rw [hg1]; decide)] at hsk
    cases hsk
    exact nT rfl hg1 rfl<|nT rfl hg1 rfl<|nT rfl hg1 rfl<|nT rfl hg1 rfl<|nT rfl hg1 rfl<|nT rfl hg1 rfl<|gV rfl rfl<|gV rfl rfl<|gV rfl rfl<|gV rfl rfl<|gV rfl rfl<|gV rfl rfl<|gV rfl rfl<|gV rfl rfl<|gU rfl rfl<|gV rfl rfl<|gV rfl rfl<|nT rfl hg1 rfl<|A0 (D3 rfl hg1 rfl) rfl<|ge 19 rfl rfl rfl
   refine es (ra9 rfl rfl rfl rfl rfl rfl rfl rfl rfl)<|wi hb rfl (fun hc2 hb=>?_) fun hc2 hb=>?_
   ·refine F5<|r0<|A0 (E6 rfl rfl) rfl<|qm rfl<|en (ra6 rfl rfl rfl rfl rfl rfl) ?_
    cases hb
    exact ⟨rfl,su6 rfl rfl rfl rfl rfl rfl,g,rfl⟩
   refine oB hb fun b hb2 hb=>oB hb fun k hk hb=>?_
   refine C2<|sg ((tlB g.2).length + 3) rfl<|qm rfl<|A0 (P9 rfl rfl) rfl<|A0 (C6 rfl) rfl<|A0 (C6 rfl) rfl<|E8 (C8s (cs:=A8l a0 (.seq 1 (g.1.map cI))) (ds:=A8l a0 (.asl (H.length + ((tlB g.2).length + 3 + 0)) 0)) rfl rfl rfl (A6a (Nat.le_add_right _ _)) rfl) rfl<|es (ra8 rfl rfl rfl rfl rfl rfl rfl rfl) ?_
   have e1:((lB a0 (.seq 1 (g.1.map cI)) (tlB g.2)++List.replicate 1 AO.dead).set ((tlB g.2).length + 3 + 0) (.arr 1 false [])).set 2 (.cells (A8l a0 (.asl (H.length + ((tlB g.2).length + 3 + 0)) 0))) = lB a0 (.asl (H.length + ((tlB g.2).length + 3)) 0) (tlB g.2++[arB false []]):= by
    show (AO.cells _ :: AO.cells _ :: AO.cells _ :: ((tlB g.2++[AO.dead]).set (tlB g.2).length (.arr 1 false []))) = _
    rw [C13 _ _ _ rfl]; rfl
   rw [e1]
   have hlN:∀v q,(lB a0 v (tlB g.2++[q])).length = (tlB g.2).length + 4:=fun v q=>by simp [lB]
   have hget:∀v q,(lB a0 v (tlB g.2++[q]))[(tlB g.2).length + 3]? = some q:=fun v q=>C77 (tlB g.2) q rfl
   have hset:∀v q q',(lB a0 v (tlB g.2++[q])).set ((tlB g.2).length + 3) q' = lB a0 v (tlB g.2++[q']):=fun v q q'=>by
    show (AO.cells _ :: AO.cells _ :: AO.cells _ :: ((tlB g.2++[q]).set (tlB g.2).length q')) = _
    rw [C13 _ _ _ rfl]; rfl
   refine B9<|s0<|A0 (C6 rfl) rfl<|A0 (C5 rfl rfl rfl) rfl<|A0 (E0 (f:=cI) rfl) rfl<|qm rfl<|es (ra11 rfl rfl rfl rfl rfl rfl rfl rfl rfl rfl rfl)<|C8<|wl (fun y=>[(1,.ptr (H.length + 0) 0),(2,.seq 1 (x.2.2.map cI)),(4,.ptr (H.length + 2) 0),(5,.b x.2.1),(6,.i x.1),(7,.seq 1 (l.map cI)),(21,.i n),(22,.i x.1),(53,.seq 1 (a0.Bill.map cI)),(54,.i (List.length a0.Bill:Int)),(55,.i y.1)]) (fun (q2:Unit) y=>lB a0 (.asl (H.length + ((tlB g.2).length + 3)) y.2.length) (tlB g.2++[arB false y.2])) ((tlB g.2).length + 4) (fun r e s' H'=>PX 2 [(1,.ptr (H.length + 0) 0),(2,.seq 1 (x.2.2.map cI)),(4,.ptr (H.length + 2) 0),(5,.b x.2.1),(7,.seq 1 (l.map cI)),(21,.i n),(22,.i x.1)] (H++lB a0 (.asl (H.length + ((tlB g.2).length + 3)) r.length) (tlB g.2++[arB false r])) e s' H') () hb2 rfl rfl (fun _ _=>hlN _ _) (fun _=>rfl) rfl (fun y=>(bdc (E2 rfl) (bdc M4 (bdc (E2 rfl) (bdc A7 (bdc A7 (bdc M4 (bdc A7 (bdc A7 (bdc M4 (bdc A7 (bdc A7 bdn)))))))))))) (fun q2 y o' hy=>?_) ?_
   ·unfold A88 at hy
    refine s0<|A0 (I6 rfl rfl) rfl<|es (ra12 rfl rfl rfl rfl rfl rfl rfl rfl rfl rfl rfl rfl)<|B9<|wi hy rfl (fun hc3 hy=>?_) fun hc3 hy=>?_
    ·refine oB hy fun z hz hy=>oB hy fun q hq hy=>?_
     refine C2<|B9<|C8<|s0<|qm rfl<|A0 (F4 (f:=cI) rfl rfl hz) rfl<|A0 (F6 rfl rfl) rfl<|qm rfl<|qm rfl<|es (ra13 rfl rfl rfl rfl rfl rfl rfl rfl rfl rfl rfl rfl rfl)<|s0<|qm rfl<|qm rfl<|A0 (A8e rfl rfl hq) rfl<|A0 (G3 (v:=(.i (B28 q 1))) rfl rfl rfl) rfl<|A0 (G1 rfl rfl) rfl<|es (ra13 rfl rfl rfl rfl rfl rfl rfl rfl rfl rfl rfl rfl rfl)<|wi hy rfl (fun hc4 hy=>?_) fun hc4 hy=>?_
     ·refine oB hy fun w hw hy=>?_
      refine r0<|qm rfl<|qm rfl<|A0 (P9 rfl rfl) rfl<|A0 (C6 rfl) rfl<|A0 (C6 rfl) rfl<|A0 (C5 rfl rfl rfl) rfl<|qm rfl<|A0 (L4 (rows:=[[.i z]]) rfl rfl rfl) rfl<|B2j (B3s (f:=cI) (d:=y.2) (m:=[z]) rfl rfl (hget _ _) rfl B30 (fun _=>rfl) hw) rfl<|A0 (P9 rfl rfl) rfl<|A0 (C6 rfl) rfl<|A0 (C6 rfl) rfl ?_
      rw [hset]
      refine E8 (C7 (ds:=A8l a0 (.asl (H.length + ((tlB g.2).length + 3)) w.length)) rfl rfl rfl rfl (D0m ?_ ?_) rfl) rfl<|en (ra11 rfl rfl rfl rfl rfl rfl rfl rfl rfl rfl rfl)<|r0<|A0 (E6 rfl rfl) rfl<|qm rfl<|en (ra11 rfl rfl rfl rfl rfl rfl rfl rfl rfl rfl rfl) ?_
      ·simp only [AV.bd]; exact Nat.ble_eq_true_of_le (by omega)
      ·exact D3z (Nat.le_add_right _ _) (D1y hscv)
      cases hy
      exact lnT () (List.take_of_length_le (Nat.le_of_eq (hlN _ _))) (su11 rfl rfl rfl rfl rfl rfl rfl rfl rfl rfl rfl)
     ·refine C2<|r0<|A0 (E6 rfl rfl) rfl<|qm rfl<|en (ra11 rfl rfl rfl rfl rfl rfl rfl rfl rfl rfl rfl) ?_
      cases hy
      exact lnT () (List.take_of_length_le (Nat.le_of_eq (hlN _ _))) (su11 rfl rfl rfl rfl rfl rfl rfl rfl rfl rfl rfl)
    ·refine F5 ?_
     obtain rfl:=os hy
     exact lx rfl px (su7 rfl rfl rfl rfl rfl rfl rfl)
   rintro e s' H' - ⟨rfl,rfl,rfl⟩
   have hfz:X4 (H++lB a0 (.asl (H.length + ((tlB g.2).length + 3)) b.length) (tlB g.2++[arB false b])) (A8l a0 (.asl (H.length + ((tlB g.2).length + 3)) b.length)) = some (A8l a0 (.seq 1 (b.map cI)),H++lB a0 (.asl (H.length + ((tlB g.2).length + 3)) b.length) (tlB g.2++[arB true b])):= by
    have h1:frv (H++lB a0 (.asl (H.length + ((tlB g.2).length + 3)) b.length) (tlB g.2++[arB false b])) (.asl (H.length + ((tlB g.2).length + 3)) b.length) = some (.seq 1 (b.map cI),H++lB a0 (.asl (H.length + ((tlB g.2).length + 3)) b.length) (tlB g.2++[arB true b])):= by
     have:=B52 (H0:=H) (l:=lB a0 (.asl (H.length + ((tlB g.2).length + 3)) b.length) (tlB g.2++[arB false b])) (hget _ (arB false b)) (List.length_map (cI))
     rw [hset] at this
     exact this
    exact fvc rfl<|fvc rfl<|fvc rfl<|fvc rfl<|fvc rfl<|fvc rfl<|fvc h1<|fvc rfl rfl
   have e2:(lB a0 (.asl (H.length + ((tlB g.2).length + 3)) b.length) (tlB g.2++[arB true b])).set 2 (.cells (A8l a0 (.seq 1 (b.map cI)))) = lB a0 (.seq 1 (b.map cI)) (tlB (g.2++[b])):= by
    show (AO.cells _ :: AO.cells _ :: AO.cells _ :: (tlB g.2++[arB true b])) = _
    unfold lB tlB
    rw [List.map_append]; rfl
   refine B9<|D4a (D0u rfl rfl hfz rfl) ?_
   rw [e2]
   have hcan:E5 tab ⟨H.length,c.cur :: c.outer⟩ (H++lB a0 (.seq 1 (b.map cI)) (tlB (g.2++[b]))) (.fn (.func 97) [] []) [.ptr (H.length + 2) 0] [.b k]:=B2h (a0:=⟨C23 a0 b⟩) (b0:=H.length + 2) (B34 hscv) (C9q hcl (D29 a0 b _)) (D7 (l:=lB a0 (.seq 1 (b.map cI)) (tlB (g.2++[b]))) rfl) hk
   refine r0<|qm rfl<|B7 (rs:=[.b k]) rfl rfl (A2 rfl C0) (hcan.frz)<|es (ra8 rfl rfl rfl rfl rfl rfl rfl rfl) ?_
   cases k with
   | true =>
    refine J7 rfl rfl<|r0<|qm rfl<|qm rfl<|qm rfl<|en (ra6 rfl rfl rfl rfl rfl rfl)<|r0<|A0 (E6 rfl rfl) rfl<|qm rfl<|en (ra6 rfl rfl rfl rfl rfl rfl) ?_
    cases hb
    exact ⟨rfl,su6 rfl rfl rfl rfl rfl rfl,(b,g.2++[b]),rfl⟩
   | false =>
    refine A03 rfl rfl<|C2<|r0<|A0 (E6 rfl rfl) rfl<|qm rfl<|en (ra6 rfl rfl rfl rfl rfl rfl) ?_
    cases hb
    exact ⟨rfl,su6 rfl rfl rfl rfl rfl rfl,(b,g.2++[b]),rfl⟩
  ·refine F5 ?_
   cases hb
   exact ⟨rfl,_,su1 rfl,rfl,rfl,_,rfl⟩
 ·intro e s' H' q
  obtain ⟨_,rfl,rfl,l',rfl⟩:=q
  cases h
  refine s0<|qm rfl<|qm rfl<|qm rfl<|es (ra2 rfl rfl)<|C4 ?_
  exact retq trivial (A9 rfl (A9 rfl B4)) (A3 rfl (A3 rfl B3)) (A1 M4 (A1 A7 B1))
theorem A83 {c:Sc} {H:A5} (hscv:A0a c H = true) {a0:RoHouse} {r:((List Int) × Int)} (h:A4b a0 = some r) :
  E5 tab c H (.fn (.func 36) [] []) [(.agg (A4 a0))] [(.seq 1 (List.map cI r.1)),.i r.2]:=A8n A9q (B43 (c:=⟨0,[]⟩) (H:=[]) rfl rfl h) (by simp [freeL,AV.free,J5]) (by simp [freeL,AV.free,I8,cI]) hscv
end Rm
end
section
set_option maxRecDepth 100000
set_option maxHeartbeats 0
namespace Rm
open Go Am Go.Proofs.YtbheamjhjgoccaaDoor.Cd
def A2t :Option Bool :=
 (A05 [3]).bind fun x1 =>
 (A05 ([]:List Int)).bind fun x2 =>
 (A1f x1 1 1).bind fun x3 =>
 (A2w x1 0 1 1).bind fun x4 =>
 (A2w x1 2 1 1).bind fun x5 =>
 (A7c x1).bind fun x6 =>
 (A06 1 [1,(-1),2]).bind fun x7 =>
 (A2n x1 x7).bind fun x8 =>
 (A06 1 [1,0,2]).bind fun x9 =>
 (A3s x1 x9).bind fun x10 =>
 (A05 [1,3]).bind fun x11 =>
 (A4b x11).bind fun x12 =>
 (A5p x1).bind fun x13 =>
 (A5p x2).bind fun x14 =>
 (A73 x1 0).bind fun x15 =>
 (A1e x1 x6.1).bind fun x16 =>
 (if (((((((((((x3.2 == 0) && (x4.2 == 0)) && (x5.2 == 0)) && (x6.2.2 == 0)) && (x8.2 == 9)) && (x10.2 == 0)) && (x12.2 == 0)) && (x13.2 == 0)) && (x14.2 == 0)) && (x15.2 == 0)) && (x16.2.2 == 0)) = true then
  (V0 45 70).bind fun x28 =>
  some ((x3.1.Lo == x28.Lo) && ((x3.1.Hi == x28.Hi) && true))
 else
  some false).bind fun x29 =>
 (if ((x29 && (x4.1 == 1)) && (x5.1 == 0)) = true then
  (A06 1 [(-1),0,2]).bind fun x33 =>
  (A71 x6.1 x33).bind fun x34 =>
  some x34
 else
  some false).bind fun x35 =>
 (if (x35 && (x6.2.1 == 12)) = true then
  (X9 x10.1 [350,320]).bind fun x38 =>
  some x38
 else
  some false).bind fun x39 =>
 (if x39 = true then
  (X9 x12.1 [0]).bind fun x41 =>
  some x41
 else
  some false).bind fun x42 =>
 (if x42 = true then
  (X9 x13.1 [0]).bind fun x44 =>
  some x44
 else
  some false).bind fun x45 =>
 some ((((x45 && ((List.length x14.1:Int) == 0)) && (x15.1 == 1)) && (x16.1 == 1)) && (x16.2.1 == 0))
theorem A5f {c:Sc} {H:A5} (hscv:A0a c H = true)  {r:Bool} (h:A2t  = some r) :
  E5 tab c H (.fn (.func 23) [] []) [] [.b r]:= by
 unfold A2t at h
 refine cE rfl rfl<|s0<|qm rfl<|es .n<|sg 0 rfl<|oB h fun x1 hx1 h=>oB h fun x2 hx2 h=>A0 (L4 (rows:=List.map cI [3]) rfl rfl (F2 (fun _=>rfl) _)) rfl<|B7 (rs:=[(.agg (A4 x1))]) rfl rfl (A2 rfl C0) ((A07 hx1).frz)<|B7 (rs:=[(.agg (A4 x2))]) rfl rfl (A2 rfl C0) ((A07 hx2).frz)<|A0 D6 rfl<|A0 D6 rfl<|E8 (C7 (ds:=(A4 x1)) rfl rfl rfl rfl (B6 rfl) rfl) rfl<|E8 (C7 (ds:=(A4 x2)) rfl rfl rfl rfl (B6 rfl) rfl) rfl<|es (ra2 rfl rfl)<|sg 2 rfl<|oB h fun x3 hx3 h=>A0 (C3 rfl rfl rfl) rfl<|B7 (rs:=[(.agg (D5 x3.1)),.i x3.2]) rfl rfl (A2 (D1 rfl) (A2 rfl (A2 rfl C0))) ((A5i hx3).frz)<|qm rfl<|A0 (A8 rfl rfl) rfl<|A0 (A8 rfl rfl) rfl<|A0 D6 rfl<|E8 (C7 (ds:=(D5 x3.1)) rfl rfl rfl rfl (B6 rfl) rfl) rfl<|qm rfl<|es (ra4 rfl rfl rfl rfl)<|s0<|oB h fun x4 hx4 h=>A0 (C3 rfl rfl rfl) rfl<|B7 (rs:=[.i x4.1,.i x4.2]) rfl rfl (A2 (D1 rfl) (A2 rfl (A2 rfl (A2 rfl C0)))) ((A4s hx4).frz)<|qm rfl<|A0 (A8 rfl rfl) rfl<|A0 (A8 rfl rfl) rfl<|qm rfl<|qm rfl<|es (ra6 rfl rfl rfl rfl rfl rfl)<|s0<|oB h fun x5 hx5 h=>A0 (C3 rfl rfl rfl) rfl<|B7 (rs:=[.i x5.1,.i x5.2]) rfl rfl (A2 (D1 rfl) (A2 rfl (A2 rfl (A2 rfl C0)))) ((A4s hx5).frz)<|qm rfl<|A0 (A8 rfl rfl) rfl<|A0 (A8 rfl rfl) rfl<|qm rfl<|qm rfl<|es (ra8 rfl rfl rfl rfl rfl rfl rfl rfl)<|sg 3 rfl<|oB h fun x6 hx6 h=>A0 (C3 rfl rfl rfl) rfl<|B7 (rs:=[(.agg (B5 x6.1)),.i x6.2.1,.i x6.2.2]) rfl rfl (A2 (D1 rfl) C0) (B2d (B34 hscv) hx6)<|qm rfl<|A0 (A8 rfl rfl) rfl<|A0 (A8 rfl rfl) rfl<|A0 (A8 rfl rfl) rfl<|A0 D6 rfl<|E8 (C7 (ds:=(B5 x6.1)) rfl rfl rfl rfl (B6 rfl) rfl) rfl<|qm rfl<|qm rfl<|es (ra11 rfl rfl rfl rfl rfl rfl rfl rfl rfl rfl rfl)<|s0<|oB h fun x7 hx7 h=>?_
 refine oB h fun x8 hx8 h=>A0 (C3 rfl rfl rfl) rfl<|A0 (L4 (rows:=List.map cI [1,(-1),2]) rfl rfl (F2 (fun _=>rfl) _)) rfl<|A11 (rs:=[(.agg (B5 x7))]) rfl rfl (P0 rfl (P0 rfl A4k)) (A2 rfl (A2 rfl C0)) ((A0v hx7).frz)<|B7 (rs:=[.i x8.1,.i x8.2]) rfl rfl (A2 (D1 rfl) (A2 (D1 rfl) C0)) ((A6o hx8).frz)<|qm rfl<|A0 (A8 rfl rfl) rfl<|A0 (A8 rfl rfl) rfl<|qm rfl<|qm rfl<|es (ra12 rfl rfl rfl rfl rfl rfl rfl rfl rfl rfl rfl rfl)<|s0<|oB h fun x9 hx9 h=>oB h fun x10 hx10 h=>A0 (C3 rfl rfl rfl) rfl<|A0 (L4 (rows:=List.map cI [1,0,2]) rfl rfl (F2 (fun _=>rfl) _)) rfl<|A11 (rs:=[(.agg (B5 x9))]) rfl rfl (P0 rfl (P0 rfl A4k)) (A2 rfl (A2 rfl C0)) ((A0v hx9).frz)<|B7 (rs:=[(.seq 1 (List.map cI x10.1)),.i x10.2]) rfl rfl (A2 (D1 rfl) (A2 (D1 rfl) C0)) ((B0h hx10).frz)<|qm rfl<|A0 (A8 rfl rfl) rfl<|A0 (A8 rfl rfl) rfl<|qm rfl<|qm rfl<|es (ra14 rfl rfl rfl rfl rfl rfl rfl rfl rfl rfl rfl rfl rfl rfl)<|s0<|oB h fun x11 hx11 h=>oB h fun x12 hx12 h=>A0 (L4 (rows:=List.map cI [1,3]) rfl rfl (F2 (fun _=>rfl) _)) rfl<|B7 (rs:=[(.agg (A4 x11))]) rfl rfl (A2 rfl C0) ((A07 hx11).frz)<|B7 (rs:=[(.seq 1 (List.map cI x12.1)),.i x12.2]) rfl rfl (A2 (D1 rfl) C0) ((A83 (B34 hscv) hx12).frz)<|qm rfl<|A0 (A8 rfl rfl) rfl<|A0 (A8 rfl rfl) rfl<|qm rfl<|qm rfl<|es (.k rfl (.k rfl (.k rfl (.k rfl (.k rfl (.k rfl (.k rfl (.k rfl (.k rfl (.k rfl (.k rfl (.k rfl (.k rfl (.k rfl (.k rfl (.k rfl .n))))))))))))))))<|s0<|oB h fun x13 hx13 h=>A0 (C3 rfl rfl rfl) rfl<|B7 (rs:=[(.seq 1 (List.map cI x13.1)),.i x13.2]) rfl rfl (A2 (D1 rfl) C0) ((B0j (B34 hscv) hx13).frz)<|qm rfl<|A0 (A8 rfl rfl) rfl<|A0 (A8 rfl rfl) rfl<|qm rfl<|qm rfl<|es (.k rfl (.k rfl (.k rfl (.k rfl (.k rfl (.k rfl (.k rfl (.k rfl (.k rfl (.k rfl (.k rfl (.k rfl (.k rfl (.k rfl (.k rfl (.k rfl (.k rfl (.k rfl .n))))))))))))))))))<|s0<|oB h fun x14 hx14 h=>A0 (C3 rfl rfl rfl) rfl<|B7 (rs:=[(.seq 1 (List.map cI x14.1)),.i x14.2]) rfl rfl (A2 (D1 rfl) C0) ((B0j (B34 hscv) hx14).frz)<|qm rfl<|A0 (A8 rfl rfl) rfl<|A0 (A8 rfl rfl) rfl<|qm rfl<|qm rfl<|es (.k rfl (.k rfl (.k rfl (.k rfl (.k rfl (.k rfl (.k rfl (.k rfl (.k rfl (.k rfl (.k rfl (.k rfl (.k rfl (.k rfl (.k rfl (.k rfl (.k rfl (.k rfl (.k rfl .n)))))))))))))))))))<|s0<|oB h fun x15 hx15 h=>A0 (C3 rfl rfl rfl) rfl<|B7 (rs:=[.i x15.1,.i x15.2]) rfl rfl (A2 (D1 rfl) (A2 rfl C0)) ((B0i hx15).frz)<|qm rfl ?_
 refine A0 (A8 rfl rfl) rfl<|A0 (A8 rfl rfl) rfl<|qm rfl<|qm rfl<|es (.k rfl (.k rfl (.k rfl (.k rfl (.k rfl (.k rfl (.k rfl (.k rfl (.k rfl (.k rfl (.k rfl (.k rfl (.k rfl (.k rfl (.k rfl (.k rfl (.k rfl (.k rfl (.k rfl (.k rfl (.k rfl .n)))))))))))))))))))))<|s0<|oB h fun x16 hx16 h=>A0 (C3 rfl rfl rfl) rfl<|A0 (C3 rfl rfl rfl) rfl<|B7 (rs:=[.i x16.1,.i x16.2.1,.i x16.2.2]) rfl rfl (A2 (D1 rfl) (A2 (D1 rfl) C0)) ((A5h hx16).frz)<|qm rfl<|A0 (A8 rfl rfl) rfl<|A0 (A8 rfl rfl) rfl<|A0 (A8 rfl rfl) rfl<|qm rfl<|qm rfl<|qm rfl<|es (.k rfl (.k rfl (.k rfl (.k rfl (.k rfl (.k rfl (.k rfl (.k rfl (.k rfl (.k rfl (.k rfl (.k rfl (.k rfl (.k rfl (.k rfl (.k rfl (.k rfl (.k rfl (.k rfl (.k rfl (.k rfl (.k rfl (.k rfl .n)))))))))))))))))))))))<|s0<|oB h fun x29 hx29 h=>oB h fun x35 hx35 h=>oB h fun x39 hx39 h=>oB h fun x42 hx42 h=>oB h fun x45 hx45 h=>qm rfl<|A0 (G1 rfl rfl) rfl<|qm rfl<|gp 3 98 (.b ((x3.2 == 0) && (x4.2 == 0))) 95 rfl rfl (fun hg17=>?_) (fun hg17=>?_) ?_
 ·exact gT rfl hg17<|qm rfl<|gT rfl hg17<|A0 (G1 rfl rfl) rfl<|A0 (D2 rfl hg17 rfl) rfl<|ge 3 (by rw [hg17]; rfl) rfl rfl
 ·exact nT rfl hg17 rfl<|nT rfl hg17 rfl<|A0 (D3 rfl hg17 rfl) rfl<|ge 3 (by rw [hg17]; rfl) rfl rfl
 refine qm rfl<|gp 3 102 (.b (((x3.2 == 0) && (x4.2 == 0)) && (x5.2 == 0))) 99 rfl rfl (fun hg18=>?_) (fun hg18=>?_) ?_
 ·exact gT rfl hg18<|qm rfl<|gT rfl hg18<|A0 (G1 rfl rfl) rfl<|A0 (D2 rfl hg18 rfl) rfl<|ge 3 (by rw [hg18]; rfl) rfl rfl
 ·exact nT rfl hg18 rfl<|nT rfl hg18 rfl<|A0 (D3 rfl hg18 rfl) rfl<|ge 3 (by rw [hg18]; rfl) rfl rfl
 refine qm rfl<|gp 3 106 (.b ((((x3.2 == 0) && (x4.2 == 0)) && (x5.2 == 0)) && (x6.2.2 == 0))) 103 rfl rfl (fun hg19=>?_) (fun hg19=>?_) ?_
 ·exact gT rfl hg19<|qm rfl<|gT rfl hg19<|A0 (G1 rfl rfl) rfl<|A0 (D2 rfl hg19 rfl) rfl<|ge 3 (by rw [hg19]; rfl) rfl rfl
 ·exact nT rfl hg19 rfl<|nT rfl hg19 rfl<|A0 (D3 rfl hg19 rfl) rfl<|ge 3 (by rw [hg19]; rfl) rfl rfl
 refine qm rfl<|gp 3 110 (.b (((((x3.2 == 0) && (x4.2 == 0)) && (x5.2 == 0)) && (x6.2.2 == 0)) && (x8.2 == 9))) 107 rfl rfl (fun hg20=>?_) (fun hg20=>?_) ?_
 ·exact gT rfl hg20<|qm rfl<|gT rfl hg20<|A0 (G1 rfl rfl) rfl<|A0 (D2 rfl hg20 rfl) rfl<|ge 3 (by rw [hg20]; rfl) rfl rfl
 ·exact nT rfl hg20 rfl<|nT rfl hg20 rfl<|A0 (D3 rfl hg20 rfl) rfl<|ge 3 (by rw [hg20]; rfl) rfl rfl
 refine qm rfl<|gp 3 114 (.b ((((((x3.2 == 0) && (x4.2 == 0)) && (x5.2 == 0)) && (x6.2.2 == 0)) && (x8.2 == 9)) && (x10.2 == 0))) 111 rfl rfl (fun hg21=>?_) (fun hg21=>?_) ?_
 ·exact gT rfl hg21<|qm rfl<|gT rfl hg21<|A0 (G1 rfl rfl) rfl<|A0 (D2 rfl hg21 rfl) rfl<|ge 3 (by rw [hg21]; rfl) rfl rfl
 ·exact nT rfl hg21 rfl<|nT rfl hg21 rfl<|A0 (D3 rfl hg21 rfl) rfl<|ge 3 (by rw [hg21]; rfl) rfl rfl
 refine qm rfl<|gp 3 118 (.b (((((((x3.2 == 0) && (x4.2 == 0)) && (x5.2 == 0)) && (x6.2.2 == 0)) && (x8.2 == 9)) && (x10.2 == 0)) && (x12.2 == 0))) 115 rfl rfl (fun hg22=>?_) (fun hg22=>?_) ?_
 ·exact gT rfl hg22<|qm rfl<|gT rfl hg22<|A0 (G1 rfl rfl) rfl<|A0 (D2 rfl hg22 rfl) rfl<|ge 3 (by rw [hg22]; rfl) rfl rfl
 ·exact nT rfl hg22 rfl<|nT rfl hg22 rfl<|A0 (D3 rfl hg22 rfl) rfl<|ge 3 (by rw [hg22]; rfl) rfl rfl
 refine qm rfl<|gp 3 122 (.b ((((((((x3.2 == 0) && (x4.2 == 0)) && (x5.2 == 0)) && (x6.2.2 == 0)) && (x8.2 == 9)) && (x10.2 == 0)) && (x12.2 == 0)) && (x13.2 == 0))) 119 rfl rfl (fun hg23=>?_) (fun hg23=>?_) ?_
 ·exact gT rfl hg23<|qm rfl<|gT rfl hg23<|A0 (G1 rfl rfl) rfl<|A0 (D2 rfl hg23 rfl) rfl<|ge 3 (by rw [hg23]; rfl) rfl rfl
 ·exact nT rfl hg23 rfl<|nT rfl hg23 rfl<|A0 (D3 rfl hg23 rfl) rfl<|ge 3 (by rw [hg23]; rfl) rfl rfl
 refine qm rfl<|gp 3 126 (.b (((((((((x3.2 == 0) && (x4.2 == 0)) && (x5.2 == 0)) && (x6.2.2 == 0)) && (x8.2 == 9)) && (x10.2 == 0)) && (x12.2 == 0)) && (x13.2 == 0)) && (x14.2 == 0))) 123 rfl rfl (fun hg24=>?_) (fun hg24=>?_) ?_
 ·exact gT rfl hg24<|qm rfl<|gT rfl hg24<|A0 (G1 rfl rfl) rfl<|A0 (D2 rfl hg24 rfl) rfl<|ge 3 (by rw [hg24]; rfl) rfl rfl
 ·exact nT rfl hg24 rfl<|nT rfl hg24 rfl<|A0 (D3 rfl hg24 rfl) rfl<|ge 3 (by rw [hg24]; rfl) rfl rfl
 refine qm rfl<|gp 3 130 (.b ((((((((((x3.2 == 0) && (x4.2 == 0)) && (x5.2 == 0)) && (x6.2.2 == 0)) && (x8.2 == 9)) && (x10.2 == 0)) && (x12.2 == 0)) && (x13.2 == 0)) && (x14.2 == 0)) && (x15.2 == 0))) 127 rfl rfl (fun hg25=>?_) (fun hg25=>?_) ?_
 ·exact gT rfl hg25<|qm rfl<|gT rfl hg25<|A0 (G1 rfl rfl) rfl<|A0 (D2 rfl hg25 rfl) rfl<|ge 3 (by rw [hg25]; rfl) rfl rfl
 ·exact nT rfl hg25 rfl<|nT rfl hg25 rfl<|A0 (D3 rfl hg25 rfl) rfl<|ge 3 (by rw [hg25]; rfl) rfl rfl
 refine qm rfl<|gp 3 134 (.b (((((((((((x3.2 == 0) && (x4.2 == 0)) && (x5.2 == 0)) && (x6.2.2 == 0)) && (x8.2 == 9)) && (x10.2 == 0)) && (x12.2 == 0)) && (x13.2 == 0)) && (x14.2 == 0)) && (x15.2 == 0)) && (x16.2.2 == 0))) 131 rfl rfl (fun hg26=>?_) (fun hg26=>?_) ?_
 ·exact gT rfl hg26<|qm rfl<|gT rfl hg26<|A0 (G1 rfl rfl) rfl<|A0 (D2 rfl hg26 rfl) rfl<|ge 3 (by rw [hg26]; rfl) rfl rfl
 ·exact nT rfl hg26 rfl<|nT rfl hg26 rfl<|A0 (D3 rfl hg26 rfl) rfl<|ge 3 (by rw [hg26]; rfl) rfl rfl
 refine qm rfl<|gp 4 139 (.b x29) 135 rfl rfl (fun hg27=>?_) (fun hg27=>?_) ?_
 ·refine oB (bt hx29 hg27) fun x28 hx28 hx29=>?_
  obtain rfl:=os hx29
  exact gT rfl hg27<|A0 (C3 rfl rfl rfl) rfl<|gT rfl hg27<|A11 (rs:=[(.agg (D5 x28))]) rfl rfl (P0 rfl (P0 rfl A4k)) (A2 rfl (A2 rfl C0)) ((R4 hx28).frz)<|gT rfl hg27<|A0 (C0r (a:=D5 x3.1) (b:=D5 x28) rfl rfl rfl rfl (A01 (A01 B1s))) rfl<|A0 (D2 rfl hg27 rfl) rfl<|ge 4 rfl rfl rfl
 ·obtain rfl:=os (bf hx29 hg27)
  exact nT rfl hg27 rfl<|nT rfl hg27 rfl<|nT rfl hg27 rfl<|A0 (D3 rfl hg27 rfl) rfl<|ge 4 rfl rfl rfl
 refine qm rfl<|gp 3 143 (.b (x29 && (x4.1 == 1))) 140 rfl rfl (fun hg30=>?_) (fun hg30=>?_) ?_
 ·exact gT rfl hg30<|qm rfl<|gT rfl hg30<|A0 (G1 rfl rfl) rfl<|A0 (D2 rfl hg30 rfl) rfl<|ge 3 (by rw [hg30]; rfl) rfl rfl
 ·exact nT rfl hg30 rfl<|nT rfl hg30 rfl<|A0 (D3 rfl hg30 rfl) rfl<|ge 3 (by rw [hg30]; rfl) rfl rfl
 refine qm rfl<|gp 3 147 (.b ((x29 && (x4.1 == 1)) && (x5.1 == 0))) 144 rfl rfl (fun hg31=>?_) (fun hg31=>?_) ?_
 ·exact gT rfl hg31<|qm rfl<|gT rfl hg31<|A0 (G1 rfl rfl) rfl<|A0 (D2 rfl hg31 rfl) rfl<|ge 3 (by rw [hg31]; rfl) rfl rfl
 ·exact nT rfl hg31 rfl<|nT rfl hg31 rfl<|A0 (D3 rfl hg31 rfl) rfl<|ge 3 (by rw [hg31]; rfl) rfl rfl
 refine qm rfl<|gp 5 153 (.b x35) 148 rfl rfl (fun hg32=>?_) (fun hg32=>?_) ?_
 ·refine oB (bt hx35 hg32) fun x33 hx33 hx35=>oB hx35 fun x34 hx34 hx35=>?_
  obtain rfl:=os hx35
  exact gT rfl hg32<|A0 (C3 rfl rfl rfl) rfl<|gT rfl hg32<|A0 (L4 (rows:=List.map cI [(-1),0,2]) rfl rfl (F2 (fun _=>rfl) _)) rfl<|gT rfl hg32<|A11 (rs:=[(.agg (B5 x33))]) rfl rfl (P0 rfl (P0 rfl A4k)) (A2 rfl (A2 rfl C0)) ((A0v hx33).frz)<|gT rfl hg32<|B7 (rs:=[.b x34]) rfl rfl (A2 (D1 rfl) (A2 (D1 rfl) C0)) ((B0f hx34).frz)<|A0 (D2 rfl hg32 rfl) rfl<|ge 5 rfl rfl rfl
 ·obtain rfl:=os (bf hx35 hg32)
  exact nT rfl hg32 rfl<|nT rfl hg32 rfl<|nT rfl hg32 rfl<|L5 (F3 rfl (by rw [hg32]; rfl)) rfl<|A0 (D3 rfl hg32 rfl) rfl<|ge 5 rfl rfl rfl
 refine qm rfl<|gp 3 157 (.b (x35 && (x6.2.1 == 12))) 154 rfl rfl (fun hg36=>?_) (fun hg36=>?_) ?_
 ·exact gT rfl hg36<|qm rfl<|gT rfl hg36<|A0 (G1 rfl rfl) rfl<|A0 (D2 rfl hg36 rfl) rfl<|ge 3 (by rw [hg36]; rfl) rfl rfl
 ·exact nT rfl hg36 rfl<|nT rfl hg36 rfl<|A0 (D3 rfl hg36 rfl) rfl<|ge 3 (by rw [hg36]; rfl) rfl rfl
 refine qm rfl<|gp 4 162 (.b x39) 158 rfl rfl (fun hg37=>?_) (fun hg37=>?_) ?_
 ·refine oB (bt hx39 hg37) fun x38 hx38 hx39=>?_
  obtain rfl:=os hx39
  exact gT rfl hg37<|qm rfl<|gT rfl hg37<|A0 (L4 (rows:=List.map cI [350,320]) rfl rfl (F2 (fun _=>rfl) _)) rfl<|gT rfl hg37<|B7 (rs:=[.b x38]) rfl rfl (A2 rfl (A2 rfl C0)) ((A10 hx38).frz)<|A0 (D2 rfl hg37 rfl) rfl<|ge 4 rfl rfl rfl
 ·obtain rfl:=os (bf hx39 hg37)
  exact nT rfl hg37 rfl<|nT rfl hg37 rfl<|L5 (F3 rfl (by rw [hg37]; rfl)) rfl<|A0 (D3 rfl hg37 rfl) rfl<|ge 4 rfl rfl rfl
 refine qm rfl<|gp 4 167 (.b x42) 163 rfl rfl (fun hg40=>?_) (fun hg40=>?_) ?_
 ·refine oB (bt hx42 hg40) fun x41 hx41 hx42=>?_
  obtain rfl:=os hx42
  exact gT rfl hg40<|qm rfl<|gT rfl hg40<|A0 (L4 (rows:=List.map cI [0]) rfl rfl (F2 (fun _=>rfl) _)) rfl<|gT rfl hg40<|B7 (rs:=[.b x41]) rfl rfl (A2 rfl (A2 rfl C0)) ((A10 hx41).frz)<|A0 (D2 rfl hg40 rfl) rfl<|ge 4 rfl rfl rfl
 ·obtain rfl:=os (bf hx42 hg40)
  exact nT rfl hg40 rfl<|nT rfl hg40 rfl<|L5 (F3 rfl (by rw [hg40]; rfl)) rfl<|A0 (D3 rfl hg40 rfl) rfl<|ge 4 rfl rfl rfl
 refine qm rfl<|gp 4 172 (.b x45) 168 rfl rfl (fun hg43=>?_) (fun hg43=>?_) ?_
 ·refine oB (bt hx45 hg43) fun x44 hx44 hx45=>?_
  obtain rfl:=os hx45
  exact gT rfl hg43<|qm rfl<|gT rfl hg43<|A0 (L4 (rows:=List.map cI [0]) rfl rfl (F2 (fun _=>rfl) _)) rfl<|gT rfl hg43<|B7 (rs:=[.b x44]) rfl rfl (A2 rfl (A2 rfl C0)) ((A10 hx44).frz)<|A0 (D2 rfl hg43 rfl) rfl<|ge 4 rfl rfl rfl
 ·obtain rfl:=os (bf hx45 hg43)
  exact nT rfl hg43 rfl<|nT rfl hg43 rfl<|L5 (F3 rfl (by rw [hg43]; rfl)) rfl<|A0 (D3 rfl hg43 rfl) rfl<|ge 4 rfl rfl rfl
 refine qm rfl<|gp 4 177 (.b (x45 && ((List.length x14.1:Int) == 0))) 173 rfl rfl (fun hg46=>?_) (fun hg46=>?_) ?_
 ·exact gT rfl hg46<|qm rfl<|gT rfl hg46<|A0 (E0 (f:=cI) rfl) rfl<|gT rfl hg46<|A0 (G1 rfl rfl) rfl<|A0 (D2 rfl hg46 rfl) rfl<|ge 4 (by rw [hg46]; rfl) rfl rfl
 ·exact nT rfl hg46 rfl<|nT rfl hg46 rfl<|nT rfl hg46 rfl<|A0 (D3 rfl hg46 rfl) rfl<|ge 4 (by rw [hg46]; rfl) rfl rfl
 refine qm rfl<|gp 3 181 (.b ((x45 && ((List.length x14.1:Int) == 0)) && (x15.1 == 1))) 178 rfl rfl (fun hg47=>?_) (fun hg47=>?_) ?_
 ·exact gT rfl hg47<|qm rfl<|gT rfl hg47<|A0 (G1 rfl rfl) rfl<|A0 (D2 rfl hg47 rfl) rfl<|ge 3 (by rw [hg47]; rfl) rfl rfl
 ·exact nT rfl hg47 rfl<|nT rfl hg47 rfl<|A0 (D3 rfl hg47 rfl) rfl<|ge 3 (by rw [hg47]; rfl) rfl rfl
 refine qm rfl<|gp 3 185 (.b (((x45 && ((List.length x14.1:Int) == 0)) && (x15.1 == 1)) && (x16.1 == 1))) 182 rfl rfl (fun hg48=>?_) (fun hg48=>?_) ?_
 ·exact gT rfl hg48<|qm rfl<|gT rfl hg48<|A0 (G1 rfl rfl) rfl<|A0 (D2 rfl hg48 rfl) rfl<|ge 3 (by rw [hg48]; rfl) rfl rfl
 ·exact nT rfl hg48 rfl<|nT rfl hg48 rfl<|A0 (D3 rfl hg48 rfl) rfl<|ge 3 (by rw [hg48]; rfl) rfl rfl
 refine qm rfl<|gp 3 189 (.b ((((x45 && ((List.length x14.1:Int) == 0)) && (x15.1 == 1)) && (x16.1 == 1)) && (x16.2.1 == 0))) 186 rfl rfl (fun hg49=>?_) (fun hg49=>?_) ?_
 ·exact gT rfl hg49<|qm rfl<|gT rfl hg49<|A0 (G1 rfl rfl) rfl<|A0 (D2 rfl hg49 rfl) rfl<|ge 3 (by rw [hg49]; rfl) rfl rfl
 ·exact nT rfl hg49 rfl<|nT rfl hg49 rfl<|A0 (D3 rfl hg49 rfl) rfl<|ge 3 (by rw [hg49]; rfl) rfl rfl
 refine qm rfl<|es (ra1 rfl)<|C4 ?_
 obtain rfl:=os h
 exact retq trivial (A9 rfl B4) (A3 rfl B3) (A1 A7 B1)
end Rm
end
section
set_option maxRecDepth 100000
set_option maxHeartbeats 0
namespace Rm
open Go Am
theorem B5p:A2t = some true:= by decide +kernel
end Rm
end
section
set_option maxRecDepth 100000
set_option maxHeartbeats 0
namespace Rm
open Go Am Go.Proofs.YtbheamjhjgoccaaDoor.Cd
end Rm
end
section
namespace Rm
open Go Am
def A23 (w:Span) (f:RoFigure):Int:=if f.Cracks≤w.Lo∧w.Hi≤f.Slumps then 1 else if f.Cracks > w.Hi∨w.Lo > f.Slumps then 2 else 0
theorem C4z {h:RoHouse} (ok:HOk h) {f p l:Nat} (hf:f < h.Figures.length) (hp:p < h.Places.length) (hl:l < 16):O5 ⟨h⟩ (f:Int) (p:Int) (l:Int) = some (A23 (warm h p l) h.Figures[f]!):= by
 have b:=A93 ok hp l
 have g:=(ok.figure _ (L6 hf)).bears
 unfold O5
 rw [B37 ok hp hl,G0 hf]
 simp only [Option.bind_some]
 generalize warm h p l = w at b ⊢
 generalize h.Figures[f]! = r at g ⊢
 unfold A23 B02 A8h
 by_cases c1:r.Cracks≤w.Lo
 ·by_cases c2:w.Hi≤r.Slumps
  ·simp [c1,c2,show ¬ (r.Cracks > w.Lo) by omega,show ¬ (r.Slumps < w.Hi) by omega]
  ·by_cases c3:w.Lo > r.Slumps
   ·simp [c2,c3,show ¬ (r.Cracks > w.Lo) by omega,show (r.Slumps < w.Hi) by omega,show ¬ (r.Slumps = w.Hi) by omega]
   ·simp [c2,c3,show ¬ (r.Cracks > w.Lo) by omega,show (r.Slumps < w.Hi) by omega,show ¬ (r.Slumps = w.Hi) by omega,show ¬ (r.Cracks > w.Hi) by omega]
 ·by_cases c2:w.Hi≤r.Slumps
  ·by_cases c3:r.Cracks > w.Hi
   ·simp [c1,c3,show (r.Cracks > w.Lo) by omega,show ¬ (r.Slumps < w.Hi) by omega,show ¬ (r.Cracks = w.Lo) by omega]
   ·simp [c1,c3,show (r.Cracks > w.Lo) by omega,show ¬ (r.Slumps < w.Hi) by omega,show ¬ (r.Cracks = w.Lo) by omega,show ¬ (w.Lo > r.Slumps) by omega]
  ·have h1:¬ (r.Cracks > r.Slumps):= by omega
   simp [c1,h1,show (r.Cracks > w.Lo) by omega,show (r.Slumps < w.Hi) by omega,show ¬ (r.Cracks = w.Lo) by omega,show ¬ (w.Lo > r.Slumps) by omega,show ¬ (r.Cracks > w.Hi) by omega]
def A7n (lo c s:Int) (i:Nat):Int:=max 0 (min (lo + i) (s + 1) - max lo c)
theorem B8q {h:RoHouse} {f:RoFigure} {p l:Int} {w:Span} (hw:A0l h p l = some w) (b:-1000≤w.Lo∧w.Lo≤w.Hi∧w.Hi≤1000) (g:-1000≤f.Cracks∧f.Cracks≤f.Slumps∧f.Slumps≤1000):R5 h f p l = some (A23 w f):= by
 unfold R5
 rw [hw]
 simp only [Option.bind_some]
 have l1:=M3 (b:=U7 f w) (fun i=>(A7n w.Lo f.Cracks f.Slumps i,(i:Int),w.Lo + i)) (w.Hi - w.Lo + 1).toNat (r:=(A7n w.Lo f.Cracks f.Slumps (w.Hi - w.Lo + 1).toNat,((w.Hi - w.Lo + 1).toNat:Int))) (by omega) (fun i hi=>by
  unfold U7
  simp only []
  have hc:0≤A7n w.Lo f.Cracks f.Slumps i∧A7n w.Lo f.Cracks f.Slumps i≤3000:= by unfold A7n; omega
  rw [if_pos (by rw [decide_eq_true_eq]; omega),within5]
  simp only [Option.bind_some]
  rw [F0 (n:=(i:Int) + 1) (by omega),F0 (n:=w.Lo + i + 1) (by omega),F0 (n:=A7n w.Lo f.Cracks f.Slumps i + 1) (by omega)]
  have e2:w.Lo + (i:Int) + 1 = w.Lo + ((i + 1:Nat):Int):= by omega
  rw [e2]
  cases ho:out f.Cracks f.Slumps (w.Lo + i) with
  | true =>
   have:¬ (f.Cracks≤w.Lo + i∧w.Lo + i≤f.Slumps):=fun h=>by rw [T8.mpr h] at ho; cases ho
   have e1:A7n w.Lo f.Cracks f.Slumps (i + 1) = A7n w.Lo f.Cracks f.Slumps i:= by unfold A7n; omega
   rw [e1]; rfl
  | false =>
   have:=T8.mp ho
   have e1:A7n w.Lo f.Cracks f.Slumps (i + 1) = A7n w.Lo f.Cracks f.Slumps i + 1:= by unfold A7n; omega
   rw [e1]; rfl) (by
  unfold U7
  simp only []
  rw [if_neg (by rw [decide_eq_true_eq]; omega)])
 have l0:(A7n w.Lo f.Cracks f.Slumps 0,((0:Nat):Int),w.Lo + ((0:Nat):Int)) = (0,0,w.Lo):= by
  have:A7n w.Lo f.Cracks f.Slumps 0 = 0:= by unfold A7n; omega
  rw [this,Int.natCast_zero,Int.add_zero]
 have l1:loop (U7 f w) (A7n w.Lo f.Cracks f.Slumps 0,((0:Nat):Int),w.Lo + ((0:Nat):Int)) = some (A7n w.Lo f.Cracks f.Slumps (w.Hi - w.Lo + 1).toNat,((w.Hi - w.Lo + 1).toNat:Int)):=l1
 rw [l0] at l1
 rw [l1]
 simp only [Option.bind_some]
 unfold A23
 have hc:A7n w.Lo f.Cracks f.Slumps (w.Hi - w.Lo + 1).toNat = max 0 (min (w.Hi + 1) (f.Slumps + 1) - max w.Lo f.Cracks):= by
  unfold A7n
  congr 3
  omega
 rw [hc]
 by_cases c1:f.Cracks≤w.Lo∧w.Hi≤f.Slumps
 ·rw [if_pos c1,if_pos (by rw [beq_iff_eq]; omega)]
 ·rw [if_neg c1,if_neg (by rw [beq_iff_eq]; omega)]
  by_cases c2:f.Cracks > w.Hi∨w.Lo > f.Slumps
  ·rw [if_pos c2,if_pos (by rw [beq_iff_eq]; omega)]
  ·rw [if_neg c2,if_neg (by rw [beq_iff_eq]; omega)]
theorem B5s {h:RoHouse} (ok:HOk h) {f:RoFigure} (hf:FiOk f) {p l:Nat} (hp:p < h.Places.length) (hl:l < 16):R5 h f (p:Int) (l:Int) = some (A23 (warm h p l) f):= by
 have b:=A93 ok hp l
 have g:=hf.bears
 exact B8q (B4r ok hp hl) (by omega) (by omega)
theorem B09 {h:RoHouse} (ok:HOk h):1≤2 ^ h.Stoves.toNat∧2 ^ h.Stoves.toNat≤8:= by
 have:=ok.s
 exact ⟨Nat.pow_pos (by decide),Nat.le_trans (Nat.pow_le_pow_right (by decide) (show h.Stoves.toNat≤3 by omega)) (by decide)⟩
theorem D2g {h:RoHouse} (ok:HOk h):B22 .i64 1 h.Stoves = some ((2 ^ h.Stoves.toNat:Nat):Int):= by
 have:=ok.s
 have e:=shl1 h.Stoves.toNat (by omega)
 rwa [Int.toNat_of_nonneg ok.s.1] at e
theorem D1c {h:RoHouse} (ok:HOk h):A1b h.Stoves = some ((2 ^ h.Stoves.toNat:Nat):Int):= by
 have:=ok.s
 have e:=C5t h.Stoves.toNat (by omega)
 rwa [Int.toNat_of_nonneg ok.s.1] at e
end Rm
end
section
set_option maxRecDepth 100000
set_option maxHeartbeats 0
namespace Rm
open Go Am Go.Proofs.YtbheamjhjgoccaaDoor.Cd
def Z2 (a0:RoHouse) (a1:RoPlan) (s1:(Int × (List Int))) (s4:(Int × Int)):Option ((Int × Int) ⊕ Int) :=
 if (decide (s4.2 < (List.length a1.At:Int))) = true then
  (idx a1.At s4.2).bind fun x7 =>
  (if (x7 != (-1)) = true then
  (idx a1.At s4.2).bind fun x9 =>
  (idx a0.Places x9).bind fun x10 =>
  (A44 x10.Joists s1.1).bind fun x11 =>
  some x11
  else
  some false).bind fun x12 =>
  if x12 = true then
  (idx a0.Figures s4.2).bind fun x14 =>
  some (.inl ((w64 (s4.1 + x14.Weight)),(w64 (s4.2 + 1))))
  else
  some (.inl (s4.1,(w64 (s4.2 + 1))))
 else
  some (.inr s4.1)
def Z3 (a0:RoHouse) (a1:RoPlan) (s1:(Int × (List Int))):Option ((Int × (List Int)) ⊕ (List Int)) :=
 if (decide (s1.1 < (List.length a0.Holds:Int))) = true then
  (loop (Z2 a0 a1 s1) (0,0)).bind fun (o15:Int) =>
  (app 8 s1.2 [o15]).bind fun x16 =>
  some (.inl ((w64 (s1.1 + 1)),x16))
 else
  some (.inr s1.2)
def A2u (a0:RoHouse) (a1:RoPlan):Option (List Int) :=
 (loop (Z3 a0 a1) (0,([]:List Int))).bind fun (o17:(List Int)) =>
 some o17
theorem A80 {c:Sc} {H:A5} {a0:RoHouse} {a1:RoPlan} {r:(List Int)} (h:A2u a0 a1 = some r) :
  E5 tab c H (.fn (.func 51) [] []) [(.agg (A4 a0)),(.agg (B5 a1))] [(.fresh 1 (List.map cI r))]:= by
 unfold A2u at h
 refine cE rfl rfl<|sg 0 rfl<|A0 (E7 (cs:=A4 a0) rfl rfl rfl) rfl<|A0 (E7 (cs:=B5 a1) rfl rfl rfl) rfl<|qm rfl<|es (ra2 rfl rfl)<|sg 2 rfl<|A0 B6p rfl<|es (ra3 rfl rfl rfl)<|B9<|s0<|qm rfl<|es (ra4 rfl rfl rfl rfl)<|C8<|oB h fun o17 ho17 h=>wl (fun s1=>[(2,(.ptr (H.length + 0) 0)),(3,(.ptr (H.length + 1) 0)),(5,(.asl (H.length + 2) (List.length s1.2))),(6,.i s1.1)]) (fun (q2:Unit) s1=>[(.cells (A4 a0)),(.cells (B5 a1)),(.arr 1 false (List.map cI s1.2))]) 3 (fun r e s' H'=>PX 0 [(5,(.asl (H.length + 2) (List.length r)))] (H++[(.cells (A4 a0)),(.cells (B5 a1)),(.arr 1 false (List.map cI r))]) e s' H') () ho17 rfl rfl (fun _ _=>rfl) (fun _=>rfl) rfl (fun s1=>(bdc (E2 rfl) (bdc (E2 rfl) (bdc (B0s rfl) (bdc A7 bdn))))) (fun q2 s1 ys1 hs1=>?_) ?_
 ·unfold Z3 at hs1
  refine B9<|s0<|qm rfl<|A0 (C6 rfl) rfl<|A0 (C5 rfl rfl rfl) rfl<|A0 (E0 (f:=cI) rfl) rfl<|A0 (I6 rfl rfl) rfl<|es (ra5 rfl rfl rfl rfl rfl)<|wi hs1 rfl (fun hc3 hs1=>?_) fun hc3 hs1=>?_
  ·refine C2<|B9<|C8<|s0<|qm rfl<|es (ra5 rfl rfl rfl rfl rfl)<|B9<|s0<|qm rfl<|es (ra6 rfl rfl rfl rfl rfl rfl)<|C8<|oB hs1 fun o15 ho15 hs1=>wl (fun s4=>[(2,(.ptr (H.length + 0) 0)),(3,(.ptr (H.length + 1) 0)),(5,(.asl (H.length + 2) (List.length s1.2))),(6,.i s1.1),(7,.i s4.1),(8,.i s4.2)]) (fun (q5:Unit) s4=>[(.cells (A4 a0)),(.cells (B5 a1)),(.arr 1 false (List.map cI s1.2))]) 3 (fun r e s' H'=>PX 2 [(2,(.ptr (H.length + 0) 0)),(3,(.ptr (H.length + 1) 0)),(5,(.asl (H.length + 2) (List.length s1.2))),(6,.i s1.1),(7,.i r)] (H++[(.cells (A4 a0)),(.cells (B5 a1)),(.arr 1 false (List.map cI s1.2))]) e s' H') () ho15 rfl rfl (fun _ _=>rfl) (fun _=>rfl) rfl (fun s4=>(bdc (E2 rfl) (bdc (E2 rfl) (bdc (B0s rfl) (bdc A7 (bdc A7 (bdc A7 bdn))))))) (fun q5 s4 ys4 hs4=>?_) ?_
   ·unfold Z2 at hs4
    refine B9<|s0<|qm rfl<|A0 (C6 rfl) rfl<|A0 (C5 rfl rfl rfl) rfl<|A0 (E0 (f:=cI) rfl) rfl<|A0 (I6 rfl rfl) rfl<|es (ra7 rfl rfl rfl rfl rfl rfl rfl)<|wi hs4 rfl (fun hc6 hs4=>?_) fun hc6 hs4=>?_
    ·refine C2<|B9<|C8<|s0<|oB hs4 fun x7 hx7 hs4=>oB hs4 fun x12 hx12 hs4=>A0 (C6 rfl) rfl<|A0 (C5 rfl rfl rfl) rfl<|qm rfl<|A0 (F4 (f:=cI) rfl rfl hx7) rfl<|A0 (F6 rfl rfl) rfl<|A0 (I7 rfl rfl) rfl<|qm rfl<|gp 13 42 (.b x12) 29 rfl rfl (fun hg8=>?_) (fun hg8=>?_) ?_
     ·refine oB (bt hx12 hg8) fun x9 hx9 hx12=>oB hx12 fun x10 hx10 hx12=>oB hx12 fun x11 hx11 hx12=>?_
      obtain rfl:=os hx12
      exact gT rfl hg8<|A0 (C6 rfl) rfl<|gT rfl hg8<|A0 (C5 rfl rfl rfl) rfl<|gT rfl hg8<|A0 (C6 rfl) rfl<|gT rfl hg8<|A0 (C5 rfl rfl rfl) rfl<|gT rfl hg8<|qm rfl<|gT rfl hg8<|A0 (F4 (f:=cI) rfl rfl hx9) rfl<|gT rfl hg8<|A0 (F6 rfl rfl) rfl<|gT rfl hg8<|A0 (F4 (f:=B8) rfl rfl hx10) rfl<|gT rfl hg8<|A0 (A4n (ds:=(List.drop 3 (B8 x10))) rfl rfl) rfl<|gT rfl hg8<|A0 (F6 rfl rfl) rfl<|gT rfl hg8<|qm rfl<|gT rfl hg8<|B7 (rs:=[.b x11]) rfl rfl (A2 rfl (A2 rfl C0)) ((B2c hx11).frz)<|A0 (D2 rfl hg8 rfl) rfl<|ge 13 rfl rfl rfl
     ·obtain rfl:=os (bf hx12 hg8)
      exact nT rfl hg8 rfl<|nT rfl hg8 rfl<|nT rfl hg8 rfl<|nT rfl hg8 rfl<|nT rfl hg8 rfl<|nT rfl hg8 rfl<|nT rfl hg8 rfl<|nT rfl hg8 rfl<|nT rfl hg8 rfl<|nT rfl hg8 rfl<|nT rfl hg8 rfl<|L5 (F3 rfl (by rw [hg8]; rfl)) rfl<|A0 (D3 rfl hg8 rfl) rfl<|ge 13 rfl rfl rfl
     refine es (ra7 rfl rfl rfl rfl rfl rfl rfl)<|wi hs4 rfl (fun hc13 hs4=>?_) fun hc13 hs4=>?_
     ·refine r0<|oB hs4 fun x14 hx14 hs4=>qm rfl<|A0 (C6 rfl) rfl<|A0 (C5 rfl rfl rfl) rfl<|qm rfl<|A0 (F4 (f:=B2) rfl rfl hx14) rfl<|A0 (A4n (ds:=(List.drop 2 (B2 x14))) rfl rfl) rfl<|A0 (F6 rfl rfl) rfl<|A0 (E6 rfl rfl) rfl<|qm rfl<|en (ra6 rfl rfl rfl rfl rfl rfl)<|r0<|qm rfl<|A0 (E6 rfl rfl) rfl<|qm rfl<|en (ra6 rfl rfl rfl rfl rfl rfl) ?_
      cases hs4
      exact lnT () rfl (su6 rfl rfl rfl rfl rfl rfl)
     ·refine C2<|r0<|qm rfl<|A0 (E6 rfl rfl) rfl<|qm rfl<|en (ra6 rfl rfl rfl rfl rfl rfl) ?_
      cases hs4
      exact lnT () rfl (su6 rfl rfl rfl rfl rfl rfl)
    ·refine F5 ?_
     obtain rfl:=os hs4
     exact lx rfl px (su5 rfl rfl rfl rfl rfl)
   ·rintro e s' H' - ⟨rfl,rfl,rfl⟩
    refine r0<|oB hs1 fun x16 hx16 hs1=>qm rfl<|qm rfl<|A0 (L4 (rows:=List.map cI [o15]) rfl rfl (F2 (fun _=>rfl) _)) rfl<|B2j (B3s (f:=cI) rfl rfl rfl rfl B30 (fun _=>rfl) hx16) rfl<|qm rfl<|en (ra4 rfl rfl rfl rfl)<|r0<|qm rfl<|A0 (E6 rfl rfl) rfl<|qm rfl<|en (ra4 rfl rfl rfl rfl) ?_
    cases hs1
    exact lnT () rfl (su4 rfl rfl rfl rfl)
  ·refine F5 ?_
   obtain rfl:=os hs1
   exact lx rfl px (su1 rfl)
 ·rintro e s' H' - ⟨rfl,rfl,rfl⟩
  refine s0<|qm rfl<|qm rfl<|es (ra1 rfl)<|C4 ?_
  obtain rfl:=os h
  exact retq trivial (A9 rfl B4) (A3 (B64 rfl (List.length_map _)) B3) (A1 A8k B1)
def A29 (a0:(List Int)) (a1:Int) (s1:Int):Option (Int ⊕ (Bool ⊕ Unit)) :=
 if (decide (s1 < (List.length a0:Int))) = true then
  (idx a0 s1).bind fun x4 =>
  if (x4 == a1) = true then
  some (.inr (.inl true))
  else
  some (.inl (w64 (s1 + 1)))
 else
  some (.inr (.inr ()))
def A7a (a0:(List Int)) (a1:Int):Option Bool :=
 (loop (A29 a0 a1) 0).bind fun (o6:(Bool ⊕ Unit)) =>
 match o6 with
 | (.inl vo6_0) =>
  some vo6_0
 | (.inr vo6_1) =>
  some false
theorem C0v {c:Sc} {H:A5} {a0:(List Int)} {a1:Int} {r:Bool} (h:A7a a0 a1 = some r) :
  E5 tab c H (.fn (.func 54) [] []) [(.seq 1 (List.map cI a0)),.i a1] [.b r]:= by
 unfold A7a at h
 refine cE rfl rfl<|s0<|qm rfl<|es (ra2 rfl rfl)<|B9<|s0<|qm rfl<|es (ra3 rfl rfl rfl)<|C8<|oB h fun o6 ho6 h=>wl (fun s1=>[(0,(.seq 1 (List.map cI a0))),(1,.i a1),(5,.i s1)]) (fun (q2:Unit) s1=>[]) 0 (fun r e s' H'=>(match r with | (.inl v)=>e = .ret∧RetQ H [.tmp 4] [.b v] e s' H' | (.inr v)=>PX 0 [] (H++[]) e s' H':Prop)) () ho6 rfl rfl (fun _ _=>rfl) (fun _=>rfl) rfl (fun s1=>(bdc M4 (bdc A7 (bdc A7 bdn)))) (fun q2 s1 ys1 hs1=>?_) ?_
 ·unfold A29 at hs1
  refine B9<|s0<|qm rfl<|qm rfl<|A0 (E0 (f:=cI) rfl) rfl<|A0 (I6 rfl rfl) rfl<|es (ra4 rfl rfl rfl rfl)<|wi hs1 rfl (fun hc3 hs1=>?_) fun hc3 hs1=>?_
  ·refine C2<|B9<|C8<|s0<|oB hs1 fun x4 hx4 hs1=>qm rfl<|qm rfl<|A0 (F4 (f:=cI) rfl rfl hx4) rfl<|A0 (F6 rfl rfl) rfl<|qm rfl<|A0 (G1 rfl rfl) rfl<|es (ra4 rfl rfl rfl rfl)<|wi hs1 rfl (fun hc5 hs1=>?_) fun hc5 hs1=>?_
   ·refine s0<|qm rfl<|es (ra1 rfl)<|C4 ?_
    obtain rfl:=os hs1
    exact lx rfl (And.intro rfl (retq trivial (A9 rfl B4) (A3 rfl B3) (A1 A7 B1))) (Sub.refl _)
   ·refine C2<|r0<|qm rfl<|A0 (E6 rfl rfl) rfl<|qm rfl<|en (ra3 rfl rfl rfl) ?_
    cases hs1
    exact lnT () rfl (su3 rfl rfl rfl)
  ·refine F5 ?_
   obtain rfl:=os hs1
   exact lx rfl px (.nil _)
 ·rcases o6 with vo6_0 | vo6_1
  ·rintro e s' H' - ⟨rfl,hret⟩
   cases h
   exact hret
  ·rintro e s' H' - ⟨rfl,rfl,rfl⟩
   refine s0<|qm rfl<|es (ra1 rfl)<|C4 ?_
   obtain rfl:=os h
   exact retq trivial (A9 rfl B4) (A3 rfl B3) (A1 A7 B1)
def M8 (a0:RoHouse) (a1:RoPlan) (s11:(Int × Int)):Option ((Int × Int) ⊕ Int) :=
 if ((decide (s11.2 < (List.length a1.At:Int))) && (s11.1 == 0)) = true then
  (idx a1.At s11.2).bind fun x15 =>
  (G6 x15 (-1) (w64 ((List.length a0.Places:Int) - 1))).bind fun x16 =>
  if (!x16) = true then
  some (.inl (4,(w64 (s11.2 + 1))))
  else
  some (.inl (s11.1,(w64 (s11.2 + 1))))
 else
  some (.inr s11.1)
def R6 (a1:RoPlan) (s19:(Int × Int)):Option ((Int × Int) ⊕ Int) :=
 if ((decide (s19.2 < (List.length a1.At:Int))) && (s19.1 == 0)) = true then
  (idx a1.At s19.2).bind fun x23 =>
  (if (x23 != (-1)) = true then
  (slc a1.At 0 s19.2).bind fun x25 =>
  (idx a1.At s19.2).bind fun x26 =>
  (A7a x25 x26).bind fun x27 =>
  some x27
  else
  some false).bind fun x28 =>
  if x28 = true then
  some (.inl (5,(w64 (s19.2 + 1))))
  else
  some (.inl (s19.1,(w64 (s19.2 + 1))))
 else
  some (.inr s19.1)
def A3r (a0:RoHouse) (a1:RoPlan):Option Int :=
 (A0d a0).bind fun x1 =>
 (if (x1.2.2 == 0) = true then
  (A1b a0.Stoves).bind fun x3 =>
  (G6 a1.Lit 0 (w64 (x3 - 1))).bind fun x4 =>
  some (!x4)
 else
  some false).bind fun x5 =>
 (if x5 = true then
  some 7
  else
  some x1.2.2).bind fun (p6:Int) =>
 (if ((p6 == 0) && ((List.length a1.At:Int) != (List.length a0.Figures:Int))) = true then
  some 3
  else
  some p6).bind fun (p9:Int) =>
 (loop (M8 a0 a1) (p9,0)).bind fun (o18:Int) =>
 (loop (R6 a1) (o18,0)).bind fun (o30:Int) =>
 some o30
theorem B0e {c:Sc} {H:A5} {a0:RoHouse} {a1:RoPlan} {r:Int} (h:A3r a0 a1 = some r) :
  E5 tab c H (.fn (.func 45) [] []) [(.agg (A4 a0)),(.agg (B5 a1))] [.i r]:= by
 unfold A3r at h
 refine cE rfl rfl<|sg 0 rfl<|A0 (E7 (cs:=A4 a0) rfl rfl rfl) rfl<|A0 (E7 (cs:=B5 a1) rfl rfl rfl) rfl<|qm rfl<|es (ra2 rfl rfl)<|s0<|oB h fun x1 hx1 h=>A0 (C3 rfl rfl rfl) rfl<|B7 (rs:=[.i x1.1,.i x1.2.1,.i x1.2.2]) rfl rfl (A2 (D1 rfl) C0) ((A28 hx1).frz)<|qm rfl<|A0 (A8 rfl rfl) rfl<|A0 (A8 rfl rfl) rfl<|A0 (A8 rfl rfl) rfl<|qm rfl<|qm rfl<|qm rfl<|es (ra3 rfl rfl rfl)<|B9<|s0<|oB h fun x5 hx5 h=>qm rfl<|A0 (G1 rfl rfl) rfl<|qm rfl<|gp 9 27 (.b x5) 18 rfl rfl (fun hg2=>?_) (fun hg2=>?_) ?_
 ·refine oB (bt hx5 hg2) fun x3 hx3 hx5=>oB hx5 fun x4 hx4 hx5=>?_
  obtain rfl:=os hx5
  exact gT rfl hg2<|A0 (C6 rfl) rfl<|gT rfl hg2<|A0 (C5 rfl rfl rfl) rfl<|gT rfl hg2<|A0 (C6 rfl) rfl<|gT rfl hg2<|A0 (C5 rfl rfl rfl) rfl<|gT rfl hg2<|A11 (rs:=[.i x3]) rfl rfl (P0 rfl A4k) (A2 rfl C0) ((A6n hx3).frz)<|gT rfl hg2<|A0 (W6 rfl rfl) rfl<|gT rfl hg2<|B7 (rs:=[.b x4]) rfl rfl (A2 rfl (A2 rfl (A2 rfl C0))) ((H8 hx4).frz)<|gT rfl hg2<|A0 (U5 rfl) rfl<|A0 (D2 rfl hg2 rfl) rfl<|ge 9 rfl rfl rfl
 ·obtain rfl:=os (bf hx5 hg2)
  exact nT rfl hg2 rfl<|nT rfl hg2 rfl<|nT rfl hg2 rfl<|nT rfl hg2 rfl<|nT rfl hg2 rfl<|nT rfl hg2 rfl<|L5 (F3 rfl (by rw [hg2]; rfl)) rfl<|nT rfl hg2 rfl<|A0 (D3 rfl hg2 rfl) rfl<|ge 9 rfl rfl rfl
 refine es (ra4 rfl rfl rfl rfl)<|oB h fun p6 hp6 h=>A9g (Q1:=fun e s' H'=>e = .normal∧s' = [(2,(.ptr (H.length + 0) 0)),(3,(.ptr (H.length + 1) 0)),(7,.i p6)]∧H' = (H++[(.cells (A4 a0)),(.cells (B5 a1))])) ?_ ?_
 ·refine wi hp6 rfl (fun hc7 hp6=>?_) fun hc7 hp6=>?_
  ·refine r0<|qm rfl<|en (ra3 rfl rfl rfl) ?_
   obtain rfl:=os hp6
   exact me (And.intro rfl (And.intro rfl rfl)) (su3 rfl rfl rfl)
  ·refine C2 ?_
   obtain rfl:=os hp6
   exact me (And.intro rfl (And.intro rfl rfl)) (su3 rfl rfl rfl)
 ·rintro e s' H' ⟨rfl,rfl,rfl⟩
  refine B9<|s0<|qm rfl<|A0 (G1 rfl rfl) rfl<|qm rfl<|gp 8 38 (.b ((p6 == 0) && ((List.length a1.At:Int) != (List.length a0.Figures:Int)))) 30 rfl rfl (fun hg8=>?_) (fun hg8=>?_) ?_
  ·exact gT rfl hg8<|A0 (C6 rfl) rfl<|gT rfl hg8<|A0 (C5 rfl rfl rfl) rfl<|gT rfl hg8<|A0 (E0 (f:=cI) rfl) rfl<|gT rfl hg8<|A0 (C6 rfl) rfl<|gT rfl hg8<|A0 (C5 rfl rfl rfl) rfl<|gT rfl hg8<|A0 (E0 (f:=B2) rfl) rfl<|gT rfl hg8<|A0 (I7 rfl rfl) rfl<|A0 (D2 rfl hg8 rfl) rfl<|ge 8 (by rw [hg8]; rfl) rfl rfl
  ·exact nT rfl hg8 rfl<|nT rfl hg8 rfl<|nT rfl hg8 rfl<|nT rfl hg8 rfl<|nT rfl hg8 rfl<|nT rfl hg8 rfl<|nT rfl hg8 rfl<|A0 (D3 rfl hg8 rfl) rfl<|ge 8 (by rw [hg8]; rfl) rfl rfl
  refine es (ra4 rfl rfl rfl rfl)<|oB h fun p9 hp9 h=>A9g (Q1:=fun e s' H'=>e = .normal∧s' = [(2,(.ptr (H.length + 0) 0)),(3,(.ptr (H.length + 1) 0)),(7,.i p9)]∧H' = (H++[(.cells (A4 a0)),(.cells (B5 a1))])) ?_ ?_
  ·refine wi hp9 rfl (fun hc10 hp9=>?_) fun hc10 hp9=>?_
   ·refine r0<|qm rfl<|en (ra3 rfl rfl rfl) ?_
    obtain rfl:=os hp9
    exact me (And.intro rfl (And.intro rfl rfl)) (su3 rfl rfl rfl)
   ·refine C2 ?_
    obtain rfl:=os hp9
    exact me (And.intro rfl (And.intro rfl rfl)) (su3 rfl rfl rfl)
  ·rintro e s' H' ⟨rfl,rfl,rfl⟩
   refine B9<|s0<|qm rfl<|es (ra4 rfl rfl rfl rfl)<|C8<|oB h fun o18 ho18 h=>wl (fun s11=>[(2,(.ptr (H.length + 0) 0)),(3,(.ptr (H.length + 1) 0)),(7,.i s11.1),(8,.i s11.2)]) (fun (q12:Unit) s11=>[(.cells (A4 a0)),(.cells (B5 a1))]) 2 (fun r e s' H'=>PX 0 [(3,(.ptr (H.length + 1) 0)),(7,.i r)] (H++[(.cells (A4 a0)),(.cells (B5 a1))]) e s' H') () ho18 rfl rfl (fun _ _=>rfl) (fun _=>rfl) rfl (fun s11=>(bdc (E2 rfl) (bdc (E2 rfl) (bdc A7 (bdc A7 bdn))))) (fun q12 s11 ys11 hs11=>?_) ?_
   ·unfold M8 at hs11
    refine B9<|s0<|qm rfl<|A0 (C6 rfl) rfl<|A0 (C5 rfl rfl rfl) rfl<|A0 (E0 (f:=cI) rfl) rfl<|A0 (I6 rfl rfl) rfl<|qm rfl<|gp 3 47 (.b ((decide (s11.2 < (List.length a1.At:Int))) && (s11.1 == 0))) 44 rfl rfl (fun hg13=>?_) (fun hg13=>?_) ?_
    ·exact gT rfl hg13<|qm rfl<|gT rfl hg13<|A0 (G1 rfl rfl) rfl<|A0 (D2 rfl hg13 rfl) rfl<|ge 3 (by rw [hg13]; rfl) rfl rfl
    ·exact nT rfl hg13 rfl<|nT rfl hg13 rfl<|A0 (D3 rfl hg13 rfl) rfl<|ge 3 (by rw [hg13]; rfl) rfl rfl
    refine es (ra5 rfl rfl rfl rfl rfl)<|wi hs11 rfl (fun hc14 hs11=>?_) fun hc14 hs11=>?_
    ·refine C2<|B9<|C8<|s0<|oB hs11 fun x15 hx15 hs11=>oB hs11 fun x16 hx16 hs11=>A0 (C6 rfl) rfl<|A0 (C5 rfl rfl rfl) rfl<|qm rfl<|A0 (F4 (f:=cI) rfl rfl hx15) rfl<|A0 (F6 rfl rfl) rfl<|A0 (C6 rfl) rfl<|A0 (C5 rfl rfl rfl) rfl<|A0 (E0 (f:=B8) rfl) rfl<|A0 (W6 rfl rfl) rfl<|B7 (rs:=[.b x16]) rfl rfl (A2 rfl (A2 rfl (A2 rfl C0))) ((H8 hx16).frz)<|A0 (U5 rfl) rfl<|es (ra5 rfl rfl rfl rfl rfl)<|wi hs11 rfl (fun hc17 hs11=>?_) fun hc17 hs11=>?_
     ·refine r0<|qm rfl<|en (ra4 rfl rfl rfl rfl)<|r0<|qm rfl<|A0 (E6 rfl rfl) rfl<|qm rfl<|en (ra4 rfl rfl rfl rfl) ?_
      cases hs11
      exact lnT () rfl (su4 rfl rfl rfl rfl)
     ·refine C2<|r0<|qm rfl<|A0 (E6 rfl rfl) rfl<|qm rfl<|en (ra4 rfl rfl rfl rfl) ?_
      cases hs11
      exact lnT () rfl (su4 rfl rfl rfl rfl)
    ·refine F5 ?_
     obtain rfl:=os hs11
     exact lx rfl px (su2 rfl rfl)
   ·rintro e s' H' - ⟨rfl,rfl,rfl⟩
    refine B9<|s0<|qm rfl<|es (ra3 rfl rfl rfl)<|C8<|oB h fun o30 ho30 h=>wl (fun s19=>[(3,(.ptr (H.length + 1) 0)),(7,.i s19.1),(9,.i s19.2)]) (fun (q20:Unit) s19=>[(.cells (A4 a0)),(.cells (B5 a1))]) 2 (fun r e s' H'=>PX 2 [(7,.i r)] (H++[(.cells (A4 a0)),(.cells (B5 a1))]) e s' H') () ho30 rfl rfl (fun _ _=>rfl) (fun _=>rfl) rfl (fun s19=>(bdc (E2 rfl) (bdc A7 (bdc A7 bdn)))) (fun q20 s19 ys19 hs19=>?_) ?_
    ·unfold R6 at hs19
     refine B9<|s0<|qm rfl<|A0 (C6 rfl) rfl<|A0 (C5 rfl rfl rfl) rfl<|A0 (E0 (f:=cI) rfl) rfl<|A0 (I6 rfl rfl) rfl<|qm rfl<|gp 3 69 (.b ((decide (s19.2 < (List.length a1.At:Int))) && (s19.1 == 0))) 66 rfl rfl (fun hg21=>?_) (fun hg21=>?_) ?_
     ·exact gT rfl hg21<|qm rfl<|gT rfl hg21<|A0 (G1 rfl rfl) rfl<|A0 (D2 rfl hg21 rfl) rfl<|ge 3 (by rw [hg21]; rfl) rfl rfl
     ·exact nT rfl hg21 rfl<|nT rfl hg21 rfl<|A0 (D3 rfl hg21 rfl) rfl<|ge 3 (by rw [hg21]; rfl) rfl rfl
     refine es (ra4 rfl rfl rfl rfl)<|wi hs19 rfl (fun hc22 hs19=>?_) fun hc22 hs19=>?_
     ·refine C2<|B9<|C8<|s0<|oB hs19 fun x23 hx23 hs19=>oB hs19 fun x28 hx28 hs19=>A0 (C6 rfl) rfl<|A0 (C5 rfl rfl rfl) rfl<|qm rfl<|A0 (F4 (f:=cI) rfl rfl hx23) rfl<|A0 (F6 rfl rfl) rfl<|A0 (I7 rfl rfl) rfl<|qm rfl<|gp 11 89 (.b x28) 78 rfl rfl (fun hg24=>?_) (fun hg24=>?_) ?_
      ·refine oB (bt hx28 hg24) fun x25 hx25 hx28=>oB hx28 fun x26 hx26 hx28=>oB hx28 fun x27 hx27 hx28=>?_
       obtain rfl:=os hx28
       exact gT rfl hg24<|A0 (C6 rfl) rfl<|gT rfl hg24<|A0 (C5 rfl rfl rfl) rfl<|gT rfl hg24<|qm rfl<|gT rfl hg24<|A0 (A63 (f:=cI) rfl rfl rfl hx25) rfl<|gT rfl hg24<|A0 (C6 rfl) rfl<|gT rfl hg24<|A0 (C5 rfl rfl rfl) rfl<|gT rfl hg24<|qm rfl<|gT rfl hg24<|A0 (F4 (f:=cI) rfl rfl hx26) rfl<|gT rfl hg24<|A0 (F6 rfl rfl) rfl<|gT rfl hg24<|B7 (rs:=[.b x27]) rfl rfl (A2 rfl (A2 rfl C0)) ((C0v hx27).frz)<|A0 (D2 rfl hg24 rfl) rfl<|ge 11 rfl rfl rfl
      ·obtain rfl:=os (bf hx28 hg24)
       exact nT rfl hg24 rfl<|nT rfl hg24 rfl<|nT rfl hg24 rfl<|nT rfl hg24 rfl<|nT rfl hg24 rfl<|nT rfl hg24 rfl<|nT rfl hg24 rfl<|nT rfl hg24 rfl<|nT rfl hg24 rfl<|L5 (F3 rfl (by rw [hg24]; rfl)) rfl<|A0 (D3 rfl hg24 rfl) rfl<|ge 11 rfl rfl rfl
      refine es (ra4 rfl rfl rfl rfl)<|wi hs19 rfl (fun hc29 hs19=>?_) fun hc29 hs19=>?_
      ·refine r0<|qm rfl<|en (ra3 rfl rfl rfl)<|r0<|qm rfl<|A0 (E6 rfl rfl) rfl<|qm rfl<|en (ra3 rfl rfl rfl) ?_
       cases hs19
       exact lnT () rfl (su3 rfl rfl rfl)
      ·refine C2<|r0<|qm rfl<|A0 (E6 rfl rfl) rfl<|qm rfl<|en (ra3 rfl rfl rfl) ?_
       cases hs19
       exact lnT () rfl (su3 rfl rfl rfl)
     ·refine F5 ?_
      obtain rfl:=os hs19
      exact lx rfl px (su1 rfl)
    ·rintro e s' H' - ⟨rfl,rfl,rfl⟩
     refine s0<|qm rfl<|qm rfl<|es (ra1 rfl)<|C4 ?_
     obtain rfl:=os h
     exact retq trivial (A9 rfl B4) (A3 rfl B3) (A1 A7 B1)
def A37 (a0:RoHouse) (a1:RoPlan):Option ((List Int) × Int) :=
 (A3r a0 a1).bind fun x1 =>
 if (x1 != 0) = true then
  some (([]:List Int),x1)
 else
  (A2u a0 a1).bind fun x3 =>
  some (x3,0)
theorem B6v {c:Sc} {H:A5} {a0:RoHouse} {a1:RoPlan} {r:((List Int) × Int)} (h:A37 a0 a1 = some r) :
  E5 tab c H (.fn (.func 25) [] []) [(.agg (A4 a0)),(.agg (B5 a1))] [(.seq 1 (List.map cI r.1)),.i r.2]:= by
 unfold A37 at h
 refine cE rfl rfl<|sg 0 rfl<|A0 (E7 (cs:=A4 a0) rfl rfl rfl) rfl<|A0 (E7 (cs:=B5 a1) rfl rfl rfl) rfl<|qm rfl<|qm rfl<|es (ra2 rfl rfl)<|s0<|oB h fun x1 hx1 h=>A0 (C3 rfl rfl rfl) rfl<|A0 (C3 rfl rfl rfl) rfl<|B7 (rs:=[.i x1]) rfl rfl (A2 (D1 rfl) (A2 (D1 rfl) C0)) ((B0e hx1).frz)<|qm rfl<|es (ra3 rfl rfl rfl)<|B9<|s0<|qm rfl<|A0 (I7 rfl rfl) rfl<|es (ra4 rfl rfl rfl rfl)<|wi h rfl (fun hc2 h=>?_) fun hc2 h=>?_
 ·refine s0<|qm rfl<|qm rfl<|qm rfl<|es (ra2 rfl rfl)<|C4 ?_
  obtain rfl:=os h
  exact retq trivial (A9 rfl (A9 rfl B4)) (A3 rfl (A3 rfl B3)) (A1 M4 (A1 A7 B1))
 ·refine C2<|s0<|oB h fun x3 hx3 h=>A0 (C3 rfl rfl rfl) rfl<|A0 (C3 rfl rfl rfl) rfl<|B7 (rs:=[(.seq 1 (List.map cI x3))]) rfl rfl (A2 (D1 rfl) (A2 (D1 rfl) C0)) ((A80 hx3).frz)<|qm rfl<|qm rfl<|es (ra2 rfl rfl)<|C4 ?_
  obtain rfl:=os h
  exact retq trivial (A9 rfl (A9 rfl B4)) (A3 rfl (A3 rfl B3)) (A1 M4 (A1 A7 B1))
def A0w (a0:RoHouse) (a1:RoPlan) (s1:Int) (s4:(Int × Int)):Option ((Int × Int) ⊕ Int) :=
 if (decide (s4.2 < (List.length a1.At:Int))) = true then
  (idx a1.At s4.2).bind fun x7 =>
  (if (x7 != (-1)) = true then
  (idx a1.At s4.2).bind fun x9 =>
  (idx a0.Places x9).bind fun x10 =>
  some x10.Dear
  else
  some false).bind fun x11 =>
  (if x11 = true then
  (idx a0.Figures s4.2).bind fun x13 =>
  some (x13.Class == s1)
  else
  some false).bind fun x14 =>
  if x14 = true then
  some (.inl ((w64 (s4.1 + 1)),(w64 (s4.2 + 1))))
  else
  some (.inl (s4.1,(w64 (s4.2 + 1))))
 else
  some (.inr s4.1)
def A0x (a0:RoHouse) (s1:Int) (s17:(Int × Int)):Option ((Int × Int) ⊕ Int) :=
 if (decide (s17.2 < (List.length a0.Bill:Int))) = true then
  (idx a0.Bill s17.2).bind fun x20 =>
  if (x20 == s1) = true then
  some (.inl ((w64 (s17.1 + 1)),(w64 (s17.2 + 1))))
  else
  some (.inl (s17.1,(w64 (s17.2 + 1))))
 else
  some (.inr s17.1)
def A15 (a0:RoHouse) (a1:RoPlan) (s1:Int):Option (Int ⊕ (Bool ⊕ Unit)) :=
 if (decide (s1≤9)) = true then
  (loop (A0w a0 a1 s1) (0,0)).bind fun (o16:Int) =>
  (loop (A0x a0 s1) (0,0)).bind fun (o22:Int) =>
  if (decide (o16 < o22)) = true then
  some (.inr (.inl false))
  else
  some (.inl (w64 (s1 + 1)))
 else
  some (.inr (.inr ()))
def A5n (a0:RoHouse) (a1:RoPlan):Option Bool :=
 (loop (A15 a0 a1) 0).bind fun (o24:(Bool ⊕ Unit)) =>
 match o24 with
 | (.inl vo24_0) =>
  some vo24_0
 | (.inr vo24_1) =>
  some true
theorem B8a {c:Sc} {H:A5} {a0:RoHouse} {a1:RoPlan} {r:Bool} (h:A5n a0 a1 = some r) :
  E5 tab c H (.fn (.func 47) [] []) [(.agg (A4 a0)),(.agg (B5 a1))] [.b r]:= by
 unfold A5n at h
 refine cE rfl rfl<|sg 0 rfl<|A0 (E7 (cs:=A4 a0) rfl rfl rfl) rfl<|A0 (E7 (cs:=B5 a1) rfl rfl rfl) rfl<|qm rfl<|es (ra2 rfl rfl)<|B9<|s0<|qm rfl<|es (ra3 rfl rfl rfl)<|C8<|oB h fun o24 ho24 h=>wl (fun s1=>[(2,(.ptr (H.length + 0) 0)),(3,(.ptr (H.length + 1) 0)),(5,.i s1)]) (fun (q2:Unit) s1=>[(.cells (A4 a0)),(.cells (B5 a1))]) 2 (fun r e s' H'=>(match r with | (.inl v)=>e = .ret∧RetQ H [.tmp 4] [.b v] e s' H' | (.inr v)=>PX 0 [] (H++[(.cells (A4 a0)),(.cells (B5 a1))]) e s' H':Prop)) () ho24 rfl rfl (fun _ _=>rfl) (fun _=>rfl) rfl (fun s1=>(bdc (E2 rfl) (bdc (E2 rfl) (bdc A7 bdn)))) (fun q2 s1 ys1 hs1=>?_) ?_
 ·unfold A15 at hs1
  refine B9<|s0<|qm rfl<|A0 (B39 rfl rfl) rfl<|es (ra4 rfl rfl rfl rfl)<|wi hs1 rfl (fun hc3 hs1=>?_) fun hc3 hs1=>?_
  ·refine C2<|B9<|C8<|s0<|qm rfl<|qm rfl<|es (ra5 rfl rfl rfl rfl rfl)<|B9<|s0<|qm rfl<|es (ra6 rfl rfl rfl rfl rfl rfl)<|C8<|oB hs1 fun o16 ho16 hs1=>wl (fun s4=>[(2,(.ptr (H.length + 0) 0)),(3,(.ptr (H.length + 1) 0)),(5,.i s1),(6,.i s4.1),(7,.i 0),(8,.i s4.2)]) (fun (q5:Unit) s4=>[(.cells (A4 a0)),(.cells (B5 a1))]) 2 (fun r e s' H'=>PX 2 [(2,(.ptr (H.length + 0) 0)),(3,(.ptr (H.length + 1) 0)),(5,.i s1),(6,.i r),(7,.i 0)] (H++[(.cells (A4 a0)),(.cells (B5 a1))]) e s' H') () ho16 rfl rfl (fun _ _=>rfl) (fun _=>rfl) rfl (fun s4=>(bdc (E2 rfl) (bdc (E2 rfl) (bdc A7 (bdc A7 (bdc A7 (bdc A7 bdn))))))) (fun q5 s4 ys4 hs4=>?_) ?_
   ·unfold A0w at hs4
    refine B9<|s0<|qm rfl<|A0 (C6 rfl) rfl<|A0 (C5 rfl rfl rfl) rfl<|A0 (E0 (f:=cI) rfl) rfl<|A0 (I6 rfl rfl) rfl<|es (ra7 rfl rfl rfl rfl rfl rfl rfl)<|wi hs4 rfl (fun hc6 hs4=>?_) fun hc6 hs4=>?_
    ·refine C2<|B9<|C8<|s0<|oB hs4 fun x7 hx7 hs4=>oB hs4 fun x11 hx11 hs4=>oB hs4 fun x14 hx14 hs4=>A0 (C6 rfl) rfl<|A0 (C5 rfl rfl rfl) rfl<|qm rfl<|A0 (F4 (f:=cI) rfl rfl hx7) rfl<|A0 (F6 rfl rfl) rfl<|A0 (I7 rfl rfl) rfl<|qm rfl<|gp 11 38 (.b x11) 27 rfl rfl (fun hg8=>?_) (fun hg8=>?_) ?_
     ·refine oB (bt hx11 hg8) fun x9 hx9 hx11=>oB hx11 fun x10 hx10 hx11=>?_
      obtain rfl:=os hx11
      exact gT rfl hg8<|A0 (C6 rfl) rfl<|gT rfl hg8<|A0 (C5 rfl rfl rfl) rfl<|gT rfl hg8<|A0 (C6 rfl) rfl<|gT rfl hg8<|A0 (C5 rfl rfl rfl) rfl<|gT rfl hg8<|qm rfl<|gT rfl hg8<|A0 (F4 (f:=cI) rfl rfl hx9) rfl<|gT rfl hg8<|A0 (F6 rfl rfl) rfl<|gT rfl hg8<|A0 (F4 (f:=B8) rfl rfl hx10) rfl<|gT rfl hg8<|A0 (A4n (ds:=(List.drop 1 (B8 x10))) rfl rfl) rfl<|gT rfl hg8<|A0 (F6 rfl rfl) rfl<|A0 (D2 rfl hg8 rfl) rfl<|ge 11 rfl rfl rfl
     ·obtain rfl:=os (bf hx11 hg8)
      exact nT rfl hg8 rfl<|nT rfl hg8 rfl<|nT rfl hg8 rfl<|nT rfl hg8 rfl<|nT rfl hg8 rfl<|nT rfl hg8 rfl<|nT rfl hg8 rfl<|nT rfl hg8 rfl<|nT rfl hg8 rfl<|nT rfl hg8 rfl<|A0 (D3 rfl hg8 rfl) rfl<|ge 11 rfl rfl rfl
     refine qm rfl<|gp 9 48 (.b x14) 39 rfl rfl (fun hg12=>?_) (fun hg12=>?_) ?_
     ·refine oB (bt hx14 hg12) fun x13 hx13 hx14=>?_
      obtain rfl:=os hx14
      exact gT rfl hg12<|A0 (C6 rfl) rfl<|gT rfl hg12<|A0 (C5 rfl rfl rfl) rfl<|gT rfl hg12<|qm rfl<|gT rfl hg12<|A0 (F4 (f:=B2) rfl rfl hx13) rfl<|gT rfl hg12<|A0 (A4n (ds:=(List.drop 1 (B2 x13))) rfl rfl) rfl<|gT rfl hg12<|A0 (F6 rfl rfl) rfl<|gT rfl hg12<|qm rfl<|gT rfl hg12<|A0 (G1 rfl rfl) rfl<|A0 (D2 rfl hg12 rfl) rfl<|ge 9 rfl rfl rfl
     ·obtain rfl:=os (bf hx14 hg12)
      exact nT rfl hg12 rfl<|nT rfl hg12 rfl<|nT rfl hg12 rfl<|nT rfl hg12 rfl<|nT rfl hg12 rfl<|nT rfl hg12 rfl<|nT rfl hg12 rfl<|nT rfl hg12 rfl<|A0 (D3 rfl hg12 rfl) rfl<|ge 9 rfl rfl rfl
     refine es (ra7 rfl rfl rfl rfl rfl rfl rfl)<|wi hs4 rfl (fun hc15 hs4=>?_) fun hc15 hs4=>?_
     ·refine r0<|qm rfl<|A0 (E6 rfl rfl) rfl<|qm rfl<|en (ra6 rfl rfl rfl rfl rfl rfl)<|r0<|qm rfl<|A0 (E6 rfl rfl) rfl<|qm rfl<|en (ra6 rfl rfl rfl rfl rfl rfl) ?_
      cases hs4
      exact lnT () rfl (su6 rfl rfl rfl rfl rfl rfl)
     ·refine C2<|r0<|qm rfl<|A0 (E6 rfl rfl) rfl<|qm rfl<|en (ra6 rfl rfl rfl rfl rfl rfl) ?_
      cases hs4
      exact lnT () rfl (su6 rfl rfl rfl rfl rfl rfl)
    ·refine F5 ?_
     obtain rfl:=os hs4
     exact lx rfl px (su5 rfl rfl rfl rfl rfl)
   ·rintro e s' H' - ⟨rfl,rfl,rfl⟩
    refine B9<|s0<|qm rfl<|es (ra6 rfl rfl rfl rfl rfl rfl)<|C8<|oB hs1 fun o22 ho22 hs1=>wl (fun s17=>[(2,(.ptr (H.length + 0) 0)),(3,(.ptr (H.length + 1) 0)),(5,.i s1),(6,.i o16),(7,.i s17.1),(9,.i s17.2)]) (fun (q18:Unit) s17=>[(.cells (A4 a0)),(.cells (B5 a1))]) 2 (fun r e s' H'=>PX 4 [(2,(.ptr (H.length + 0) 0)),(3,(.ptr (H.length + 1) 0)),(5,.i s1),(6,.i o16),(7,.i r)] (H++[(.cells (A4 a0)),(.cells (B5 a1))]) e s' H') () ho22 rfl rfl (fun _ _=>rfl) (fun _=>rfl) rfl (fun s17=>(bdc (E2 rfl) (bdc (E2 rfl) (bdc A7 (bdc A7 (bdc A7 (bdc A7 bdn))))))) (fun q18 s17 ys17 hs17=>?_) ?_
    ·unfold A0x at hs17
     refine B9<|s0<|qm rfl<|A0 (C6 rfl) rfl<|A0 (C5 rfl rfl rfl) rfl<|A0 (E0 (f:=cI) rfl) rfl<|A0 (I6 rfl rfl) rfl<|es (ra7 rfl rfl rfl rfl rfl rfl rfl)<|wi hs17 rfl (fun hc19 hs17=>?_) fun hc19 hs17=>?_
     ·refine C2<|B9<|C8<|s0<|oB hs17 fun x20 hx20 hs17=>A0 (C6 rfl) rfl<|A0 (C5 rfl rfl rfl) rfl<|qm rfl<|A0 (F4 (f:=cI) rfl rfl hx20) rfl<|A0 (F6 rfl rfl) rfl<|qm rfl<|A0 (G1 rfl rfl) rfl<|es (ra7 rfl rfl rfl rfl rfl rfl rfl)<|wi hs17 rfl (fun hc21 hs17=>?_) fun hc21 hs17=>?_
      ·refine r0<|qm rfl<|A0 (E6 rfl rfl) rfl<|qm rfl<|en (ra6 rfl rfl rfl rfl rfl rfl)<|r0<|qm rfl<|A0 (E6 rfl rfl) rfl<|qm rfl<|en (ra6 rfl rfl rfl rfl rfl rfl) ?_
       cases hs17
       exact lnT () rfl (su6 rfl rfl rfl rfl rfl rfl)
      ·refine C2<|r0<|qm rfl<|A0 (E6 rfl rfl) rfl<|qm rfl<|en (ra6 rfl rfl rfl rfl rfl rfl) ?_
       cases hs17
       exact lnT () rfl (su6 rfl rfl rfl rfl rfl rfl)
     ·refine F5 ?_
      obtain rfl:=os hs17
      exact lx rfl px (su5 rfl rfl rfl rfl rfl)
    ·rintro e s' H' - ⟨rfl,rfl,rfl⟩
     refine s0<|qm rfl<|qm rfl<|A0 (I6 rfl rfl) rfl<|es (ra4 rfl rfl rfl rfl)<|wi hs1 rfl (fun hc23 hs1=>?_) fun hc23 hs1=>?_
     ·refine s0<|qm rfl<|es (ra1 rfl)<|C4 ?_
      obtain rfl:=os hs1
      exact lx rfl (And.intro rfl (retq trivial (A9 rfl B4) (A3 rfl B3) (A1 A7 B1))) (Sub.refl _)
     ·refine C2<|r0<|qm rfl<|A0 (E6 rfl rfl) rfl<|qm rfl<|en (ra3 rfl rfl rfl) ?_
      cases hs1
      exact lnT () rfl (su3 rfl rfl rfl)
  ·refine F5 ?_
   obtain rfl:=os hs1
   exact lx rfl px (.nil _)
 ·rcases o24 with vo24_0 | vo24_1
  ·rintro e s' H' - ⟨rfl,hret⟩
   cases h
   exact hret
  ·rintro e s' H' - ⟨rfl,rfl,rfl⟩
   refine s0<|qm rfl<|es (ra1 rfl)<|C4 ?_
   obtain rfl:=os h
   exact retq trivial (A9 rfl B4) (A3 rfl B3) (A1 A7 B1)
def Z0 (a0:RoHouse) (a1:RoPlan) (s1:Int):Option (Int ⊕ (Bool ⊕ Unit)) :=
 if (decide (s1 < (List.length a1.At:Int))) = true then
  (idx a1.At s1).bind fun x4 =>
  (if (x4 != (-1)) = true then
  (idx a0.Figures s1).bind fun x6 =>
  (idx a1.At s1).bind fun x7 =>
  (R5 a0 x6 x7 a1.Lit).bind fun x8 =>
  some (x8 != 1)
  else
  some false).bind fun x9 =>
  if x9 = true then
  some (.inr (.inl false))
  else
  some (.inl (w64 (s1 + 1)))
 else
  some (.inr (.inr ()))
def Z1 (a0:RoHouse) (x12:(List Int)) (s13:Int):Option (Int ⊕ (Bool ⊕ Unit)) :=
 if (decide (s13 < (List.length x12:Int))) = true then
  (idx x12 s13).bind fun x16 =>
  (idx a0.Holds s13).bind fun x17 =>
  if (decide (x16 > x17)) = true then
  some (.inr (.inl false))
  else
  some (.inl (w64 (s13 + 1)))
 else
  some (.inr (.inr ()))
def A14 (a0:RoHouse) (a1:RoPlan):Option Bool :=
 (loop (Z0 a0 a1) 0).bind fun (o11:(Bool ⊕ Unit)) =>
 match o11 with
 | (.inl vo11_0) =>
  some vo11_0
 | (.inr vo11_1) =>
  (A2u a0 a1).bind fun x12 =>
  (loop (Z1 a0 x12) 0).bind fun (o19:(Bool ⊕ Unit)) =>
  match o19 with
  | (.inl vo19_0) =>
  some vo19_0
  | (.inr vo19_1) =>
  (A5n a0 a1).bind fun x20 =>
  some x20
theorem B3t {c:Sc} {H:A5} {a0:RoHouse} {a1:RoPlan} {r:Bool} (h:A14 a0 a1 = some r) :
  E5 tab c H (.fn (.func 92) [] []) [(.agg (A4 a0)),(.agg (B5 a1))] [.b r]:= by
 unfold A14 at h
 refine cE rfl rfl<|sg 0 rfl<|A0 (E7 (cs:=A4 a0) rfl rfl rfl) rfl<|A0 (E7 (cs:=B5 a1) rfl rfl rfl) rfl<|qm rfl<|es (ra2 rfl rfl)<|B9<|s0<|qm rfl<|es (ra3 rfl rfl rfl)<|C8<|oB h fun o11 ho11 h=>wl (fun s1=>[(2,(.ptr (H.length + 0) 0)),(3,(.ptr (H.length + 1) 0)),(5,.i s1)]) (fun (q2:Unit) s1=>[(.cells (A4 a0)),(.cells (B5 a1))]) 2 (fun r e s' H'=>(match r with | (.inl v)=>e = .ret∧RetQ H [.tmp 4] [.b v] e s' H' | (.inr v)=>PX 0 [(2,(.ptr (H.length + 0) 0)),(3,(.ptr (H.length + 1) 0))] (H++[(.cells (A4 a0)),(.cells (B5 a1))]) e s' H':Prop)) () ho11 rfl rfl (fun _ _=>rfl) (fun _=>rfl) rfl (fun s1=>(bdc (E2 rfl) (bdc (E2 rfl) (bdc A7 bdn)))) (fun q2 s1 ys1 hs1=>?_) ?_
 ·unfold Z0 at hs1
  refine B9<|s0<|qm rfl<|A0 (C6 rfl) rfl<|A0 (C5 rfl rfl rfl) rfl<|A0 (E0 (f:=cI) rfl) rfl<|A0 (I6 rfl rfl) rfl<|es (ra4 rfl rfl rfl rfl)<|wi hs1 rfl (fun hc3 hs1=>?_) fun hc3 hs1=>?_
  ·refine C2<|B9<|C8<|s0<|oB hs1 fun x4 hx4 hs1=>oB hs1 fun x9 hx9 hs1=>A0 (C6 rfl) rfl<|A0 (C5 rfl rfl rfl) rfl<|qm rfl<|A0 (F4 (f:=cI) rfl rfl hx4) rfl<|A0 (F6 rfl rfl) rfl<|A0 (I7 rfl rfl) rfl<|qm rfl<|gp 16 37 (.b x9) 21 rfl rfl (fun hg5=>?_) (fun hg5=>?_) ?_
   ·refine oB (bt hx9 hg5) fun x6 hx6 hx9=>oB hx9 fun x7 hx7 hx9=>oB hx9 fun x8 hx8 hx9=>?_
    obtain rfl:=os hx9
    exact gT rfl hg5<|A0 (C3 rfl rfl rfl) rfl<|gT rfl hg5<|A0 (C6 rfl) rfl<|gT rfl hg5<|A0 (C5 rfl rfl rfl) rfl<|gT rfl hg5<|qm rfl<|gT rfl hg5<|A0 (F4 (f:=B2) rfl rfl hx6) rfl<|gT rfl hg5<|A0 (V1 rfl rfl) rfl<|gT rfl hg5<|A0 (C6 rfl) rfl<|gT rfl hg5<|A0 (C5 rfl rfl rfl) rfl<|gT rfl hg5<|qm rfl<|gT rfl hg5<|A0 (F4 (f:=cI) rfl rfl hx7) rfl<|gT rfl hg5<|A0 (F6 rfl rfl) rfl<|gT rfl hg5<|A0 (C6 rfl) rfl<|gT rfl hg5<|A0 (C5 rfl rfl rfl) rfl<|gT rfl hg5<|B7 (rs:=[.i x8]) rfl rfl (A2 (D1 rfl) (A2 (D1 rfl) (A2 rfl (A2 rfl C0)))) ((A3m hx8).frz)<|gT rfl hg5<|A0 (I7 rfl rfl) rfl<|A0 (D2 rfl hg5 rfl) rfl<|ge 16 rfl rfl rfl
   ·obtain rfl:=os (bf hx9 hg5)
    exact nT rfl hg5 rfl<|nT rfl hg5 rfl<|nT rfl hg5 rfl<|nT rfl hg5 rfl<|nT rfl hg5 rfl<|nT rfl hg5 rfl<|nT rfl hg5 rfl<|nT rfl hg5 rfl<|nT rfl hg5 rfl<|nT rfl hg5 rfl<|nT rfl hg5 rfl<|nT rfl hg5 rfl<|nT rfl hg5 rfl<|L5 (F3 rfl (by rw [hg5]; rfl)) rfl<|nT rfl hg5 rfl<|A0 (D3 rfl hg5 rfl) rfl<|ge 16 rfl rfl rfl
   refine es (ra4 rfl rfl rfl rfl)<|wi hs1 rfl (fun hc10 hs1=>?_) fun hc10 hs1=>?_
   ·refine s0<|qm rfl<|es (ra1 rfl)<|C4 ?_
    obtain rfl:=os hs1
    exact lx rfl (And.intro rfl (retq trivial (A9 rfl B4) (A3 rfl B3) (A1 A7 B1))) (Sub.refl _)
   ·refine C2<|r0<|qm rfl<|A0 (E6 rfl rfl) rfl<|qm rfl<|en (ra3 rfl rfl rfl) ?_
    cases hs1
    exact lnT () rfl (su3 rfl rfl rfl)
  ·refine F5 ?_
   obtain rfl:=os hs1
   exact lx rfl px (su2 rfl rfl)
 ·rcases o11 with vo11_0 | vo11_1
  ·rintro e s' H' - ⟨rfl,hret⟩
   cases h
   exact hret
  ·rintro e s' H' - ⟨rfl,rfl,rfl⟩
   refine s0<|oB h fun x12 hx12 h=>A0 (C3 rfl rfl rfl) rfl<|A0 (C3 rfl rfl rfl) rfl<|B7 (rs:=[(.seq 1 (List.map cI x12))]) rfl rfl (A2 (D1 rfl) (A2 (D1 rfl) C0)) ((A80 hx12).frz)<|qm rfl<|es (ra3 rfl rfl rfl)<|B9<|s0<|qm rfl<|es (ra4 rfl rfl rfl rfl)<|C8<|oB h fun o19 ho19 h=>wl (fun s13=>[(2,(.ptr (H.length + 0) 0)),(3,(.ptr (H.length + 1) 0)),(6,(.seq 1 (List.map cI x12))),(7,.i s13)]) (fun (q14:Unit) s13=>[(.cells (A4 a0)),(.cells (B5 a1))]) 2 (fun r e s' H'=>(match r with | (.inl v)=>e = .ret∧RetQ H [.tmp 4] [.b v] e s' H' | (.inr v)=>PX 2 [(2,(.ptr (H.length + 0) 0)),(3,(.ptr (H.length + 1) 0))] (H++[(.cells (A4 a0)),(.cells (B5 a1))]) e s' H':Prop)) () ho19 rfl rfl (fun _ _=>rfl) (fun _=>rfl) rfl (fun s13=>(bdc (E2 rfl) (bdc (E2 rfl) (bdc M4 (bdc A7 bdn))))) (fun q14 s13 ys13 hs13=>?_) ?_
   ·unfold Z1 at hs13
    refine B9<|s0<|qm rfl<|qm rfl<|A0 (E0 (f:=cI) rfl) rfl<|A0 (I6 rfl rfl) rfl<|es (ra5 rfl rfl rfl rfl rfl)<|wi hs13 rfl (fun hc15 hs13=>?_) fun hc15 hs13=>?_
    ·refine C2<|B9<|C8<|s0<|oB hs13 fun x16 hx16 hs13=>oB hs13 fun x17 hx17 hs13=>qm rfl<|qm rfl<|A0 (F4 (f:=cI) rfl rfl hx16) rfl<|A0 (F6 rfl rfl) rfl<|A0 (C6 rfl) rfl<|A0 (C5 rfl rfl rfl) rfl<|qm rfl<|A0 (F4 (f:=cI) rfl rfl hx17) rfl<|A0 (F6 rfl rfl) rfl<|A0 (A00 rfl rfl) rfl<|es (ra5 rfl rfl rfl rfl rfl)<|wi hs13 rfl (fun hc18 hs13=>?_) fun hc18 hs13=>?_
     ·refine s0<|qm rfl<|es (ra1 rfl)<|C4 ?_
      obtain rfl:=os hs13
      exact lx rfl (And.intro rfl (retq trivial (A9 rfl B4) (A3 rfl B3) (A1 A7 B1))) (Sub.refl _)
     ·refine C2<|r0<|qm rfl<|A0 (E6 rfl rfl) rfl<|qm rfl<|en (ra4 rfl rfl rfl rfl) ?_
      cases hs13
      exact lnT () rfl (su4 rfl rfl rfl rfl)
    ·refine F5 ?_
     obtain rfl:=os hs13
     exact lx rfl px (su2 rfl rfl)
   ·rcases o19 with vo19_0 | vo19_1
    ·rintro e s' H' - ⟨rfl,hret⟩
     cases h
     exact hret
    ·rintro e s' H' - ⟨rfl,rfl,rfl⟩
     refine s0<|oB h fun x20 hx20 h=>A0 (C3 rfl rfl rfl) rfl<|A0 (C3 rfl rfl rfl) rfl<|B7 (rs:=[.b x20]) rfl rfl (A2 (D1 rfl) (A2 (D1 rfl) C0)) ((B8a hx20).frz)<|qm rfl<|es (ra1 rfl)<|C4 ?_
     obtain rfl:=os h
     exact retq trivial (A9 rfl B4) (A3 rfl B3) (A1 A7 B1)
def Z7 (a0:RoHouse) (a1:RoPlan) (s1:(Int × Int)):Option ((Int × Int) ⊕ Int) :=
 if (decide (s1.2 < (List.length a1.At:Int))) = true then
  (idx a1.At s1.2).bind fun x4 =>
  if (x4 != (-1)) = true then
  (idx a0.Figures s1.2).bind fun x6 =>
  some (.inl ((w64 (s1.1 + x6.Worth)),(w64 (s1.2 + 1))))
  else
  some (.inl (s1.1,(w64 (s1.2 + 1))))
 else
  some (.inr s1.1)
def A39 (a0:RoHouse) (a1:RoPlan):Option Int :=
 (loop (Z7 a0 a1) (0,0)).bind fun (o7:Int) =>
 some o7
theorem B6x {c:Sc} {H:A5} {a0:RoHouse} {a1:RoPlan} {r:Int} (h:A39 a0 a1 = some r) :
  E5 tab c H (.fn (.func 46) [] []) [(.agg (A4 a0)),(.agg (B5 a1))] [.i r]:= by
 unfold A39 at h
 refine cE rfl rfl<|sg 0 rfl<|A0 (E7 (cs:=A4 a0) rfl rfl rfl) rfl<|A0 (E7 (cs:=B5 a1) rfl rfl rfl) rfl<|qm rfl<|es (ra2 rfl rfl)<|s0<|qm rfl<|es (ra3 rfl rfl rfl)<|B9<|s0<|qm rfl<|es (ra4 rfl rfl rfl rfl)<|C8<|oB h fun o7 ho7 h=>wl (fun s1=>[(2,(.ptr (H.length + 0) 0)),(3,(.ptr (H.length + 1) 0)),(5,.i s1.1),(6,.i s1.2)]) (fun (q2:Unit) s1=>[(.cells (A4 a0)),(.cells (B5 a1))]) 2 (fun r e s' H'=>PX 0 [(5,.i r)] (H++[(.cells (A4 a0)),(.cells (B5 a1))]) e s' H') () ho7 rfl rfl (fun _ _=>rfl) (fun _=>rfl) rfl (fun s1=>(bdc (E2 rfl) (bdc (E2 rfl) (bdc A7 (bdc A7 bdn))))) (fun q2 s1 ys1 hs1=>?_) ?_
 ·unfold Z7 at hs1
  refine B9<|s0<|qm rfl<|A0 (C6 rfl) rfl<|A0 (C5 rfl rfl rfl) rfl<|A0 (E0 (f:=cI) rfl) rfl<|A0 (I6 rfl rfl) rfl<|es (ra5 rfl rfl rfl rfl rfl)<|wi hs1 rfl (fun hc3 hs1=>?_) fun hc3 hs1=>?_
  ·refine C2<|B9<|C8<|s0<|oB hs1 fun x4 hx4 hs1=>A0 (C6 rfl) rfl<|A0 (C5 rfl rfl rfl) rfl<|qm rfl<|A0 (F4 (f:=cI) rfl rfl hx4) rfl<|A0 (F6 rfl rfl) rfl<|A0 (I7 rfl rfl) rfl<|es (ra5 rfl rfl rfl rfl rfl)<|wi hs1 rfl (fun hc5 hs1=>?_) fun hc5 hs1=>?_
   ·refine r0<|oB hs1 fun x6 hx6 hs1=>qm rfl<|A0 (C6 rfl) rfl<|A0 (C5 rfl rfl rfl) rfl<|qm rfl<|A0 (F4 (f:=B2) rfl rfl hx6) rfl<|A0 (A4n (ds:=(List.drop 5 (B2 x6))) rfl rfl) rfl<|A0 (F6 rfl rfl) rfl<|A0 (E6 rfl rfl) rfl<|qm rfl<|en (ra4 rfl rfl rfl rfl)<|r0<|qm rfl<|A0 (E6 rfl rfl) rfl<|qm rfl<|en (ra4 rfl rfl rfl rfl) ?_
    cases hs1
    exact lnT () rfl (su4 rfl rfl rfl rfl)
   ·refine C2<|r0<|qm rfl<|A0 (E6 rfl rfl) rfl<|qm rfl<|en (ra4 rfl rfl rfl rfl) ?_
    cases hs1
    exact lnT () rfl (su4 rfl rfl rfl rfl)
  ·refine F5 ?_
   obtain rfl:=os hs1
   exact lx rfl px (su1 rfl)
 ·rintro e s' H' - ⟨rfl,rfl,rfl⟩
  refine s0<|qm rfl<|qm rfl<|es (ra1 rfl)<|C4 ?_
  obtain rfl:=os h
  exact retq trivial (A9 rfl B4) (A3 rfl B3) (A1 A7 B1)
def A2v (a0:RoHouse) (a1:RoPlan):Option (Int × Int) :=
 (A3r a0 a1).bind fun x1 =>
 (if (x1 == 0) = true then
  (A14 a0 a1).bind fun x3 =>
  some (!x3)
 else
  some false).bind fun x4 =>
 (if x4 = true then
  some 9
  else
  some x1).bind fun (p5:Int) =>
 if (p5 != 0) = true then
  some (0,p5)
 else
  (A39 a0 a1).bind fun x8 =>
  some (x8,0)
theorem A81 {c:Sc} {H:A5} {a0:RoHouse} {a1:RoPlan} {r:(Int × Int)} (h:A2v a0 a1 = some r) :
  E5 tab c H (.fn (.func 28) [] []) [(.agg (A4 a0)),(.agg (B5 a1))] [.i r.1,.i r.2]:= by
 unfold A2v at h
 refine cE rfl rfl<|sg 0 rfl<|A0 (E7 (cs:=A4 a0) rfl rfl rfl) rfl<|A0 (E7 (cs:=B5 a1) rfl rfl rfl) rfl<|qm rfl<|qm rfl<|es (ra2 rfl rfl)<|s0<|oB h fun x1 hx1 h=>A0 (C3 rfl rfl rfl) rfl<|A0 (C3 rfl rfl rfl) rfl<|B7 (rs:=[.i x1]) rfl rfl (A2 (D1 rfl) (A2 (D1 rfl) C0)) ((B0e hx1).frz)<|qm rfl<|es (ra3 rfl rfl rfl)<|B9<|s0<|oB h fun x4 hx4 h=>qm rfl<|A0 (G1 rfl rfl) rfl<|qm rfl<|gp 5 17 (.b x4) 12 rfl rfl (fun hg2=>?_) (fun hg2=>?_) ?_
 ·refine oB (bt hx4 hg2) fun x3 hx3 hx4=>?_
  obtain rfl:=os hx4
  exact gT rfl hg2<|A0 (C3 rfl rfl rfl) rfl<|gT rfl hg2<|A0 (C3 rfl rfl rfl) rfl<|gT rfl hg2<|B7 (rs:=[.b x3]) rfl rfl (A2 (D1 rfl) (A2 (D1 rfl) C0)) ((B3t hx3).frz)<|gT rfl hg2<|A0 (U5 rfl) rfl<|A0 (D2 rfl hg2 rfl) rfl<|ge 5 rfl rfl rfl
 ·obtain rfl:=os (bf hx4 hg2)
  exact nT rfl hg2 rfl<|nT rfl hg2 rfl<|L5 (F3 rfl (by rw [hg2]; rfl)) rfl<|nT rfl hg2 rfl<|A0 (D3 rfl hg2 rfl) rfl<|ge 5 rfl rfl rfl
 refine es (ra4 rfl rfl rfl rfl)<|oB h fun p5 hp5 h=>A9g (Q1:=fun e s' H'=>e = .normal∧s' = [(2,(.ptr (H.length + 0) 0)),(3,(.ptr (H.length + 1) 0)),(6,.i p5)]∧H' = (H++[(.cells (A4 a0)),(.cells (B5 a1))])) ?_ ?_
 ·refine wi hp5 rfl (fun hc6 hp5=>?_) fun hc6 hp5=>?_
  ·refine r0<|qm rfl<|en (ra3 rfl rfl rfl) ?_
   obtain rfl:=os hp5
   exact me (And.intro rfl (And.intro rfl rfl)) (su3 rfl rfl rfl)
  ·refine C2 ?_
   obtain rfl:=os hp5
   exact me (And.intro rfl (And.intro rfl rfl)) (su3 rfl rfl rfl)
 ·rintro e s' H' ⟨rfl,rfl,rfl⟩
  refine B9<|s0<|qm rfl<|A0 (I7 rfl rfl) rfl<|es (ra4 rfl rfl rfl rfl)<|wi h rfl (fun hc7 h=>?_) fun hc7 h=>?_
  ·refine s0<|qm rfl<|qm rfl<|qm rfl<|es (ra2 rfl rfl)<|C4 ?_
   obtain rfl:=os h
   exact retq trivial (A9 rfl (A9 rfl B4)) (A3 rfl (A3 rfl B3)) (A1 A7 (A1 A7 B1))
  ·refine C2<|s0<|oB h fun x8 hx8 h=>A0 (C3 rfl rfl rfl) rfl<|A0 (C3 rfl rfl rfl) rfl<|B7 (rs:=[.i x8]) rfl rfl (A2 (D1 rfl) (A2 (D1 rfl) C0)) ((B6x hx8).frz)<|qm rfl<|qm rfl<|es (ra2 rfl rfl)<|C4 ?_
   obtain rfl:=os h
   exact retq trivial (A9 rfl (A9 rfl B4)) (A3 rfl (A3 rfl B3)) (A1 A7 (A1 A7 B1))
def A38 (a0:RoHouse) (a1:Int):Option RoHouse :=
 some (RoHouse.mk (Span.mk (w64 (a0.Weather.Lo - a1)) (w64 (a0.Weather.Hi + a1))) a0.Stoves a0.Holds a0.Places a0.Figures a0.Bill)
theorem B6w {c:Sc} {H:A5} {a0:RoHouse} {a1:Int} {r:RoHouse} (h:A38 a0 a1 = some r) :
  E5 tab c H (.fn (.func 57) [] []) [(.agg (A4 a0)),.i a1] [(.agg (A4 r))]:= by
 unfold A38 at h
 refine cE rfl rfl<|sg 0 rfl<|A0 (E7 (cs:=A4 a0) rfl rfl rfl) rfl<|A0 D6 rfl<|es (ra3 rfl rfl rfl)<|s0<|A0 (C6 rfl) rfl<|A0 (C6 rfl) rfl<|A0 (C5 rfl rfl rfl) rfl<|qm rfl<|A0 (W6 rfl rfl) rfl<|A0 (C6 rfl) rfl<|A0 (C6 rfl) rfl<|A0 (C5 rfl rfl rfl) rfl<|qm rfl<|A0 (E6 rfl rfl) rfl<|A0 (F8 (cs:=D5 (Span.mk (w64 (a0.Weather.Lo - a1)) (w64 (a0.Weather.Hi + a1)))) rfl rfl) rfl<|A0 (C6 rfl) rfl<|E8 (C7 (ds:=(A4 (RoHouse.mk (Span.mk (w64 (a0.Weather.Lo - a1)) (w64 (a0.Weather.Hi + a1))) a0.Stoves a0.Holds a0.Places a0.Figures a0.Bill))) rfl rfl rfl rfl (B6 rfl) rfl) rfl<|es (ra2 rfl rfl)<|s0<|A0 (C3 rfl rfl rfl) rfl<|E8 (C7 (ds:=(A4 (RoHouse.mk (Span.mk (w64 (a0.Weather.Lo - a1)) (w64 (a0.Weather.Hi + a1))) a0.Stoves a0.Holds a0.Places a0.Figures a0.Bill))) rfl rfl rfl rfl (B6 rfl) rfl) rfl<|es (ra1 rfl)<|C4 ?_
 obtain rfl:=os h
 exact retq trivial (F1 (E3 (ds:=A4 (RoHouse.mk (Span.mk (w64 (a0.Weather.Lo - a1)) (w64 (a0.Weather.Hi + a1))) a0.Stoves a0.Holds a0.Places a0.Figures a0.Bill)) rfl rfl rfl rfl) B4) (A3 (I5 rfl) B3) (A1 (G5 rfl) B1)
def W5 (a0:RoHouse) (a1:RoPlan) (s3:Int) (x6:RoHouse) (s7:Int):Option (Int ⊕ ((Int × Int × Int) ⊕ Unit)) :=
 if (decide (s7 < (List.length a1.At:Int))) = true then
  (idx a1.At s7).bind fun x10 =>
  (if (x10 != (-1)) = true then
  (idx a0.Figures s7).bind fun x12 =>
  (idx a1.At s7).bind fun x13 =>
  (R5 x6 x12 x13 a1.Lit).bind fun x14 =>
  some (x14 != 1)
  else
  some false).bind fun x15 =>
  if x15 = true then
  some (.inr (.inl (s7,(w64 (s3 - 1)),0)))
  else
  some (.inl (w64 (s7 + 1)))
 else
  some (.inr (.inr ()))
def O3 (a0:RoHouse) (a1:RoPlan) (s3:Int):Option (Int ⊕ ((Int × Int × Int) ⊕ Unit)) :=
 if (decide (s3≤400)) = true then
  (A38 a0 s3).bind fun x6 =>
  (loop (W5 a0 a1 s3 x6) 0).bind fun (o17:((Int × Int × Int) ⊕ Unit)) =>
  match o17 with
  | (.inl vo17_0) =>
  some (.inr (.inl vo17_0))
  | (.inr vo17_1) =>
  some (.inl (w64 (s3 + 1)))
 else
  some (.inr (.inr ()))
def A3a (a0:RoHouse) (a1:RoPlan):Option (Int × Int × Int) :=
 (A2v a0 a1).bind fun x1 =>
 if (x1.2 != 0) = true then
  some (0,0,x1.2)
 else
  (loop (O3 a0 a1) 1).bind fun (o18:((Int × Int × Int) ⊕ Unit)) =>
  match o18 with
  | (.inl vo18_0) =>
  some vo18_0
  | (.inr vo18_1) =>
  some (0,0,4)
theorem B44 {c:Sc} {H:A5} {a0:RoHouse} {a1:RoPlan} {r:(Int × Int × Int)} (h:A3a a0 a1 = some r) :
  E5 tab c H (.fn (.func 30) [] []) [(.agg (A4 a0)),(.agg (B5 a1))] [.i r.1,.i r.2.1,.i r.2.2]:= by
 unfold A3a at h
 refine cE rfl rfl<|sg 0 rfl<|A0 (E7 (cs:=A4 a0) rfl rfl rfl) rfl<|A0 (E7 (cs:=B5 a1) rfl rfl rfl) rfl<|qm rfl<|qm rfl<|qm rfl<|es (ra2 rfl rfl)<|s0<|oB h fun x1 hx1 h=>A0 (C3 rfl rfl rfl) rfl<|A0 (C3 rfl rfl rfl) rfl<|B7 (rs:=[.i x1.1,.i x1.2]) rfl rfl (A2 (D1 rfl) (A2 (D1 rfl) C0)) ((A81 hx1).frz)<|qm rfl<|A0 (A8 rfl rfl) rfl<|A0 (A8 rfl rfl) rfl<|qm rfl<|qm rfl<|es (ra3 rfl rfl rfl)<|B9<|s0<|qm rfl<|A0 (I7 rfl rfl) rfl<|es (ra4 rfl rfl rfl rfl)<|wi h rfl (fun hc2 h=>?_) fun hc2 h=>?_
 ·refine s0<|qm rfl<|qm rfl<|qm rfl<|qm rfl<|es (ra3 rfl rfl rfl)<|C4 ?_
  obtain rfl:=os h
  exact retq trivial (A9 rfl (A9 rfl (A9 rfl B4))) (A3 rfl (A3 rfl (A3 rfl B3))) (A1 A7 (A1 A7 (A1 A7 B1)))
 ·refine C2<|B9<|s0<|qm rfl<|es (ra3 rfl rfl rfl)<|C8<|oB h fun o18 ho18 h=>wl (fun s3=>[(2,(.ptr (H.length + 0) 0)),(3,(.ptr (H.length + 1) 0)),(9,.i s3)]) (fun (q4:Unit) s3=>[(.cells (A4 a0)),(.cells (B5 a1))]) 2 (fun r e s' H'=>(match r with | (.inl v)=>e = .ret∧RetQ H [.tmp 4,.tmp 5,.tmp 6] [.i v.1,.i v.2.1,.i v.2.2] e s' H' | (.inr v)=>PX 0 [] (H++[(.cells (A4 a0)),(.cells (B5 a1))]) e s' H':Prop)) () ho18 rfl rfl (fun _ _=>rfl) (fun _=>rfl) rfl (fun s3=>(bdc (E2 rfl) (bdc (E2 rfl) (bdc A7 bdn)))) (fun q4 s3 ys3 hs3=>?_) ?_
  ·unfold O3 at hs3
   refine B9<|s0<|qm rfl<|A0 (B39 rfl rfl) rfl<|es (ra4 rfl rfl rfl rfl)<|wi hs3 rfl (fun hc5 hs3=>?_) fun hc5 hs3=>?_
   ·refine C2<|B9<|C8<|sg 2 rfl<|oB hs3 fun x6 hx6 hs3=>A0 (C3 rfl rfl rfl) rfl<|qm rfl<|B7 (rs:=[(.agg (A4 x6))]) rfl rfl (A2 (D1 rfl) (A2 rfl C0)) ((B6w hx6).frz)<|A0 D6 rfl<|E8 (C7 (ds:=(A4 x6)) rfl rfl rfl rfl (B6 rfl) rfl) rfl<|es (ra4 rfl rfl rfl rfl)<|s0<|qm rfl<|es (ra5 rfl rfl rfl rfl rfl)<|C8<|oB hs3 fun o17 ho17 hs3=>wl (fun s7=>[(2,(.ptr (H.length + 0) 0)),(3,(.ptr (H.length + 1) 0)),(9,.i s3),(10,(.ptr (H.length + 2) 0)),(11,.i s7)]) (fun (q8:Unit) s7=>[(.cells (A4 a0)),(.cells (B5 a1)),(.cells (A4 x6))]) 3 (fun r e s' H'=>(match r with | (.inl v)=>e = .ret∧RetQ H [.tmp 4,.tmp 5,.tmp 6] [.i v.1,.i v.2.1,.i v.2.2] e s' H' | (.inr v)=>PX 2 [(2,(.ptr (H.length + 0) 0)),(3,(.ptr (H.length + 1) 0)),(9,.i s3)] (H++[(.cells (A4 a0)),(.cells (B5 a1)),(.cells (A4 x6))]) e s' H':Prop)) () ho17 rfl rfl (fun _ _=>rfl) (fun _=>rfl) rfl (fun s7=>(bdc (E2 rfl) (bdc (E2 rfl) (bdc A7 (bdc (E2 rfl) (bdc A7 bdn)))))) (fun q8 s7 ys7 hs7=>?_) ?_
    ·unfold W5 at hs7
     refine B9<|s0<|qm rfl<|A0 (C6 rfl) rfl<|A0 (C5 rfl rfl rfl) rfl<|A0 (E0 (f:=cI) rfl) rfl<|A0 (I6 rfl rfl) rfl<|es (ra6 rfl rfl rfl rfl rfl rfl)<|wi hs7 rfl (fun hc9 hs7=>?_) fun hc9 hs7=>?_
     ·refine C2<|B9<|C8<|s0<|oB hs7 fun x10 hx10 hs7=>oB hs7 fun x15 hx15 hs7=>A0 (C6 rfl) rfl<|A0 (C5 rfl rfl rfl) rfl<|qm rfl<|A0 (F4 (f:=cI) rfl rfl hx10) rfl<|A0 (F6 rfl rfl) rfl<|A0 (I7 rfl rfl) rfl<|qm rfl<|gp 16 57 (.b x15) 41 rfl rfl (fun hg11=>?_) (fun hg11=>?_) ?_
      ·refine oB (bt hx15 hg11) fun x12 hx12 hx15=>oB hx15 fun x13 hx13 hx15=>oB hx15 fun x14 hx14 hx15=>?_
       obtain rfl:=os hx15
       exact gT rfl hg11<|A0 (C3 rfl rfl rfl) rfl<|gT rfl hg11<|A0 (C6 rfl) rfl<|gT rfl hg11<|A0 (C5 rfl rfl rfl) rfl<|gT rfl hg11<|qm rfl<|gT rfl hg11<|A0 (F4 (f:=B2) rfl rfl hx12) rfl<|gT rfl hg11<|A0 (V1 rfl rfl) rfl<|gT rfl hg11<|A0 (C6 rfl) rfl<|gT rfl hg11<|A0 (C5 rfl rfl rfl) rfl<|gT rfl hg11<|qm rfl<|gT rfl hg11<|A0 (F4 (f:=cI) rfl rfl hx13) rfl<|gT rfl hg11<|A0 (F6 rfl rfl) rfl<|gT rfl hg11<|A0 (C6 rfl) rfl<|gT rfl hg11<|A0 (C5 rfl rfl rfl) rfl<|gT rfl hg11<|B7 (rs:=[.i x14]) rfl rfl (A2 (D1 rfl) (A2 (D1 rfl) (A2 rfl (A2 rfl C0)))) ((A3m hx14).frz)<|gT rfl hg11<|A0 (I7 rfl rfl) rfl<|A0 (D2 rfl hg11 rfl) rfl<|ge 16 rfl rfl rfl
      ·obtain rfl:=os (bf hx15 hg11)
       exact nT rfl hg11 rfl<|nT rfl hg11 rfl<|nT rfl hg11 rfl<|nT rfl hg11 rfl<|nT rfl hg11 rfl<|nT rfl hg11 rfl<|nT rfl hg11 rfl<|nT rfl hg11 rfl<|nT rfl hg11 rfl<|nT rfl hg11 rfl<|nT rfl hg11 rfl<|nT rfl hg11 rfl<|nT rfl hg11 rfl<|L5 (F3 rfl (by rw [hg11]; rfl)) rfl<|nT rfl hg11 rfl<|A0 (D3 rfl hg11 rfl) rfl<|ge 16 rfl rfl rfl
      refine es (ra6 rfl rfl rfl rfl rfl rfl)<|wi hs7 rfl (fun hc16 hs7=>?_) fun hc16 hs7=>?_
      ·refine s0<|qm rfl<|qm rfl<|A0 (W6 rfl rfl) rfl<|qm rfl<|qm rfl<|qm rfl<|es (ra3 rfl rfl rfl)<|C4 ?_
       obtain rfl:=os hs7
       exact lx rfl (And.intro rfl (retq trivial (A9 rfl (A9 rfl (A9 rfl B4))) (A3 rfl (A3 rfl (A3 rfl B3))) (A1 A7 (A1 A7 (A1 A7 B1))))) (Sub.refl _)
      ·refine C2<|r0<|qm rfl<|A0 (E6 rfl rfl) rfl<|qm rfl<|en (ra5 rfl rfl rfl rfl rfl) ?_
       cases hs7
       exact lnT () rfl (su5 rfl rfl rfl rfl rfl)
     ·refine F5 ?_
      obtain rfl:=os hs7
      exact lx rfl px (su3 rfl rfl rfl)
    ·rcases o17 with vo17_0 | vo17_1
     ·rintro e s' H' - ⟨rfl,hret⟩
      cases hs3
      exact lx rfl (And.intro rfl hret) (Sub.refl _)
     ·rintro e s' H' - ⟨rfl,rfl,rfl⟩
      refine r0<|qm rfl<|A0 (E6 rfl rfl) rfl<|qm rfl<|en (ra3 rfl rfl rfl) ?_
      cases hs3
      exact lnT () rfl (su3 rfl rfl rfl)
   ·refine F5 ?_
    obtain rfl:=os hs3
    exact lx rfl px (.nil _)
  ·rcases o18 with vo18_0 | vo18_1
   ·rintro e s' H' - ⟨rfl,hret⟩
    cases h
    exact hret
   ·rintro e s' H' - ⟨rfl,rfl,rfl⟩
    refine s0<|qm rfl<|qm rfl<|qm rfl<|es (ra3 rfl rfl rfl)<|C4 ?_
    obtain rfl:=os h
    exact retq trivial (A9 rfl (A9 rfl (A9 rfl B4))) (A3 rfl (A3 rfl (A3 rfl B3))) (A1 A7 (A1 A7 (A1 A7 B1)))
def A2c (a0:RoHouse) (a1:RoPlan):Option Bool :=
 (A3s a0 a1).bind fun x1 =>
 (A37 a0 a1).bind fun x2 =>
 (X9 x1.1 x2.1).bind fun x3 =>
 if ((!x3) || (x1.2 != x2.2)) = true then
  some false
 else
  (A2n a0 a1).bind fun x6 =>
  (A2v a0 a1).bind fun x7 =>
  if ((x6.1 != x7.1) || (x6.2 != x7.2)) = true then
  some false
  else
  (A1e a0 a1).bind fun x10 =>
  (A3a a0 a1).bind fun x11 =>
  (if (((x10.1 == x11.1) && (x10.2.1 == x11.2.1)) && (x10.2.2 == x11.2.2)) = true then
   (A2t).bind fun x15 =>
   some x15
  else
   some false).bind fun x16 =>
  some x16
theorem B06 {c:Sc} {H:A5} (hscv:A0a c H = true) {a0:RoHouse} {a1:RoPlan} {r:Bool} (h:A2c a0 a1 = some r) :
  E5 tab c H (.fn (.func 4) [] []) [(.agg (A4 a0)),(.agg (B5 a1))] [.b r]:= by
 unfold A2c at h
 refine cE rfl rfl<|sg 0 rfl<|A0 (E7 (cs:=A4 a0) rfl rfl rfl) rfl<|A0 (E7 (cs:=B5 a1) rfl rfl rfl) rfl<|qm rfl<|es (ra2 rfl rfl)<|s0<|oB h fun x1 hx1 h=>A0 (C3 rfl rfl rfl) rfl<|A0 (C3 rfl rfl rfl) rfl<|B7 (rs:=[(.seq 1 (List.map cI x1.1)),.i x1.2]) rfl rfl (A2 (D1 rfl) (A2 (D1 rfl) C0)) ((B0h hx1).frz)<|qm rfl<|A0 (A8 rfl rfl) rfl<|A0 (A8 rfl rfl) rfl<|qm rfl<|qm rfl<|es (ra4 rfl rfl rfl rfl)<|s0<|oB h fun x2 hx2 h=>A0 (C3 rfl rfl rfl) rfl<|A0 (C3 rfl rfl rfl) rfl<|B7 (rs:=[(.seq 1 (List.map cI x2.1)),.i x2.2]) rfl rfl (A2 (D1 rfl) (A2 (D1 rfl) C0)) ((B6v hx2).frz)<|qm rfl<|A0 (A8 rfl rfl) rfl<|A0 (A8 rfl rfl) rfl<|qm rfl<|qm rfl<|es (ra6 rfl rfl rfl rfl rfl rfl)<|B9<|s0<|oB h fun x3 hx3 h=>qm rfl<|qm rfl<|B7 (rs:=[.b x3]) rfl rfl (A2 rfl (A2 rfl C0)) ((A10 hx3).frz)<|A0 (U5 rfl) rfl<|qm rfl<|gp 4 33 (.b ((!x3) || (x1.2 != x2.2))) 29 rfl rfl (fun hg4=>?_) (fun hg4=>?_) ?_
 ·exact nF rfl hg4 rfl<|nF rfl hg4 rfl<|nF rfl hg4 rfl<|A0 (D2 rfl hg4 rfl) rfl<|ge 4 (by rw [hg4]; rfl) rfl rfl
 ·exact gF rfl hg4<|qm rfl<|gF rfl hg4<|qm rfl<|gF rfl hg4<|A0 (I7 rfl rfl) rfl<|A0 (D3 rfl hg4 rfl) rfl<|ge 4 (by rw [hg4]; rfl) rfl rfl
 refine es (ra3 rfl rfl rfl)<|wi h rfl (fun hc5 h=>?_) fun hc5 h=>?_
 ·refine s0<|qm rfl<|es (ra1 rfl)<|C4 ?_
  obtain rfl:=os h
  exact retq trivial (A9 rfl B4) (A3 rfl B3) (A1 A7 B1)
 ·refine C2<|s0<|oB h fun x6 hx6 h=>A0 (C3 rfl rfl rfl) rfl<|A0 (C3 rfl rfl rfl) rfl<|B7 (rs:=[.i x6.1,.i x6.2]) rfl rfl (A2 (D1 rfl) (A2 (D1 rfl) C0)) ((A6o hx6).frz)<|qm rfl<|A0 (A8 rfl rfl) rfl<|A0 (A8 rfl rfl) rfl<|qm rfl<|qm rfl<|es (ra4 rfl rfl rfl rfl)<|s0<|oB h fun x7 hx7 h=>A0 (C3 rfl rfl rfl) rfl<|A0 (C3 rfl rfl rfl) rfl<|B7 (rs:=[.i x7.1,.i x7.2]) rfl rfl (A2 (D1 rfl) (A2 (D1 rfl) C0)) ((A81 hx7).frz)<|qm rfl<|A0 (A8 rfl rfl) rfl<|A0 (A8 rfl rfl) rfl<|qm rfl<|qm rfl<|es (ra6 rfl rfl rfl rfl rfl rfl)<|B9<|s0<|qm rfl<|qm rfl<|A0 (I7 rfl rfl) rfl<|qm rfl<|gp 4 53 (.b ((x6.1 != x7.1) || (x6.2 != x7.2))) 49 rfl rfl (fun hg8=>?_) (fun hg8=>?_) ?_
  ·exact nF rfl hg8 rfl<|nF rfl hg8 rfl<|nF rfl hg8 rfl<|A0 (D2 rfl hg8 rfl) rfl<|ge 4 (by rw [hg8]; rfl) rfl rfl
  ·exact gF rfl hg8<|qm rfl<|gF rfl hg8<|qm rfl<|gF rfl hg8<|A0 (I7 rfl rfl) rfl<|A0 (D3 rfl hg8 rfl) rfl<|ge 4 (by rw [hg8]; rfl) rfl rfl
  refine es (ra3 rfl rfl rfl)<|wi h rfl (fun hc9 h=>?_) fun hc9 h=>?_
  ·refine s0<|qm rfl<|es (ra1 rfl)<|C4 ?_
   obtain rfl:=os h
   exact retq trivial (A9 rfl B4) (A3 rfl B3) (A1 A7 B1)
  ·refine C2<|s0<|oB h fun x10 hx10 h=>A0 (C3 rfl rfl rfl) rfl<|A0 (C3 rfl rfl rfl) rfl<|B7 (rs:=[.i x10.1,.i x10.2.1,.i x10.2.2]) rfl rfl (A2 (D1 rfl) (A2 (D1 rfl) C0)) ((A5h hx10).frz)<|qm rfl<|A0 (A8 rfl rfl) rfl<|A0 (A8 rfl rfl) rfl<|A0 (A8 rfl rfl) rfl<|qm rfl<|qm rfl<|qm rfl<|es (ra5 rfl rfl rfl rfl rfl)<|s0<|oB h fun x11 hx11 h=>A0 (C3 rfl rfl rfl) rfl<|A0 (C3 rfl rfl rfl) rfl<|B7 (rs:=[.i x11.1,.i x11.2.1,.i x11.2.2]) rfl rfl (A2 (D1 rfl) (A2 (D1 rfl) C0)) ((B44 hx11).frz)<|qm rfl<|A0 (A8 rfl rfl) rfl<|A0 (A8 rfl rfl) rfl<|A0 (A8 rfl rfl) rfl<|qm rfl<|qm rfl<|qm rfl<|es (ra6 rfl rfl rfl rfl rfl rfl)<|s0<|oB h fun x16 hx16 h=>qm rfl<|qm rfl<|A0 (G1 rfl rfl) rfl<|qm rfl<|gp 4 75 (.b ((x10.1 == x11.1) && (x10.2.1 == x11.2.1))) 71 rfl rfl (fun hg12=>?_) (fun hg12=>?_) ?_
   ·exact gT rfl hg12<|qm rfl<|gT rfl hg12<|qm rfl<|gT rfl hg12<|A0 (G1 rfl rfl) rfl<|A0 (D2 rfl hg12 rfl) rfl<|ge 4 (by rw [hg12]; rfl) rfl rfl
   ·exact nT rfl hg12 rfl<|nT rfl hg12 rfl<|nT rfl hg12 rfl<|A0 (D3 rfl hg12 rfl) rfl<|ge 4 (by rw [hg12]; rfl) rfl rfl
   refine qm rfl<|gp 4 80 (.b (((x10.1 == x11.1) && (x10.2.1 == x11.2.1)) && (x10.2.2 == x11.2.2))) 76 rfl rfl (fun hg13=>?_) (fun hg13=>?_) ?_
   ·exact gT rfl hg13<|qm rfl<|gT rfl hg13<|qm rfl<|gT rfl hg13<|A0 (G1 rfl rfl) rfl<|A0 (D2 rfl hg13 rfl) rfl<|ge 4 (by rw [hg13]; rfl) rfl rfl
   ·exact nT rfl hg13 rfl<|nT rfl hg13 rfl<|nT rfl hg13 rfl<|A0 (D3 rfl hg13 rfl) rfl<|ge 4 (by rw [hg13]; rfl) rfl rfl
   refine qm rfl<|gp 2 83 (.b x16) 81 rfl rfl (fun hg14=>?_) (fun hg14=>?_) ?_
   ·refine oB (bt hx16 hg14) fun x15 hx15 hx16=>?_
    obtain rfl:=os hx16
    exact gT rfl hg14<|B7 (rs:=[.b x15]) rfl rfl C0 ((A5f (B34 hscv) hx15).frz)<|A0 (D2 rfl hg14 rfl) rfl<|ge 2 rfl rfl rfl
   ·obtain rfl:=os (bf hx16 hg14)
    exact L5 (F3 rfl (by rw [hg14]; rfl)) rfl<|A0 (D3 rfl hg14 rfl) rfl<|ge 2 rfl rfl rfl
   refine qm rfl<|es (ra1 rfl)<|C4 ?_
   obtain rfl:=os h
   exact retq trivial (A9 rfl B4) (A3 rfl B3) (A1 A7 B1)
end Rm
end
section
namespace Rm
open Go Am
theorem B9f {b:Int × Int→Option ((Int × Int) ⊕ Int)} (n:Nat) (k:Int) (hk:k ≠ 0) (bad:Nat→Bool) (hn:n < 9223372036854775808)
  (hb:∀i:Nat,i < n→b (0,(i:Int)) = some (.inl (if bad i then k else 0,(i:Int) + 1)))
  (he:b (0,(n:Int)) = some (.inr 0)) (hx:∀c i:Int,c ≠ 0→b (c,i) = some (.inr c)) (c0:Int) :
  loop b (c0,0) = some (if c0 = 0 then (if (first (fun i=>if bad i then some () else none) n).isSome then k else 0) else c0):= by
 by_cases hc:c0 = 0
 ·subst hc
  rw [if_pos rfl]
  cases hf:first (fun i=>if bad i then some () else none) n with
  | none =>
   have h0:=K6.mp hf
   have h1:∀i,i < n→bad i = false:=fun i hi=>by
    have:=h0 i hi
    cases hb:bad i with
    | false=>rfl
    | true=>rw [hb] at this; exact absurd this (by simp)
   exact M3 (b:=b) (fun i=>(0,(i:Int))) n (by omega) (fun i hi=>by rw [hb i hi,h1 i hi]; rfl) he
  | some u =>
   obtain ⟨i,hi,h1,h2⟩:=U9 hf
   have h3:bad i = true:= by
    cases hb:bad i with
    | true=>rfl
    | false=>rw [hb] at h1; exact absurd h1 (by simp)
   have h4:∀j,j < i→bad j = false:=fun j hj=>by
    have:=h2 j hj
    cases hb:bad j with
    | false=>rfl
    | true=>rw [hb] at this; exact absurd this (by simp)
   have:=M3 (b:=b) (fun j=>if j≤i then (0,(j:Int)) else (k,(j:Int))) (i + 1) (r:=k) (by omega) (fun j hj=>by
    rw [if_pos (by omega),hb j (by omega)]
    by_cases hji:j = i
    ·subst hji
     rw [h3,if_pos rfl,if_neg (show ¬ (j + 1≤j) by omega)]; rfl
    ·rw [h4 j (by omega),if_neg (by decide),if_pos (show j + 1≤i by omega)]; rfl) (by
    rw [if_neg (by omega)]
    exact hx _ _ hk)
   simp only [Option.isSome_some,if_true]
   rw [if_pos (Nat.zero_le i)] at this
   exact this
 ·rw [if_neg hc]
  exact M3 (b:=b) (fun _=>(c0,0)) 0 (by omega) (fun i hi=>absurd hi (Nat.not_lt_zero i)) (hx _ _ hc)
theorem B5n {α:Type} [Inhabited α] (l:List α) (p:α→Bool):(first (fun i=>if p l[i]! then some () else none) l.length).isSome = l.any p:= by
 rw [← B8n l p]
 have:(fun (i:Nat)=>if p l[i]! then some () else none) = fun (i:Nat)=>(if p l[i]! then some (i:Int) else none).map fun _=>():= by
  funext i; cases p l[i]! <;> rfl
 rw [this,A2r,Option.isSome_map]
theorem C1o (l:List Int) (x:Int) (hl:l.length < 9223372036854775808):K4 l x = some (l.any (x == ·)):= by
 unfold K4 X2
 obtain ⟨o,ho,hc⟩:=B3f l (fun y=>x == y) (b:=O8 l x) hl (fun i hi=>by
  unfold O8
  rw [if_pos (by simpa using hi),G0 hi]
  simp only [Option.bind_some]
  cases x == l[i]! <;> rfl) (by
  unfold O8
  rw [if_neg (by simp)])
 rw [ho]
 rcases o with i | u
 ·simp only [Option.bind_some]
  rw [hc.2,decide_eq_true hc.1]
 ·simp only [Option.bind_some]
  rw [hc]; rfl
theorem D1h (l:List Int) (x:Int) (hl:l.length < 9223372036854775808):A7a l x = some (l.any (· == x)):= by
 unfold A7a
 have l1:=A7v (b:=A29 l x) l.length (fun (i:Nat)=>if l[i]! == x then some (.inl true) else none) (.inr ()) hl (fun i hi _=>by
  unfold A29
  rw [if_pos (by simpa using hi),G0 hi]
  simp only [Option.bind_some]
  cases l[i]! == x <;> rfl) (by
  unfold A29
  rw [if_neg (by simp)])
 rw [l1]
 have ha:=B5n l (· == x)
 have:(fun (i:Nat)=>if l[i]! == x then some (Sum.inl true:Bool ⊕ Unit) else none) = fun (i:Nat)=>(if l[i]! == x then some () else none).map fun _=>Sum.inl true:= by
  funext i; cases l[i]! == x <;> rfl
 rw [this,A2r]
 cases hf:first (fun (i:Nat)=>if l[i]! == x then some () else none) l.length with
 | none=>rw [hf] at ha; rw [← ha]; rfl
 | some u=>rw [hf] at ha; rw [← ha]; rfl
theorem B9a (l:List Int) (hl:l.length < 9223372036854775808):X9 l l = some true:= by
 unfold X9
 have:=M3 (b:=A12 l l) (fun i=>(true,(i:Int))) l.length (r:=true) (by omega) (fun i hi=>by
  unfold A12
  simp only []
  rw [if_pos (by simpa using hi),G0 hi]
  simp only [Option.bind_some]
  rw [F0 (by omega)]
  simp) (by
  unfold A12
  simp)
 rw [show (((l.length:Int) == (l.length:Int)),(0:Int)) = (true,((0:Nat):Int)) from by rw [beq_self_eq_true]; rfl,this]; rfl
def A4w (l:List Int) (i:Nat):Bool:=l[i]! != -1 && (l.take i).any (· == l[i]!)
def dup (l:List Int):Bool:=(first (fun i=>if A4w l i then some () else none) l.length).isSome
def K2 (h:RoHouse) (p:RoPlan):Int :=
 if (check h).2.2 != 0 then (check h).2.2 else
 if out 0 (((2 ^ h.Stoves.toNat:Nat):Int) - 1) p.Lit then 7 else
 if (p.At.length:Int) != (h.Figures.length:Int) then 3 else
 if p.At.any (out (-1) ((h.Places.length:Int) - 1)) then 4 else
 if dup p.At then 5 else 0
theorem C69 (l:List Int) (x:Int):l.any (x == ·) = l.any (· == x):= by
 congr 1
 funext y
 rw [Bool.eq_iff_iff,beq_iff_eq,beq_iff_eq]
 exact ⟨Eq.symm,Eq.symm⟩
theorem B4q (h:RoHouse) (p:RoPlan) (hl:p.At.length < 9223372036854775808):A3r h p = some (K2 h p):= by
 unfold A3r K2
 rw [Z6]
 simp only [Option.bind_some]
 have f2:=B9f (b:=R6 p) p.At.length 5 (by decide) (fun i=>A4w p.At i) hl (fun i hi=>by
  unfold R6
  simp only []
  rw [if_pos (by simpa using hi),G0 hi]
  simp only [Option.bind_some]
  rw [B23 (Nat.le_of_lt hi)]
  simp only [Option.bind_some]
  rw [D1h _ _ (by rw [List.length_take]; omega),F0 (by omega)]
  unfold A4w
  cases p.At[i]! != -1
  ·rfl
  ·simp only [Option.bind_some,if_true,Bool.true_and]
   cases (p.At.take i).any (· == p.At[i]!) <;> rfl) (by
  unfold R6
  simp) (fun c i hc=>by
  unfold R6
  rw [if_neg (by simp [hc])])
 by_cases e0:(check h).2.2 = 0
 ·have ok:=A8o e0
  have hs:=B09 ok
  have hp:=ok.places
  have f1:=B9f (b:=M8 h p) p.At.length 4 (by decide) (fun i=>out (-1) ((h.Places.length:Int) - 1) p.At[i]!) hl (fun i hi=>by
   unfold M8
   simp only []
   rw [if_pos (by simpa using hi),G0 hi]
   simp only [Option.bind_some]
   rw [F0 (n:=(h.Places.length:Int) - 1) (by omega),within5,F0 (by omega)]
   simp only [Option.bind_some]
   cases out (-1) ((h.Places.length:Int) - 1) p.At[i]! <;> rfl) (by
   unfold M8
   simp) (fun c i hc=>by
   unfold M8
   rw [if_neg (by simp [hc])])
  rw [e0,D1c ok]
  simp only [Option.bind_some,bne_self_eq_false,Bool.false_eq_true,if_false,beq_self_eq_true,if_true]
  rw [F0 (by omega),within5]
  simp only [Option.bind_some]
  have ha:=B5n p.At (out (-1) ((h.Places.length:Int) - 1))
  cases out 0 (((2 ^ h.Stoves.toNat:Nat):Int) - 1) p.Lit with
  | true =>
   show (loop (M8 h p) (7,0)).bind (fun o18=>(loop (R6 p) (o18,0)).bind fun o30=>some o30) = some 7
   rw [f1 7]
   simp only [Option.bind_some,show ¬ ((7:Int) = 0) by decide,if_false]
   rw [f2 7]; rfl
  | false =>
   simp only [Bool.not_false,Bool.not_true,Bool.false_eq_true,if_false,beq_self_eq_true,Bool.true_and]
   cases (p.At.length:Int) != (h.Figures.length:Int) with
   | true =>
    show (loop (M8 h p) (3,0)).bind (fun o18=>(loop (R6 p) (o18,0)).bind fun o30=>some o30) = some 3
    rw [f1 3]
    simp only [Option.bind_some,show ¬ ((3:Int) = 0) by decide,if_false]
    rw [f2 3]; rfl
   | false =>
    show (loop (M8 h p) (0,0)).bind (fun o18=>(loop (R6 p) (o18,0)).bind fun o30=>some o30) = some _
    rw [f1 0]
    simp only [Option.bind_some,if_true]
    rw [ha]
    cases p.At.any (out (-1) ((h.Places.length:Int) - 1)) with
    | true=>rw [if_pos rfl,f2 4]; rfl
    | false=>rw [if_neg (by decide),f2 0]; unfold dup; rfl
 ·have e1:((check h).2.2 == 0) = false:=beq_eq_false_iff_ne.mpr e0
  have e2:((check h).2.2 != 0) = true:=bne_iff_ne.mpr e0
  rw [e1,e2]
  simp only [Option.bind_some,Bool.false_eq_true,if_false,if_true,e1,Bool.false_and]
  have g1:loop (M8 h p) ((check h).2.2,0) = some (check h).2.2:=M3 (b:=M8 h p) (fun _=>((check h).2.2,0)) 0 (by decide) (fun i hi=>absurd hi (Nat.not_lt_zero i)) (by
   unfold M8
   simp only []
   rw [e1,Bool.and_false,if_neg (by decide)])
  rw [g1]
  simp only [Option.bind_some]
  rw [f2,if_neg e0]; rfl
def e (p:List Int) (i:Nat):Int:=if i < p.length then p[i]! + 1 else 0
def enc (p:List Int):Ar5 Int:=⟨e p 0,e p 1,e p 2,e p 3,e p 4⟩
theorem A9m (p:List Int):∀i:Nat,i < 5→idx (Ar5.l (enc p)) (i:Int) = some (e p i)
 | 0,_=>rfl
 | 1,_=>rfl
 | 2,_=>rfl
 | 3,_=>rfl
 | 4,_=>rfl
 | n + 5,h=>by omega
theorem C9h (p:List Int) {n j:Nat} (h:j < n):(p.take n)[j]! = p[j]!:= by
 by_cases c:j < p.length
 ·rw [getElem!_pos (p.take n) j (by rw [List.length_take]; omega),getElem!_pos p j c,List.getElem_take]
 ·rw [getElem!_neg (p.take n) j (by rw [List.length_take]; omega),getElem!_neg p j c]
theorem C7q (p:List Int) (n j:Nat):e (p.take n) j = if j < n then e p j else 0:= by
 unfold e
 rw [List.length_take]
 by_cases h:j < n
 ·rw [if_pos h,C9h p h]
  by_cases c:j < p.length
  ·rw [if_pos (by omega),if_pos c]
  ·rw [if_neg (by omega),if_neg c]
 ·rw [if_neg h,if_neg (by omega)]
theorem C9u (p:List Int) {i:Nat} (hi:i < p.length):Ar5.set (enc (p.take i)) (i:Int) (p[i]! + 1) = enc (p.take (i + 1)):= by
 have comp:∀j:Nat,(if (i:Int) = (j:Int) then p[i]! + 1 else e (p.take i) j) = e (p.take (i + 1)) j:= by
  intro j
  rw [C7q,C7q]
  by_cases h:i = j
  ·subst h
   rw [if_pos rfl,if_pos (by omega)]
   unfold e
   rw [if_pos hi]
  ·rw [if_neg (by omega)]
   by_cases c:j < i
   ·rw [if_pos c,if_pos (by omega)]
   ·rw [if_neg c,if_neg (by omega)]
 have q:=congr (congr (congr (congr (congrArg Ar5.mk (comp 0)) (comp 1)) (comp 2)) (comp 3)) (comp 4)
 exact q
structure PV (h:RoHouse) (p:List Int):Prop where
 len:p.length = h.Figures.length
 bd:∀i,i < p.length→-1≤p[i]!∧p[i]! < (h.Places.length:Int)
theorem B2k {h:RoHouse} (ok:HOk h) (p:RoPlan) (pv:PV h p.At):loop (U4 p) (0,⟨p.Lit,⟨0,0,0,0,0⟩⟩) = some (if dup p.At then .inr () else .inl ⟨p.Lit,enc p.At⟩):= by
 have h5:=ok.figures
 have hp:=ok.places
 have hl:=pv.len
 have l1:=A61 (b:=U4 p) (fun i=>((i:Int),room_plan.mk p.Lit (enc (p.At.take i)))) p.At.length (fun i=>if A4w p.At i then some (Sum.inr ()) else none) (.inl ⟨p.Lit,enc p.At⟩) (by omega) (fun i hi _=>by
  have hb:=pv.bd i hi
  unfold U4
  simp only []
  rw [if_pos (by simpa using hi),G0 hi]
  simp only [Option.bind_some]
  rw [B23 (Nat.le_of_lt hi)]
  simp only [Option.bind_some]
  rw [C1o _ _ (by rw [List.length_take]; omega),C69,A9m _ i (by omega),F0 (by omega),F0 (by omega),C9u _ hi]
  unfold A4w
  cases p.At[i]! != -1
  ·rfl
  ·simp only [Option.bind_some,if_true,Bool.true_and]
   cases (p.At.take i).any (· == p.At[i]!) <;> rfl) (fun _=>by
  unfold U4
  simp only []
  rw [if_neg (by simp),List.take_length])
 have l1:loop (U4 p) (0,⟨p.Lit,⟨0,0,0,0,0⟩⟩) = _:=l1
 rw [l1]
 unfold dup
 have:(fun (i:Nat)=>if A4w p.At i then some (Sum.inr ():room_plan ⊕ Unit) else none) = fun (i:Nat)=>(if A4w p.At i then some () else none).map fun _=>Sum.inr ():= by
  funext i; cases A4w p.At i <;> rfl
 rw [this,A2r]
 cases first (fun (i:Nat)=>if A4w p.At i then some () else none) p.At.length <;> rfl
theorem A0c {h:RoHouse} {p:RoPlan} (c:K2 h p = 0):HOk h∧PV h p.At∧(∃ l:Nat,p.Lit = l∧l < 2 ^ h.Stoves.toNat)∧dup p.At = false∧(check h).2.2 = 0:= by
 unfold K2 at c
 by_cases e0:(check h).2.2 = 0
 ·have ok:=A8o e0
  rw [if_neg (by simp [e0])] at c
  cases h1:out 0 (((2 ^ h.Stoves.toNat:Nat):Int) - 1) p.Lit with
  | true=>rw [h1,if_pos rfl] at c; exact absurd c (by decide)
  | false =>
  rw [h1,if_neg (by decide)] at c
  cases h2:(p.At.length:Int) != (h.Figures.length:Int) with
  | true=>rw [h2,if_pos rfl] at c; exact absurd c (by decide)
  | false =>
  rw [h2,if_neg (by decide)] at c
  cases h3:p.At.any (out (-1) ((h.Places.length:Int) - 1)) with
  | true=>rw [h3,if_pos rfl] at c; exact absurd c (by decide)
  | false =>
  rw [h3,if_neg (by decide)] at c
  cases h4:dup p.At with
  | true=>rw [h4,if_pos rfl] at c; exact absurd c (by decide)
  | false =>
  have b1:=T8.mp h1
  have h2:(p.At.length:Int) = (h.Figures.length:Int):= by
   by_cases q:(p.At.length:Int) = (h.Figures.length:Int)
   ·exact q
   ·rw [bne_iff_ne.mpr q] at h2; cases h2
  refine ⟨ok,⟨by omega,fun i hi=>?_⟩,⟨p.Lit.toNat,by omega,by omega⟩,rfl,e0⟩
  rw [List.any_eq_false] at h3
  have:=h3 _ (L6 hi)
  have:=T8.mp (by simpa using this:out (-1) ((h.Places.length:Int) - 1) p.At[i]! = false)
  omega
 ·rw [if_pos (bne_iff_ne.mpr e0)] at c
  exact absurd c e0
theorem A85 {α:Type} {h:RoHouse} (hb:NB h) (p:RoPlan) (hl:p.At.length < 9223372036854775808) (err:Int→α) (k:room_plan→Option α) {F:Option α}
  (hF:F = (O6 h).bind fun x1=>if (x1.2.2 != 0) = true then some (err x1.2.2) else
   (B22 .i64 1 h.Stoves).bind fun x3=>(F9 0 (w64 (x3 - 1)) [p.Lit]).bind fun x4=>if x4 = true then some (err 7) else
   if ((List.length p.At:Int) != (List.length h.Figures:Int)) = true then some (err 3) else
   (F9 (-1) (w64 ((List.length h.Places:Int) - 1)) p.At).bind fun x7=>if x7 = true then some (err 4) else
   (loop (U4 p) (0,(room_plan.mk p.Lit (Ar5.mk 0 0 0 0 0)))).bind fun (o19:(room_plan ⊕ Unit))=>match o19 with | .inl v=>k v | .inr _=>some (err 5)) :
  F = if K2 h p = 0 then k ⟨p.Lit,enc p.At⟩ else some (err (K2 h p)):= by
 rw [hF,A3y h hb]
 simp only [Option.bind_some]
 by_cases c:K2 h p = 0
 ·obtain ⟨ok,pv,⟨l,hlit,hl2⟩,hd,e0⟩:=A0c c
  have hs:=B09 ok
  have hp:=ok.places
  have h2:=pv.len
  have o1:out 0 (((2 ^ h.Stoves.toNat:Nat):Int) - 1) p.Lit = false:=T8.mpr ⟨by omega,by omega⟩
  have o2:p.At.any (out (-1) ((h.Places.length:Int) - 1)) = false:= by
   rw [List.any_eq_false]
   intro x hx
   obtain ⟨i,hi,rfl⟩:=A9t hx
   have:=pv.bd i hi
   rw [T8.mpr ⟨by omega,by omega⟩]; decide
  rw [if_pos c,if_neg (by simp [e0]),D2g ok]
  simp only [Option.bind_some]
  rw [F0 (by omega),beyond1,o1]
  simp only [Option.bind_some,Bool.false_eq_true,if_false]
  rw [if_neg (by simp [h2]),F0 (by omega),A9j _ _ _ (by omega),o2]
  simp only [Option.bind_some,Bool.false_eq_true,if_false]
  rw [B2k ok p pv,hd]; rfl
 ·rw [if_neg c]
  unfold K2 at c ⊢
  by_cases e0:(check h).2.2 = 0
  ·have ok:=A8o e0
   have hs:=B09 ok
   have hp:=ok.places
   rw [if_neg (by simp [e0])] at c
   rw [if_neg (show ¬ ((check h).2.2 != 0) = true by simp [e0]),if_neg (show ¬ ((check h).2.2 != 0) = true by simp [e0]),D2g ok]
   simp only [Option.bind_some]
   rw [F0 (by omega),beyond1]
   simp only [Option.bind_some]
   cases h1:out 0 (((2 ^ h.Stoves.toNat:Nat):Int) - 1) p.Lit with
   | true=>rfl
   | false =>
   rw [h1,if_neg (by decide)] at c
   simp only [Bool.false_eq_true,if_false]
   cases h2:(p.At.length:Int) != (h.Figures.length:Int) with
   | true=>rfl
   | false =>
   rw [h2,if_neg (by decide)] at c
   simp only [Bool.false_eq_true,if_false]
   rw [F0 (by omega),A9j _ _ _ (by omega)]
   simp only [Option.bind_some]
   cases h3:p.At.any (out (-1) ((h.Places.length:Int) - 1)) with
   | true=>rfl
   | false =>
   rw [h3,if_neg (by decide)] at c
   simp only [Bool.false_eq_true,if_false]
   cases h4:dup p.At with
   | false=>rw [h4,if_neg (by decide)] at c; exact absurd rfl c
   | true =>
   have h2:(p.At.length:Int) = (h.Figures.length:Int):= by
    by_cases q:(p.At.length:Int) = (h.Figures.length:Int)
    ·exact q
    ·rw [bne_iff_ne.mpr q] at h2; cases h2
   rw [B2k ok p ⟨by omega,fun i hi=>by
    rw [List.any_eq_false] at h3
    have:=h3 _ (L6 hi)
    have:=T8.mp (by simpa using this:out (-1) ((h.Places.length:Int) - 1) p.At[i]! = false)
    omega⟩,h4]
   rfl
  ·rw [if_pos (bne_iff_ne.mpr e0),if_pos (bne_iff_ne.mpr e0)]
def plc (h:RoHouse) (p:List Int) (i:Nat):RoPlace:=h.Places[p[i]!.toNat]!
def con (h:RoHouse) (p:List Int) (k i:Nat):Int:=if i < p.length∧p[i]! ≠ -1∧bit (plc h p i).Joists.toNat k = true then h.Figures[i]!.Weight else 0
def G8 (h:RoHouse) (p:List Int) (k n:Nat):Int:=iter (fun i s=>s + con h p k i) n 0
theorem A1h (h:RoHouse) (p:List Int) (k n:Nat):G8 h p k (n + 1) = G8 h p k n + con h p k n:=rfl
theorem B5u (h:RoHouse) (p:List Int) (k:Nat):∀n,G8 h p k (p.length + n) = G8 h p k p.length
 | 0=>rfl
 | n + 1=>by
  rw [← Nat.add_assoc,A1h,B5u h p k n]
  unfold con
  rw [if_neg (by omega)]; omega
theorem C3c {h:RoHouse} (ok:HOk h) {p:List Int} (pv:PV h p) (k i:Nat):0≤con h p k i∧con h p k i≤500:= by
 unfold con
 by_cases c:i < p.length∧p[i]! ≠ -1∧bit (plc h p i).Joists.toNat k = true
 ·rw [if_pos c]
  have:=(ok.figure _ (L6 (show i < h.Figures.length by rw [← pv.len]; exact c.1))).weight
  omega
 ·rw [if_neg c]; omega
theorem B0t {h:RoHouse} (ok:HOk h) {p:List Int} (pv:PV h p) (k:Nat):∀n,0≤G8 h p k n∧G8 h p k n≤500 * n
 | 0=>by unfold G8 iter; omega
 | n + 1=>by
  have ih:=B0t ok pv k n
  have:=C3c ok pv k n
  rw [A1h]; omega
def arr (f:Nat→Int):Ar4 Int:=⟨f 0,f 1,f 2,f 3⟩
theorem C4s (f:Nat→Int):∀k:Nat,k < 4→idx (Ar4.l (arr f)) (k:Int) = some (f k)
 | 0,_=>rfl
 | 1,_=>rfl
 | 2,_=>rfl
 | 3,_=>rfl
 | n + 4,h=>by omega
theorem C9p (f:Nat→Int) (k:Nat) (v:Int):Ar4.set (arr f) (k:Int) v = arr (fun j=>if j = k then v else f j):= by
 have comp:∀j:Nat,(if (k:Int) = (j:Int) then v else f j) = (if j = k then v else f j):= by
  intro j
  by_cases h:j = k
  ·subst h; rw [if_pos rfl,if_pos rfl]
  ·rw [if_neg (by omega),if_neg h]
 have q:=congr (congr (congr (congrArg Ar4.mk (comp 0)) (comp 1)) (comp 2)) (comp 3)
 exact q
theorem A9i {f g:Nat→Int} (h:∀k,k < 4→f k = g k):arr f = arr g:= by
 unfold arr
 rw [h 0 (by omega),h 1 (by omega),h 2 (by omega),h 3 (by omega)]
theorem C7c (f:Nat→Int):∀n,n≤4→(Ar4.l (arr f)).take n = (List.range n).map f
 | 0,_=>rfl
 | 1,_=>rfl
 | 2,_=>rfl
 | 3,_=>rfl
 | 4,_=>rfl
 | n + 5,h=>by omega
theorem B9b {h:RoHouse} (ok:HOk h) {q:RoPlace} (hq:PlOk h q):q.Joists = (q.Joists.toNat:Int)∧q.Joists.toNat < 16:= by
 have h1:=hq.joists
 have:2 ^ h.Holds.length≤2 ^ 4:=Nat.pow_le_pow_right (by decide) ok.holds
 omega
theorem shown {h:RoHouse} {p:List Int} (pv:PV h p) {i:Nat} (hi:i < p.length) (hs:p[i]! ≠ -1):∃q:Nat,p[i]! = q∧q < h.Places.length∧plc h p i = h.Places[q]!:= by
 have:=pv.bd i hi
 refine ⟨p[i]!.toNat,by omega,by omega,rfl⟩
theorem C8c {h:RoHouse} (ok:HOk h) {p:List Int} (pv:PV h p) {i:Nat} (hi:i < p.length) (hs:p[i]! ≠ -1) (a:Ar4 Int) :
  loop (N7 ⟨h⟩ ((i:Int),a) (e p i)) (0,arr (fun k=>if k < h.Holds.length then G8 h p k i else 0)) = some (arr (fun k=>if k < h.Holds.length then G8 h p k (i + 1) else 0)):= by
 have h5:=ok.figures
 have hp:=ok.places
 have hh:=ok.holds
 have hl:=pv.len
 obtain ⟨q,hq1,hq2,hq3⟩:=shown pv hi hs
 have hj:=B9b ok (ok.place _ (L6 hq2))
 have l1:=M3 (b:=N7 ⟨h⟩ ((i:Int),a) (e p i)) (fun n=>((n:Int),arr (fun k=>if k < h.Holds.length then (if k < n then G8 h p k (i + 1) else G8 h p k i) else 0))) h.Holds.length (r:=arr (fun k=>if k < h.Holds.length then G8 h p k (i + 1) else 0)) (by omega) (fun n hn=>by
  have b1:=B0t ok pv n i
  have b2:=C3c ok pv n i
  unfold N7
  simp only []
  rw [if_pos (by simpa using hn)]
  have he:w64 (e p i - 1) = (q:Int):= by
   unfold e
   rw [if_pos hi,F0 (by omega)]; omega
  rw [he,G0 hq2]
  simp only [Option.bind_some]
  rw [hj.1,B99 _ hj.2 n (by omega)]
  simp only [Option.bind_some]
  rw [C1f _ (Nat.lt_of_le_of_lt (Nat.div_le_self _ _) hj.2),C4s _ n (by omega),G0 (show i < h.Figures.length by omega),if_pos hn,if_neg (Nat.lt_irrefl n)]
  simp only [Option.bind_some]
  have hc:con h p n i = if bit h.Places[q]!.Joists.toNat n = true then h.Figures[i]!.Weight else 0:= by
   unfold con
   rw [hq3]
   cases bit h.Places[q]!.Joists.toNat n
   ·rw [if_neg (by simp),if_neg (by simp)]
   ·rw [if_pos ⟨hi,hs,rfl⟩,if_pos rfl]
  rw [F0 (n:=(n:Int) + 1) (by omega)]
  show (if bit h.Places[q]!.Joists.toNat n = true then _ else _) = _
  cases hb:bit h.Places[q]!.Joists.toNat n with
  | true =>
   rw [hb,if_pos rfl] at hc
   rw [if_pos rfl,← hc,F0 (by omega),C9p]
   congr 3
   apply A9i
   intro k hk
   by_cases hkn:k = n
   ·subst hkn
    rw [if_pos rfl,if_pos hn,if_pos (by omega),A1h]
   ·rw [if_neg hkn]
    by_cases c:k < h.Holds.length
    ·rw [if_pos c,if_pos c]
     by_cases c2:k < n
     ·rw [if_pos c2,if_pos (by omega)]
     ·rw [if_neg c2,if_neg (by omega)]
    ·rw [if_neg c,if_neg c]
  | false =>
   rw [hb,if_neg (by decide)] at hc
   rw [if_neg (by decide)]
   congr 3
   apply A9i
   intro k hk
   by_cases hkn:k = n
   ·subst hkn
    rw [if_pos hn,if_pos hn,if_neg (Nat.lt_irrefl k),if_pos (by omega),A1h,hc]; omega
   ·by_cases c:k < h.Holds.length
    ·rw [if_pos c,if_pos c]
     by_cases c2:k < n
     ·rw [if_pos c2,if_pos (by omega)]
     ·rw [if_neg c2,if_neg (by omega)]
    ·rw [if_neg c,if_neg c]) (by
  unfold N7
  simp only []
  rw [if_neg (by simp)]
  congr 2
  apply A9i
  intro k hk
  by_cases c:k < h.Holds.length
  ·rw [if_pos c,if_pos c,if_pos c]
  ·rw [if_neg c,if_neg c])
 have e0:(fun (k:Nat)=>if k < h.Holds.length then (if k < 0 then G8 h p k (i + 1) else G8 h p k i) else 0) = fun (k:Nat)=>if k < h.Holds.length then G8 h p k i else 0:= by
  funext k
  rw [if_neg (Nat.not_lt_zero k)]
 have l1:loop (N7 ⟨h⟩ ((i:Int),a) (e p i)) (0,arr (fun (k:Nat)=>if k < h.Holds.length then (if k < 0 then G8 h p k (i + 1) else G8 h p k i) else 0)) = _:=l1
 rw [e0] at l1
 exact l1
def A7u (h:RoHouse) (p:List Int):Ar4 Int:=arr (fun k=>if k < h.Holds.length then G8 h p k p.length else 0)
theorem C15 {h:RoHouse} (ok:HOk h) {p:List Int} (pv:PV h p):R1 ⟨h⟩ (enc p) = some (A7u h p):= by
 have h5:=ok.figures
 have hp:=ok.places
 have hl:=pv.len
 unfold R1
 have l1:=M3 (b:=Q2 ⟨h⟩ (enc p)) (fun i=>((i:Int),arr (fun k=>if k < h.Holds.length then G8 h p k i else 0))) 5 (r:=A7u h p) (by omega) (fun i hi=>by
  unfold Q2
  simp only []
  rw [if_pos (by rw [decide_eq_true_eq]; omega),A9m p i hi]
  simp only [Option.bind_some]
  have hc0:∀k,(i < p.length→p[i]! = -1)→G8 h p k (i + 1) = G8 h p k i:= by
   intro k hx
   rw [A1h]
   unfold con
   rw [if_neg (fun hq=>hq.2.1 (hx hq.1))]; omega
  by_cases c:i < p.length∧p[i]! ≠ -1
  ·have hb:=pv.bd i c.1
   have hne:(e p i == 0) = false:= by
    rw [beq_eq_false_iff_ne]
    unfold e
    rw [if_pos c.1]; have:=c.2; omega
   rw [hne,if_neg (by decide),C8c ok pv c.1 c.2]
   simp only [Option.bind_some]
   rw [F0 (by omega)]; rfl
  ·have hz:(e p i == 0) = true:= by
    rw [beq_iff_eq]
    unfold e
    by_cases c1:i < p.length
    ·rw [if_pos c1]
     have:p[i]! = -1:=Classical.byContradiction fun hq=>c ⟨c1,hq⟩
     omega
    ·rw [if_neg c1]
   rw [hz,if_pos rfl,F0 (by omega)]
   have:∀k,G8 h p k (i + 1) = G8 h p k i:=fun k=>hc0 k fun c1=>Classical.byContradiction fun hq=>c ⟨c1,hq⟩
   simp only [this]
   rfl) (by
  unfold Q2
  simp only []
  rw [if_neg (show ¬ decide (((5:Nat):Int) < 5) = true by rw [decide_eq_true_eq]; omega)]
  unfold A7u
  congr 2
  apply A9i
  intro k _
  have:=B5u h p k (5 - p.length)
  rw [show p.length + (5 - p.length) = 5 by omega] at this
  simp only [this])
 have e0:arr (fun k=>if k < h.Holds.length then G8 h p k 0 else 0) = Ar4.mk 0 0 0 0:= by
  have:(fun k=>if k < h.Holds.length then G8 h p k 0 else 0) = fun _=>(0:Int):= by
   funext k
   by_cases c:k < h.Holds.length
   ·rw [if_pos c]; rfl
   ·rw [if_neg c]
  rw [this]; rfl
 have l1:loop (Q2 ⟨h⟩ (enc p)) (0,arr (fun k=>if k < h.Holds.length then G8 h p k 0 else 0)) = _:=l1
 rw [e0] at l1
 rw [l1]; rfl
def carry (h:RoHouse) (p:List Int):List Int:=(List.range h.Holds.length).map fun k=>G8 h p k p.length
theorem C0q {h:RoHouse} (ok:HOk h) (p:List Int):(Ar4.l (A7u h p)).take h.Holds.length = carry h p:= by
 unfold A7u carry
 rw [C7c _ _ ok.holds]
 apply List.map_congr_left
 intro k hk
 rw [if_pos (List.mem_range.mp hk)]
theorem C01 {h:RoHouse} (ok:HOk h) {p:RoPlan} (pv:PV h p.At) (k:Nat) (hk:k < h.Holds.length) (l:List Int):loop (Z2 h p ((k:Int),l)) (0,0) = some (G8 h p.At k p.At.length):= by
 have h5:=ok.figures
 have hp:=ok.places
 have hh:=ok.holds
 have hl:=pv.len
 exact M3 (b:=Z2 h p ((k:Int),l)) (fun i=>(G8 h p.At k i,(i:Int))) p.At.length (by omega) (fun i hi=>by
  have b1:=B0t ok pv k i
  have b2:=C3c ok pv k i
  have hb:=pv.bd i hi
  unfold Z2
  simp only []
  rw [if_pos (by simpa using hi),G0 hi]
  simp only [Option.bind_some]
  rw [F0 (n:=(i:Int) + 1) (by omega),G0 (show i < h.Figures.length by omega),A1h]
  by_cases hs:p.At[i]! = -1
  ·have hc:con h p.At k i = 0:= by unfold con; rw [if_neg (fun hq=>hq.2.1 hs)]
   rw [if_neg (by simp only [hs]; decide),hc,Int.add_zero]; rfl
  ·obtain ⟨q,hq1,hq2,hq3⟩:=shown pv hi hs
   have hj:=B9b ok (ok.place _ (L6 hq2))
   rw [if_pos (bne_iff_ne.mpr hs),hq1,G0 hq2]
   simp only [Option.bind_some]
   rw [hj.1,B1a hj.2 (by omega)]
   simp only [Option.bind_some]
   cases hb:bit h.Places[q]!.Joists.toNat k with
   | true =>
    have hc:con h p.At k i = h.Figures[i]!.Weight:= by unfold con; rw [hq3,if_pos ⟨hi,hs,hb⟩]
    rw [if_pos rfl,← hc,F0 (by omega)]; rfl
   | false =>
    have hc:con h p.At k i = 0:= by unfold con; rw [hq3,if_neg (fun hq=>by rw [hb] at hq; exact absurd hq.2.2 (by decide))]
    rw [if_neg (by decide),hc,Int.add_zero]; rfl) (by
  unfold Z2
  simp only []
  rw [if_neg (by simp)])
theorem B2q {h:RoHouse} (ok:HOk h) {p:RoPlan} (pv:PV h p.At):A2u h p = some (carry h p.At):= by
 have hh:=ok.holds
 unfold A2u
 have l1:=M3 (b:=Z3 h p) (fun k=>((k:Int),(List.range k).map fun k=>G8 h p.At k p.At.length)) h.Holds.length (r:=carry h p.At) (by omega) (fun k hk=>by
  unfold Z3
  simp only []
  rw [if_pos (by simpa using hk),C01 ok pv k hk]
  simp only [Option.bind_some]
  rw [B95 (by omega) (by rw [List.length_map,List.length_range]; simp; omega),F0 (by omega)]
  simp only [Option.bind_some]
  rw [List.range_succ,List.map_append]; rfl) (by
  unfold Z3
  simp only []
  rw [if_neg (by simp)]; rfl)
 have l1:loop (Z3 h p) (0,[]) = _:=l1
 rw [l1]; rfl
theorem B8m {n:Nat} {p:Nat→Bool}:(first (fun i=>if p i then none else some ()) n).isNone = (List.range n).all p:= by
 cases hf:first (fun i=>if p i then none else some ()) n with
 | none =>
  have h0:=K6.mp hf
  symm
  rw [Option.isNone_none,List.all_eq_true]
  intro i hi
  have:=h0 i (List.mem_range.mp hi)
  cases hp:p i with
  | true=>rfl
  | false=>rw [hp] at this; exact absurd this (by simp)
 | some u =>
  obtain ⟨i,hi,h1,_⟩:=U9 hf
  symm
  rw [Option.isNone_some,List.all_eq_false]
  refine ⟨i,List.mem_range.mpr hi,?_⟩
  cases hp:p i with
  | true=>rw [hp] at h1; exact absurd h1 (by simp)
  | false=>decide
theorem B17 {b:Int→Option (Int ⊕ (Bool ⊕ Unit))} (n:Nat) (p:Nat→Bool) (hn:n < 9223372036854775808)
  (hs:∀i:Nat,i < n→b (i:Int) = some (if p i then .inl (w64 ((i:Int) + 1)) else .inr (.inl false))) (he:b (n:Int) = some (.inr (.inr ()))) :
  loop b 0 = some (if (List.range n).all p then .inr () else .inl false):= by
 rw [A7v n (fun i=>if p i then none else some (.inl false)) (.inr ()) hn (fun i hi _=>by rw [hs i hi]; cases p i <;> rfl) he,← B8m]
 have:(fun (i:Nat)=>if p i then none else some (Sum.inl false:Bool ⊕ Unit)) = fun (i:Nat)=>(if p i then none else some ()).map fun _=>Sum.inl false:= by
  funext i; cases p i <;> rfl
 rw [this,A2r]
 cases first (fun (i:Nat)=>if p i then none else some ()) n <;> rfl
def A4f (h:RoHouse) (p:List Int):Bool:=(List.range h.Holds.length).all fun k=>decide (G8 h p k p.length≤h.Holds[k]!)
theorem C7z {h:RoHouse} (ok:HOk h) {p:List Int} (pv:PV h p):Z9 ⟨h⟩ (enc p) = some (A4f h p):= by
 have hh:=ok.holds
 unfold Z9
 rw [C15 ok pv]
 simp only [Option.bind_some]
 rw [B17 (b:=T3 ⟨h⟩ (A7u h p)) 4 (fun k=>if k < h.Holds.length then decide (G8 h p k p.length≤h.Holds[k]!) else true) (by omega) (fun k hk=>by
  unfold T3 A7u
  rw [if_pos (by rw [decide_eq_true_eq]; omega),C4s _ k hk]
  simp only [Option.bind_some]
  by_cases c:k < h.Holds.length
  ·rw [if_pos c,if_pos (by rw [decide_eq_true_eq]; exact Int.ofNat_lt.mpr c),G0 c,if_pos c]
   simp only [Option.bind_some]
   by_cases q:G8 h p k p.length≤h.Holds[k]!
   ·rw [decide_eq_true q,decide_eq_false (show ¬ (G8 h p k p.length > h.Holds[k]!) by omega)]; rfl
   ·rw [decide_eq_false q,decide_eq_true (show (G8 h p k p.length > h.Holds[k]!) by omega)]; rfl
  ·rw [if_neg c,if_neg (by rw [decide_eq_true_eq]; intro q; exact c (Int.ofNat_lt.mp q)),if_neg c]; rfl) (by
  unfold T3
  rw [if_neg (by rw [decide_eq_true_eq]; omega)])]
 simp only [Option.bind_some]
 have e1:(List.range 4).all (fun k=>if k < h.Holds.length then decide (G8 h p k p.length≤h.Holds[k]!) else true) = A4f h p:= by
  unfold A4f
  rw [Bool.eq_iff_iff,List.all_eq_true,List.all_eq_true]
  constructor
  ·intro q k hk
   have:=q k (List.mem_range.mpr (by have:=List.mem_range.mp hk; omega))
   rwa [if_pos (List.mem_range.mp hk)] at this
  ·intro q k _
   by_cases c:k < h.Holds.length
   ·rw [if_pos c]; exact q k (List.mem_range.mpr c)
   ·rw [if_neg c]
 rw [e1]
 cases A4f h p <;> rfl
def dear (h:RoHouse) (p:List Int) (c:Int) (i:Nat):Int:=if i < p.length∧p[i]! ≠ -1∧(plc h p i).Dear = true∧h.Figures[i]!.Class = c then 1 else 0
def L7 (h:RoHouse) (p:List Int) (c:Int) (n:Nat):Int:=iter (fun i s=>s + dear h p c i) n 0
theorem A1p (h:RoHouse) (p:List Int) (c:Int) (n:Nat):L7 h p c (n + 1) = L7 h p c n + dear h p c n:=rfl
theorem C9t (h:RoHouse) (p:List Int) (c:Int) (i:Nat):0≤dear h p c i∧dear h p c i≤1:= by
 unfold dear
 split <;> omega
theorem A5u (h:RoHouse) (p:List Int) (c:Int):∀n,0≤L7 h p c n∧L7 h p c n≤n
 | 0=>by unfold L7 iter; omega
 | n + 1=>by
  have ih:=A5u h p c n
  have:=C9t h p c n
  rw [A1p]; omega
theorem B7r (h:RoHouse) (p:List Int) (c:Int):∀n,L7 h p c (p.length + n) = L7 h p c p.length
 | 0=>rfl
 | n + 1=>by
  rw [← Nat.add_assoc,A1p,B7r h p c n]
  unfold dear
  rw [if_neg (by omega)]; omega
def A0r (b:List Int) (c:Int) (n:Nat):Int:=iter (fun i s=>s + if b[i]! == c then 1 else 0) n 0
theorem A2j (b:List Int) (c:Int) (n:Nat):A0r b c (n + 1) = A0r b c n + if b[n]! == c then 1 else 0:=rfl
theorem B5v (b:List Int) (c:Int):∀n,0≤A0r b c n∧A0r b c n≤n
 | 0=>by unfold A0r iter; omega
 | n + 1=>by
  have ih:=B5v b c n
  rw [A2j]
  split <;> omega
theorem B5w (b:List Int) (c:Int) {m:Nat}:∀{n:Nat},m≤n→A0r b c m≤A0r b c n
 | 0,h=>by have:m = 0:= by omega
           subst this; omega
 | n + 1,h=>by
  by_cases e:m = n + 1
  ·subst e; omega
  ·have ih:=B5w b c (m:=m) (n:=n) (by omega)
   rw [A2j]
   split <;> omega
def A2s (h:RoHouse) (p:List Int):Bool:=(List.range 10).all fun c=>decide (A0r h.Bill (c:Int) h.Bill.length≤L7 h p (c:Int) p.length)
theorem C2l {h:RoHouse} (ok:HOk h) {p:RoPlan} (pv:PV h p.At):A5n h p = some (A2s h p.At):= by
 have h5:=ok.figures
 have hp:=ok.places
 have hb3:=ok.bill
 have hl:=pv.len
 unfold A5n
 rw [B17 (b:=A15 h p) 10 (fun c=>decide (A0r h.Bill (c:Int) h.Bill.length≤L7 h p.At (c:Int) p.At.length)) (by omega) (fun c hc=>by
  unfold A15
  rw [if_pos (by rw [decide_eq_true_eq]; omega)]
  have l1:loop (A0w h p (c:Int)) (0,0) = some (L7 h p.At (c:Int) p.At.length):=M3 (b:=A0w h p (c:Int)) (fun i=>(L7 h p.At (c:Int) i,(i:Int))) p.At.length (by omega) (fun i hi=>by
   have b1:=A5u h p.At (c:Int) i
   have hb:=pv.bd i hi
   unfold A0w
   simp only []
   rw [if_pos (by simpa using hi),G0 hi]
   simp only [Option.bind_some]
   rw [F0 (n:=(i:Int) + 1) (by omega),F0 (by omega),G0 (show i < h.Figures.length by omega),A1p]
   by_cases hs:p.At[i]! = -1
   ·have hc:dear h p.At (c:Int) i = 0:= by unfold dear; rw [if_neg (fun hq=>hq.2.1 hs)]
    rw [if_neg (by simp only [hs]; decide),hc,Int.add_zero]; rfl
   ·obtain ⟨q,hq1,hq2,hq3⟩:=shown pv hi hs
    rw [if_pos (bne_iff_ne.mpr hs),hq1,G0 hq2]
    simp only [Option.bind_some]
    unfold dear
    rw [hq3]
    cases hd:h.Places[q]!.Dear with
    | false=>rw [if_neg (by decide),if_neg (fun z=>absurd z.2.2.1 (by decide)),Int.add_zero]; rfl
    | true =>
     rw [if_pos rfl]
     simp only [Option.bind_some]
     by_cases hc:h.Figures[i]!.Class = (c:Int)
     ·rw [if_pos (by rw [beq_iff_eq]; exact hc),if_pos ⟨hi,hs,by trivial,hc⟩]; rfl
     ·rw [if_neg (by rw [beq_iff_eq]; exact hc),if_neg (fun z=>hc z.2.2.2),Int.add_zero]; rfl) (by
   unfold A0w
   simp only []
   rw [if_neg (by simp)])
  have l2:loop (A0x h (c:Int)) (0,0) = some (A0r h.Bill (c:Int) h.Bill.length):=M3 (b:=A0x h (c:Int)) (fun i=>(A0r h.Bill (c:Int) i,(i:Int))) h.Bill.length (by omega) (fun i hi=>by
   have b1:=B5v h.Bill (c:Int) i
   unfold A0x
   simp only []
   rw [if_pos (by simpa using hi),G0 hi]
   simp only [Option.bind_some]
   rw [F0 (n:=(i:Int) + 1) (by omega),F0 (by omega),A2j]
   cases h.Bill[i]! == (c:Int)
   ·rw [if_neg (by decide),if_neg (by decide),Int.add_zero]; rfl
   ·rfl) (by
   unfold A0x
   simp only []
   rw [if_neg (by simp)])
  rw [l1,l2]
  simp only [Option.bind_some]
  by_cases q:A0r h.Bill (c:Int) h.Bill.length≤L7 h p.At (c:Int) p.At.length
  ·rw [decide_eq_true q,if_neg (by rw [decide_eq_true_eq]; omega)]; rfl
  ·rw [decide_eq_false q,if_pos (by rw [decide_eq_true_eq]; omega)]; rfl) (by
  unfold A15
  rw [if_neg (by rw [decide_eq_true_eq]; omega)])]
 simp only [Option.bind_some]
 show _ = some (A2s h p.At)
 unfold A2s
 cases (List.range 10).all fun (c:Nat)=>decide (A0r h.Bill (c:Int) h.Bill.length≤L7 h p.At (c:Int) p.At.length) <;> rfl
def gd (m:List (Int × Int)) (c:Int):Int:=(kget m c).getD 0
theorem C0j (m:List (Int × Int)) (k v c:Int):gd (kset m k v) c = if c = k then v else gd m c:= by
 unfold gd
 rw [B9c]
 by_cases h:c = k
 ·rw [if_pos h,if_pos h]; rfl
 ·rw [if_neg h,if_neg h]
theorem prom1 {h:RoHouse} (ok:HOk h) {p:List Int} (pv:PV h p):∃m,loop (N3 ⟨h⟩ (enc p)) (0,[]) = some m∧∀ c,gd m c = L7 h p c p.length:= by
 have h5:=ok.figures
 have hp:=ok.places
 have hl:=pv.len
 refine C8d (b:=N3 ⟨h⟩ (enc p)) (fun i s=>s.1 = (i:Int)∧∀ c,gd s.2 c = L7 h p c i) 5 (fun m=>∀ c,gd m c = L7 h p c p.length) (by omega) ?_ ?_ (0,[]) ⟨rfl,fun c=>rfl⟩
 ·rintro i ⟨i',m⟩ hi ⟨h1,h2⟩
  simp only at h1 h2
  subst h1
  unfold N3
  simp only []
  rw [if_pos (by rw [decide_eq_true_eq]; omega),A9m p i hi]
  simp only [Option.bind_some]
  rw [F0 (n:=(i:Int) + 1) (by omega)]
  have same:∀c,(∀ c,dear h p c i = 0)→gd m c = L7 h p c (i + 1):=fun c hd=>by rw [A1p,hd c,Int.add_zero]; exact h2 c
  by_cases c1:i < p.length
  ·have hb:=pv.bd i c1
   have he:e p i = p[i]! + 1:= by unfold e; rw [if_pos c1]
   by_cases hs:p[i]! = -1
   ·rw [if_neg (by rw [decide_eq_true_eq]; omega)]
    exact ⟨_,rfl,rfl,fun c=>same c fun c=>by unfold dear; rw [if_neg (fun hq=>hq.2.1 hs)]⟩
   ·obtain ⟨q,hq1,hq2,hq3⟩:=shown pv c1 hs
    rw [if_pos (by rw [decide_eq_true_eq]; omega),he,F0 (by omega),show p[i]! + 1 - 1 = (q:Int) by omega,G0 hq2]
    simp only [Option.bind_some]
    cases hd:h.Places[q]!.Dear with
    | false =>
     rw [if_neg (by decide)]
     exact ⟨_,rfl,rfl,fun c=>same c fun c=>by unfold dear; rw [hq3,hd,if_neg (fun z=>absurd z.2.2.1 (by decide))]⟩
    | true =>
     rw [if_pos rfl,G0 (show i < h.Figures.length by omega)]
     simp only [Option.bind_some]
     refine ⟨_,rfl,rfl,fun c=>?_⟩
     have b1:=A5u h p h.Figures[i]!.Class i
     have h3:=h2 h.Figures[i]!.Class
     have h3:(kget m h.Figures[i]!.Class).getD 0 = L7 h p h.Figures[i]!.Class i:=h3
     rw [C0j,h3,F0 (by omega),A1p]
     unfold dear
     rw [hq3,hd]
     by_cases hc:c = h.Figures[i]!.Class
     ·subst hc
      rw [if_pos rfl,if_pos ⟨c1,hs,by trivial,rfl⟩]
     ·rw [if_neg hc,if_neg (fun z=>hc z.2.2.2.symm),Int.add_zero]; exact h2 c
  ·have he:e p i = 0:= by unfold e; rw [if_neg c1]
   rw [he,if_neg (by decide)]
   exact ⟨_,rfl,rfl,fun c=>same c fun c=>by unfold dear; rw [if_neg (fun hq=>c1 hq.1)]⟩
 ·rintro ⟨i',m⟩ ⟨h1,h2⟩
  simp only at h1 h2
  subst h1
  unfold N3
  simp only []
  rw [if_neg (show ¬ decide (((5:Nat):Int) < 5) = true by rw [decide_eq_true_eq]; omega)]
  refine ⟨m,rfl,fun c=>?_⟩
  have:=B7r h p c (5 - p.length)
  rw [show p.length + (5 - p.length) = 5 by omega] at this
  rw [h2 c,this]
theorem B15 {h:RoHouse} (ok:HOk h) (p:List Int):A2s h p = true↔∀ i,i < h.Bill.length→A0r h.Bill h.Bill[i]! (i + 1)≤L7 h p h.Bill[i]! p.length:= by
 unfold A2s
 rw [List.all_eq_true]
 constructor
 ·intro q i hi
  have hb:=ok.class_ _ (L6 hi)
  have:=q h.Bill[i]!.toNat (List.mem_range.mpr (by omega))
  rw [decide_eq_true_eq,show ((h.Bill[i]!.toNat:Nat):Int) = h.Bill[i]! by omega] at this
  have m:=B5w h.Bill h.Bill[i]! (m:=i + 1) (n:=h.Bill.length) (by omega)
  omega
 ·intro q c _
  rw [decide_eq_true_eq]
  have key:∀n,n≤h.Bill.length→A0r h.Bill (c:Int) n≤L7 h p (c:Int) p.length:= by
   intro n
   induction n with
   | zero=>intro _; exact (A5u h p (c:Int) p.length).1
   | succ n ih =>
    intro hn
    by_cases e:h.Bill[n]! = (c:Int)
    ·have:=q n (by omega)
     rwa [e] at this
    ·rw [A2j,if_neg (by rw [beq_iff_eq]; exact e),Int.add_zero]
     exact ih (by omega)
  exact key _ (Nat.le_refl _)
theorem prom2 {h:RoHouse} (ok:HOk h) {p:List Int} {m:List (Int × Int)} (pl:p.length≤5) (hm:∀c,gd m c = L7 h p c p.length):∃r,loop (N4 ⟨h⟩) (0,m) = some r∧(match r with | .inl v=>v = false∧A2s h p = false | .inr _=>A2s h p = true):= by
 have hb3:=ok.bill
 refine C6d (b:=N4 ⟨h⟩) (fun i s=>s.1 = (i:Int)∧(∀ c,gd s.2 c = L7 h p c p.length - A0r h.Bill c i)∧∀ j,j < i→A0r h.Bill h.Bill[j]! (j + 1)≤L7 h p h.Bill[j]! p.length) h.Bill.length (fun r=>match r with | .inl v=>v = false∧A2s h p = false | .inr _=>A2s h p = true) (by omega) ?_ ?_ (0,m) ⟨rfl,fun c=>by rw [hm c]; show _ = _ - (0:Int); omega,fun j hj=>absurd hj (Nat.not_lt_zero j)⟩
 ·rintro i ⟨i',m'⟩ hi ⟨h1,h2,h3⟩
  simp only at h1 h2
  subst h1
  unfold N4
  simp only []
  rw [if_pos (by simpa using hi),G0 hi]
  simp only [Option.bind_some]
  have b1:=A5u h p h.Bill[i]! p.length
  have b2:=B5v h.Bill h.Bill[i]! i
  have h4:=h2 h.Bill[i]!
  have h5:(kget m' h.Bill[i]!).getD 0 = L7 h p h.Bill[i]! p.length - A0r h.Bill h.Bill[i]! i:=h4
  have e1:A0r h.Bill h.Bill[i]! (i + 1) = A0r h.Bill h.Bill[i]! i + 1:= by rw [A2j,if_pos (beq_self_eq_true _)]
  rw [h5,F0 (n:=L7 h p h.Bill[i]! p.length - A0r h.Bill h.Bill[i]! i - 1) (by omega),F0 (n:=(i:Int) + 1) (by omega)]
  have g1:=C0j m' h.Bill[i]! (L7 h p h.Bill[i]! p.length - A0r h.Bill h.Bill[i]! i - 1) h.Bill[i]!
  rw [if_pos rfl] at g1
  have g2:(kget (kset m' h.Bill[i]! (L7 h p h.Bill[i]! p.length - A0r h.Bill h.Bill[i]! i - 1)) h.Bill[i]!).getD 0 = L7 h p h.Bill[i]! p.length - A0r h.Bill h.Bill[i]! i - 1:=g1
  rw [g2]
  by_cases c:L7 h p h.Bill[i]! p.length - A0r h.Bill h.Bill[i]! i - 1 < 0
  ·right
   rw [if_pos (by rw [decide_eq_true_eq]; exact c)]
   refine ⟨_,rfl,rfl,?_⟩
   cases hk:A2s h p with
   | false=>rfl
   | true =>
    have:=(B15 ok p).mp hk i hi
    omega
  ·left
   rw [if_neg (by rw [decide_eq_true_eq]; exact c)]
   refine ⟨_,rfl,rfl,fun c=>?_,fun j hj=>?_⟩
   ·rw [C0j,A2j]
    by_cases hc:c = h.Bill[i]!
    ·rw [if_pos hc,hc,if_pos (beq_self_eq_true _)]; omega
    ·rw [if_neg hc,if_neg (by rw [beq_iff_eq]; exact fun q=>hc q.symm),Int.add_zero]; exact h2 c
   ·by_cases hji:j = i
    ·subst hji; omega
    ·exact h3 j (by omega)
 ·rintro ⟨i',m'⟩ ⟨h1,_,h3⟩
  simp only at h1
  subst h1
  unfold N4
  simp only []
  rw [if_neg (by simp)]
  exact ⟨_,rfl,(B15 ok p).mpr h3⟩
theorem C2h {h:RoHouse} (ok:HOk h) {p:List Int} (pv:PV h p):T4 ⟨h⟩ (enc p) = some (A2s h p):= by
 have h5:=ok.figures
 have hl:=pv.len
 unfold T4
 obtain ⟨m,e1,hm⟩:=prom1 ok pv
 obtain ⟨r,e2,hr⟩:=prom2 ok (by omega) hm
 by_cases hz:((enc p).x0 == 0 && ((enc p).x1 == 0 && ((enc p).x2 == 0 && ((enc p).x3 == 0 && ((enc p).x4 == 0 && true))))) = true
 ·rw [if_pos hz]
  have hall:∀i,i < 5→e p i = 0:= by
   simp only [Bool.and_eq_true,beq_iff_eq] at hz
   intro i hi
   match i,hi with
   | 0,_=>exact hz.1
   | 1,_=>exact hz.2.1
   | 2,_=>exact hz.2.2.1
   | 3,_=>exact hz.2.2.2.1
   | 4,_=>exact hz.2.2.2.2.1
  have ht:∀c,∀ n,L7 h p c n = 0:= by
   intro c n
   induction n with
   | zero=>rfl
   | succ n ih =>
    rw [A1p,ih]
    unfold dear
    rw [if_neg (show ¬ (n < p.length∧p[n]! ≠ -1∧(plc h p n).Dear = true∧h.Figures[n]!.Class = c) from fun q=>by
     have q1:=q.1
     have:=hall n (by omega)
     unfold e at this
     rw [if_pos q.1] at this
     exact q.2.1 (by omega))]
    rfl
  by_cases hb:h.Bill.length = 0
  ·have:A2s h p = true:=(B15 ok p).mpr fun i hi=>by omega
   rw [this,hb]; rfl
  ·have:A2s h p = false:= by
    cases hk:A2s h p with
    | false=>rfl
    | true =>
     have:=(B15 ok p).mp hk 0 (by omega)
     rw [ht,A2j,if_pos (beq_self_eq_true _)] at this
     have:(0:Int) + 1≤0:=this
     omega
   rw [this]
   congr 1
   show ((h.Bill.length:Int) == 0) = false
   exact beq_eq_false_iff_ne.mpr (by omega)
 ·rw [if_neg hz,e1]
  simp only [Option.bind_some]
  rw [e2]
  simp only [Option.bind_some]
  cases r with
  | inl v=>rw [hr.1,hr.2]
  | inr m=>rw [hr]
theorem C5c {h:RoHouse} (ok:HOk h) {p:List Int} (pv:PV h p) (last:Bool):M9 ⟨h⟩ (enc p) last = some (A4f h p && (!last || A2s h p)):= by
 unfold M9
 rw [C7z ok pv,C2h ok pv]
 cases last <;> cases A4f h p <;> cases A2s h p <;> rfl
def A31 (h:RoHouse) (p:List Int) (n:Nat):Int:=iter (fun i s=>s + if i < p.length∧p[i]! ≠ -1 then h.Figures[i]!.Worth else 0) n 0
theorem A4x (h:RoHouse) (p:List Int) (n:Nat):A31 h p (n + 1) = A31 h p n + if n < p.length∧p[n]! ≠ -1 then h.Figures[n]!.Worth else 0:=rfl
theorem B1g {h:RoHouse} (ok:HOk h) {p:List Int} (pv:PV h p):∀n,0≤A31 h p n∧A31 h p n≤100 * n
 | 0=>by unfold A31 iter; omega
 | n + 1=>by
  have ih:=B1g ok pv n
  rw [A4x]
  by_cases c:n < p.length∧p[n]! ≠ -1
  ·have:=(ok.figure _ (L6 (show n < h.Figures.length by rw [← pv.len]; exact c.1))).worth
   rw [if_pos c]; omega
  ·rw [if_neg c]; omega
theorem B7y (h:RoHouse) (p:List Int):∀n,A31 h p (p.length + n) = A31 h p p.length
 | 0=>rfl
 | n + 1=>by
  rw [← Nat.add_assoc,A4x,B7y h p n,if_neg (by omega)]; omega
def worth (h:RoHouse) (p:List Int):Int:=A31 h p p.length
theorem C9j {h:RoHouse} (ok:HOk h) {p:List Int} (pv:PV h p):R2 ⟨h⟩ (enc p) = some (worth h p):= by
 have h5:=ok.figures
 have hp:=ok.places
 have hl:=pv.len
 unfold R2
 have l1:loop (Q3 ⟨h⟩ (enc p)) (0,0) = some (worth h p):=M3 (b:=Q3 ⟨h⟩ (enc p)) (fun i=>(A31 h p i,(i:Int))) 5 (by omega) (fun i hi=>by
  have b1:=B1g ok pv i
  unfold Q3
  simp only []
  rw [if_pos (by rw [decide_eq_true_eq]; omega),A9m p i hi]
  simp only [Option.bind_some]
  rw [F0 (n:=(i:Int) + 1) (by omega),A4x]
  by_cases c:i < p.length∧p[i]! ≠ -1
  ·have hb:=pv.bd i c.1
   have hw:=(ok.figure _ (L6 (show i < h.Figures.length by rw [← pv.len]; exact c.1))).worth
   have he:e p i > 0:= by unfold e; rw [if_pos c.1]; have:=c.2; omega
   rw [if_pos (by rw [decide_eq_true_eq]; exact he),G0 (show i < h.Figures.length by have:=c.1; omega),if_pos c]
   simp only [Option.bind_some]
   rw [F0 (by omega)]; rfl
  ·have he:¬ e p i > 0:= by
    unfold e
    by_cases c1:i < p.length
    ·rw [if_pos c1]
     have:p[i]! = -1:=Classical.byContradiction fun hq=>c ⟨c1,hq⟩
     omega
    ·rw [if_neg c1]; omega
   rw [if_neg (by rw [decide_eq_true_eq]; exact he),if_neg c,Int.add_zero]; rfl) (by
  unfold Q3
  simp only []
  rw [if_neg (show ¬ decide (((5:Nat):Int) < 5) = true by rw [decide_eq_true_eq]; omega)]
  have:=B7y h p (5 - p.length)
  rw [show p.length + (5 - p.length) = 5 by omega] at this
  rw [this]; rfl)
 rw [l1]; rfl
theorem C00 {h:RoHouse} (ok:HOk h) {p:RoPlan} (pv:PV h p.At):A39 h p = some (worth h p.At):= by
 have h5:=ok.figures
 have hp:=ok.places
 have hl:=pv.len
 unfold A39
 have l1:loop (Z7 h p) (0,0) = some (worth h p.At):=M3 (b:=Z7 h p) (fun i=>(A31 h p.At i,(i:Int))) p.At.length (by omega) (fun i hi=>by
  have b1:=B1g ok pv i
  have hw:=(ok.figure _ (L6 (show i < h.Figures.length by omega))).worth
  unfold Z7
  simp only []
  rw [if_pos (by simpa using hi),G0 hi]
  simp only [Option.bind_some]
  rw [F0 (n:=(i:Int) + 1) (by omega),A4x,G0 (show i < h.Figures.length by omega)]
  simp only [Option.bind_some]
  by_cases c:p.At[i]! = -1
  ·rw [if_neg (by simp only [c]; decide),if_neg (fun q=>q.2 c),Int.add_zero]; rfl
  ·rw [if_pos (bne_iff_ne.mpr c),if_pos ⟨hi,c⟩,F0 (by omega)]; rfl) (by
  unfold Z7
  simp only []
  rw [if_neg (by simp)]; rfl)
 rw [l1]; rfl
def A9b (h:RoHouse) (l:Nat) (p:List Int) (i:Nat):Bool:=p[i]! == -1 || A23 (warm h p[i]!.toNat l) h.Figures[i]! == 1
def A6f (h:RoHouse) (l:Nat) (p:List Int):Bool:=(List.range p.length).all (A9b h l p)
def A47 (h:RoHouse) (l:Nat) (p:List Int):Bool:=A6f h l p && (A4f h p && A2s h p)
theorem C0p {n m:Nat} {p:Nat→Bool} (hnm:n≤m) (hp:∀i,n≤i→i < m→p i = true):(List.range m).all p = (List.range n).all p:= by
 rw [Bool.eq_iff_iff,List.all_eq_true,List.all_eq_true]
 constructor
 ·intro q i hi
  exact q i (List.mem_range.mpr (by have:=List.mem_range.mp hi; omega))
 ·intro q i hi
  by_cases c:i < n
  ·exact q i (List.mem_range.mpr c)
  ·exact hp i (by omega) (List.mem_range.mp hi)
theorem C6c {b:Int→Option (Int ⊕ (Unit ⊕ Unit))} (n:Nat) (p:Nat→Bool) (hn:n < 9223372036854775808)
  (hs:∀i:Nat,i < n→b (i:Int) = some (if p i then .inl (w64 ((i:Int) + 1)) else .inr (.inr ()))) (he:b (n:Int) = some (.inr (.inl ()))) :
  loop b 0 = some (if (List.range n).all p then .inl () else .inr ()):= by
 rw [A7v n (fun i=>if p i then none else some (.inr ())) (.inl ()) hn (fun i hi _=>by rw [hs i hi]; cases p i <;> rfl) he,← B8m]
 have:(fun (i:Nat)=>if p i then none else some (Sum.inr ():Unit ⊕ Unit)) = fun (i:Nat)=>(if p i then none else some ()).map fun _=>Sum.inr ():= by
  funext i; cases p i <;> rfl
 rw [this,A2r]
 cases first (fun (i:Nat)=>if p i then none else some ()) n <;> rfl
theorem C5r {h:RoHouse} (ok:HOk h) {p:List Int} (pv:PV h p) {l:Nat} (hl16:l < 16):loop (Y0 h ⟨(l:Int),enc p⟩) 0 = some (if A6f h l p then .inl () else .inr ()):= by
 have h5:=ok.figures
 have hp:=ok.places
 have hl:=pv.len
 rw [C6c (b:=Y0 h ⟨(l:Int),enc p⟩) 5 (fun i=>if i < p.length then A9b h l p i else true) (by omega) (fun i hi=>by
  unfold Y0
  rw [if_pos (by rw [decide_eq_true_eq]; omega),A9m p i hi]
  simp only [Option.bind_some]
  by_cases c1:i < p.length
  ·have hb:=pv.bd i c1
   have he:e p i = p[i]! + 1:= by unfold e; rw [if_pos c1]
   rw [if_pos c1]
   unfold A9b
   by_cases hs:p[i]! = -1
   ·rw [if_neg (by rw [decide_eq_true_eq]; omega),hs]; rfl
   ·obtain ⟨q,hq1,hq2,_⟩:=shown pv c1 hs
    rw [if_pos (by rw [decide_eq_true_eq]; omega),he,F0 (by omega),show p[i]! + 1 - 1 = (q:Int) by omega,C4z ok (show i < h.Figures.length by omega) hq2 hl16]
    simp only [Option.bind_some]
    rw [hq1,Int.toNat_natCast]
    have:((q:Int) == -1) = false:=beq_eq_false_iff_ne.mpr (by omega)
    rw [this,Bool.false_or,bne]
    cases A23 (warm h q l) h.Figures[i]! == 1 <;> rfl
  ·have he:e p i = 0:= by unfold e; rw [if_neg c1]
   rw [he,if_neg c1,if_neg (by decide)]; rfl) (by
  unfold Y0
  rw [if_neg (by rw [decide_eq_true_eq]; omega)])]
 have:(List.range 5).all (fun i=>if i < p.length then A9b h l p i else true) = A6f h l p:= by
  rw [C0p (n:=p.length) (by omega) (fun i hi _=>if_neg (by omega))]
  unfold A6f
  rw [Bool.eq_iff_iff,List.all_eq_true,List.all_eq_true]
  constructor
  ·intro q i hi
   have:=q i hi
   rwa [if_pos (List.mem_range.mp hi)] at this
  ·intro q i hi
   rw [if_pos (List.mem_range.mp hi)]; exact q i hi
 rw [this]
theorem B7e {h:RoHouse} (ok:HOk h) {p:RoPlan} (pv:PV h p.At) {l:Nat} (hlit:p.Lit = (l:Int)) (hl16:l < 16):A14 h p = some (A47 h l p.At):= by
 have h5:=ok.figures
 have hp:=ok.places
 have hh:=ok.holds
 have hl:=pv.len
 unfold A14 A47
 rw [B17 (b:=Z0 h p) p.At.length (A9b h l p.At) (by omega) (fun i hi=>by
  unfold Z0
  rw [if_pos (by simpa using hi),G0 hi]
  simp only [Option.bind_some]
  unfold A9b
  by_cases hs:p.At[i]! = -1
  ·rw [hs]; rfl
  ·obtain ⟨q,hq1,hq2,_⟩:=shown pv hi hs
   rw [if_pos (bne_iff_ne.mpr hs),G0 (show i < h.Figures.length by omega),hq1,hlit]
   simp only [Option.bind_some]
   rw [B5s ok (ok.figure _ (L6 (show i < h.Figures.length by omega))) hq2 hl16,Int.toNat_natCast]
   have:((q:Int) == -1) = false:=beq_eq_false_iff_ne.mpr (by omega)
   rw [this,Bool.false_or]
   simp only [Option.bind_some]
   rw [bne]
   cases A23 (warm h q l) h.Figures[i]! == 1 <;> rfl) (by
  unfold Z0
  rw [if_neg (by simp)])]
 simp only [Option.bind_some]
 show _ = some (A6f h l p.At && (A4f h p.At && A2s h p.At))
 have hsf:(List.range p.At.length).all (A9b h l p.At) = A6f h l p.At:=rfl
 rw [hsf]
 cases A6f h l p.At with
 | false=>rfl
 | true =>
  rw [if_pos rfl,B2q ok pv]
  simp only [Option.bind_some]
  have hcl:(carry h p.At).length = h.Holds.length:= by unfold carry; rw [List.length_map,List.length_range]
  rw [B17 (b:=Z1 h (carry h p.At)) h.Holds.length (fun k=>decide (G8 h p.At k p.At.length≤h.Holds[k]!)) (by omega) (fun k hk=>by
   unfold Z1
   rw [if_pos (by rw [decide_eq_true_eq]; omega),G0 (by omega),G0 hk]
   simp only [Option.bind_some]
   have hg:(carry h p.At)[k]! = G8 h p.At k p.At.length:= by
    rw [getElem!_pos _ _ (by omega)]
    unfold carry
    rw [List.getElem_map,List.getElem_range]
   rw [hg]
   by_cases q:G8 h p.At k p.At.length≤h.Holds[k]!
   ·rw [decide_eq_true q,decide_eq_false (show ¬ (G8 h p.At k p.At.length > h.Holds[k]!) by omega)]; rfl
   ·rw [decide_eq_false q,decide_eq_true (show (G8 h p.At k p.At.length > h.Holds[k]!) by omega)]; rfl) (by
   unfold Z1
   rw [if_neg (by rw [decide_eq_true_eq]; omega)])]
  simp only [Option.bind_some]
  have hho:(List.range h.Holds.length).all (fun k=>decide (G8 h p.At k p.At.length≤h.Holds[k]!)) = A4f h p.At:=rfl
  rw [hho]
  cases A4f h p.At with
  | false=>rfl
  | true =>
   rw [if_pos rfl,C2l ok pv]; rfl
theorem lit16 {h:RoHouse} (ok:HOk h) {l:Nat} (hl:l < 2 ^ h.Stoves.toNat):l < 16:= by
 have:=B09 ok
 omega
theorem C63 {h:RoHouse} (hb:NB h) (p:RoPlan) (hl:p.At.length < 9223372036854775808):A3s h p = some (if K2 h p = 0 then (carry h p.At,0) else ([],K2 h p)):= by
 rw [A85 hb p hl (fun c=>(([]:List Int),c)) (fun v=>(R1 (room_house.mk h) v.at_).bind fun x20=>(slc (Ar4.l x20) 0 (List.length h.Holds:Int)).bind fun x21=>(app 8 ([]:List Int) x21).bind fun x22=>some (x22,0)) (F:=A3s h p) rfl]
 by_cases c:K2 h p = 0
 ·obtain ⟨ok,pv,_,_,_⟩:=A0c c
  have hh:=ok.holds
  rw [if_pos c,if_pos c]
  simp only []
  rw [C15 ok pv]
  simp only [Option.bind_some]
  rw [B23 (by show h.Holds.length≤4; exact hh)]
  simp only [Option.bind_some]
  rw [C0q ok,B95 (by omega) (by unfold carry; rw [List.length_map,List.length_range]; simp; omega)]
  rfl
 ·rw [if_neg c,if_neg c]
theorem C0z (h:RoHouse) (p:RoPlan) (hl:p.At.length < 9223372036854775808):A37 h p = some (if K2 h p = 0 then (carry h p.At,0) else ([],K2 h p)):= by
 unfold A37
 rw [B4q h p hl]
 simp only [Option.bind_some]
 by_cases c:K2 h p = 0
 ·obtain ⟨ok,pv,_,_,_⟩:=A0c c
  rw [c,B2q ok pv]; rfl
 ·rw [if_pos (bne_iff_ne.mpr c),if_neg c]
def A30 (h:RoHouse) (p:RoPlan):Int × Int:=if K2 h p = 0 then (if A47 h p.Lit.toNat p.At then (worth h p.At,0) else (0,9)) else (0,K2 h p)
theorem C66 {h:RoHouse} (hb:NB h) (p:RoPlan) (hl:p.At.length < 9223372036854775808):A2n h p = some (A30 h p):= by
 rw [A85 hb p hl (fun c=>((0:Int),c)) (fun v=>(loop (Y0 h v) 0).bind fun (o28:(Unit ⊕ Unit))=>match o28 with | (.inl _)=>(M9 (room_house.mk h) v.at_ true).bind fun x29=>if (!x29) = true then some (0,9) else (R2 (room_house.mk h) v.at_).bind fun x31=>some (x31,0) | (.inr _)=>some (0,9)) (F:=A2n h p) rfl]
 unfold A30
 by_cases c:K2 h p = 0
 ·obtain ⟨ok,pv,⟨l,hlit,hl2⟩,_,_⟩:=A0c c
  rw [if_pos c,if_pos c]
  simp only []
  rw [hlit,C5r ok pv (lit16 ok hl2),Int.toNat_natCast]
  simp only [Option.bind_some]
  unfold A47
  cases A6f h l p.At with
  | false=>rfl
  | true =>
   rw [if_pos rfl]
   simp only []
   rw [C5c ok pv,C9j ok pv]
   cases A4f h p.At <;> cases A2s h p.At <;> rfl
 ·rw [if_neg c,if_neg c]
theorem B2r (h:RoHouse) (p:RoPlan) (hl:p.At.length < 9223372036854775808):A2v h p = some (A30 h p):= by
 unfold A2v A30
 rw [B4q h p hl]
 simp only [Option.bind_some]
 by_cases c:K2 h p = 0
 ·obtain ⟨ok,pv,⟨l,hlit,hl2⟩,_,_⟩:=A0c c
  rw [c,B7e ok pv hlit (lit16 ok hl2),C00 ok pv,hlit,Int.toNat_natCast]
  cases A47 h l p.At <;> rfl
 ·have e1:(K2 h p == 0) = false:=beq_eq_false_iff_ne.mpr c
  rw [e1,if_neg c]
  simp only [Option.bind_some,Bool.false_eq_true,if_false]
  rw [if_pos (bne_iff_ne.mpr c)]
def B12 (p:List Int) (i:Nat):Prop:=i < p.length∧p[i]! ≠ -1
def left (h:RoHouse) (l:Nat) (p:List Int) (i:Nat):Int:=A8h ((warm h p[i]!.toNat l).Lo - h.Figures[i]!.Cracks) (h.Figures[i]!.Slumps - (warm h p[i]!.toNat l).Hi)
instance (p:List Int) (i:Nat):Decidable (B12 p i):=inferInstanceAs (Decidable (_∧_))
def A8g (h:RoHouse) (l:Nat) (p:List Int) (n:Nat):Int × Int:=iter (fun i s=>if B12 p i∧(s.1 < 0∨left h l p i < s.2) then ((i:Int),left h l p i) else s) n (-1,0)
theorem B3r (h:RoHouse) (l:Nat) (p:List Int) (n:Nat):A8g h l p (n + 1) = if B12 p n∧((A8g h l p n).1 < 0∨left h l p n < (A8g h l p n).2) then ((n:Int),left h l p n) else A8g h l p n:=rfl
theorem C5f (h:RoHouse) (l:Nat) (p:List Int):∀n,A8g h l p (p.length + n) = A8g h l p p.length
 | 0=>rfl
 | n + 1=>by
  rw [← Nat.add_assoc,B3r,C5f h l p n,if_neg]
  exact fun q=>absurd q.1.1 (by omega)
theorem C91 {h:RoHouse} (ok:HOk h) {l:Nat} {p:List Int} (pv:PV h p) {i:Nat} (hi:B12 p i):-400≤left h l p i∧left h l p i≤100:= by
 obtain ⟨q,hq1,hq2,_⟩:=shown pv hi.1 hi.2
 have b:=A93 ok hq2 l
 have g:=(ok.figure _ (L6 (show i < h.Figures.length by rw [← pv.len]; exact hi.1))).bears
 unfold left A8h
 rw [hq1,Int.toNat_natCast]
 split <;> omega
theorem C5g (h:RoHouse) (l:Nat) (p:List Int):∀n,((A8g h l p n).1 = -1∧∀ i,i < n→¬ B12 p i)∨∃ k:Nat,k < n∧A8g h l p n = ((k:Int),left h l p k)∧B12 p k∧(∀ i,i < n→B12 p i→left h l p k≤left h l p i)∧∀ i,i < k→B12 p i→left h l p k < left h l p i
 | 0=>.inl ⟨rfl,fun i hi=>absurd hi (Nat.not_lt_zero i)⟩
 | n + 1=>by
  rw [B3r]
  rcases C5g h l p n with ⟨h1,h2⟩ | ⟨k,hk,h1,h2,h3,h4⟩
  ·by_cases c:B12 p n
   ·right
    rw [if_pos ⟨c,.inl (by omega)⟩]
    refine ⟨n,Nat.lt_succ_self n,rfl,c,fun i hi hs=>?_,fun i hi hs=>absurd hs (h2 i hi)⟩
    by_cases e:i = n
    ·subst e; omega
    ·exact absurd hs (h2 i (by omega))
   ·left
    rw [if_neg (fun q=>c q.1)]
    refine ⟨h1,fun i hi=>?_⟩
    by_cases e:i = n
    ·subst e; exact c
    ·exact h2 i (by omega)
  ·right
   rw [h1]
   by_cases c:B12 p n∧left h l p n < left h l p k
   ·rw [if_pos ⟨c.1,.inr c.2⟩]
    refine ⟨n,Nat.lt_succ_self n,rfl,c.1,fun i hi hs=>?_,fun i hi hs=>?_⟩
    ·by_cases e:i = n
     ·subst e; omega
     ·have:=h3 i (by omega) hs
      have:=c.2
      omega
    ·have:=h3 i (by omega) hs
     have:=c.2
     omega
   ·rw [if_neg (fun q=>c ⟨q.1,q.2.resolve_left (by simp only []; omega)⟩)]
    refine ⟨k,by omega,rfl,h2,fun i hi hs=>?_,h4⟩
    by_cases e:i = n
    ·subst e
     have:¬ left h l p i < left h l p k:=fun q=>c ⟨hs,q⟩
     omega
    ·exact h3 i (by omega) hs
theorem D3l {h:RoHouse} (ok:HOk h) {l:Nat} (hl16:l < 16) {p:List Int} (pv:PV h p):loop (V4 h ⟨(l:Int),enc p⟩) (-1,0,0) = some (A8g h l p p.length):= by
 have h5:=ok.figures
 have hp:=ok.places
 have hl:=pv.len
 have l1:=M3 (b:=V4 h ⟨(l:Int),enc p⟩) (fun i=>((A8g h l p i).1,(A8g h l p i).2,(i:Int))) 5 (r:=A8g h l p p.length) (by omega) (fun i hi=>by
  unfold V4
  simp only []
  rw [if_pos (by rw [decide_eq_true_eq]; omega),A9m p i hi]
  simp only [Option.bind_some]
  rw [F0 (n:=(i:Int) + 1) (by omega),B3r]
  by_cases c:B12 p i
  ·have hb:=pv.bd i c.1
   obtain ⟨q,hq1,hq2,_⟩:=shown pv c.1 c.2
   have b:=A93 ok hq2 l
   have hi2:i < h.Figures.length:= by have:=c.1; omega
   have g:=(ok.figure _ (L6 hi2)).bears
   have he:e p i = p[i]! + 1:= by unfold e; rw [if_pos c.1]
   have hne:(e p i == 0) = false:=beq_eq_false_iff_ne.mpr (by have:=c.2; omega)
   rw [hne,if_neg (by decide),he,F0 (n:=p[i]! + 1 - 1) (by omega),show p[i]! + 1 - 1 = (q:Int) by omega,B37 ok hq2 hl16,G0 hi2]
   simp only [Option.bind_some]
   rw [F0 (by omega),F0 (by omega)]
   have hL:A8h ((warm h q l).Lo - h.Figures[i]!.Cracks) (h.Figures[i]!.Slumps - (warm h q l).Hi) = left h l p i:= by unfold left; rw [hq1,Int.toNat_natCast]
   rw [hL]
   by_cases c2:(A8g h l p i).1 < 0∨left h l p i < (A8g h l p i).2
   ·rw [if_pos (by rw [Bool.or_eq_true,decide_eq_true_eq,decide_eq_true_eq]; exact c2),if_pos ⟨c,c2⟩]; rfl
   ·rw [if_neg (by rw [Bool.or_eq_true,decide_eq_true_eq,decide_eq_true_eq]; exact c2),if_neg (fun z=>c2 z.2)]; rfl
  ·have he:e p i = 0:= by
    unfold e
    by_cases c1:i < p.length
    ·rw [if_pos c1]
     have:p[i]! = -1:=Classical.byContradiction fun hq=>c ⟨c1,hq⟩
     omega
    ·rw [if_neg c1]
   rw [he,if_pos (by decide),if_neg (fun z=>c z.1)]; rfl) (by
  unfold V4
  simp only []
  rw [if_neg (show ¬ decide (((5:Nat):Int) < 5) = true by rw [decide_eq_true_eq]; omega)]
  have:=C5f h l p (5 - p.length)
  rw [show p.length + (5 - p.length) = 5 by omega] at this
  rw [this])
 exact l1
def B19 (h:RoHouse) (p:RoPlan):Int × Int × Int :=
 if (A30 h p).2 != 0 then (0,0,(A30 h p).2) else
 if (A8g h p.Lit.toNat p.At p.At.length).1 < 0 then (0,0,4) else ((A8g h p.Lit.toNat p.At p.At.length).1,(A8g h p.Lit.toNat p.At p.At.length).2,0)
theorem C5v {h:RoHouse} (hb:NB h) (p:RoPlan) (hl:p.At.length < 9223372036854775808):A1e h p = some (B19 h p):= by
 rw [A85 hb p hl (fun c=>((0:Int),(0:Int),c)) (fun v=>(loop (A3f h v) 0).bind fun (o28:(Unit ⊕ Unit))=>match o28 with | (.inl _)=>(M9 (room_house.mk h) v.at_ true).bind fun x29=>if (!x29) = true then some (0,0,9) else (loop (V4 h v) ((-1),0,0)).bind fun (o40:(Int × Int))=>if (decide (o40.1 < 0)) = true then some (0,0,4) else some (o40.1,o40.2,0) | (.inr _)=>some (0,0,9)) (F:=A1e h p) rfl]
 unfold B19 A30
 by_cases c:K2 h p = 0
 ·obtain ⟨ok,pv,⟨l,hlit,hl2⟩,_,_⟩:=A0c c
  have hs:loop (A3f h ⟨(l:Int),enc p.At⟩) 0 = some (if A6f h l p.At then .inl () else .inr ()):=C5r ok pv (lit16 ok hl2)
  rw [if_pos c,if_pos c]
  simp only []
  rw [hlit,hs,Int.toNat_natCast]
  simp only [Option.bind_some]
  unfold A47
  cases A6f h l p.At with
  | false=>rfl
  | true =>
   rw [if_pos rfl]
   simp only []
   rw [C5c ok pv,D3l ok (lit16 ok hl2) pv]
   cases A4f h p.At <;> cases A2s h p.At <;> try rfl
   simp only [Option.bind_some]
   by_cases c2:(A8g h l p.At p.At.length).1 < 0
   ·rw [if_neg (by decide),if_pos (by rw [decide_eq_true_eq]; exact c2)]
    simp [c2]
   ·rw [if_neg (by decide),if_neg (by rw [decide_eq_true_eq]; exact c2)]
    simp [c2]
 ·rw [if_neg c,if_neg c]
  simp [c]
def worse (h:RoHouse) (by_:Int):RoHouse:=⟨⟨h.Weather.Lo - by_,h.Weather.Hi + by_⟩,h.Stoves,h.Holds,h.Places,h.Figures,h.Bill⟩
theorem A8b (w:Span) (d:Int) (ws:List Span) (l:Nat):∀n,S0 ⟨w.Lo - d,w.Hi + d⟩ ws l n = ⟨(S0 w ws l n).Lo - d,(S0 w ws l n).Hi + d⟩
 | 0=>rfl
 | n + 1=>by
  have ih:=A8b w d ws l n
  have e1:∀v,S0 v ws l (n + 1) = if bit l n then B41 (S0 v ws l n) ws[n]! else S0 v ws l n:=fun v=>rfl
  rw [e1,e1,ih]
  cases bit l n
  ·rfl
  ·show B41 _ _ = _
   rw [if_pos rfl]
   unfold B41
   simp only [Span.mk.injEq]
   constructor <;> omega
theorem B1f (h:RoHouse) (d:Int) (p l:Nat):warm (worse h d) p l = ⟨(warm h p l).Lo - d,(warm h p l).Hi + d⟩:=A8b h.Weather d h.Places[p]!.Warms l h.Stoves.toNat
theorem B7f {h:RoHouse} (ok:HOk h) {d:Int} (hd:0≤d∧d≤400) {p l:Nat} (hp:p < h.Places.length) (hl:l < 16):A0l (worse h d) (p:Int) (l:Int) = some (warm (worse h d) p l):= by
 have hs:=ok.s
 have hw:=ok.w
 unfold A0l
 have hlen:=A9y ok hp
 have l1:=M3 (b:=P5 (worse h d) (p:Int) (l:Int)) (fun i=>((i:Int),S0 (worse h d).Weather h.Places[p]!.Warms l i)) h.Stoves.toNat (r:=warm (worse h d) p l) (by omega) (fun i hi=>by
  have b1:=A7g ok (ok.place _ (L6 hp)) l i (by omega)
  have b2:=(ok.place _ (L6 hp)).warms _ (L6 (show i < h.Places[p]!.Warms.length by omega))
  have b3:=A8b h.Weather d h.Places[p]!.Warms l i
  have b4:S0 (worse h d).Weather h.Places[p]!.Warms l i = ⟨(S0 h.Weather h.Places[p]!.Warms l i).Lo - d,(S0 h.Weather h.Places[p]!.Warms l i).Hi + d⟩:=b3
  have b5:=congrArg Span.Lo b4
  have b6:=congrArg Span.Hi b4
  simp only [] at b5 b6
  unfold P5
  simp only []
  rw [if_pos (show decide ((i:Int) < (worse h d).Stoves) = true by show decide ((i:Int) < h.Stoves) = true; rw [decide_eq_true_eq]; omega),B1a hl (by omega),show idx (worse h d).Places (p:Int) = some h.Places[p]! from G0 hp]
  simp only [Option.bind_some]
  rw [G0 (show i < h.Places[p]!.Warms.length by omega)]
  simp only [Option.bind_some]
  rw [F0 (n:=(i:Int) + 1) (by omega),F0 (by omega),F0 (by omega)]
  show _ = some (Sum.inl (((i + 1:Nat):Int),if bit l i then B41 (S0 (worse h d).Weather h.Places[p]!.Warms l i) h.Places[p]!.Warms[i]! else S0 (worse h d).Weather h.Places[p]!.Warms l i))
  unfold B41
  cases bit l i <;> rfl) (by
  unfold P5
  simp only []
  rw [if_neg (show ¬ decide (((h.Stoves.toNat:Nat):Int) < (worse h d).Stoves) = true by show ¬ decide (((h.Stoves.toNat:Nat):Int) < h.Stoves) = true; rw [decide_eq_true_eq]; omega)]
  rfl)
 have l1:loop (P5 (worse h d) (p:Int) (l:Int)) (0,(worse h d).Weather) = some (warm (worse h d) p l):=l1
 rw [l1]; rfl
theorem B8j {h:RoHouse} (ok:HOk h) {d:Int} (hd:0≤d∧d≤400) {f:RoFigure} (hf:FiOk f) {p l:Nat} (hp:p < h.Places.length) (hl:l < 16):R5 (worse h d) f (p:Int) (l:Int) = some (A23 (warm (worse h d) p l) f):= by
 have b:=A93 ok hp l
 have g:=hf.bears
 have w:=B1f h d p l
 exact B8q (B7f ok hd hp hl) (by rw [w]; simp only []; omega) (by omega)
theorem B7x {h:RoHouse} (ok:HOk h) {d:Int} (hd:0≤d∧d≤400):A38 h d = some (worse h d):= by
 have hw:=ok.w
 unfold A38 worse
 rw [F0 (by omega),F0 (by omega)]
theorem B3q {h:RoHouse} (ok:HOk h) {p:RoPlan} (pv:PV h p.At) {l:Nat} (hlit:p.Lit = (l:Int)) (hl16:l < 16) {d:Int} (hd:1≤d∧d≤400) :
  loop (W5 h p d (worse h d)) 0 = some ((first (fun i=>if B12 p.At i∧left h l p.At i < d then some (.inl ((i:Int),d - 1,0)) else none) p.At.length).getD (.inr ())):= by
 have h5:=ok.figures
 have hp:=ok.places
 have hl:=pv.len
 refine A7v (b:=W5 h p d (worse h d)) p.At.length _ _ (by omega) (fun i hi _=>?_) (by
  unfold W5
  rw [if_neg (by simp)])
 unfold W5
 rw [if_pos (by simpa using hi),G0 hi]
 simp only [Option.bind_some]
 rw [F0 (n:=d - 1) (by omega)]
 by_cases hs:p.At[i]! = -1
 ·rw [hs,if_neg (by decide)]
  simp only [Option.bind_some,Bool.false_eq_true,if_false]
  rw [if_neg (show ¬ (B12 p.At i∧left h l p.At i < d) from fun q=>q.1.2 hs)]
 ·obtain ⟨q,hq1,hq2,_⟩:=shown pv hi hs
  have hi2:i < h.Figures.length:= by omega
  have b:=A93 ok hq2 l
  have g:=(ok.figure _ (L6 hi2)).bears
  rw [if_pos (bne_iff_ne.mpr hs),G0 hi2,hq1,hlit]
  simp only [Option.bind_some]
  rw [B8j ok (by omega) (ok.figure _ (L6 hi2)) hq2 hl16]
  simp only [Option.bind_some]
  have hL:left h l p.At i = A8h ((warm h q l).Lo - h.Figures[i]!.Cracks) (h.Figures[i]!.Slumps - (warm h q l).Hi):= by unfold left; rw [hq1,Int.toNat_natCast]
  by_cases c:left h l p.At i < d
  ·have:A23 (warm (worse h d) q l) h.Figures[i]! ≠ 1:= by
    rw [B1f]
    unfold A23
    rw [hL] at c
    unfold A8h at c
    rw [if_neg (fun z=>by
     have z1:h.Figures[i]!.Cracks≤(warm h q l).Lo - d:=z.1
     have z2:(warm h q l).Hi + d≤h.Figures[i]!.Slumps:=z.2
     split at c <;> omega)]
    split <;> decide
   rw [if_pos (bne_iff_ne.mpr this),if_pos ⟨⟨hi,hs⟩,c⟩]
  ·have:A23 (warm (worse h d) q l) h.Figures[i]! = 1:= by
    rw [B1f]
    unfold A23
    rw [hL] at c
    unfold A8h at c
    rw [if_pos]
    show h.Figures[i]!.Cracks≤(warm h q l).Lo - d∧(warm h q l).Hi + d≤h.Figures[i]!.Slumps
    split at c <;> omega
   rw [this,if_neg (by decide),if_neg (fun z=>c z.2)]
theorem C6w {h:RoHouse} (ok:HOk h) {l:Nat} {p:List Int} (pv:PV h p) (hs:A6f h l p = true) {i:Nat} (hi:B12 p i):0≤left h l p i:= by
 unfold A6f at hs
 rw [List.all_eq_true] at hs
 have:=hs i (List.mem_range.mpr hi.1)
 unfold A9b at this
 rw [Bool.or_eq_true,beq_iff_eq,beq_iff_eq] at this
 have h1:=this.resolve_left hi.2
 unfold A23 at h1
 unfold left A8h
 by_cases c:h.Figures[i]!.Cracks≤(warm h p[i]!.toNat l).Lo∧(warm h p[i]!.toNat l).Hi≤h.Figures[i]!.Slumps
 ·split <;> omega
 ·rw [if_neg c] at h1
  split at h1 <;> exact absurd h1 (by decide)
theorem B8d (h:RoHouse) (p:RoPlan) (hl:p.At.length < 9223372036854775808):A3a h p = some (B19 h p):= by
 unfold A3a B19
 rw [B2r h p hl]
 simp only [Option.bind_some]
 by_cases c:(A30 h p).2 = 0
 ·have hc:K2 h p = 0:= by
   unfold A30 at c
   by_cases c2:K2 h p = 0
   ·exact c2
   ·rw [if_neg c2] at c; exact absurd c c2
  obtain ⟨ok,pv,⟨l,hlit,hl2⟩,_,_⟩:=A0c hc
  have hl16:=lit16 ok hl2
  have ha:A6f h l p.At = true:= by
   unfold A30 at c
   rw [if_pos hc,hlit,Int.toNat_natCast] at c
   unfold A47 at c
   cases hs:A6f h l p.At with
   | true=>rfl
   | false=>rw [hs,Bool.false_and,if_neg (by decide)] at c; exact absurd c (by decide)
  rw [if_neg (by simp [c]),if_neg (by simp [c]),hlit,Int.toNat_natCast]
  rcases C5g h l p.At p.At.length with ⟨h1,h2⟩ | ⟨k,hk,h1,h2,h3,h4⟩
  ·have l1:=M3 (b:=O3 h p) (fun i=>((i:Int) + 1)) 400 (r:=.inr ()) (by omega) (fun i hi=>by
    unfold O3
    rw [if_pos (by rw [decide_eq_true_eq]; omega),B7x ok (by omega)]
    simp only [Option.bind_some]
    rw [B3q ok pv hlit hl16 (by omega),K6.mpr fun i hi=>if_neg fun z=>h2 i hi z.1]
    simp only [Option.getD_none,Option.bind_some]
    rw [F0 (by omega)]; rfl) (by
    unfold O3
    rw [if_neg (by rw [decide_eq_true_eq]; omega)])
   have l1:loop (O3 h p) 1 = some (.inr ()):=l1
   rw [l1,if_pos (by omega)]; rfl
  ·have b:=C91 ok (l:=l) pv h2
   have b0:=C6w ok pv ha h2
   have l1:=M3 (b:=O3 h p) (fun i=>((i:Int) + 1)) (left h l p.At k).toNat (r:=.inl ((k:Int),left h l p.At k,0)) (by omega) (fun i hi=>by
    unfold O3
    rw [if_pos (by rw [decide_eq_true_eq]; omega),B7x ok (by omega)]
    simp only [Option.bind_some]
    rw [B3q ok pv hlit hl16 (by omega),K6.mpr fun j hj=>if_neg fun z=>by
     have:=h3 j hj z.1
     have:=z.2
     omega]
    simp only [Option.getD_none,Option.bind_some]
    rw [F0 (by omega)]; rfl) (by
    unfold O3
    rw [if_pos (by rw [decide_eq_true_eq]; omega),B7x ok (by omega)]
    simp only [Option.bind_some]
    rw [B3q ok pv hlit hl16 (by omega),A8s (r:=.inl ((k:Int),left h l p.At k,0)) hk (by
     rw [if_pos ⟨h2,by omega⟩,show ((left h l p.At k).toNat:Int) + 1 - 1 = left h l p.At k by omega]) (fun j hj=>if_neg fun z=>by
     have:=h4 j hj z.1
     have:=z.2
     omega)]
    rfl)
   have e0:((0:Nat):Int) + 1 = 1:= by omega
   rw [e0] at l1
   rw [l1,h1,if_neg (by simp only []; omega)]; rfl
 ·rw [if_pos (bne_iff_ne.mpr c),if_pos (bne_iff_ne.mpr c)]
theorem C5z (h:RoHouse) (p:List Int):(carry h p).length = h.Holds.length:= by unfold carry; rw [List.length_map,List.length_range]
theorem B7j {h:RoHouse} (hb:NB h) {p:RoPlan} (hl:p.At.length < 9223372036854775808):A2c h p = some true:= by
 unfold A2c
 rw [C63 hb p hl,C0z h p hl,C66 hb p hl,B2r h p hl,C5v hb p hl,B8d h p hl]
 simp only [Option.bind_some]
 have hi:X9 (if K2 h p = 0 then (carry h p.At,(0:Int)) else ([],K2 h p)).1 (if K2 h p = 0 then (carry h p.At,(0:Int)) else ([],K2 h p)).1 = some true:= by
  by_cases c:K2 h p = 0
  ·have ok:=(A0c c).1
   have:=ok.holds
   rw [if_pos c]
   exact B9a _ (by simp only []; rw [C5z]; omega)
  ·rw [if_neg c]
   exact B9a _ (show (0:Nat) < 9223372036854775808 by decide)
 rw [hi]
 simp only [Option.bind_some,Bool.not_true,bne_self_eq_false,Bool.or_self,Bool.false_eq_true,if_false,beq_self_eq_true,Bool.and_self,if_true]
 rw [B5p]; rfl
end Rm
end
