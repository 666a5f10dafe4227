/- Texts that the claim stands on, one behind another. -/
import Derived.Test.YtbheamjhjgoccaaDoorA7
set_option linter.unusedVariables false
set_option linter.unusedSimpArgs false
set_option linter.unnecessarySimpa false
section
set_option maxRecDepth 100000
set_option maxHeartbeats 0
namespace Rm
open Go Am Go.Proofs.YtbheamjhjgoccaaDoor.Cd
def B45 (a1:RoPlan) (s9:(Int × room_plan)):Option ((Int × room_plan) ⊕ (room_plan ⊕ Unit)) :=
 if (decide (s9.1 < (List.length a1.At:Int))) = true then
  (idx a1.At s9.1).bind fun x12 =>
  (if (x12 != (-1)) = true then
  (slc a1.At 0 s9.1).bind fun x14 =>
  (M0 x14 x12).bind fun x15 =>
  some x15
  else
  some false).bind fun x16 =>
  if x16 = true then
  some (.inr (.inr ()))
  else
  (idx (Ar5.l s9.2.at_) s9.1).bind fun x18 =>
  some (.inl ((w64 (s9.1 + 1)),(room_plan.mk s9.2.lit_ (Ar5.set s9.2.at_ s9.1 (w64 (x12 + 1))))))
 else
  some (.inr (.inl s9.2))
def A1h (a0:RoHouse) (vo19_0:room_plan) (s20:Int):Option (Int ⊕ (Unit ⊕ Unit)) :=
 if (decide (s20 < 5)) = true then
  (idx (Ar5.l vo19_0.at_) s20).bind fun x23 =>
  (if (decide (x23 > 0)) = true then
  (O5 (room_house.mk a0) s20 (w64 (x23 - 1)) vo19_0.lit_).bind fun x25 =>
  some (x25 != 1)
  else
  some false).bind fun x26 =>
  if x26 = true then
  some (.inr (.inr ()))
  else
  some (.inl (w64 (s20 + 1)))
 else
  some (.inr (.inl ()))
def A5r (a0:RoHouse) (a1:RoPlan):Option (Int × Int) :=
 (Q6 a0).bind fun x1 =>
 if (x1.2.2 != 0) = true then
  some (0,x1.2.2)
 else
  (B3v .i64 1 a0.Stoves).bind fun x3 =>
  (G9 0 (w64 (x3 - 1)) [a1.Lit]).bind fun x4 =>
  if x4 = true then
  some (0,7)
  else
  if ((List.length a1.At:Int) != (List.length a0.Figures:Int)) = true then
   some (0,3)
  else
   (G9 (-1) (w64 ((List.length a0.Places:Int) - 1)) a1.At).bind fun x7 =>
   if x7 = true then
   some (0,4)
   else
   (loop (B45 a1) (0,(room_plan.mk a1.Lit (Ar5.mk 0 0 0 0 0)))).bind fun (o19:(room_plan ⊕ Unit)) =>
   match o19 with
   | (.inl vo19_0) =>
    (loop (A1h a0 vo19_0) 0).bind fun (o28:(Unit ⊕ Unit)) =>
    match o28 with
    | (.inl vo28_0) =>
    (M8 (room_house.mk a0) vo19_0.at_ true).bind fun x29 =>
    if (!x29) = true then
     some (0,9)
    else
     (U3 (room_house.mk a0) vo19_0.at_).bind fun x31 =>
     some (x31,0)
    | (.inr vo28_1) =>
    some (0,9)
   | (.inr vo19_1) =>
    some (0,5)
theorem B0o {c:Sc} {H:A7} {a0:RoHouse} {a1:RoPlan} {r:(Int × Int)} (h:A5r a0 a1 = some r) :
  E8 tab c H (.fn (.func 27) [] []) [(.agg (A3 a0)),(.agg (B2 a1))] [.i r.1,.i r.2]:= by
 unfold A5r at h
 refine cE rfl rfl<|sg 0 rfl<|A0 (E9 (cs:=A3 a0) rfl rfl rfl) rfl<|A0 (E9 (cs:=B2 a1) rfl rfl rfl) rfl<|qm rfl<|qm rfl<|es (ra2 rfl rfl)<|sg 2 rfl<|A0 (B9 rfl rfl rfl) rfl<|A0 (B9 rfl rfl rfl) rfl<|P6 (as2:=[(.agg (A3 a0)),(.agg (B2 a1))]) (H1:=(H++[(.cells (A3 a0)),(.cells (B2 a1)),.dead])) rfl rfl (A1 (C9 rfl) (A1 (C9 rfl) B5)) rfl rfl rfl (V8 rfl)<|sg 3 rfl<|A0 (E9 (cs:=A3 a0) rfl rfl rfl) rfl<|A0 (E9 (cs:=B2 a1) rfl rfl rfl) rfl<|qm rfl<|A0 D7 rfl<|qm rfl<|es (ra3 rfl rfl rfl)<|sg 6 rfl<|A0 (B9 rfl rfl rfl) rfl<|A0 (B9 rfl rfl rfl) rfl<|P6 (as2:=[(.agg (A3 a0)),(.agg (B2 a1))]) (H1:=(H++[(.cells (A3 a0)),(.cells (B2 a1)),.dead,(.cells (A3 a0)),(.cells (B2 a1)),(.cells (A8 (room_plan.mk 0 (Ar5.mk 0 0 0 0 0)))),.dead])) rfl rfl (A1 (C9 rfl) (A1 (C9 rfl) B5)) rfl rfl rfl (V8 rfl)<|sg 7 rfl<|A0 (E9 (cs:=A3 a0) rfl rfl rfl) rfl<|A0 (E9 (cs:=B2 a1) rfl rfl rfl) rfl<|qm rfl<|A0 D7 rfl<|qm rfl<|es (ra3 rfl rfl rfl)<|s0<|A0 (B9 rfl rfl rfl) rfl<|P6 (as2:=[(.agg (A3 a0))]) (H1:=(H++[(.cells (A3 a0)),(.cells (B2 a1)),.dead,(.cells (A3 a0)),(.cells (B2 a1)),(.cells (A8 (room_plan.mk 0 (Ar5.mk 0 0 0 0 0)))),.dead,(.cells (A3 a0)),(.cells (B2 a1)),(.cells (A8 (room_plan.mk 0 (Ar5.mk 0 0 0 0 0))))])) rfl rfl (A1 (C9 rfl) B5) rfl rfl rfl (V8 rfl)<|sg 10 rfl<|A0 (E9 (cs:=A3 a0) rfl rfl rfl) rfl<|qm rfl<|qm rfl<|es (ra1 rfl)<|s0<|oB h fun x1 hx1 h=>A0 (B9 rfl rfl rfl) rfl<|B3 (rs:=[.i x1.1,.i x1.2.1,.i x1.2.2]) rfl rfl (A1 (C9 rfl) B5) ((R4 hx1).frz)<|qm rfl<|A0 (A6 rfl rfl) rfl<|A0 (A6 rfl rfl) rfl<|A0 (A6 rfl rfl) rfl<|qm rfl<|qm rfl<|qm rfl<|es (ra2 rfl rfl)<|sg 11 rfl<|A0 (B9 rfl rfl rfl) rfl<|A0 (G5 (cs:=[.b false,(.fn (.func 112) [] [])]) rfl rfl) rfl<|A0 (G5 (cs:=[.b true,(.fn (.func 113) [] [])]) rfl rfl) rfl<|A0 (A8d (rows:=[[.b false,(.fn (.func 112) [] [])],[.b true,(.fn (.func 113) [] [])]]) rfl rfl) rfl<|A0 (G5 (cs:=[.i a0.Weather.Lo,.i a0.Weather.Hi,.i a0.Stoves,(.seq 1 (List.map cI a0.Holds)),(.seq 4 (List.map C3 a0.Places)),(.seq 6 (List.map B4 a0.Figures)),(.seq 1 (List.map cI a0.Bill)),(.xseq 2 [[.b false,(.fn (.func 112) [] [])],[.b true,(.fn (.func 113) [] [])]])]) rfl rfl) rfl<|A0 (E9 (cs:=[.i a0.Weather.Lo,.i a0.Weather.Hi,.i a0.Stoves,(.seq 1 (List.map cI a0.Holds)),(.seq 4 (List.map C3 a0.Places)),(.seq 6 (List.map B4 a0.Figures)),(.seq 1 (List.map cI a0.Bill)),(.xseq 2 [[.b false,(.fn (.func 112) [] [])],[.b true,(.fn (.func 113) [] [])]])]) rfl rfl rfl) rfl<|qm rfl<|qm rfl<|qm rfl<|es (ra2 rfl rfl)<|C6 ?_
 refine InlQ.mk trivial ⟨_,_,_,[(.ptr (H.length + 11) 0),.i x1.2.2],_,(A9 rfl (A9 rfl B8)),(A4 rfl (A4 rfl B7)),(X7 (N4 (X5 rfl)) (D3 rfl (D3 rfl J4))),?_⟩
 refine qm rfl<|A0 (A6 rfl rfl) rfl<|A0 (A6 rfl rfl) rfl<|qm rfl<|qm rfl<|es (ra5 rfl rfl rfl rfl rfl)<|B6<|C4<|s0<|qm rfl<|A0 (F9 rfl rfl) rfl<|qm rfl<|es (ra6 rfl rfl rfl rfl rfl rfl)<|wi h rfl (fun hc2 h=>?_) fun hc2 h=>?_
 ·refine s0<|A0 (B9 rfl rfl rfl) rfl<|qm rfl<|F5 (D1 (ds:=(A8 (room_plan.mk 0 (Ar5.mk 0 0 0 0 0)))) rfl rfl rfl rfl (C1 rfl) rfl) rfl<|qm rfl<|qm rfl<|es (ra3 rfl rfl rfl)<|C6<|InlQ.mk trivial ⟨_,_,_,[(.lit (.pointer none)),(.agg (A8 (room_plan.mk 0 (Ar5.mk 0 0 0 0 0)))),.i x1.2.2],_,(A9 rfl (F8 (F0 (ds:=A8 (room_plan.mk 0 (Ar5.mk 0 0 0 0 0))) rfl rfl rfl rfl) (A9 rfl B8))),(A4 rfl (A4 (I3 rfl) (A4 rfl B7))),(R3 (A2 A5 (A2 (G8 rfl) (A2 A5 B1))) (D3 rfl (D3 rfl (D3 rfl J4))) (H9 _ _ _)),?_⟩
  refine qm rfl<|A0 (A6 rfl rfl) rfl<|A0 (A6 rfl rfl) rfl<|A0 (A6 rfl rfl) rfl<|A0 D7 rfl<|qm rfl<|F5 (D1 (ds:=(A8 (room_plan.mk 0 (Ar5.mk 0 0 0 0 0)))) rfl rfl rfl rfl (C1 rfl) rfl) rfl<|qm rfl<|es (ra4 rfl rfl rfl rfl)<|B6<|s0<|qm rfl<|A0 (F9 rfl rfl) rfl<|es (ra5 rfl rfl rfl rfl rfl)<|L4 rfl hc2<|s0<|A0 (B9 rfl rfl rfl) rfl<|qm rfl<|F5 (D1 (ds:=(A8 (room_plan.mk 0 (Ar5.mk 0 0 0 0 0)))) rfl rfl rfl rfl (C1 rfl) rfl) rfl<|qm rfl<|qm rfl<|es (ra3 rfl rfl rfl)<|C6<|InlQ.mk trivial ⟨_,_,_,[(.lit (.pointer none)),(.agg (A8 (room_plan.mk 0 (Ar5.mk 0 0 0 0 0)))),.i x1.2.2],_,(A9 rfl (F8 (F0 (ds:=A8 (room_plan.mk 0 (Ar5.mk 0 0 0 0 0))) rfl rfl rfl rfl) (A9 rfl B8))),(A4 rfl (A4 (I3 rfl) (A4 rfl B7))),(R3 (A2 A5 (A2 (G8 rfl) (A2 A5 B1))) (D3 rfl (D3 rfl (D3 rfl J4))) (H9 _ _ _)),?_⟩
  refine qm rfl<|A0 (A6 rfl rfl) rfl<|A0 (A6 rfl rfl) rfl<|A0 (A6 rfl rfl) rfl<|A0 D7 rfl<|qm rfl<|F5 (D1 (ds:=(A8 (room_plan.mk 0 (Ar5.mk 0 0 0 0 0)))) rfl rfl rfl rfl (C1 rfl) rfl) rfl<|qm rfl<|es (ra3 rfl rfl rfl)<|B6<|s0<|qm rfl<|A0 (F9 rfl rfl) rfl<|es (ra4 rfl rfl rfl rfl)<|L4 rfl hc2<|s0<|qm rfl<|qm rfl<|qm rfl<|es (ra2 rfl rfl)<|C6 ?_
  obtain rfl:=os h
  exact retq trivial (A9 rfl (A9 rfl B8)) (A4 rfl (A4 rfl B7)) (A2 A5 (A2 A5 B1))
 ·refine s0<|oB h fun x3 hx3 h=>oB h fun x4 hx4 h=>A0 (C5 rfl) rfl<|A0 (C2 rfl rfl rfl) rfl<|A0 (B6v rfl rfl hx3) rfl<|A0 (U6 rfl rfl) rfl<|A0 (C5 rfl) rfl<|A0 (C2 rfl rfl rfl) rfl<|A0 (J5 (rows:=List.map cI [a1.Lit]) rfl rfl (F1 (fun _=>rfl) _)) rfl<|B3 (rs:=[.b x4]) rfl rfl (A1 rfl (A1 rfl (A1 rfl B5))) ((I2 hx4).frz)<|qm rfl<|es (ra5 rfl rfl rfl rfl rfl)<|wi h rfl (fun hc5 h=>?_) fun hc5 h=>?_
  ·refine s0<|A0 (B9 rfl rfl rfl) rfl<|qm rfl<|F5 (D1 (ds:=(A8 (room_plan.mk 0 (Ar5.mk 0 0 0 0 0)))) rfl rfl rfl rfl (C1 rfl) rfl) rfl<|qm rfl<|es (ra3 rfl rfl rfl)<|C6<|InlQ.mk trivial ⟨_,_,_,[(.lit (.pointer none)),(.agg (A8 (room_plan.mk 0 (Ar5.mk 0 0 0 0 0)))),.i 7],_,(A9 rfl (F8 (F0 (ds:=A8 (room_plan.mk 0 (Ar5.mk 0 0 0 0 0))) rfl rfl rfl rfl) (A9 rfl B8))),(A4 rfl (A4 (I3 rfl) (A4 rfl B7))),(R3 (A2 A5 (A2 (G8 rfl) (A2 A5 B1))) (D3 rfl (D3 rfl (D3 rfl J4))) (H9 _ _ _)),?_⟩
   refine qm rfl<|A0 (A6 rfl rfl) rfl<|A0 (A6 rfl rfl) rfl<|A0 (A6 rfl rfl) rfl<|A0 D7 rfl<|qm rfl<|F5 (D1 (ds:=(A8 (room_plan.mk 0 (Ar5.mk 0 0 0 0 0)))) rfl rfl rfl rfl (C1 rfl) rfl) rfl<|qm rfl<|es (ra4 rfl rfl rfl rfl)<|B6<|s0<|qm rfl<|A0 (H7 (v:=(.b true)) rfl rfl rfl) rfl<|es (ra5 rfl rfl rfl rfl rfl)<|L4 rfl rfl<|s0<|A0 (B9 rfl rfl rfl) rfl<|qm rfl<|F5 (D1 (ds:=(A8 (room_plan.mk 0 (Ar5.mk 0 0 0 0 0)))) rfl rfl rfl rfl (C1 rfl) rfl) rfl<|qm rfl<|qm rfl<|es (ra3 rfl rfl rfl)<|C6<|InlQ.mk trivial ⟨_,_,_,[(.lit (.pointer none)),(.agg (A8 (room_plan.mk 0 (Ar5.mk 0 0 0 0 0)))),.i 7],_,(A9 rfl (F8 (F0 (ds:=A8 (room_plan.mk 0 (Ar5.mk 0 0 0 0 0))) rfl rfl rfl rfl) (A9 rfl B8))),(A4 rfl (A4 (I3 rfl) (A4 rfl B7))),(R3 (A2 A5 (A2 (G8 rfl) (A2 A5 B1))) (D3 rfl (D3 rfl (D3 rfl J4))) (H9 _ _ _)),?_⟩
   refine qm rfl<|A0 (A6 rfl rfl) rfl<|A0 (A6 rfl rfl) rfl<|A0 (A6 rfl rfl) rfl<|A0 D7 rfl<|qm rfl<|F5 (D1 (ds:=(A8 (room_plan.mk 0 (Ar5.mk 0 0 0 0 0)))) rfl rfl rfl rfl (C1 rfl) rfl) rfl<|qm rfl<|es (ra3 rfl rfl rfl)<|B6<|s0<|qm rfl<|A0 (H7 (v:=(.b true)) rfl rfl rfl) rfl<|es (ra4 rfl rfl rfl rfl)<|L4 rfl rfl<|s0<|qm rfl<|qm rfl<|qm rfl<|es (ra2 rfl rfl)<|C6 ?_
   obtain rfl:=os h
   exact retq trivial (A9 rfl (A9 rfl B8)) (A4 rfl (A4 rfl B7)) (A2 A5 (A2 A5 B1))
  ·refine s0<|A0 (C5 rfl) rfl<|A0 (C2 rfl rfl rfl) rfl<|A0 (D4 (f:=cI) rfl) rfl<|A0 (C5 rfl) rfl<|A0 (C2 rfl rfl rfl) rfl<|A0 (D4 (f:=B4) rfl) rfl<|A0 (F9 rfl rfl) rfl<|qm rfl<|es (ra5 rfl rfl rfl rfl rfl)<|wi h rfl (fun hc6 h=>?_) fun hc6 h=>?_
   ·refine s0<|A0 (B9 rfl rfl rfl) rfl<|qm rfl<|F5 (D1 (ds:=(A8 (room_plan.mk 0 (Ar5.mk 0 0 0 0 0)))) rfl rfl rfl rfl (C1 rfl) rfl) rfl<|qm rfl<|es (ra3 rfl rfl rfl)<|C6<|InlQ.mk trivial ⟨_,_,_,[(.lit (.pointer none)),(.agg (A8 (room_plan.mk 0 (Ar5.mk 0 0 0 0 0)))),.i 3],_,(A9 rfl (F8 (F0 (ds:=A8 (room_plan.mk 0 (Ar5.mk 0 0 0 0 0))) rfl rfl rfl rfl) (A9 rfl B8))),(A4 rfl (A4 (I3 rfl) (A4 rfl B7))),(R3 (A2 A5 (A2 (G8 rfl) (A2 A5 B1))) (D3 rfl (D3 rfl (D3 rfl J4))) (H9 _ _ _)),?_⟩
    refine qm rfl<|A0 (A6 rfl rfl) rfl<|A0 (A6 rfl rfl) rfl<|A0 (A6 rfl rfl) rfl<|A0 D7 rfl<|qm rfl<|F5 (D1 (ds:=(A8 (room_plan.mk 0 (Ar5.mk 0 0 0 0 0)))) rfl rfl rfl rfl (C1 rfl) rfl) rfl<|qm rfl<|es (ra4 rfl rfl rfl rfl)<|B6<|s0<|qm rfl<|A0 (H7 (v:=(.b true)) rfl rfl rfl) rfl<|es (ra5 rfl rfl rfl rfl rfl)<|L4 rfl rfl<|s0<|A0 (B9 rfl rfl rfl) rfl<|qm rfl<|F5 (D1 (ds:=(A8 (room_plan.mk 0 (Ar5.mk 0 0 0 0 0)))) rfl rfl rfl rfl (C1 rfl) rfl) rfl<|qm rfl<|qm rfl<|es (ra3 rfl rfl rfl)<|C6<|InlQ.mk trivial ⟨_,_,_,[(.lit (.pointer none)),(.agg (A8 (room_plan.mk 0 (Ar5.mk 0 0 0 0 0)))),.i 3],_,(A9 rfl (F8 (F0 (ds:=A8 (room_plan.mk 0 (Ar5.mk 0 0 0 0 0))) rfl rfl rfl rfl) (A9 rfl B8))),(A4 rfl (A4 (I3 rfl) (A4 rfl B7))),(R3 (A2 A5 (A2 (G8 rfl) (A2 A5 B1))) (D3 rfl (D3 rfl (D3 rfl J4))) (H9 _ _ _)),?_⟩
    refine qm rfl<|A0 (A6 rfl rfl) rfl<|A0 (A6 rfl rfl) rfl<|A0 (A6 rfl rfl) rfl<|A0 D7 rfl<|qm rfl<|F5 (D1 (ds:=(A8 (room_plan.mk 0 (Ar5.mk 0 0 0 0 0)))) rfl rfl rfl rfl (C1 rfl) rfl) rfl<|qm rfl<|es (ra3 rfl rfl rfl)<|B6<|s0<|qm rfl<|A0 (H7 (v:=(.b true)) rfl rfl rfl) rfl<|es (ra4 rfl rfl rfl rfl)<|L4 rfl rfl<|s0<|qm rfl<|qm rfl<|qm rfl<|es (ra2 rfl rfl)<|C6 ?_
    obtain rfl:=os h
    exact retq trivial (A9 rfl (A9 rfl B8)) (A4 rfl (A4 rfl B7)) (A2 A5 (A2 A5 B1))
   ·refine s0<|oB h fun x7 hx7 h=>A0 (C5 rfl) rfl<|A0 (C2 rfl rfl rfl) rfl<|A0 (D4 (f:=C3) rfl) rfl<|A0 (U6 rfl rfl) rfl<|A0 (C5 rfl) rfl<|A0 (C2 rfl rfl rfl) rfl<|B3 (rs:=[.b x7]) rfl rfl (A1 rfl (A1 rfl (A1 rfl B5))) ((I2 hx7).frz)<|qm rfl<|es (ra4 rfl rfl rfl rfl)<|wi h rfl (fun hc8 h=>?_) fun hc8 h=>?_
    ·refine s0<|A0 (B9 rfl rfl rfl) rfl<|qm rfl<|F5 (D1 (ds:=(A8 (room_plan.mk 0 (Ar5.mk 0 0 0 0 0)))) rfl rfl rfl rfl (C1 rfl) rfl) rfl<|qm rfl<|es (ra3 rfl rfl rfl)<|C6<|InlQ.mk trivial ⟨_,_,_,[(.lit (.pointer none)),(.agg (A8 (room_plan.mk 0 (Ar5.mk 0 0 0 0 0)))),.i 4],_,(A9 rfl (F8 (F0 (ds:=A8 (room_plan.mk 0 (Ar5.mk 0 0 0 0 0))) rfl rfl rfl rfl) (A9 rfl B8))),(A4 rfl (A4 (I3 rfl) (A4 rfl B7))),(R3 (A2 A5 (A2 (G8 rfl) (A2 A5 B1))) (D3 rfl (D3 rfl (D3 rfl J4))) (H9 _ _ _)),?_⟩
     refine qm rfl<|A0 (A6 rfl rfl) rfl<|A0 (A6 rfl rfl) rfl<|A0 (A6 rfl rfl) rfl<|A0 D7 rfl<|qm rfl<|F5 (D1 (ds:=(A8 (room_plan.mk 0 (Ar5.mk 0 0 0 0 0)))) rfl rfl rfl rfl (C1 rfl) rfl) rfl<|qm rfl<|es (ra4 rfl rfl rfl rfl)<|B6<|s0<|qm rfl<|A0 (H7 (v:=(.b true)) rfl rfl rfl) rfl<|es (ra5 rfl rfl rfl rfl rfl)<|L4 rfl rfl<|s0<|A0 (B9 rfl rfl rfl) rfl<|qm rfl<|F5 (D1 (ds:=(A8 (room_plan.mk 0 (Ar5.mk 0 0 0 0 0)))) rfl rfl rfl rfl (C1 rfl) rfl) rfl<|qm rfl<|qm rfl<|es (ra3 rfl rfl rfl)<|C6<|InlQ.mk trivial ⟨_,_,_,[(.lit (.pointer none)),(.agg (A8 (room_plan.mk 0 (Ar5.mk 0 0 0 0 0)))),.i 4],_,(A9 rfl (F8 (F0 (ds:=A8 (room_plan.mk 0 (Ar5.mk 0 0 0 0 0))) rfl rfl rfl rfl) (A9 rfl B8))),(A4 rfl (A4 (I3 rfl) (A4 rfl B7))),(R3 (A2 A5 (A2 (G8 rfl) (A2 A5 B1))) (D3 rfl (D3 rfl (D3 rfl J4))) (H9 _ _ _)),?_⟩
     refine qm rfl<|A0 (A6 rfl rfl) rfl<|A0 (A6 rfl rfl) rfl<|A0 (A6 rfl rfl) rfl<|A0 D7 rfl<|qm rfl<|F5 (D1 (ds:=(A8 (room_plan.mk 0 (Ar5.mk 0 0 0 0 0)))) rfl rfl rfl rfl (C1 rfl) rfl) rfl<|qm rfl<|es (ra3 rfl rfl rfl)<|B6<|s0<|qm rfl<|A0 (H7 (v:=(.b true)) rfl rfl rfl) rfl<|es (ra4 rfl rfl rfl rfl)<|L4 rfl rfl<|s0<|qm rfl<|qm rfl<|qm rfl<|es (ra2 rfl rfl)<|C6 ?_
     obtain rfl:=os h
     exact retq trivial (A9 rfl (A9 rfl B8)) (A4 rfl (A4 rfl B7)) (A2 A5 (A2 A5 B1))
    ·refine C0<|s0<|A0 (C5 rfl) rfl<|A0 (C2 rfl rfl rfl) rfl<|A0 (C5 rfl) rfl<|F5 (D1 (ds:=(A8 (room_plan.mk a1.Lit (Ar5.mk 0 0 0 0 0)))) rfl rfl rfl rfl (C1 rfl) rfl) rfl<|es (ra3 rfl rfl rfl)<|B6<|s0<|A0 (C5 rfl) rfl<|A0 (C2 rfl rfl rfl) rfl<|A0 (D4 (f:=cI) rfl) rfl<|qm rfl<|es (ra6 rfl rfl rfl rfl rfl rfl)<|C4<|oB h fun o19 ho19 h=>wl (fun s9=>[(3,(.ptr (H.length + 8) 0)),(4,(.ptr (H.length + 11) 0)),(5,(.ptr (H.length + 9) 0)),(51,(.seq 1 (List.map cI a1.At))),(52,(.i (List.length a1.At:Int))),(53,.i s9.1)]) (fun (q10:Unit) s9=>[(.cells (A3 a0)),(.cells (B2 a1)),.dead,(.cells (A3 a0)),(.cells (B2 a1)),(.cells (A8 (room_plan.mk 0 (Ar5.mk 0 0 0 0 0)))),.dead,(.cells (A3 a0)),(.cells (B2 a1)),(.cells (A8 s9.2)),(.cells (A3 a0)),(.cells [.i a0.Weather.Lo,.i a0.Weather.Hi,.i a0.Stoves,(.seq 1 (List.map cI a0.Holds)),(.seq 4 (List.map C3 a0.Places)),(.seq 6 (List.map B4 a0.Figures)),(.seq 1 (List.map cI a0.Bill)),(.xseq 2 [[.b false,(.fn (.func 112) [] [])],[.b true,(.fn (.func 113) [] [])]])])]) 12 (fun r e s' H'=>(match r with | (.inl v)=>PX 1 [(4,(.ptr (H.length + 11) 0)),(5,(.ptr (H.length + 9) 0))] (H++[(.cells (A3 a0)),(.cells (B2 a1)),.dead,(.cells (A3 a0)),(.cells (B2 a1)),(.cells (A8 (room_plan.mk 0 (Ar5.mk 0 0 0 0 0)))),.dead,(.cells (A3 a0)),(.cells (B2 a1)),(.cells (A8 v)),(.cells (A3 a0)),(.cells [.i a0.Weather.Lo,.i a0.Weather.Hi,.i a0.Stoves,(.seq 1 (List.map cI a0.Holds)),(.seq 4 (List.map C3 a0.Places)),(.seq 6 (List.map B4 a0.Figures)),(.seq 1 (List.map cI a0.Bill)),(.xseq 2 [[.b false,(.fn (.func 112) [] [])],[.b true,(.fn (.func 113) [] [])]])])]) e s' H' | (.inr v)=>e = .ret∧s' = [(4,(.lit (.pointer none))),(5,(.ptr (H.length + 9) 0)),(6,.i 5)]∧H' = (H++[(.cells (A3 a0)),(.cells (B2 a1)),.dead,(.cells (A3 a0)),(.cells (B2 a1)),(.cells (A8 (room_plan.mk 0 (Ar5.mk 0 0 0 0 0)))),.dead,(.cells (A3 a0)),(.cells (B2 a1)),(.cells (A8 (room_plan.mk 0 (Ar5.mk 0 0 0 0 0)))),(.cells (A3 a0)),(.cells [.i a0.Weather.Lo,.i a0.Weather.Hi,.i a0.Stoves,(.seq 1 (List.map cI a0.Holds)),(.seq 4 (List.map C3 a0.Places)),(.seq 6 (List.map B4 a0.Figures)),(.seq 1 (List.map cI a0.Bill)),(.xseq 2 [[.b false,(.fn (.func 112) [] [])],[.b true,(.fn (.func 113) [] [])]])])]):Prop)) () ho19 rfl rfl (fun _ _=>rfl) (fun _=>rfl) rfl (fun s9=>(bdc (D8 rfl) (bdc (D8 rfl) (bdc (D8 rfl) (bdc G2 (bdc A5 (bdc A5 bdn))))))) (fun q10 s9 ys9 hs9=>?_) ?_
     ·unfold B45 at hs9
      refine s0<|A0 (F7 rfl rfl) rfl<|es (ra7 rfl rfl rfl rfl rfl rfl rfl)<|B6<|wi hs9 rfl (fun hc11 hs9=>?_) fun hc11 hs9=>?_
      ·refine C0<|B6<|C4<|s0<|oB hs9 fun x12 hx12 hs9=>qm rfl<|A0 (E2 (f:=cI) rfl rfl hx12) rfl<|A0 (E4 rfl rfl) rfl<|qm rfl<|qm rfl<|es (ra8 rfl rfl rfl rfl rfl rfl rfl rfl)<|B6<|s0<|oB hs9 fun x16 hx16 hs9=>qm rfl<|A0 (F9 rfl rfl) rfl<|qm rfl<|gp 7 67 (.b x16) 60 rfl rfl (fun hg13=>?_) (fun hg13=>?_) ?_
       ·refine oB (bt hx16 hg13) fun x14 hx14 hx16=>oB hx16 fun x15 hx15 hx16=>?_
        obtain rfl:=os hx16
        exact gT rfl hg13<|A0 (C5 rfl) rfl<|gT rfl hg13<|A0 (C2 rfl rfl rfl) rfl<|gT rfl hg13<|qm rfl<|gT rfl hg13<|A0 (B09 (f:=cI) rfl rfl rfl hx14) rfl<|gT rfl hg13<|qm rfl<|gT rfl hg13<|B3 (rs:=[.b x15]) rfl rfl (A1 rfl (A1 rfl B5)) ((Z7 hx15).frz)<|A0 (C7 rfl hg13 rfl) rfl<|ge 7 rfl rfl rfl
       ·obtain rfl:=os (bf hx16 hg13)
        exact nT rfl hg13 rfl<|nT rfl hg13 rfl<|nT rfl hg13 rfl<|nT rfl hg13 rfl<|nT rfl hg13 rfl<|G3 (E3 rfl (by rw [hg13]; rfl)) rfl<|A0 (C8 rfl hg13 rfl) rfl<|ge 7 rfl rfl rfl
       refine es (ra9 rfl rfl rfl rfl rfl rfl rfl rfl rfl)<|wi hs9 rfl (fun hc17 hs9=>?_) fun hc17 hs9=>?_
       ·refine s0<|A0 (G5 (cs:=A8 (room_plan.mk 0 (Ar5.mk 0 0 0 0 0))) rfl rfl) rfl<|qm rfl<|F5 (D1 (ds:=(A8 (room_plan.mk 0 (Ar5.mk 0 0 0 0 0)))) rfl rfl rfl rfl (C1 rfl) rfl) rfl<|qm rfl<|es (ra3 rfl rfl rfl)<|C6 ?_
        obtain rfl:=os hs9
        exact lx rfl (And.intro rfl (And.intro rfl rfl)) (su3 rfl rfl rfl)
       ·refine C0<|r0<|oB hs9 fun x18 hx18 hs9=>qm rfl<|qm rfl<|A0 (E1 rfl rfl) rfl<|A0 (C5 rfl) rfl<|A0 (X9 (e:=Ar5.l s9.2.at_) rfl rfl rfl hx18) rfl<|F5 (B1a (f:=cI) (e:=Ar5.l s9.2.at_) (e2:=Ar5.l (Ar5.set s9.2.at_ s9.1 (w64 (x12 + 1)))) (z:=(w64 (x12 + 1))) (ds:=(A8 (room_plan.mk s9.2.lit_ (Ar5.set s9.2.at_ s9.1 (w64 (x12 + 1)))))) rfl rfl rfl rfl rfl rfl (fun _=>rfl) hx18 (Ar5.set_l hx18) rfl (C1 rfl)) rfl<|en (ra6 rfl rfl rfl rfl rfl rfl)<|r0<|A0 (E1 rfl rfl) rfl<|qm rfl<|en (ra6 rfl rfl rfl rfl rfl rfl) ?_
        cases hs9
        exact lnT () rfl (su6 rfl rfl rfl rfl rfl rfl)
      ·refine E6 ?_
       obtain rfl:=os hs9
       exact lx rfl px (su2 rfl rfl)
     ·rcases o19 with vo19_0 | vo19_1
      ·rintro e s' H' - ⟨rfl,rfl,rfl⟩
       refine s0<|qm rfl<|A0 (B9 rfl rfl rfl) rfl<|qm rfl<|F5 (D1 (ds:=(A8 vo19_0)) rfl rfl rfl rfl (C1 rfl) rfl) rfl<|qm rfl<|es (ra3 rfl rfl rfl)<|C6<|InlQ.mk trivial ⟨_,_,_,[(.ptr (H.length + 11) 0),(.agg (A8 vo19_0)),.i 0],_,(A9 rfl (F8 (F0 (ds:=A8 vo19_0) rfl rfl rfl rfl) (A9 rfl B8))),(A4 rfl (A4 (I3 rfl) (A4 rfl B7))),(X7 (N4 (X5 rfl)) (D3 rfl (D3 rfl (D3 rfl J4)))),?_⟩
       refine qm rfl<|A0 (A6 rfl rfl) rfl<|A0 (A6 rfl rfl) rfl<|A0 (A6 rfl rfl) rfl<|A0 D7 rfl<|qm rfl<|F5 (D1 (ds:=(A8 vo19_0)) rfl rfl rfl rfl (C1 rfl) rfl) rfl<|qm rfl<|es (ra4 rfl rfl rfl rfl)<|B6<|s0<|qm rfl<|A0 (H7 (v:=(.b false)) rfl rfl rfl) rfl<|es (ra5 rfl rfl rfl rfl rfl)<|A3b rfl rfl<|C0<|B6<|s0<|A0 (C5 rfl) rfl<|A0 (F0 (ds:=(N1 cI) vo19_0.at_) rfl rfl rfl rfl) rfl<|qm rfl<|es (ra5 rfl rfl rfl rfl rfl)<|C4<|oB h fun o28 ho28 h=>wl (fun s20=>[(5,(.ptr (H.length + 5) 0)),(7,(.ptr (H.length + 11) 0)),(8,(.ptr (H.length + 6) 0)),(24,(.agg ((N1 cI) vo19_0.at_))),(25,.i s20)]) (fun (q21:Unit) s20=>[(.cells (A3 a0)),(.cells (B2 a1)),.dead,(.cells (A3 a0)),(.cells (B2 a1)),(.cells (A8 (room_plan.mk 0 (Ar5.mk 0 0 0 0 0)))),(.cells (A8 vo19_0)),(.cells (A3 a0)),(.cells (B2 a1)),(.cells (A8 vo19_0)),(.cells (A3 a0)),(.cells [.i a0.Weather.Lo,.i a0.Weather.Hi,.i a0.Stoves,(.seq 1 (List.map cI a0.Holds)),(.seq 4 (List.map C3 a0.Places)),(.seq 6 (List.map B4 a0.Figures)),(.seq 1 (List.map cI a0.Bill)),(.xseq 2 [[.b false,(.fn (.func 112) [] [])],[.b true,(.fn (.func 113) [] [])]])])]) 12 (fun r e s' H'=>(match r with | (.inl v)=>PX 0 [(5,(.ptr (H.length + 5) 0)),(7,(.ptr (H.length + 11) 0)),(8,(.ptr (H.length + 6) 0))] (H++[(.cells (A3 a0)),(.cells (B2 a1)),.dead,(.cells (A3 a0)),(.cells (B2 a1)),(.cells (A8 (room_plan.mk 0 (Ar5.mk 0 0 0 0 0)))),(.cells (A8 vo19_0)),(.cells (A3 a0)),(.cells (B2 a1)),(.cells (A8 vo19_0)),(.cells (A3 a0)),(.cells [.i a0.Weather.Lo,.i a0.Weather.Hi,.i a0.Stoves,(.seq 1 (List.map cI a0.Holds)),(.seq 4 (List.map C3 a0.Places)),(.seq 6 (List.map B4 a0.Figures)),(.seq 1 (List.map cI a0.Bill)),(.xseq 2 [[.b false,(.fn (.func 112) [] [])],[.b true,(.fn (.func 113) [] [])]])])]) e s' H' | (.inr v)=>e = .ret∧s' = [(4,(.lit (.pointer none))),(5,(.ptr (H.length + 5) 0)),(6,.i 9)]∧H' = (H++[(.cells (A3 a0)),(.cells (B2 a1)),.dead,(.cells (A3 a0)),(.cells (B2 a1)),(.cells (A8 vo19_0)),(.cells (A8 vo19_0)),(.cells (A3 a0)),(.cells (B2 a1)),(.cells (A8 vo19_0)),(.cells (A3 a0)),(.cells [.i a0.Weather.Lo,.i a0.Weather.Hi,.i a0.Stoves,(.seq 1 (List.map cI a0.Holds)),(.seq 4 (List.map C3 a0.Places)),(.seq 6 (List.map B4 a0.Figures)),(.seq 1 (List.map cI a0.Bill)),(.xseq 2 [[.b false,(.fn (.func 112) [] [])],[.b true,(.fn (.func 113) [] [])]])])]):Prop)) () ho28 rfl rfl (fun _ _=>rfl) (fun _=>rfl) rfl (fun s20=>(bdc (D8 rfl) (bdc (D8 rfl) (bdc (D8 rfl) (bdc (G8 rfl) (bdc A5 bdn)))))) (fun q21 s20 ys20 hs20=>?_) ?_
       ·unfold A1h at hs20
        refine s0<|A0 (F7 rfl rfl) rfl<|es (ra6 rfl rfl rfl rfl rfl rfl)<|B6<|wi hs20 rfl (fun hc22 hs20=>?_) fun hc22 hs20=>?_
        ·refine C0<|B6<|C4<|s0<|oB hs20 fun x23 hx23 hs20=>qm rfl<|A0 (A7o (f:=cI) (g:=fun n=>(.i n)) (e:=Ar5.l vo19_0.at_) (fun _=>rfl) rfl rfl rfl rfl hx23) rfl<|qm rfl<|qm rfl<|es (ra7 rfl rfl rfl rfl rfl rfl rfl)<|s0<|oB hs20 fun x26 hx26 hs20=>qm rfl<|A0 (W7 rfl rfl) rfl<|qm rfl<|gp 9 40 (.b x26) 31 rfl rfl (fun hg24=>?_) (fun hg24=>?_) ?_
         ·refine oB (bt hx26 hg24) fun x25 hx25 hx26=>?_
          obtain rfl:=os hx26
          exact gT rfl hg24<|qm rfl<|gT rfl hg24<|qm rfl<|gT rfl hg24<|qm rfl<|gT rfl hg24<|A0 (U6 rfl rfl) rfl<|gT rfl hg24<|A0 (C5 rfl) rfl<|gT rfl hg24<|A0 (C2 rfl rfl rfl) rfl<|gT rfl hg24<|B3 (rs:=[.i x25]) rfl rfl (A1 rfl (A1 rfl (A1 rfl (A1 rfl B5)))) ((Z6 (E0 rfl) hx25).frz)<|gT rfl hg24<|A0 (F9 rfl rfl) rfl<|A0 (C7 rfl hg24 rfl) rfl<|ge 9 rfl rfl rfl
         ·obtain rfl:=os (bf hx26 hg24)
          exact nT rfl hg24 rfl<|nT rfl hg24 rfl<|nT rfl hg24 rfl<|nT rfl hg24 rfl<|nT rfl hg24 rfl<|nT rfl hg24 rfl<|G3 (E3 rfl (by rw [hg24]; rfl)) rfl<|nT rfl hg24 rfl<|A0 (C8 rfl hg24 rfl) rfl<|ge 9 rfl rfl rfl
         refine es (ra6 rfl rfl rfl rfl rfl rfl)<|wi hs20 rfl (fun hc27 hs20=>?_) fun hc27 hs20=>?_
         ·refine s0<|A0 (B9 rfl rfl rfl) rfl<|qm rfl<|F5 (D1 (ds:=(A8 vo19_0)) rfl rfl rfl rfl (C1 rfl) rfl) rfl<|qm rfl<|es (ra3 rfl rfl rfl)<|C6 ?_
          obtain rfl:=os hs20
          exact lx rfl (And.intro rfl (And.intro rfl rfl)) (su3 rfl rfl rfl)
         ·refine C0<|r0<|A0 (E1 rfl rfl) rfl<|qm rfl<|en (ra5 rfl rfl rfl rfl rfl) ?_
          cases hs20
          exact lnT () rfl (su5 rfl rfl rfl rfl rfl)
        ·refine E6 ?_
         obtain rfl:=os hs20
         exact lx rfl px (su3 rfl rfl rfl)
       ·rcases o28 with vo28_0 | vo28_1
        ·rintro e s' H' - ⟨rfl,rfl,rfl⟩
         refine B6<|s0<|oB h fun x29 hx29 h=>qm rfl<|A0 (C5 rfl) rfl<|A0 (F0 (ds:=(N1 cI) vo19_0.at_) rfl rfl rfl rfl) rfl<|B3 (rs:=[.b x29]) rfl rfl (A1 rfl (A1 (C9 rfl) (A1 rfl B5))) ((T9 (E0 rfl) hx29).frz)<|A0 (N7 rfl) rfl<|es (ra4 rfl rfl rfl rfl)<|wi h rfl (fun hc30 h=>?_) fun hc30 h=>?_
         ·refine s0<|A0 (B9 rfl rfl rfl) rfl<|qm rfl<|F5 (D1 (ds:=(A8 vo19_0)) rfl rfl rfl rfl (C1 rfl) rfl) rfl<|qm rfl<|es (ra3 rfl rfl rfl)<|C6<|InlQ.mk trivial ⟨_,_,_,[(.lit (.pointer none)),(.agg (A8 vo19_0)),.i 9],_,(A9 rfl (F8 (F0 (ds:=A8 vo19_0) rfl rfl rfl rfl) (A9 rfl B8))),(A4 rfl (A4 (I3 rfl) (A4 rfl B7))),(R3 (A2 A5 (A2 (G8 rfl) (A2 A5 B1))) (D3 rfl (D3 rfl (D3 rfl J4))) (H9 _ _ _)),?_⟩
          refine qm rfl<|A0 (A6 rfl rfl) rfl<|A0 (A6 rfl rfl) rfl<|A0 (A6 rfl rfl) rfl<|A0 D7 rfl<|qm rfl<|F5 (D1 (ds:=(A8 vo19_0)) rfl rfl rfl rfl (C1 rfl) rfl) rfl<|qm rfl<|es (ra3 rfl rfl rfl)<|B6<|s0<|qm rfl<|A0 (H7 (v:=(.b true)) rfl rfl rfl) rfl<|es (ra4 rfl rfl rfl rfl)<|L4 rfl rfl<|s0<|qm rfl<|qm rfl<|qm rfl<|es (ra2 rfl rfl)<|C6 ?_
          obtain rfl:=os h
          exact retq trivial (A9 rfl (A9 rfl B8)) (A4 rfl (A4 rfl B7)) (A2 A5 (A2 A5 B1))
         ·refine C0<|s0<|qm rfl<|A0 (B9 rfl rfl rfl) rfl<|qm rfl<|F5 (D1 (ds:=(A8 vo19_0)) rfl rfl rfl rfl (C1 rfl) rfl) rfl<|qm rfl<|es (ra3 rfl rfl rfl)<|C6<|InlQ.mk trivial ⟨_,_,_,[(.ptr (H.length + 11) 0),(.agg (A8 vo19_0)),.i 0],_,(A9 rfl (F8 (F0 (ds:=A8 vo19_0) rfl rfl rfl rfl) (A9 rfl B8))),(A4 rfl (A4 (I3 rfl) (A4 rfl B7))),(X7 (N4 (X5 rfl)) (D3 rfl (D3 rfl (D3 rfl J4)))),?_⟩
          refine qm rfl<|A0 (A6 rfl rfl) rfl<|A0 (A6 rfl rfl) rfl<|A0 (A6 rfl rfl) rfl<|A0 D7 rfl<|qm rfl<|F5 (D1 (ds:=(A8 vo19_0)) rfl rfl rfl rfl (C1 rfl) rfl) rfl<|qm rfl<|es (ra3 rfl rfl rfl)<|B6<|s0<|qm rfl<|A0 (H7 (v:=(.b false)) rfl rfl rfl) rfl<|es (ra4 rfl rfl rfl rfl)<|A3b rfl rfl<|C0<|s0<|oB h fun x31 hx31 h=>qm rfl<|A0 (C5 rfl) rfl<|A0 (F0 (ds:=(N1 cI) vo19_0.at_) rfl rfl rfl rfl) rfl<|B3 (rs:=[.i x31]) rfl rfl (A1 rfl (A1 (C9 rfl) B5)) ((A8a (E0 rfl) hx31).frz)<|qm rfl<|qm rfl<|es (ra2 rfl rfl)<|C6 ?_
          obtain rfl:=os h
          exact retq trivial (A9 rfl (A9 rfl B8)) (A4 rfl (A4 rfl B7)) (A2 A5 (A2 A5 B1))
        ·rintro e s' H' - ⟨rfl,rfl,rfl⟩
         refine InlQ.mk trivial ⟨_,_,_,[(.lit (.pointer none)),(.agg (A8 vo19_0)),.i 9],_,(A9 rfl (F8 (F0 (ds:=A8 vo19_0) rfl rfl rfl rfl) (A9 rfl B8))),(A4 rfl (A4 (I3 rfl) (A4 rfl B7))),(R3 (A2 A5 (A2 (G8 rfl) (A2 A5 B1))) (D3 rfl (D3 rfl (D3 rfl J4))) (H9 _ _ _)),?_⟩
         refine qm rfl<|A0 (A6 rfl rfl) rfl<|A0 (A6 rfl rfl) rfl<|A0 (A6 rfl rfl) rfl<|A0 D7 rfl<|qm rfl<|F5 (D1 (ds:=(A8 vo19_0)) rfl rfl rfl rfl (C1 rfl) rfl) rfl<|qm rfl<|es (ra3 rfl rfl rfl)<|B6<|s0<|qm rfl<|A0 (H7 (v:=(.b true)) rfl rfl rfl) rfl<|es (ra4 rfl rfl rfl rfl)<|L4 rfl rfl<|s0<|qm rfl<|qm rfl<|qm rfl<|es (ra2 rfl rfl)<|C6 ?_
         obtain rfl:=os h
         exact retq trivial (A9 rfl (A9 rfl B8)) (A4 rfl (A4 rfl B7)) (A2 A5 (A2 A5 B1))
      ·rintro e s' H' - ⟨rfl,rfl,rfl⟩
       refine InlQ.mk trivial ⟨_,_,_,[(.lit (.pointer none)),(.agg (A8 (room_plan.mk 0 (Ar5.mk 0 0 0 0 0)))),.i 5],_,(A9 rfl (F8 (F0 (ds:=A8 (room_plan.mk 0 (Ar5.mk 0 0 0 0 0))) rfl rfl rfl rfl) (A9 rfl B8))),(A4 rfl (A4 (I3 rfl) (A4 rfl B7))),(R3 (A2 A5 (A2 (G8 rfl) (A2 A5 B1))) (D3 rfl (D3 rfl (D3 rfl J4))) (H9 _ _ _)),?_⟩
       refine qm rfl<|A0 (A6 rfl rfl) rfl<|A0 (A6 rfl rfl) rfl<|A0 (A6 rfl rfl) rfl<|A0 D7 rfl<|qm rfl<|F5 (D1 (ds:=(A8 (room_plan.mk 0 (Ar5.mk 0 0 0 0 0)))) rfl rfl rfl rfl (C1 rfl) rfl) rfl<|qm rfl<|es (ra4 rfl rfl rfl rfl)<|B6<|s0<|qm rfl<|A0 (H7 (v:=(.b true)) rfl rfl rfl) rfl<|es (ra5 rfl rfl rfl rfl rfl)<|L4 rfl rfl<|s0<|A0 (B9 rfl rfl rfl) rfl<|qm rfl<|F5 (D1 (ds:=(A8 (room_plan.mk 0 (Ar5.mk 0 0 0 0 0)))) rfl rfl rfl rfl (C1 rfl) rfl) rfl<|qm rfl<|qm rfl<|es (ra3 rfl rfl rfl)<|C6<|InlQ.mk trivial ⟨_,_,_,[(.lit (.pointer none)),(.agg (A8 (room_plan.mk 0 (Ar5.mk 0 0 0 0 0)))),.i 5],_,(A9 rfl (F8 (F0 (ds:=A8 (room_plan.mk 0 (Ar5.mk 0 0 0 0 0))) rfl rfl rfl rfl) (A9 rfl B8))),(A4 rfl (A4 (I3 rfl) (A4 rfl B7))),(R3 (A2 A5 (A2 (G8 rfl) (A2 A5 B1))) (D3 rfl (D3 rfl (D3 rfl J4))) (H9 _ _ _)),?_⟩
       refine qm rfl<|A0 (A6 rfl rfl) rfl<|A0 (A6 rfl rfl) rfl<|A0 (A6 rfl rfl) rfl<|A0 D7 rfl<|qm rfl<|F5 (D1 (ds:=(A8 (room_plan.mk 0 (Ar5.mk 0 0 0 0 0)))) rfl rfl rfl rfl (C1 rfl) rfl) rfl<|qm rfl<|es (ra3 rfl rfl rfl)<|B6<|s0<|qm rfl<|A0 (H7 (v:=(.b true)) rfl rfl rfl) rfl<|es (ra4 rfl rfl rfl rfl)<|L4 rfl rfl<|s0<|qm rfl<|qm rfl<|qm rfl<|es (ra2 rfl rfl)<|C6 ?_
       obtain rfl:=os h
       exact retq trivial (A9 rfl (A9 rfl B8)) (A4 rfl (A4 rfl B7)) (A2 A5 (A2 A5 B1))
def S4  (x2:room_plan) (s3:Unit):Option (Unit ⊕ Unit) :=
 some (.inr ())
def A3y (a0:room_house):Option Bool :=
 (A6j a0 Unit Unit S4 ()).bind fun (o4:(Unit ⊕ Unit)) =>
 match o4 with
 | (.inl vo4_5) =>
  some false
 | (.inr vo4_6) =>
  some true
theorem B60 {c:Sc} {H:A7} (hscv:Z3 c H = true) (hcl:clH H.length H = true) {a0:room_house} {b0:Nat} (hb0:hcells H b0 = some [.i a0.RoHouse.Weather.Lo,.i a0.RoHouse.Weather.Hi,.i a0.RoHouse.Stoves,(.seq 1 (List.map cI a0.RoHouse.Holds)),(.seq 4 (List.map C3 a0.RoHouse.Places)),(.seq 6 (List.map B4 a0.RoHouse.Figures)),(.seq 1 (List.map cI a0.RoHouse.Bill)),(.xseq 2 [[.b false,(.fn (.func 112) [] [])],[.b true,(.fn (.func 113) [] [])]])]) {r:Bool} (h:A3y a0 = some r) :
  E8 tab c H (.fn (.func 97) [] []) [.ptr b0 0] [.b r]:= by
 unfold A3y at h
 refine cE rfl rfl<|sg 0 rfl<|A0 D7 rfl<|es (ra2 rfl rfl)<|B6<|s0<|qm rfl<|P6 (as2:=[.ptr b0 0]) (H1:=(H++[(.cells (cB false))])) rfl rfl (A1 rfl B5) rfl rfl rfl (V8 rfl)<|sg 1 rfl<|A0 (E9 (cs:=[.ptr b0 0]) rfl rfl rfl) rfl<|qm rfl<|es (ra1 rfl)<|s0<|A0 (A73 rfl rfl) rfl<|qm rfl<|es (ra1 rfl)<|C6<|InlQ.mk trivial ⟨_,_,_,[(.fn (.func 116) [] [(.ptr (H.length + 1) 0)])],_,(A9 rfl B8),(A4 rfl B7),(X7 (N4 (C0v (N4 (X5 rfl)))) (D3 rfl J4)),?_⟩
 refine es (ra2 rfl rfl)<|C4<|oB h fun o4 ho4 h=>?_
 have hb0_lt:=A35 hb0
 refine C7d (σ:=Unit) (ρ:=Unit) (k:=2) (ea:=(fun (x2:room_plan)=>(.agg (A8 x2)))) (body:=S4) (pre:=fun H1=>hcells H1 (H.length + 1) = some [.ptr b0 0]∧hcells H1 b0 = some (B78 a0)) (C2m (t:=a0) (b1:=H.length + 1) (bt:=b0)) B38 [(2,(.ptr (H.length + 0) 0))] (fun s3=>[(.cells (cB false)),(.cells [.ptr b0 0])]) (fun (vo4_6:Unit)=>[(.cells (cB true)),(.cells [.ptr b0 0])]) (fun _=>.ret) ho4 (fun _=>rfl) rfl (fun S hS=>Q5 (live:=[2]) rfl (by decide) (Sub.trans (su1 rfl) hS)) rfl (fun _=>rfl) (fun _=>rfl) hcl (by rw [Bool.and_eq_true,Bool.and_eq_true]; exact ⟨⟨by kernel_rfl,by kernel_rfl⟩,(by simp [clH,clS,AO.cl,AV.cl,clL,clM,clR,A3z,A9u,A4g,A56,N1,cI,cB,cS,J8,freeL,AV.free,freeR,Nat.blt,R7,A43,K1,W3,I8,T0,L2,W2,O7,A0m,K4,Q3,A2t,A44] <;> omega)⟩) (fun _=>(by simp [clH,clS,AO.cl,AV.cl,clL,clM,clR,A3z,A9u,A4g,A56,N1,cI,cB,cS,J8,freeL,AV.free,freeR,Nat.blt,R7,A43,K1,W3,I8,T0,L2,W2,O7,A0m,K4,Q3,A2t,A44] <;> omega)) (fun _=>(by simp [clH,clS,AO.cl,AV.cl,clL,clM,clR,A3z,A9u,A4g,A56,N1,cI,cB,cS,J8,freeL,AV.free,freeR,Nat.blt,R7,A43,K1,W3,I8,T0,L2,W2,O7,A0m,K4,Q3,A2t,A44] <;> omega)) (fun _=>(by simp [clH,clS,AO.cl,AV.cl,clL,clM,clR,A3z,A9u,A4g,A56,N1,cI,cB,cS,J8,freeL,AV.free,freeR,Nat.blt,R7,A43,K1,W3,I8,T0,L2,W2,O7,A0m,K4,Q3,A2t,A44] <;> omega)) ⟨fun _ _=>(And.intro (E0 rfl) (N0 hb0 _)),fun _ _=>(And.intro (E0 rfl) (N0 hb0 _))⟩ (A4k hscv) (fun c x2 s3 o hs3 y0_2 y1_2=>?_) ?_
 ·unfold S4 at hs3
  refine C0<|⟨_,rfl,rfl,rfl,?_⟩
  refine C4<|s0<|F5 (D1 (ds:=(cB true)) rfl rfl rfl rfl (C1 rfl) rfl) rfl<|es .n<|C6 ?_
  cases hs3
  exact ⟨_,rfl,rfl,rfl⟩
 ·rcases o4 with vo4_5 | vo4_6
  ·refine s0<|F5 (D1 (ds:=(cB false)) rfl rfl rfl rfl (C1 rfl) rfl) rfl<|es (ra1 rfl)<|C6 ?_
   obtain rfl:=os h
   exact retq trivial (F8 (C2 (x:=(.b false)) rfl rfl rfl) B8) (A4 rfl B7) (A2 A5 B1)
  ·obtain rfl:=os h
   exact retq trivial (F8 (C2 (x:=(.b true)) rfl rfl rfl) B8) (A4 rfl B7) (A2 A5 B1)
def A0j (a0:Int):Option Int :=
 if (a0 == 0) = true then
  some 64
 else
  (B1m .u64 (IntKind.u64.wrap ((O6 .u64 a0 (IntKind.u64.wrap (0 - a0))) * 285870213051353865)) 58).bind fun x2 =>
  (idx gl1 x2).bind fun x3 =>
  some (w64 x3)
theorem A75 {c:Sc} {H:A7} {a0:Int} {r:Int} (h:A0j a0 = some r) :
  E8 tab c H (.fn (.func 126) [] []) [(.lit (.int .u64 a0))] [.i r]:= by
 unfold A0j at h
 refine cE rfl rfl<|s0<|qm rfl<|es (ra1 rfl)<|B6<|s0<|qm rfl<|A0 (F4 rfl rfl) rfl<|es (ra2 rfl rfl)<|wi h rfl (fun hc1 h=>?_) fun hc1 h=>?_
 ·refine s0<|qm rfl<|es (ra1 rfl)<|C6 ?_
  obtain rfl:=os h
  exact retq trivial (A9 rfl B8) (A4 rfl B7) (A2 A5 B1)
 ·refine C0<|s0<|oB h fun x2 hx2 h=>oB h fun x3 hx3 h=>qm rfl<|qm rfl<|A0 (D9e rfl rfl) rfl<|A0 (H7 (v:=(.lit (.int .u64 (O6 .u64 a0 (IntKind.u64.wrap (0 - a0)))))) rfl rfl rfl) rfl<|A0 (H7 (v:=(.lit (.int .u64 (IntKind.u64.wrap ((O6 .u64 a0 (IntKind.u64.wrap (0 - a0))) * 285870213051353865))))) rfl rfl rfl) rfl<|A0 (B08 rfl rfl hx2) rfl<|A0 (D86 (e:=gl1) (g:=fun n=>(.lit (.int .u8 n))) rfl rfl rfl hx3) rfl<|A0 (D6z (g:=fun n=>(.lit (.int .u8 n))) rfl hx3) rfl<|A0 (A3f rfl) rfl<|qm rfl<|es (ra1 rfl)<|C6 ?_
  obtain rfl:=os h
  exact retq trivial (A9 rfl B8) (A4 rfl B7) (A2 A5 B1)
def A1p (a0:Int):Option Int :=
 (A0j a0).bind fun x1 =>
 some x1
theorem A9d {c:Sc} {H:A7} {a0:Int} {r:Int} (h:A1p a0 = some r) :
  E8 tab c H (.fn (.func 118) [] []) [(.lit (.int .u64 a0))] [.i r]:= by
 unfold A1p at h
 refine cE rfl rfl<|s0<|qm rfl<|es (ra1 rfl)<|B6<|A3b rfl rfl<|C0<|s0<|oB h fun x1 hx1 h=>qm rfl<|B3 (rs:=[.i x1]) rfl rfl (A1 rfl B5) ((A75 hx1).frz)<|qm rfl<|es (ra1 rfl)<|C6 ?_
 obtain rfl:=os h
 exact retq trivial (A9 rfl B8) (A4 rfl B7) (A2 A5 B1)
def B7g  (s1:(Int × (List Int))):Option ((Int × (List Int)) ⊕ (List Int)) :=
 if (s1.1 != 0) = true then
  (A1p (IntKind.u64.wrap s1.1)).bind fun x4 =>
  (app 8 s1.2 [x4]).bind fun x5 =>
  some (.inl ((B48 s1.1 (w64 (s1.1 - 1))),x5))
 else
  some (.inr s1.2)
def A8v (a0:Int):Option (List Int) :=
 (loop B7g (a0,([]:List Int))).bind fun (o6:(List Int)) =>
 some o6
theorem C60 {c:Sc} {H:A7} {a0:Int} {r:(List Int)} (h:A8v a0 = some r) :
  E8 tab c H (.fn (.func 95) [] []) [.i a0] [(.fresh 1 (List.map cI r))]:= by
 unfold A8v at h
 refine cE rfl rfl<|sg 0 rfl<|A0 B07 rfl<|es (ra2 rfl rfl)<|B6<|C4<|oB h fun o6 ho6 h=>wl (fun s1=>[(0,.i s1.1),(2,(.asl (H.length + 0) (List.length s1.2)))]) (fun (q2:Unit) s1=>[(.arr 1 false (List.map cI s1.2))]) 1 (fun r e s' H'=>PX 0 [(2,(.asl (H.length + 0) (List.length r)))] (H++[(.arr 1 false (List.map cI r))]) e s' H') () ho6 rfl rfl (fun _ _=>rfl) (fun _=>rfl) rfl (fun s1=>(bdc A5 (bdc (A4e rfl) bdn))) (fun q2 s1 ys1 hs1=>?_) ?_
 ·unfold B7g at hs1
  refine B6<|s0<|qm rfl<|A0 (F9 rfl rfl) rfl<|es (ra3 rfl rfl rfl)<|wi hs1 rfl (fun hc3 hs1=>?_) fun hc3 hs1=>?_
  ·refine C0<|B6<|C4<|r0<|oB hs1 fun x4 hx4 hs1=>oB hs1 fun x5 hx5 hs1=>qm rfl<|qm rfl<|A0 (A3f rfl) rfl<|B3 (rs:=[.i x4]) rfl rfl (A1 rfl B5) ((A9d hx4).frz)<|A0 (J5 (rows:=List.map cI [x4]) rfl rfl (F1 (fun _=>rfl) _)) rfl<|A7p (A4i (f:=cI) rfl rfl rfl rfl A1s (fun _=>rfl) hx5) rfl<|qm rfl<|en (ra2 rfl rfl)<|r0<|qm rfl<|qm rfl<|A0 (U6 rfl rfl) rfl<|A0 (H7 (v:=(.i (B48 s1.1 (w64 (s1.1 - 1))))) rfl rfl rfl) rfl<|qm rfl<|en (ra2 rfl rfl) ?_
   cases hs1
   exact lnT () rfl (su2 rfl rfl)
  ·refine E6 ?_
   obtain rfl:=os hs1
   exact lx rfl px (su1 rfl)
 ·rintro e s' H' - ⟨rfl,rfl,rfl⟩
  refine s0<|qm rfl<|qm rfl<|es (ra1 rfl)<|C6 ?_
  obtain rfl:=os h
  exact retq trivial (A9 rfl B8) (A4 (B2b rfl (List.length_map _)) B7) (A2 A55 B1)
def A7b (a0:Int):Option Bool :=
 some (a0 != a0)
theorem B1b {c:Sc} {H:A7} {a0:Int} {r:Bool} (h:A7b a0 = some r) :
  E8 tab c H (.fn (.func 127) [] []) [.i a0] [.b r]:= by
 unfold A7b at h
 refine cE rfl rfl<|s0<|qm rfl<|es (ra1 rfl)<|s0<|qm rfl<|qm rfl<|A0 (F9 rfl rfl) rfl<|qm rfl<|es (ra1 rfl)<|C6 ?_
 obtain rfl:=os h
 exact retq trivial (A9 rfl B8) (A4 rfl B7) (A2 A5 B1)
def A70 (a0:Int) (a1:Int):Option Int :=
 (A7b a0).bind fun x1 =>
 (A7b a1).bind fun x2 =>
 if x1 = true then
  if x2 = true then
  some 0
  else
  some (-1)
 else
  if x2 = true then
  some 1
  else
  if (decide (a0 < a1)) = true then
   some (-1)
  else
   if (decide (a0 > a1)) = true then
   some 1
   else
   some 0
theorem B5k {c:Sc} {H:A7} {a0:Int} {a1:Int} {r:Int} (h:A70 a0 a1 = some r) :
  E8 tab c H (.fn (.func 119) [] []) [.i a0,.i a1] [.i r]:= by
 unfold A70 at h
 refine cE rfl rfl<|s0<|qm rfl<|es (ra2 rfl rfl)<|s0<|oB h fun x1 hx1 h=>qm rfl<|B3 (rs:=[.b x1]) rfl rfl (A1 rfl B5) ((B1b hx1).frz)<|qm rfl<|es (ra3 rfl rfl rfl)<|s0<|oB h fun x2 hx2 h=>qm rfl<|B3 (rs:=[.b x2]) rfl rfl (A1 rfl B5) ((B1b hx2).frz)<|qm rfl<|es (ra4 rfl rfl rfl rfl)<|B6<|s0<|qm rfl<|es (ra4 rfl rfl rfl rfl)<|wi h rfl (fun hc3 h=>?_) fun hc3 h=>?_
 ·refine B6<|s0<|qm rfl<|es (ra1 rfl)<|wi h rfl (fun hc4 h=>?_) fun hc4 h=>?_
  ·refine s0<|qm rfl<|es (ra1 rfl)<|C6 ?_
   obtain rfl:=os h
   exact retq trivial (A9 rfl B8) (A4 rfl B7) (A2 A5 B1)
  ·refine C0<|s0<|qm rfl<|es (ra1 rfl)<|C6 ?_
   obtain rfl:=os h
   exact retq trivial (A9 rfl B8) (A4 rfl B7) (A2 A5 B1)
 ·refine C0<|B6<|s0<|qm rfl<|es (ra3 rfl rfl rfl)<|wi h rfl (fun hc5 h=>?_) fun hc5 h=>?_
  ·refine s0<|qm rfl<|es (ra1 rfl)<|C6 ?_
   obtain rfl:=os h
   exact retq trivial (A9 rfl B8) (A4 rfl B7) (A2 A5 B1)
  ·refine C0<|B6<|s0<|qm rfl<|qm rfl<|A0 (F7 rfl rfl) rfl<|es (ra3 rfl rfl rfl)<|wi h rfl (fun hc6 h=>?_) fun hc6 h=>?_
   ·refine s0<|qm rfl<|es (ra1 rfl)<|C6 ?_
    obtain rfl:=os h
    exact retq trivial (A9 rfl B8) (A4 rfl B7) (A2 A5 B1)
   ·refine C0<|B6<|s0<|qm rfl<|qm rfl<|A0 (W7 rfl rfl) rfl<|es (ra1 rfl)<|wi h rfl (fun hc7 h=>?_) fun hc7 h=>?_
    ·refine s0<|qm rfl<|es (ra1 rfl)<|C6 ?_
     obtain rfl:=os h
     exact retq trivial (A9 rfl B8) (A4 rfl B7) (A2 A5 B1)
    ·refine C0<|s0<|qm rfl<|es (ra1 rfl)<|C6 ?_
     obtain rfl:=os h
     exact retq trivial (A9 rfl B8) (A4 rfl B7) (A2 A5 B1)
def A4d (a0:(List Int)) (a1:(List Int)) (s1:Int):Option (Int ⊕ (Int ⊕ Unit)) :=
 if (decide (s1 < (List.length a0:Int))) = true then
  (idx a0 s1).bind fun x4 =>
  if (decide (s1 ≥ (List.length a1:Int))) = true then
  some (.inr (.inl 1))
  else
  (idx a1 s1).bind fun x6 =>
  (A70 x4 x6).bind fun x7 =>
  if (x7 != 0) = true then
   some (.inr (.inl x7))
  else
   some (.inl (w64 (s1 + 1)))
 else
  some (.inr (.inr ()))
def A2r (a0:(List Int)) (a1:(List Int)):Option Int :=
 (loop (A4d a0 a1) 0).bind fun (o9:(Int ⊕ Unit)) =>
 match o9 with
 | (.inl vo9_0) =>
  some vo9_0
 | (.inr vo9_1) =>
  if (decide ((List.length a0:Int) < (List.length a1:Int))) = true then
  some (-1)
  else
  some 0
theorem A9x {c:Sc} {H:A7} {a0:(List Int)} {a1:(List Int)} {r:Int} (h:A2r a0 a1 = some r) :
  E8 tab c H (.fn (.func 96) [] []) [(.seq 1 (List.map cI a0)),(.seq 1 (List.map cI a1))] [.i r]:= by
 unfold A2r at h
 refine cE rfl rfl<|s0<|qm rfl<|es (ra2 rfl rfl)<|B6<|s0<|qm rfl<|A0 (D4 (f:=cI) rfl) rfl<|qm rfl<|es (ra5 rfl rfl rfl rfl rfl)<|C4<|oB h fun o9 ho9 h=>wl (fun s1=>[(0,(.seq 1 (List.map cI a0))),(1,(.seq 1 (List.map cI a1))),(9,(.seq 1 (List.map cI a0))),(10,(.i (List.length a0:Int))),(11,.i s1)]) (fun (q2:Unit) s1=>[]) 0 (fun r e s' H'=>(match r with | (.inl v)=>e = .ret∧RetQ H [.tmp 4] [.i v] e s' H' | (.inr v)=>PX 0 [(0,(.seq 1 (List.map cI a0))),(1,(.seq 1 (List.map cI a1)))] (H++[]) e s' H':Prop)) () ho9 rfl rfl (fun _ _=>rfl) (fun _=>rfl) rfl (fun s1=>(bdc G2 (bdc G2 (bdc G2 (bdc A5 (bdc A5 bdn)))))) (fun q2 s1 ys1 hs1=>?_) ?_
 ·unfold A4d at hs1
  refine s0<|A0 (F7 rfl rfl) rfl<|es (ra6 rfl rfl rfl rfl rfl rfl)<|B6<|wi hs1 rfl (fun hc3 hs1=>?_) fun hc3 hs1=>?_
  ·refine C0<|B6<|C4<|s0<|oB hs1 fun x4 hx4 hs1=>qm rfl<|A0 (E2 (f:=cI) rfl rfl hx4) rfl<|A0 (E4 rfl rfl) rfl<|qm rfl<|qm rfl<|es (ra7 rfl rfl rfl rfl rfl rfl rfl)<|B6<|s0<|qm rfl<|qm rfl<|A0 (D4 (f:=cI) rfl) rfl<|A0 (A9y rfl rfl) rfl<|es (ra8 rfl rfl rfl rfl rfl rfl rfl rfl)<|wi hs1 rfl (fun hc5 hs1=>?_) fun hc5 hs1=>?_
   ·refine s0<|qm rfl<|es (ra1 rfl)<|C6 ?_
    obtain rfl:=os hs1
    exact lx rfl (And.intro rfl (retq trivial (A9 rfl B8) (A4 rfl B7) (A2 A5 B1))) (Sub.refl _)
   ·refine C0<|s0<|oB hs1 fun x6 hx6 hs1=>qm rfl<|qm rfl<|A0 (E2 (f:=cI) rfl rfl hx6) rfl<|A0 (E4 rfl rfl) rfl<|qm rfl<|es (ra7 rfl rfl rfl rfl rfl rfl rfl)<|s0<|oB hs1 fun x7 hx7 hs1=>qm rfl<|qm rfl<|B3 (rs:=[.i x7]) rfl rfl (A1 rfl (A1 rfl B5)) ((B5k hx7).frz)<|qm rfl<|es (ra6 rfl rfl rfl rfl rfl rfl)<|s0<|qm rfl<|A0 (F9 rfl rfl) rfl<|es (ra7 rfl rfl rfl rfl rfl rfl rfl)<|wi hs1 rfl (fun hc8 hs1=>?_) fun hc8 hs1=>?_
    ·refine s0<|qm rfl<|qm rfl<|es (ra1 rfl)<|C6 ?_
     obtain rfl:=os hs1
     exact lx rfl (And.intro rfl (retq trivial (A9 rfl B8) (A4 rfl B7) (A2 A5 B1))) (Sub.refl _)
    ·refine C0<|r0<|A0 (E1 rfl rfl) rfl<|qm rfl<|en (ra5 rfl rfl rfl rfl rfl) ?_
     cases hs1
     exact lnT () rfl (su5 rfl rfl rfl rfl rfl)
  ·refine E6 ?_
   obtain rfl:=os hs1
   exact lx rfl px (su2 rfl rfl)
 ·rcases o9 with vo9_0 | vo9_1
  ·rintro e s' H' - ⟨rfl,hret⟩
   cases h
   exact hret
  ·rintro e s' H' - ⟨rfl,rfl,rfl⟩
   refine B6<|s0<|qm rfl<|A0 (D4 (f:=cI) rfl) rfl<|qm rfl<|A0 (D4 (f:=cI) rfl) rfl<|A0 (F7 rfl rfl) rfl<|es (ra1 rfl)<|wi h rfl (fun hc10 h=>?_) fun hc10 h=>?_
   ·refine s0<|qm rfl<|es (ra1 rfl)<|C6 ?_
    obtain rfl:=os h
    exact retq trivial (A9 rfl B8) (A4 rfl B7) (A2 A5 B1)
   ·refine C0<|s0<|qm rfl<|es (ra1 rfl)<|C6 ?_
    obtain rfl:=os h
    exact retq trivial (A9 rfl B8) (A4 rfl B7) (A2 A5 B1)
end Rm
end
section
set_option maxRecDepth 100000
namespace Rm
open Go Am Go.Proofs.YtbheamjhjgoccaaDoor.Cd
def X4 (t:RoHouse) (b:List Int):RoHouse:=⟨t.Weather,t.Stoves,t.Holds,t.Places,t.Figures,b⟩
def A16 (a0:RoHouse) (set:Int) (s:Int × List Int):Option ((Int × List Int) ⊕ List Int) :=
 if (decide (s.1 < (List.length a0.Bill:Int))) = true then
  (idx a0.Bill s.1).bind fun n =>
  (B1m .i64 set s.1).bind fun q =>
  if (B48 q 1 == 0) = true then
   (app 8 s.2 [n]).bind fun b =>
   some (.inl (w64 (s.1 + 1),b))
  else some (.inl (w64 (s.1 + 1),s.2))
 else some (.inr s.2)
def A21 (l breaks:List Int) (found:Bool):Option Bool :=
 if found = true then
  if (decide ((l.length:Int) > (breaks.length:Int))) = true then some true
  else if ((l.length:Int) == (breaks.length:Int)) = true then
   (A2r l breaks).bind fun z=>some (decide (z > 0))
  else some false
 else some false
def A3r (a0:RoHouse) (n:Int) (s:Int × Bool × List Int):Option ((Int × Bool × List Int) ⊕ List Int) :=
 if (decide (s.1 < n)) = true then
  (A8v s.1).bind fun l =>
  (A21 l s.2.2 s.2.1).bind fun skip =>
  if skip = true then some (.inl (w64 (s.1 + 1),s.2.1,s.2.2))
  else
   (loop (A16 a0 s.1) (0,[])).bind fun b =>
   (A3y ⟨X4 a0 b⟩).bind fun k =>
   if k = true then some (.inl (w64 (s.1 + 1),true,l))
   else some (.inl (w64 (s.1 + 1),s.2.1,s.2.2))
 else some (.inr s.2.2)
def A01 (a0:RoHouse):Option (List Int × Int) :=
 (Q6 a0).bind fun x1 =>
 if (x1.2.2 != 0) = true then some (([]:List Int),x1.2.2)
 else
  (B3v .i64 1 (List.length a0.Bill:Int)).bind fun n =>
  (loop (A3r a0 n) (0,false,([]:List Int))).bind fun o =>
  some (o,0)
def B2z (t:RoHouse) (v:AV):List AV:=[.i t.Weather.Lo,.i t.Weather.Hi,.i t.Stoves,(.seq 1 (List.map cI t.Holds)),(.seq 4 (List.map C3 t.Places)),(.seq 6 (List.map B4 t.Figures)),v,.xseq 2 [[.b false,(.fn (.func 112) [] [])],[.b true,(.fn (.func 113) [] [])]]]
def arB (p:Bool) (r:List Int):AO:=.arr 1 p (r.map cI)
def tlB (g:List (List Int)):List AO:=g.map (arB true)
def lB (t:RoHouse) (v:AV) (g:List AO):List AO:=.cells (A3 t) :: .cells (A3 t) :: .cells (B2z t v) :: g
section
variable {T:Tab} {s:D0} {H0 H:A7} {l:List AO} {c:Sc} {n0 N:Nat} {hc:List (Option (List Nat))} {ops:List AOper} {R:D0→A7→Prop}
theorem gU {d:Nat} {op:AOp} {t:Nat} {w:Bool} {hid:List Nat} {hida:List (Nat × List Nat)} {inc src:Nat} (hw:wanted s (some (t,w)) = some false) (hwr:writes op = true) (k:M5 T c n0 ops ((d,.tup []) :: s) H (none :: hc) R) :
  M5 T c n0 (⟨some d,op,some (t,w),hid,hida,inc,src⟩ :: ops) s H hc R:=G3 hw hwr k
theorem gV {d:Nat} {op:AOp} {t:Nat} {w:Bool} {hid:List Nat} {hida:List (Nat × List Nat)} {inc src:Nat} (hw:wanted s (some (t,w)) = some false) (hwr:writes op = false) (k:M5 T c n0 ops ((d,.tup []) :: s) H hc R) :
  M5 T c n0 (⟨some d,op,some (t,w),hid,hida,inc,src⟩ :: ops) s H hc R:=D2w hw hwr k
theorem fvc {H1 H2:A7} {v v':AV} {l l':List AV} (h:frv H v = some (v',H1)) (k:A07 H1 l = some (l',H2)):A07 H (v :: l) = some (v' :: l',H2):= by simp only [A07,h,k]
end
theorem D5t {N:Nat}:∀g:List (List Int),clH N (tlB g) = true
 | []=>rfl
 | r :: g=>by
  have ih:=D5t (N:=N) g
  unfold tlB clH at ih ⊢
  rw [List.map_cons,List.all_cons,ih,Bool.and_true]
  unfold arB
  simp only [AO.cl]
  exact A3z (fun x=>rfl) r
theorem E2s {N:Nat} (t:RoHouse) (b:List Int) (g:List (List Int)):clH N (lB t (.seq 1 (b.map cI)) (tlB g)) = true:= by
 have h:=D5t (N:=N) g
 unfold lB clH at h ⊢
 simp only [List.all_cons,h,Bool.and_true]
 simp [AO.cl,clL_free _ (L2 t),B2z,clL,AV.cl,clR,J8,cI,freeL,AV.free,K1,I8]
theorem B9s {c:Sc} {H:A7} (hscv:Z3 c H = true) (hcl:clH H.length H = true) {a0:RoHouse} {r:((List Int) × Int)} (h:A01 a0 = some r) :
  E8 tab c H (.fn (.func 36) [] []) [(.agg (A3 a0))] [(.seq 1 (List.map cI r.1)),.i r.2]:= by
 unfold A01 at h
 refine cE rfl rfl<|sg 0 rfl<|A0 (E9 (cs:=A3 a0) rfl rfl rfl) rfl<|qm rfl<|qm rfl<|es (ra2 rfl rfl)<|s0<|A0 (B9 rfl rfl rfl) rfl<|P6 (as2:=[(.agg (A3 a0))]) (H1:=(H++[(.cells (A3 a0))])) rfl rfl (A1 (C9 rfl) B5) rfl rfl rfl (V8 rfl)<|sg 1 rfl<|A0 (E9 (cs:=A3 a0) rfl rfl rfl) rfl<|qm rfl<|qm rfl<|es (ra1 rfl)<|s0<|oB h fun x1 hx1 h=>A0 (B9 rfl rfl rfl) rfl<|B3 (rs:=[.i x1.1,.i x1.2.1,.i x1.2.2]) rfl rfl (A1 (C9 rfl) B5) ((R4 hx1).frz)<|qm rfl<|A0 (A6 rfl rfl) rfl<|A0 (A6 rfl rfl) rfl<|A0 (A6 rfl rfl) rfl<|qm rfl<|qm rfl<|qm rfl<|es (ra2 rfl rfl)<|sg 2 rfl<|A0 (B9 rfl rfl rfl) rfl<|A0 (G5 (cs:=[.b false,(.fn (.func 112) [] [])]) rfl rfl) rfl<|A0 (G5 (cs:=[.b true,(.fn (.func 113) [] [])]) rfl rfl) rfl<|A0 (A8d (rows:=[[.b false,(.fn (.func 112) [] [])],[.b true,(.fn (.func 113) [] [])]]) rfl rfl) rfl<|A0 (G5 (cs:=B2z a0 (.seq 1 (List.map cI a0.Bill))) rfl rfl) rfl<|A0 (E9 (cs:=B2z a0 (.seq 1 (List.map cI a0.Bill))) rfl rfl rfl) rfl<|qm rfl<|qm rfl<|qm rfl<|es (ra2 rfl rfl)<|C6<|InlQ.mk trivial ⟨_,_,_,[(.ptr (H.length + 2) 0),.i x1.2.2],_,(A9 rfl (A9 rfl B8)),(A4 rfl (A4 rfl B7)),(X7 (N4 (X5 rfl)) (D3 rfl (D3 rfl J4))),?_⟩
 refine qm rfl<|A0 (A6 rfl rfl) rfl<|A0 (A6 rfl rfl) rfl<|qm rfl<|qm rfl<|es (ra4 rfl rfl rfl rfl)<|B6<|s0<|qm rfl<|A0 (F9 rfl rfl) rfl<|es (ra5 rfl rfl rfl rfl rfl)<|wi h rfl (fun hc2 h=>?_) fun hc2 h=>?_
 ·refine s0<|qm rfl<|qm rfl<|qm rfl<|es (ra2 rfl rfl)<|C6 ?_
  obtain rfl:=os h
  exact retq trivial (A9 rfl (A9 rfl B8)) (A4 rfl (A4 rfl B7)) (A2 G2 (A2 A5 B1))
 refine oB h fun n hn h=>oB h fun o ho h=>?_
 refine C0<|s0<|qm rfl<|es (ra4 rfl rfl rfl rfl)<|B6<|s0<|A0 (C5 rfl) rfl<|A0 (C2 rfl rfl rfl) rfl<|A0 (D4 (f:=cI) rfl) rfl<|A0 (B6v rfl rfl hn) rfl<|qm rfl<|es (ra6 rfl rfl rfl rfl rfl rfl)<|C4 ?_
 refine A8y (D78 (γ:=List Int × List (List Int)) (live:=[1,2,4,5,21,22]) (body:=A3r a0 n) (fun x=>[(1,.ptr (H.length + 0) 0),(2,.seq 1 (x.2.2.map cI)),(4,.ptr (H.length + 2) 0),(5,.b x.2.1),(21,.i n),(22,.i x.1)]) (fun g x=>H++lB a0 (.seq 1 (g.1.map cI)) (tlB g.2))
  (fun r e s' H'=>e = .exit 0∧s' = [(2,.seq 1 (r.map cI))]∧∃ l',H' = H++l') (fun _=>rfl) (by decide) ?_ ho (a0.Bill,[])) ?_
 ·intro g x o' hb
  unfold A3r at hb
  refine s0<|A0 (F7 rfl rfl) rfl<|es (ra7 rfl rfl rfl rfl rfl rfl rfl)<|B6<|wi hb rfl (fun hc hb=>?_) fun hc hb=>?_
  ·refine oB hb fun l hl hb=>oB hb fun skip hsk hb=>?_
   refine C0<|B6<|C4<|s0<|qm rfl<|qm rfl<|es (ra7 rfl rfl rfl rfl rfl rfl rfl)<|s0<|qm rfl<|B3 (rs:=[.seq 1 (l.map cI)]) rfl rfl (A1 rfl B5) ((C60 hl).frz)<|qm rfl<|es (ra8 rfl rfl rfl rfl rfl rfl rfl rfl)<|B6<|s0<|qm rfl<|qm rfl ?_
   refine gp 19 47 (.b skip) 28 rfl rfl (fun hg1=>?_) (fun hg1=>?_) ?_
   ·unfold A21 at hsk
    rw [if_pos hg1] at hsk
    refine gT rfl hg1<|qm rfl<|gT rfl hg1<|A0 (D4 (f:=cI) rfl) rfl<|gT rfl hg1<|qm rfl<|gT rfl hg1<|A0 (D4 (f:=cI) rfl) rfl<|gT rfl hg1<|A0 (W7 rfl rfl) rfl<|gT rfl hg1<|qm rfl ?_
    cases h2:decide ((l.length:Int) > (x.2.2.length:Int)) with
    | true =>
     rw [if_pos h2] at hsk
     cases hsk
     exact nF rfl rfl rfl<|nF rfl rfl rfl<|nF rfl rfl rfl<|nF rfl rfl rfl<|nF rfl rfl rfl<|nF rfl rfl rfl<|gV rfl rfl<|gV rfl rfl<|gU rfl rfl<|gV rfl rfl<|nF rfl rfl rfl<|gT rfl hg1<|A0 (C7 rfl rfl rfl) rfl<|A0 (C7 rfl hg1 rfl) rfl<|ge 19 rfl rfl rfl
    | false =>
     rw [if_neg (by rw [h2]; decide)] at hsk
     refine gF rfl rfl<|qm rfl<|gF rfl rfl<|A0 (D4 (f:=cI) rfl) rfl<|gF rfl rfl<|qm rfl<|gF rfl rfl<|A0 (D4 (f:=cI) rfl) rfl<|gF rfl rfl<|A0 (F4 rfl rfl) rfl<|gF rfl rfl<|qm rfl ?_
     cases h3:((l.length:Int) == (x.2.2.length:Int)) with
     | true =>
      rw [if_pos h3] at hsk
      refine oB hsk fun z hz hsk=>?_
      cases hsk
      exact gT rfl rfl<|qm rfl<|gT rfl rfl<|qm rfl<|gT rfl rfl<|B3 (rs:=[.i z]) rfl rfl (A1 rfl (A1 rfl B5)) ((A9x hz).frz)<|gT rfl rfl<|A0 (W7 rfl rfl) rfl<|gF rfl rfl<|A0 (C7 rfl rfl rfl) rfl<|gT rfl hg1<|A0 (C8 rfl rfl rfl) rfl<|A0 (C7 rfl hg1 rfl) rfl<|ge 19 rfl rfl rfl
     | false =>
      rw [if_neg (by rw [h3]; decide)] at hsk
      cases hsk
      exact nT rfl rfl rfl<|nT rfl rfl rfl<|gN rfl rfl rfl<|nT rfl rfl rfl<|gF rfl rfl<|A0 (C8 rfl rfl rfl) rfl<|gT rfl hg1<|A0 (C8 rfl rfl rfl) rfl<|A0 (C7 rfl hg1 rfl) rfl<|ge 19 rfl rfl rfl
   ·unfold A21 at hsk
    rw [if_neg (by rw [hg1]; decide)] at hsk
    cases hsk
    exact nT rfl hg1 rfl<|nT rfl hg1 rfl<|nT rfl hg1 rfl<|nT rfl hg1 rfl<|nT rfl hg1 rfl<|nT rfl hg1 rfl<|gV rfl rfl<|gV rfl rfl<|gV rfl rfl<|gV rfl rfl<|gV rfl rfl<|gV rfl rfl<|gV rfl rfl<|gV rfl rfl<|gU rfl rfl<|gV rfl rfl<|gV rfl rfl<|nT rfl hg1 rfl<|A0 (C8 rfl hg1 rfl) rfl<|ge 19 rfl rfl rfl
   refine es (ra9 rfl rfl rfl rfl rfl rfl rfl rfl rfl)<|wi hb rfl (fun hc2 hb=>?_) fun hc2 hb=>?_
   ·refine E6<|r0<|A0 (E1 rfl rfl) rfl<|qm rfl<|en (ra6 rfl rfl rfl rfl rfl rfl) ?_
    cases hb
    exact ⟨rfl,su6 rfl rfl rfl rfl rfl rfl,g,rfl⟩
   refine oB hb fun b hb2 hb=>oB hb fun k hk hb=>?_
   refine C0<|sg ((tlB g.2).length + 3) rfl<|qm rfl<|A0 (S3 rfl rfl) rfl<|A0 (C5 rfl) rfl<|A0 (C5 rfl) rfl<|F5 (D62 (cs:=B2z a0 (.seq 1 (g.1.map cI))) (ds:=B2z a0 (.asl (H.length + ((tlB g.2).length + 3 + 0)) 0)) rfl rfl rfl (A7g (Nat.le_add_right _ _)) rfl) rfl<|es (ra8 rfl rfl rfl rfl rfl rfl rfl rfl) ?_
   have e1:((lB a0 (.seq 1 (g.1.map cI)) (tlB g.2)++List.replicate 1 AO.dead).set ((tlB g.2).length + 3 + 0) (.arr 1 false [])).set 2 (.cells (B2z a0 (.asl (H.length + ((tlB g.2).length + 3 + 0)) 0))) = lB a0 (.asl (H.length + ((tlB g.2).length + 3)) 0) (tlB g.2++[arB false []]):= by
    show (AO.cells _ :: AO.cells _ :: AO.cells _ :: ((tlB g.2++[AO.dead]).set (tlB g.2).length (.arr 1 false []))) = _
    rw [C8l _ _ _ rfl]; rfl
   rw [e1]
   have hlN:∀v q,(lB a0 v (tlB g.2++[q])).length = (tlB g.2).length + 4:=fun v q=>by simp [lB]
   have hget:∀v q,(lB a0 v (tlB g.2++[q]))[(tlB g.2).length + 3]? = some q:=fun v q=>D6g (tlB g.2) q rfl
   have hset:∀v q q',(lB a0 v (tlB g.2++[q])).set ((tlB g.2).length + 3) q' = lB a0 v (tlB g.2++[q']):=fun v q q'=>by
    show (AO.cells _ :: AO.cells _ :: AO.cells _ :: ((tlB g.2++[q]).set (tlB g.2).length q')) = _
    rw [C8l _ _ _ rfl]; rfl
   refine B6<|s0<|A0 (C5 rfl) rfl<|A0 (C2 rfl rfl rfl) rfl<|A0 (D4 (f:=cI) rfl) rfl<|qm rfl<|es (ra11 rfl rfl rfl rfl rfl rfl rfl rfl rfl rfl rfl)<|C4<|wl (fun y=>[(1,.ptr (H.length + 0) 0),(2,.seq 1 (x.2.2.map cI)),(4,.ptr (H.length + 2) 0),(5,.b x.2.1),(6,.i x.1),(7,.seq 1 (l.map cI)),(21,.i n),(22,.i x.1),(53,.seq 1 (a0.Bill.map cI)),(54,.i (List.length a0.Bill:Int)),(55,.i y.1)]) (fun (q2:Unit) y=>lB a0 (.asl (H.length + ((tlB g.2).length + 3)) y.2.length) (tlB g.2++[arB false y.2])) ((tlB g.2).length + 4) (fun r e s' H'=>PX 2 [(1,.ptr (H.length + 0) 0),(2,.seq 1 (x.2.2.map cI)),(4,.ptr (H.length + 2) 0),(5,.b x.2.1),(7,.seq 1 (l.map cI)),(21,.i n),(22,.i x.1)] (H++lB a0 (.asl (H.length + ((tlB g.2).length + 3)) r.length) (tlB g.2++[arB false r])) e s' H') () hb2 rfl rfl (fun _ _=>hlN _ _) (fun _=>rfl) rfl (fun y=>(bdc (D8 rfl) (bdc G2 (bdc (D8 rfl) (bdc A5 (bdc A5 (bdc G2 (bdc A5 (bdc A5 (bdc G2 (bdc A5 (bdc A5 bdn)))))))))))) (fun q2 y o' hy=>?_) ?_
   ·unfold A16 at hy
    refine s0<|A0 (F7 rfl rfl) rfl<|es (ra12 rfl rfl rfl rfl rfl rfl rfl rfl rfl rfl rfl rfl)<|B6<|wi hy rfl (fun hc3 hy=>?_) fun hc3 hy=>?_
    ·refine oB hy fun z hz hy=>oB hy fun q hq hy=>?_
     refine C0<|B6<|C4<|s0<|qm rfl<|A0 (E2 (f:=cI) rfl rfl hz) rfl<|A0 (E4 rfl rfl) rfl<|qm rfl<|qm rfl<|es (ra13 rfl rfl rfl rfl rfl rfl rfl rfl rfl rfl rfl rfl rfl)<|s0<|qm rfl<|qm rfl<|A0 (B08 rfl rfl hq) rfl<|A0 (H7 (v:=(.i (B48 q 1))) rfl rfl rfl) rfl<|A0 (F4 rfl rfl) rfl<|es (ra13 rfl rfl rfl rfl rfl rfl rfl rfl rfl rfl rfl rfl rfl)<|wi hy rfl (fun hc4 hy=>?_) fun hc4 hy=>?_
     ·refine oB hy fun w hw hy=>?_
      refine r0<|qm rfl<|qm rfl<|A0 (S3 rfl rfl) rfl<|A0 (C5 rfl) rfl<|A0 (C5 rfl) rfl<|A0 (C2 rfl rfl rfl) rfl<|qm rfl<|A0 (J5 (rows:=[[.i z]]) rfl rfl rfl) rfl<|A7p (A4i (f:=cI) (d:=y.2) (m:=[z]) rfl rfl (hget _ _) rfl A1s (fun _=>rfl) hw) rfl<|A0 (S3 rfl rfl) rfl<|A0 (C5 rfl) rfl<|A0 (C5 rfl) rfl ?_
      rw [hset]
      refine F5 (D1 (ds:=B2z a0 (.asl (H.length + ((tlB g.2).length + 3)) w.length)) rfl rfl rfl rfl (D9i ?_ ?_) rfl) rfl<|en (ra11 rfl rfl rfl rfl rfl rfl rfl rfl rfl rfl rfl)<|r0<|A0 (E1 rfl rfl) rfl<|qm rfl<|en (ra11 rfl rfl rfl rfl rfl rfl rfl rfl rfl rfl rfl) ?_
      ·simp only [AV.bd]; exact Nat.ble_eq_true_of_le (by omega)
      ·exact E3g (Nat.le_add_right _ _) (E1a hscv)
      cases hy
      exact lnT () (List.take_of_length_le (Nat.le_of_eq (hlN _ _))) (su11 rfl rfl rfl rfl rfl rfl rfl rfl rfl rfl rfl)
     ·refine C0<|r0<|A0 (E1 rfl rfl) rfl<|qm rfl<|en (ra11 rfl rfl rfl rfl rfl rfl rfl rfl rfl rfl rfl) ?_
      cases hy
      exact lnT () (List.take_of_length_le (Nat.le_of_eq (hlN _ _))) (su11 rfl rfl rfl rfl rfl rfl rfl rfl rfl rfl rfl)
    ·refine E6 ?_
     obtain rfl:=os hy
     exact lx rfl px (su7 rfl rfl rfl rfl rfl rfl rfl)
   rintro e s' H' - ⟨rfl,rfl,rfl⟩
   have hfz:A07 (H++lB a0 (.asl (H.length + ((tlB g.2).length + 3)) b.length) (tlB g.2++[arB false b])) (B2z a0 (.asl (H.length + ((tlB g.2).length + 3)) b.length)) = some (B2z a0 (.seq 1 (b.map cI)),H++lB a0 (.asl (H.length + ((tlB g.2).length + 3)) b.length) (tlB g.2++[arB true b])):= by
    have h1:frv (H++lB a0 (.asl (H.length + ((tlB g.2).length + 3)) b.length) (tlB g.2++[arB false b])) (.asl (H.length + ((tlB g.2).length + 3)) b.length) = some (.seq 1 (b.map cI),H++lB a0 (.asl (H.length + ((tlB g.2).length + 3)) b.length) (tlB g.2++[arB true b])):= by
     have:=B24 (H0:=H) (l:=lB a0 (.asl (H.length + ((tlB g.2).length + 3)) b.length) (tlB g.2++[arB false b])) (hget _ (arB false b)) (List.length_map (cI))
     rw [hset] at this
     exact this
    exact fvc rfl<|fvc rfl<|fvc rfl<|fvc rfl<|fvc rfl<|fvc rfl<|fvc h1<|fvc rfl rfl
   have e2:(lB a0 (.asl (H.length + ((tlB g.2).length + 3)) b.length) (tlB g.2++[arB true b])).set 2 (.cells (B2z a0 (.seq 1 (b.map cI)))) = lB a0 (.seq 1 (b.map cI)) (tlB (g.2++[b])):= by
    show (AO.cells _ :: AO.cells _ :: AO.cells _ :: (tlB g.2++[arB true b])) = _
    unfold lB tlB
    rw [List.map_append]; rfl
   refine B6<|E0l (D9s rfl rfl hfz rfl) ?_
   rw [e2]
   have hcan:E8 tab ⟨H.length,c.cur :: c.outer⟩ (H++lB a0 (.seq 1 (b.map cI)) (tlB (g.2++[b]))) (.fn (.func 97) [] []) [.ptr (H.length + 2) 0] [.b k]:=B60 (a0:=⟨X4 a0 b⟩) (b0:=H.length + 2) (A4k hscv) (D8j hcl (E2s a0 b _)) (E0 (l:=lB a0 (.seq 1 (b.map cI)) (tlB (g.2++[b]))) rfl) hk
   refine r0<|qm rfl<|B3 (rs:=[.b k]) rfl rfl (A1 rfl B5) (hcan.frz)<|es (ra8 rfl rfl rfl rfl rfl rfl rfl rfl) ?_
   cases k with
   | true =>
    refine L4 rfl rfl<|r0<|qm rfl<|qm rfl<|qm rfl<|en (ra6 rfl rfl rfl rfl rfl rfl)<|r0<|A0 (E1 rfl rfl) rfl<|qm rfl<|en (ra6 rfl rfl rfl rfl rfl rfl) ?_
    cases hb
    exact ⟨rfl,su6 rfl rfl rfl rfl rfl rfl,(b,g.2++[b]),rfl⟩
   | false =>
    refine A3b rfl rfl<|C0<|r0<|A0 (E1 rfl rfl) rfl<|qm rfl<|en (ra6 rfl rfl rfl rfl rfl rfl) ?_
    cases hb
    exact ⟨rfl,su6 rfl rfl rfl rfl rfl rfl,(b,g.2++[b]),rfl⟩
  ·refine E6 ?_
   cases hb
   exact ⟨rfl,_,su1 rfl,rfl,rfl,_,rfl⟩
 ·intro e s' H' q
  obtain ⟨_,rfl,rfl,l',rfl⟩:=q
  cases h
  refine s0<|qm rfl<|qm rfl<|qm rfl<|es (ra2 rfl rfl)<|C6 ?_
  exact retq trivial (A9 rfl (A9 rfl B8)) (A4 rfl (A4 rfl B7)) (A2 G2 (A2 A5 B1))
theorem A6i {c:Sc} {H:A7} (hscv:Z3 c H = true) {a0:RoHouse} {r:((List Int) × Int)} (h:A01 a0 = some r) :
  E8 tab c H (.fn (.func 36) [] []) [(.agg (A3 a0))] [(.seq 1 (List.map cI r.1)),.i r.2]:=B21 B38 (B9s (c:=⟨0,[]⟩) (H:=[]) rfl rfl h) (by simp [freeL,AV.free,L2]) (by simp [freeL,AV.free,J8,cI]) hscv
end Rm
end
section
set_option maxRecDepth 100000
set_option maxHeartbeats 0
namespace Rm
open Go Am Go.Proofs.YtbheamjhjgoccaaDoor.Cd
def J7 :Option Bool :=
 (A3d [3]).bind fun x1 =>
 (A3d ([]:List Int)).bind fun x2 =>
 (V4 x1 1 1).bind fun x3 =>
 (U1 x1 0 1 1).bind fun x4 =>
 (U1 x1 2 1 1).bind fun x5 =>
 (A15 x1).bind fun x6 =>
 (A3e 1 [1,(-1),2]).bind fun x7 =>
 (A5r x1 x7).bind fun x8 =>
 (A3e 1 [1,0,2]).bind fun x9 =>
 (A3u x1 x9).bind fun x10 =>
 (A3d [1,3]).bind fun x11 =>
 (A01 x11).bind fun x12 =>
 (A3w x1).bind fun x13 =>
 (A3w x2).bind fun x14 =>
 (A2p x1 0).bind fun x15 =>
 (A3v x1 x6.1).bind fun x16 =>
 (if (((((((((((x3.2 == 0) && (x4.2 == 0)) && (x5.2 == 0)) && (x6.2.2 == 0)) && (x8.2 == 9)) && (x10.2 == 0)) && (x12.2 == 0)) && (x13.2 == 0)) && (x14.2 == 0)) && (x15.2 == 0)) && (x16.2.2 == 0)) = true then
  (S0 45 70).bind fun x28 =>
  some ((x3.1.Lo == x28.Lo) && ((x3.1.Hi == x28.Hi) && true))
 else
  some false).bind fun x29 =>
 (if ((x29 && (x4.1 == 1)) && (x5.1 == 0)) = true then
  (A3e 1 [(-1),0,2]).bind fun x33 =>
  (A5o x6.1 x33).bind fun x34 =>
  some x34
 else
  some false).bind fun x35 =>
 (if (x35 && (x6.2.1 == 12)) = true then
  (W5 x10.1 [350,320]).bind fun x38 =>
  some x38
 else
  some false).bind fun x39 =>
 (if x39 = true then
  (W5 x12.1 [0]).bind fun x41 =>
  some x41
 else
  some false).bind fun x42 =>
 (if x42 = true then
  (W5 x13.1 [0]).bind fun x44 =>
  some x44
 else
  some false).bind fun x45 =>
 some ((((x45 && ((List.length x14.1:Int) == 0)) && (x15.1 == 1)) && (x16.1 == 1)) && (x16.2.1 == 0))
theorem J2 {c:Sc} {H:A7} (hscv:Z3 c H = true)  {r:Bool} (h:J7  = some r) :
  E8 tab c H (.fn (.func 23) [] []) [] [.b r]:= by
 unfold J7 at h
 refine cE rfl rfl<|s0<|qm rfl<|es .n<|sg 0 rfl<|oB h fun x1 hx1 h=>oB h fun x2 hx2 h=>A0 (J5 (rows:=List.map cI [3]) rfl rfl (F1 (fun _=>rfl) _)) rfl<|B3 (rs:=[(.agg (A3 x1))]) rfl rfl (A1 rfl B5) ((A3g hx1).frz)<|B3 (rs:=[(.agg (A3 x2))]) rfl rfl (A1 rfl B5) ((A3g hx2).frz)<|A0 D7 rfl<|A0 D7 rfl<|F5 (D1 (ds:=(A3 x1)) rfl rfl rfl rfl (C1 rfl) rfl) rfl<|F5 (D1 (ds:=(A3 x2)) rfl rfl rfl rfl (C1 rfl) rfl) rfl<|es (ra2 rfl rfl)<|sg 2 rfl<|oB h fun x3 hx3 h=>A0 (B9 rfl rfl rfl) rfl<|B3 (rs:=[(.agg (D5 x3.1)),.i x3.2]) rfl rfl (A1 (C9 rfl) (A1 rfl (A1 rfl B5))) ((A3i hx3).frz)<|qm rfl<|A0 (A6 rfl rfl) rfl<|A0 (A6 rfl rfl) rfl<|A0 D7 rfl<|F5 (D1 (ds:=(D5 x3.1)) rfl rfl rfl rfl (C1 rfl) rfl) rfl<|qm rfl<|es (ra4 rfl rfl rfl rfl)<|s0<|oB h fun x4 hx4 h=>A0 (B9 rfl rfl rfl) rfl<|B3 (rs:=[.i x4.1,.i x4.2]) rfl rfl (A1 (C9 rfl) (A1 rfl (A1 rfl (A1 rfl B5)))) ((A2k hx4).frz)<|qm rfl<|A0 (A6 rfl rfl) rfl<|A0 (A6 rfl rfl) rfl<|qm rfl<|qm rfl<|es (ra6 rfl rfl rfl rfl rfl rfl)<|s0<|oB h fun x5 hx5 h=>A0 (B9 rfl rfl rfl) rfl<|B3 (rs:=[.i x5.1,.i x5.2]) rfl rfl (A1 (C9 rfl) (A1 rfl (A1 rfl (A1 rfl B5)))) ((A2k hx5).frz)<|qm rfl<|A0 (A6 rfl rfl) rfl<|A0 (A6 rfl rfl) rfl<|qm rfl<|qm rfl<|es (ra8 rfl rfl rfl rfl rfl rfl rfl rfl)<|sg 3 rfl<|oB h fun x6 hx6 h=>A0 (B9 rfl rfl rfl) rfl<|B3 (rs:=[(.agg (B2 x6.1)),.i x6.2.1,.i x6.2.2]) rfl rfl (A1 (C9 rfl) B5) (A36 (A4k hscv) hx6)<|qm rfl<|A0 (A6 rfl rfl) rfl<|A0 (A6 rfl rfl) rfl<|A0 (A6 rfl rfl) rfl<|A0 D7 rfl<|F5 (D1 (ds:=(B2 x6.1)) rfl rfl rfl rfl (C1 rfl) rfl) rfl<|qm rfl<|qm rfl<|es (ra11 rfl rfl rfl rfl rfl rfl rfl rfl rfl rfl rfl)<|s0<|oB h fun x7 hx7 h=>?_
 refine oB h fun x8 hx8 h=>A0 (B9 rfl rfl rfl) rfl<|A0 (J5 (rows:=List.map cI [1,(-1),2]) rfl rfl (F1 (fun _=>rfl) _)) rfl<|X1 (rs:=[(.agg (B2 x7))]) rfl rfl (K8 rfl (K8 rfl A26)) (A1 rfl (A1 rfl B5)) ((A2w hx7).frz)<|B3 (rs:=[.i x8.1,.i x8.2]) rfl rfl (A1 (C9 rfl) (A1 (C9 rfl) B5)) ((B0o hx8).frz)<|qm rfl<|A0 (A6 rfl rfl) rfl<|A0 (A6 rfl rfl) rfl<|qm rfl<|qm rfl<|es (ra12 rfl rfl rfl rfl rfl rfl rfl rfl rfl rfl rfl rfl)<|s0<|oB h fun x9 hx9 h=>oB h fun x10 hx10 h=>A0 (B9 rfl rfl rfl) rfl<|A0 (J5 (rows:=List.map cI [1,0,2]) rfl rfl (F1 (fun _=>rfl) _)) rfl<|X1 (rs:=[(.agg (B2 x9))]) rfl rfl (K8 rfl (K8 rfl A26)) (A1 rfl (A1 rfl B5)) ((A2w hx9).frz)<|B3 (rs:=[(.seq 1 (List.map cI x10.1)),.i x10.2]) rfl rfl (A1 (C9 rfl) (A1 (C9 rfl) B5)) ((A7i hx10).frz)<|qm rfl<|A0 (A6 rfl rfl) rfl<|A0 (A6 rfl rfl) rfl<|qm rfl<|qm rfl<|es (ra14 rfl rfl rfl rfl rfl rfl rfl rfl rfl rfl rfl rfl rfl rfl)<|s0<|oB h fun x11 hx11 h=>oB h fun x12 hx12 h=>A0 (J5 (rows:=List.map cI [1,3]) rfl rfl (F1 (fun _=>rfl) _)) rfl<|B3 (rs:=[(.agg (A3 x11))]) rfl rfl (A1 rfl B5) ((A3g hx11).frz)<|B3 (rs:=[(.seq 1 (List.map cI x12.1)),.i x12.2]) rfl rfl (A1 (C9 rfl) B5) ((A6i (A4k hscv) hx12).frz)<|qm rfl<|A0 (A6 rfl rfl) rfl<|A0 (A6 rfl rfl) rfl<|qm rfl<|qm rfl<|es (.k rfl (.k rfl (.k rfl (.k rfl (.k rfl (.k rfl (.k rfl (.k rfl (.k rfl (.k rfl (.k rfl (.k rfl (.k rfl (.k rfl (.k rfl (.k rfl .n))))))))))))))))<|s0<|oB h fun x13 hx13 h=>A0 (B9 rfl rfl rfl) rfl<|B3 (rs:=[(.seq 1 (List.map cI x13.1)),.i x13.2]) rfl rfl (A1 (C9 rfl) B5) ((B0n (A4k hscv) hx13).frz)<|qm rfl<|A0 (A6 rfl rfl) rfl<|A0 (A6 rfl rfl) rfl<|qm rfl<|qm rfl<|es (.k rfl (.k rfl (.k rfl (.k rfl (.k rfl (.k rfl (.k rfl (.k rfl (.k rfl (.k rfl (.k rfl (.k rfl (.k rfl (.k rfl (.k rfl (.k rfl (.k rfl (.k rfl .n))))))))))))))))))<|s0<|oB h fun x14 hx14 h=>A0 (B9 rfl rfl rfl) rfl<|B3 (rs:=[(.seq 1 (List.map cI x14.1)),.i x14.2]) rfl rfl (A1 (C9 rfl) B5) ((B0n (A4k hscv) hx14).frz)<|qm rfl<|A0 (A6 rfl rfl) rfl<|A0 (A6 rfl rfl) rfl<|qm rfl<|qm rfl<|es (.k rfl (.k rfl (.k rfl (.k rfl (.k rfl (.k rfl (.k rfl (.k rfl (.k rfl (.k rfl (.k rfl (.k rfl (.k rfl (.k rfl (.k rfl (.k rfl (.k rfl (.k rfl (.k rfl .n)))))))))))))))))))<|s0<|oB h fun x15 hx15 h=>A0 (B9 rfl rfl rfl) rfl<|B3 (rs:=[.i x15.1,.i x15.2]) rfl rfl (A1 (C9 rfl) (A1 rfl B5)) ((A4u hx15).frz)<|qm rfl ?_
 refine A0 (A6 rfl rfl) rfl<|A0 (A6 rfl rfl) rfl<|qm rfl<|qm rfl<|es (.k rfl (.k rfl (.k rfl (.k rfl (.k rfl (.k rfl (.k rfl (.k rfl (.k rfl (.k rfl (.k rfl (.k rfl (.k rfl (.k rfl (.k rfl (.k rfl (.k rfl (.k rfl (.k rfl (.k rfl (.k rfl .n)))))))))))))))))))))<|s0<|oB h fun x16 hx16 h=>A0 (B9 rfl rfl rfl) rfl<|A0 (B9 rfl rfl rfl) rfl<|B3 (rs:=[.i x16.1,.i x16.2.1,.i x16.2.2]) rfl rfl (A1 (C9 rfl) (A1 (C9 rfl) B5)) ((A9f hx16).frz)<|qm rfl<|A0 (A6 rfl rfl) rfl<|A0 (A6 rfl rfl) rfl<|A0 (A6 rfl rfl) rfl<|qm rfl<|qm rfl<|qm rfl<|es (.k rfl (.k rfl (.k rfl (.k rfl (.k rfl (.k rfl (.k rfl (.k rfl (.k rfl (.k rfl (.k rfl (.k rfl (.k rfl (.k rfl (.k rfl (.k rfl (.k rfl (.k rfl (.k rfl (.k rfl (.k rfl (.k rfl (.k rfl .n)))))))))))))))))))))))<|s0<|oB h fun x29 hx29 h=>oB h fun x35 hx35 h=>oB h fun x39 hx39 h=>oB h fun x42 hx42 h=>oB h fun x45 hx45 h=>qm rfl<|A0 (F4 rfl rfl) rfl<|qm rfl<|gp 3 98 (.b ((x3.2 == 0) && (x4.2 == 0))) 95 rfl rfl (fun hg17=>?_) (fun hg17=>?_) ?_
 ·exact gT rfl hg17<|qm rfl<|gT rfl hg17<|A0 (F4 rfl rfl) rfl<|A0 (C7 rfl hg17 rfl) rfl<|ge 3 (by rw [hg17]; rfl) rfl rfl
 ·exact nT rfl hg17 rfl<|nT rfl hg17 rfl<|A0 (C8 rfl hg17 rfl) rfl<|ge 3 (by rw [hg17]; rfl) rfl rfl
 refine qm rfl<|gp 3 102 (.b (((x3.2 == 0) && (x4.2 == 0)) && (x5.2 == 0))) 99 rfl rfl (fun hg18=>?_) (fun hg18=>?_) ?_
 ·exact gT rfl hg18<|qm rfl<|gT rfl hg18<|A0 (F4 rfl rfl) rfl<|A0 (C7 rfl hg18 rfl) rfl<|ge 3 (by rw [hg18]; rfl) rfl rfl
 ·exact nT rfl hg18 rfl<|nT rfl hg18 rfl<|A0 (C8 rfl hg18 rfl) rfl<|ge 3 (by rw [hg18]; rfl) rfl rfl
 refine qm rfl<|gp 3 106 (.b ((((x3.2 == 0) && (x4.2 == 0)) && (x5.2 == 0)) && (x6.2.2 == 0))) 103 rfl rfl (fun hg19=>?_) (fun hg19=>?_) ?_
 ·exact gT rfl hg19<|qm rfl<|gT rfl hg19<|A0 (F4 rfl rfl) rfl<|A0 (C7 rfl hg19 rfl) rfl<|ge 3 (by rw [hg19]; rfl) rfl rfl
 ·exact nT rfl hg19 rfl<|nT rfl hg19 rfl<|A0 (C8 rfl hg19 rfl) rfl<|ge 3 (by rw [hg19]; rfl) rfl rfl
 refine qm rfl<|gp 3 110 (.b (((((x3.2 == 0) && (x4.2 == 0)) && (x5.2 == 0)) && (x6.2.2 == 0)) && (x8.2 == 9))) 107 rfl rfl (fun hg20=>?_) (fun hg20=>?_) ?_
 ·exact gT rfl hg20<|qm rfl<|gT rfl hg20<|A0 (F4 rfl rfl) rfl<|A0 (C7 rfl hg20 rfl) rfl<|ge 3 (by rw [hg20]; rfl) rfl rfl
 ·exact nT rfl hg20 rfl<|nT rfl hg20 rfl<|A0 (C8 rfl hg20 rfl) rfl<|ge 3 (by rw [hg20]; rfl) rfl rfl
 refine qm rfl<|gp 3 114 (.b ((((((x3.2 == 0) && (x4.2 == 0)) && (x5.2 == 0)) && (x6.2.2 == 0)) && (x8.2 == 9)) && (x10.2 == 0))) 111 rfl rfl (fun hg21=>?_) (fun hg21=>?_) ?_
 ·exact gT rfl hg21<|qm rfl<|gT rfl hg21<|A0 (F4 rfl rfl) rfl<|A0 (C7 rfl hg21 rfl) rfl<|ge 3 (by rw [hg21]; rfl) rfl rfl
 ·exact nT rfl hg21 rfl<|nT rfl hg21 rfl<|A0 (C8 rfl hg21 rfl) rfl<|ge 3 (by rw [hg21]; rfl) rfl rfl
 refine qm rfl<|gp 3 118 (.b (((((((x3.2 == 0) && (x4.2 == 0)) && (x5.2 == 0)) && (x6.2.2 == 0)) && (x8.2 == 9)) && (x10.2 == 0)) && (x12.2 == 0))) 115 rfl rfl (fun hg22=>?_) (fun hg22=>?_) ?_
 ·exact gT rfl hg22<|qm rfl<|gT rfl hg22<|A0 (F4 rfl rfl) rfl<|A0 (C7 rfl hg22 rfl) rfl<|ge 3 (by rw [hg22]; rfl) rfl rfl
 ·exact nT rfl hg22 rfl<|nT rfl hg22 rfl<|A0 (C8 rfl hg22 rfl) rfl<|ge 3 (by rw [hg22]; rfl) rfl rfl
 refine qm rfl<|gp 3 122 (.b ((((((((x3.2 == 0) && (x4.2 == 0)) && (x5.2 == 0)) && (x6.2.2 == 0)) && (x8.2 == 9)) && (x10.2 == 0)) && (x12.2 == 0)) && (x13.2 == 0))) 119 rfl rfl (fun hg23=>?_) (fun hg23=>?_) ?_
 ·exact gT rfl hg23<|qm rfl<|gT rfl hg23<|A0 (F4 rfl rfl) rfl<|A0 (C7 rfl hg23 rfl) rfl<|ge 3 (by rw [hg23]; rfl) rfl rfl
 ·exact nT rfl hg23 rfl<|nT rfl hg23 rfl<|A0 (C8 rfl hg23 rfl) rfl<|ge 3 (by rw [hg23]; rfl) rfl rfl
 refine qm rfl<|gp 3 126 (.b (((((((((x3.2 == 0) && (x4.2 == 0)) && (x5.2 == 0)) && (x6.2.2 == 0)) && (x8.2 == 9)) && (x10.2 == 0)) && (x12.2 == 0)) && (x13.2 == 0)) && (x14.2 == 0))) 123 rfl rfl (fun hg24=>?_) (fun hg24=>?_) ?_
 ·exact gT rfl hg24<|qm rfl<|gT rfl hg24<|A0 (F4 rfl rfl) rfl<|A0 (C7 rfl hg24 rfl) rfl<|ge 3 (by rw [hg24]; rfl) rfl rfl
 ·exact nT rfl hg24 rfl<|nT rfl hg24 rfl<|A0 (C8 rfl hg24 rfl) rfl<|ge 3 (by rw [hg24]; rfl) rfl rfl
 refine qm rfl<|gp 3 130 (.b ((((((((((x3.2 == 0) && (x4.2 == 0)) && (x5.2 == 0)) && (x6.2.2 == 0)) && (x8.2 == 9)) && (x10.2 == 0)) && (x12.2 == 0)) && (x13.2 == 0)) && (x14.2 == 0)) && (x15.2 == 0))) 127 rfl rfl (fun hg25=>?_) (fun hg25=>?_) ?_
 ·exact gT rfl hg25<|qm rfl<|gT rfl hg25<|A0 (F4 rfl rfl) rfl<|A0 (C7 rfl hg25 rfl) rfl<|ge 3 (by rw [hg25]; rfl) rfl rfl
 ·exact nT rfl hg25 rfl<|nT rfl hg25 rfl<|A0 (C8 rfl hg25 rfl) rfl<|ge 3 (by rw [hg25]; rfl) rfl rfl
 refine qm rfl<|gp 3 134 (.b (((((((((((x3.2 == 0) && (x4.2 == 0)) && (x5.2 == 0)) && (x6.2.2 == 0)) && (x8.2 == 9)) && (x10.2 == 0)) && (x12.2 == 0)) && (x13.2 == 0)) && (x14.2 == 0)) && (x15.2 == 0)) && (x16.2.2 == 0))) 131 rfl rfl (fun hg26=>?_) (fun hg26=>?_) ?_
 ·exact gT rfl hg26<|qm rfl<|gT rfl hg26<|A0 (F4 rfl rfl) rfl<|A0 (C7 rfl hg26 rfl) rfl<|ge 3 (by rw [hg26]; rfl) rfl rfl
 ·exact nT rfl hg26 rfl<|nT rfl hg26 rfl<|A0 (C8 rfl hg26 rfl) rfl<|ge 3 (by rw [hg26]; rfl) rfl rfl
 refine qm rfl<|gp 4 139 (.b x29) 135 rfl rfl (fun hg27=>?_) (fun hg27=>?_) ?_
 ·refine oB (bt hx29 hg27) fun x28 hx28 hx29=>?_
  obtain rfl:=os hx29
  exact gT rfl hg27<|A0 (B9 rfl rfl rfl) rfl<|gT rfl hg27<|X1 (rs:=[(.agg (D5 x28))]) rfl rfl (K8 rfl (K8 rfl A26)) (A1 rfl (A1 rfl B5)) ((Q0 hx28).frz)<|gT rfl hg27<|A0 (C6v (a:=D5 x3.1) (b:=D5 x28) rfl rfl rfl rfl (A29 (A29 B58))) rfl<|A0 (C7 rfl hg27 rfl) rfl<|ge 4 rfl rfl rfl
 ·obtain rfl:=os (bf hx29 hg27)
  exact nT rfl hg27 rfl<|nT rfl hg27 rfl<|nT rfl hg27 rfl<|A0 (C8 rfl hg27 rfl) rfl<|ge 4 rfl rfl rfl
 refine qm rfl<|gp 3 143 (.b (x29 && (x4.1 == 1))) 140 rfl rfl (fun hg30=>?_) (fun hg30=>?_) ?_
 ·exact gT rfl hg30<|qm rfl<|gT rfl hg30<|A0 (F4 rfl rfl) rfl<|A0 (C7 rfl hg30 rfl) rfl<|ge 3 (by rw [hg30]; rfl) rfl rfl
 ·exact nT rfl hg30 rfl<|nT rfl hg30 rfl<|A0 (C8 rfl hg30 rfl) rfl<|ge 3 (by rw [hg30]; rfl) rfl rfl
 refine qm rfl<|gp 3 147 (.b ((x29 && (x4.1 == 1)) && (x5.1 == 0))) 144 rfl rfl (fun hg31=>?_) (fun hg31=>?_) ?_
 ·exact gT rfl hg31<|qm rfl<|gT rfl hg31<|A0 (F4 rfl rfl) rfl<|A0 (C7 rfl hg31 rfl) rfl<|ge 3 (by rw [hg31]; rfl) rfl rfl
 ·exact nT rfl hg31 rfl<|nT rfl hg31 rfl<|A0 (C8 rfl hg31 rfl) rfl<|ge 3 (by rw [hg31]; rfl) rfl rfl
 refine qm rfl<|gp 5 153 (.b x35) 148 rfl rfl (fun hg32=>?_) (fun hg32=>?_) ?_
 ·refine oB (bt hx35 hg32) fun x33 hx33 hx35=>oB hx35 fun x34 hx34 hx35=>?_
  obtain rfl:=os hx35
  exact gT rfl hg32<|A0 (B9 rfl rfl rfl) rfl<|gT rfl hg32<|A0 (J5 (rows:=List.map cI [(-1),0,2]) rfl rfl (F1 (fun _=>rfl) _)) rfl<|gT rfl hg32<|X1 (rs:=[(.agg (B2 x33))]) rfl rfl (K8 rfl (K8 rfl A26)) (A1 rfl (A1 rfl B5)) ((A2w hx33).frz)<|gT rfl hg32<|B3 (rs:=[.b x34]) rfl rfl (A1 (C9 rfl) (A1 (C9 rfl) B5)) ((B0m hx34).frz)<|A0 (C7 rfl hg32 rfl) rfl<|ge 5 rfl rfl rfl
 ·obtain rfl:=os (bf hx35 hg32)
  exact nT rfl hg32 rfl<|nT rfl hg32 rfl<|nT rfl hg32 rfl<|G3 (E3 rfl (by rw [hg32]; rfl)) rfl<|A0 (C8 rfl hg32 rfl) rfl<|ge 5 rfl rfl rfl
 refine qm rfl<|gp 3 157 (.b (x35 && (x6.2.1 == 12))) 154 rfl rfl (fun hg36=>?_) (fun hg36=>?_) ?_
 ·exact gT rfl hg36<|qm rfl<|gT rfl hg36<|A0 (F4 rfl rfl) rfl<|A0 (C7 rfl hg36 rfl) rfl<|ge 3 (by rw [hg36]; rfl) rfl rfl
 ·exact nT rfl hg36 rfl<|nT rfl hg36 rfl<|A0 (C8 rfl hg36 rfl) rfl<|ge 3 (by rw [hg36]; rfl) rfl rfl
 refine qm rfl<|gp 4 162 (.b x39) 158 rfl rfl (fun hg37=>?_) (fun hg37=>?_) ?_
 ·refine oB (bt hx39 hg37) fun x38 hx38 hx39=>?_
  obtain rfl:=os hx39
  exact gT rfl hg37<|qm rfl<|gT rfl hg37<|A0 (J5 (rows:=List.map cI [350,320]) rfl rfl (F1 (fun _=>rfl) _)) rfl<|gT rfl hg37<|B3 (rs:=[.b x38]) rfl rfl (A1 rfl (A1 rfl B5)) ((A1b hx38).frz)<|A0 (C7 rfl hg37 rfl) rfl<|ge 4 rfl rfl rfl
 ·obtain rfl:=os (bf hx39 hg37)
  exact nT rfl hg37 rfl<|nT rfl hg37 rfl<|G3 (E3 rfl (by rw [hg37]; rfl)) rfl<|A0 (C8 rfl hg37 rfl) rfl<|ge 4 rfl rfl rfl
 refine qm rfl<|gp 4 167 (.b x42) 163 rfl rfl (fun hg40=>?_) (fun hg40=>?_) ?_
 ·refine oB (bt hx42 hg40) fun x41 hx41 hx42=>?_
  obtain rfl:=os hx42
  exact gT rfl hg40<|qm rfl<|gT rfl hg40<|A0 (J5 (rows:=List.map cI [0]) rfl rfl (F1 (fun _=>rfl) _)) rfl<|gT rfl hg40<|B3 (rs:=[.b x41]) rfl rfl (A1 rfl (A1 rfl B5)) ((A1b hx41).frz)<|A0 (C7 rfl hg40 rfl) rfl<|ge 4 rfl rfl rfl
 ·obtain rfl:=os (bf hx42 hg40)
  exact nT rfl hg40 rfl<|nT rfl hg40 rfl<|G3 (E3 rfl (by rw [hg40]; rfl)) rfl<|A0 (C8 rfl hg40 rfl) rfl<|ge 4 rfl rfl rfl
 refine qm rfl<|gp 4 172 (.b x45) 168 rfl rfl (fun hg43=>?_) (fun hg43=>?_) ?_
 ·refine oB (bt hx45 hg43) fun x44 hx44 hx45=>?_
  obtain rfl:=os hx45
  exact gT rfl hg43<|qm rfl<|gT rfl hg43<|A0 (J5 (rows:=List.map cI [0]) rfl rfl (F1 (fun _=>rfl) _)) rfl<|gT rfl hg43<|B3 (rs:=[.b x44]) rfl rfl (A1 rfl (A1 rfl B5)) ((A1b hx44).frz)<|A0 (C7 rfl hg43 rfl) rfl<|ge 4 rfl rfl rfl
 ·obtain rfl:=os (bf hx45 hg43)
  exact nT rfl hg43 rfl<|nT rfl hg43 rfl<|G3 (E3 rfl (by rw [hg43]; rfl)) rfl<|A0 (C8 rfl hg43 rfl) rfl<|ge 4 rfl rfl rfl
 refine qm rfl<|gp 4 177 (.b (x45 && ((List.length x14.1:Int) == 0))) 173 rfl rfl (fun hg46=>?_) (fun hg46=>?_) ?_
 ·exact gT rfl hg46<|qm rfl<|gT rfl hg46<|A0 (D4 (f:=cI) rfl) rfl<|gT rfl hg46<|A0 (F4 rfl rfl) rfl<|A0 (C7 rfl hg46 rfl) rfl<|ge 4 (by rw [hg46]; rfl) rfl rfl
 ·exact nT rfl hg46 rfl<|nT rfl hg46 rfl<|nT rfl hg46 rfl<|A0 (C8 rfl hg46 rfl) rfl<|ge 4 (by rw [hg46]; rfl) rfl rfl
 refine qm rfl<|gp 3 181 (.b ((x45 && ((List.length x14.1:Int) == 0)) && (x15.1 == 1))) 178 rfl rfl (fun hg47=>?_) (fun hg47=>?_) ?_
 ·exact gT rfl hg47<|qm rfl<|gT rfl hg47<|A0 (F4 rfl rfl) rfl<|A0 (C7 rfl hg47 rfl) rfl<|ge 3 (by rw [hg47]; rfl) rfl rfl
 ·exact nT rfl hg47 rfl<|nT rfl hg47 rfl<|A0 (C8 rfl hg47 rfl) rfl<|ge 3 (by rw [hg47]; rfl) rfl rfl
 refine qm rfl<|gp 3 185 (.b (((x45 && ((List.length x14.1:Int) == 0)) && (x15.1 == 1)) && (x16.1 == 1))) 182 rfl rfl (fun hg48=>?_) (fun hg48=>?_) ?_
 ·exact gT rfl hg48<|qm rfl<|gT rfl hg48<|A0 (F4 rfl rfl) rfl<|A0 (C7 rfl hg48 rfl) rfl<|ge 3 (by rw [hg48]; rfl) rfl rfl
 ·exact nT rfl hg48 rfl<|nT rfl hg48 rfl<|A0 (C8 rfl hg48 rfl) rfl<|ge 3 (by rw [hg48]; rfl) rfl rfl
 refine qm rfl<|gp 3 189 (.b ((((x45 && ((List.length x14.1:Int) == 0)) && (x15.1 == 1)) && (x16.1 == 1)) && (x16.2.1 == 0))) 186 rfl rfl (fun hg49=>?_) (fun hg49=>?_) ?_
 ·exact gT rfl hg49<|qm rfl<|gT rfl hg49<|A0 (F4 rfl rfl) rfl<|A0 (C7 rfl hg49 rfl) rfl<|ge 3 (by rw [hg49]; rfl) rfl rfl
 ·exact nT rfl hg49 rfl<|nT rfl hg49 rfl<|A0 (C8 rfl hg49 rfl) rfl<|ge 3 (by rw [hg49]; rfl) rfl rfl
 refine qm rfl<|es (ra1 rfl)<|C6 ?_
 obtain rfl:=os h
 exact retq trivial (A9 rfl B8) (A4 rfl B7) (A2 A5 B1)
end Rm
end
section
set_option maxRecDepth 100000
set_option maxHeartbeats 0
namespace Rm
open Go Am
theorem P2:J7 = some true:= by decide +kernel
end Rm
end
section
set_option maxRecDepth 100000
set_option maxHeartbeats 0
namespace Rm
open Go Am Go.Proofs.YtbheamjhjgoccaaDoor.Cd
end Rm
end
section
namespace Rm
open Go Am
def I5 (w:Span) (f:RoFigure):Int:=if f.Cracks≤w.Lo∧w.Hi≤f.Slumps then 1 else if f.Cracks > w.Hi∨w.Lo > f.Slumps then 2 else 0
theorem B6b {h:RoHouse} (ok:HOk h) {f p l:Nat} (hf:f < h.Figures.length) (hp:p < h.Places.length) (hl:l < 16):O5 ⟨h⟩ (f:Int) (p:Int) (l:Int) = some (I5 (warm h p l) h.Figures[f]!):= by
 have b:=B0c ok hp l
 have g:=(ok.figure _ (G4 hf)).bears
 unfold O5
 rw [B4m ok hp hl,F3 hf]
 simp only [Option.bind_some]
 generalize warm h p l = w at b ⊢
 generalize h.Figures[f]! = r at g ⊢
 unfold I5 A6g B05
 by_cases c1:r.Cracks≤w.Lo
 ·by_cases c2:w.Hi≤r.Slumps
  ·simp [c1,c2,show ¬ (r.Cracks > w.Lo) by omega,show ¬ (r.Slumps < w.Hi) by omega]
  ·by_cases c3:w.Lo > r.Slumps
   ·simp [c2,c3,show ¬ (r.Cracks > w.Lo) by omega,show (r.Slumps < w.Hi) by omega,show ¬ (r.Slumps = w.Hi) by omega]
   ·simp [c2,c3,show ¬ (r.Cracks > w.Lo) by omega,show (r.Slumps < w.Hi) by omega,show ¬ (r.Slumps = w.Hi) by omega,show ¬ (r.Cracks > w.Hi) by omega]
 ·by_cases c2:w.Hi≤r.Slumps
  ·by_cases c3:r.Cracks > w.Hi
   ·simp [c1,c3,show (r.Cracks > w.Lo) by omega,show ¬ (r.Slumps < w.Hi) by omega,show ¬ (r.Cracks = w.Lo) by omega]
   ·simp [c1,c3,show (r.Cracks > w.Lo) by omega,show ¬ (r.Slumps < w.Hi) by omega,show ¬ (r.Cracks = w.Lo) by omega,show ¬ (w.Lo > r.Slumps) by omega]
  ·have h1:¬ (r.Cracks > r.Slumps):= by omega
   simp [c1,h1,show (r.Cracks > w.Lo) by omega,show (r.Slumps < w.Hi) by omega,show ¬ (r.Cracks = w.Lo) by omega,show ¬ (w.Lo > r.Slumps) by omega,show ¬ (r.Cracks > w.Hi) by omega]
def B1v (lo c s:Int) (i:Nat):Int:=max 0 (min (lo + i) (s + 1) - max lo c)
theorem C4l {h:RoHouse} {f:RoFigure} {p l:Int} {w:Span} (hw:A2m h p l = some w) (b:-1000≤w.Lo∧w.Lo≤w.Hi∧w.Hi≤1000) (g:-1000≤f.Cracks∧f.Cracks≤f.Slumps∧f.Slumps≤1000):M9 h f p l = some (I5 w f):= by
 unfold M9
 rw [hw]
 simp only [Option.bind_some]
 have l1:=G6 (b:=Z0 f w) (fun i=>(B1v w.Lo f.Cracks f.Slumps i,(i:Int),w.Lo + i)) (w.Hi - w.Lo + 1).toNat (r:=(B1v w.Lo f.Cracks f.Slumps (w.Hi - w.Lo + 1).toNat,((w.Hi - w.Lo + 1).toNat:Int))) (by omega) (fun i hi=>by
  unfold Z0
  simp only []
  have hc:0≤B1v w.Lo f.Cracks f.Slumps i∧B1v w.Lo f.Cracks f.Slumps i≤3000:= by unfold B1v; omega
  rw [if_pos (by rw [decide_eq_true_eq]; omega),within5]
  simp only [Option.bind_some]
  rw [D6 (n:=(i:Int) + 1) (by omega),D6 (n:=w.Lo + i + 1) (by omega),D6 (n:=B1v w.Lo f.Cracks f.Slumps i + 1) (by omega)]
  have e2:w.Lo + (i:Int) + 1 = w.Lo + ((i + 1:Nat):Int):= by omega
  rw [e2]
  cases ho:out f.Cracks f.Slumps (w.Lo + i) with
  | true =>
   have:¬ (f.Cracks≤w.Lo + i∧w.Lo + i≤f.Slumps):=fun h=>by rw [K2.mpr h] at ho; cases ho
   have e1:B1v w.Lo f.Cracks f.Slumps (i + 1) = B1v w.Lo f.Cracks f.Slumps i:= by unfold B1v; omega
   rw [e1]; rfl
  | false =>
   have:=K2.mp ho
   have e1:B1v w.Lo f.Cracks f.Slumps (i + 1) = B1v w.Lo f.Cracks f.Slumps i + 1:= by unfold B1v; omega
   rw [e1]; rfl) (by
  unfold Z0
  simp only []
  rw [if_neg (by rw [decide_eq_true_eq]; omega)])
 have l0:(B1v w.Lo f.Cracks f.Slumps 0,((0:Nat):Int),w.Lo + ((0:Nat):Int)) = (0,0,w.Lo):= by
  have:B1v w.Lo f.Cracks f.Slumps 0 = 0:= by unfold B1v; omega
  rw [this,Int.natCast_zero,Int.add_zero]
 have l1:loop (Z0 f w) (B1v w.Lo f.Cracks f.Slumps 0,((0:Nat):Int),w.Lo + ((0:Nat):Int)) = some (B1v w.Lo f.Cracks f.Slumps (w.Hi - w.Lo + 1).toNat,((w.Hi - w.Lo + 1).toNat:Int)):=l1
 rw [l0] at l1
 rw [l1]
 simp only [Option.bind_some]
 unfold I5
 have hc:B1v w.Lo f.Cracks f.Slumps (w.Hi - w.Lo + 1).toNat = max 0 (min (w.Hi + 1) (f.Slumps + 1) - max w.Lo f.Cracks):= by
  unfold B1v
  congr 3
  omega
 rw [hc]
 by_cases c1:f.Cracks≤w.Lo∧w.Hi≤f.Slumps
 ·rw [if_pos c1,if_pos (by rw [beq_iff_eq]; omega)]
 ·rw [if_neg c1,if_neg (by rw [beq_iff_eq]; omega)]
  by_cases c2:f.Cracks > w.Hi∨w.Lo > f.Slumps
  ·rw [if_pos c2,if_pos (by rw [beq_iff_eq]; omega)]
  ·rw [if_neg c2,if_neg (by rw [beq_iff_eq]; omega)]
theorem A80 {h:RoHouse} (ok:HOk h) {f:RoFigure} (hf:FiOk f) {p l:Nat} (hp:p < h.Places.length) (hl:l < 16):M9 h f (p:Int) (l:Int) = some (I5 (warm h p l) f):= by
 have b:=B0c ok hp l
 have g:=hf.bears
 exact C4l (B9d ok hp hl) (by omega) (by omega)
theorem A27 {h:RoHouse} (ok:HOk h):1≤2 ^ h.Stoves.toNat∧2 ^ h.Stoves.toNat≤8:= by
 have:=ok.s
 exact ⟨Nat.pow_pos (by decide),Nat.le_trans (Nat.pow_le_pow_right (by decide) (show h.Stoves.toNat≤3 by omega)) (by decide)⟩
theorem D73 {h:RoHouse} (ok:HOk h):B3v .i64 1 h.Stoves = some ((2 ^ h.Stoves.toNat:Nat):Int):= by
 have:=ok.s
 have e:=shl1 h.Stoves.toNat (by omega)
 rwa [Int.toNat_of_nonneg ok.s.1] at e
theorem C24 {h:RoHouse} (ok:HOk h):A0a h.Stoves = some ((2 ^ h.Stoves.toNat:Nat):Int):= by
 have:=ok.s
 have e:=D22 h.Stoves.toNat (by omega)
 rwa [Int.toNat_of_nonneg ok.s.1] at e
end Rm
end
section
set_option maxRecDepth 100000
set_option maxHeartbeats 0
namespace Rm
open Go Am Go.Proofs.YtbheamjhjgoccaaDoor.Cd
def A1v (a0:RoHouse) (a1:RoPlan) (s1:(Int × (List Int))) (s4:(Int × Int)):Option ((Int × Int) ⊕ Int) :=
 if (decide (s4.2 < (List.length a1.At:Int))) = true then
  (idx a1.At s4.2).bind fun x7 =>
  (if (x7 != (-1)) = true then
  (idx a1.At s4.2).bind fun x9 =>
  (idx a0.Places x9).bind fun x10 =>
  (A0p x10.Joists s1.1).bind fun x11 =>
  some x11
  else
  some false).bind fun x12 =>
  if x12 = true then
  (idx a0.Figures s4.2).bind fun x14 =>
  some (.inl ((w64 (s4.1 + x14.Weight)),(w64 (s4.2 + 1))))
  else
  some (.inl (s4.1,(w64 (s4.2 + 1))))
 else
  some (.inr s4.1)
def A1w (a0:RoHouse) (a1:RoPlan) (s1:(Int × (List Int))):Option ((Int × (List Int)) ⊕ (List Int)) :=
 if (decide (s1.1 < (List.length a0.Holds:Int))) = true then
  (loop (A1v a0 a1 s1) (0,0)).bind fun (o15:Int) =>
  (app 8 s1.2 [o15]).bind fun x16 =>
  some (.inl ((w64 (s1.1 + 1)),x16))
 else
  some (.inr s1.2)
def A3l (a0:RoHouse) (a1:RoPlan):Option (List Int) :=
 (loop (A1w a0 a1) (0,([]:List Int))).bind fun (o17:(List Int)) =>
 some o17
theorem A9e {c:Sc} {H:A7} {a0:RoHouse} {a1:RoPlan} {r:(List Int)} (h:A3l a0 a1 = some r) :
  E8 tab c H (.fn (.func 51) [] []) [(.agg (A3 a0)),(.agg (B2 a1))] [(.fresh 1 (List.map cI r))]:= by
 unfold A3l at h
 refine cE rfl rfl<|sg 0 rfl<|A0 (E9 (cs:=A3 a0) rfl rfl rfl) rfl<|A0 (E9 (cs:=B2 a1) rfl rfl rfl) rfl<|qm rfl<|es (ra2 rfl rfl)<|sg 2 rfl<|A0 B07 rfl<|es (ra3 rfl rfl rfl)<|B6<|s0<|qm rfl<|es (ra4 rfl rfl rfl rfl)<|C4<|oB h fun o17 ho17 h=>wl (fun s1=>[(2,(.ptr (H.length + 0) 0)),(3,(.ptr (H.length + 1) 0)),(5,(.asl (H.length + 2) (List.length s1.2))),(6,.i s1.1)]) (fun (q2:Unit) s1=>[(.cells (A3 a0)),(.cells (B2 a1)),(.arr 1 false (List.map cI s1.2))]) 3 (fun r e s' H'=>PX 0 [(5,(.asl (H.length + 2) (List.length r)))] (H++[(.cells (A3 a0)),(.cells (B2 a1)),(.arr 1 false (List.map cI r))]) e s' H') () ho17 rfl rfl (fun _ _=>rfl) (fun _=>rfl) rfl (fun s1=>(bdc (D8 rfl) (bdc (D8 rfl) (bdc (A4e rfl) (bdc A5 bdn))))) (fun q2 s1 ys1 hs1=>?_) ?_
 ·unfold A1w at hs1
  refine B6<|s0<|qm rfl<|A0 (C5 rfl) rfl<|A0 (C2 rfl rfl rfl) rfl<|A0 (D4 (f:=cI) rfl) rfl<|A0 (F7 rfl rfl) rfl<|es (ra5 rfl rfl rfl rfl rfl)<|wi hs1 rfl (fun hc3 hs1=>?_) fun hc3 hs1=>?_
  ·refine C0<|B6<|C4<|s0<|qm rfl<|es (ra5 rfl rfl rfl rfl rfl)<|B6<|s0<|qm rfl<|es (ra6 rfl rfl rfl rfl rfl rfl)<|C4<|oB hs1 fun o15 ho15 hs1=>wl (fun s4=>[(2,(.ptr (H.length + 0) 0)),(3,(.ptr (H.length + 1) 0)),(5,(.asl (H.length + 2) (List.length s1.2))),(6,.i s1.1),(7,.i s4.1),(8,.i s4.2)]) (fun (q5:Unit) s4=>[(.cells (A3 a0)),(.cells (B2 a1)),(.arr 1 false (List.map cI s1.2))]) 3 (fun r e s' H'=>PX 2 [(2,(.ptr (H.length + 0) 0)),(3,(.ptr (H.length + 1) 0)),(5,(.asl (H.length + 2) (List.length s1.2))),(6,.i s1.1),(7,.i r)] (H++[(.cells (A3 a0)),(.cells (B2 a1)),(.arr 1 false (List.map cI s1.2))]) e s' H') () ho15 rfl rfl (fun _ _=>rfl) (fun _=>rfl) rfl (fun s4=>(bdc (D8 rfl) (bdc (D8 rfl) (bdc (A4e rfl) (bdc A5 (bdc A5 (bdc A5 bdn))))))) (fun q5 s4 ys4 hs4=>?_) ?_
   ·unfold A1v at hs4
    refine B6<|s0<|qm rfl<|A0 (C5 rfl) rfl<|A0 (C2 rfl rfl rfl) rfl<|A0 (D4 (f:=cI) rfl) rfl<|A0 (F7 rfl rfl) rfl<|es (ra7 rfl rfl rfl rfl rfl rfl rfl)<|wi hs4 rfl (fun hc6 hs4=>?_) fun hc6 hs4=>?_
    ·refine C0<|B6<|C4<|s0<|oB hs4 fun x7 hx7 hs4=>oB hs4 fun x12 hx12 hs4=>A0 (C5 rfl) rfl<|A0 (C2 rfl rfl rfl) rfl<|qm rfl<|A0 (E2 (f:=cI) rfl rfl hx7) rfl<|A0 (E4 rfl rfl) rfl<|A0 (F9 rfl rfl) rfl<|qm rfl<|gp 13 42 (.b x12) 29 rfl rfl (fun hg8=>?_) (fun hg8=>?_) ?_
     ·refine oB (bt hx12 hg8) fun x9 hx9 hx12=>oB hx12 fun x10 hx10 hx12=>oB hx12 fun x11 hx11 hx12=>?_
      obtain rfl:=os hx12
      exact gT rfl hg8<|A0 (C5 rfl) rfl<|gT rfl hg8<|A0 (C2 rfl rfl rfl) rfl<|gT rfl hg8<|A0 (C5 rfl) rfl<|gT rfl hg8<|A0 (C2 rfl rfl rfl) rfl<|gT rfl hg8<|qm rfl<|gT rfl hg8<|A0 (E2 (f:=cI) rfl rfl hx9) rfl<|gT rfl hg8<|A0 (E4 rfl rfl) rfl<|gT rfl hg8<|A0 (E2 (f:=C3) rfl rfl hx10) rfl<|gT rfl hg8<|A0 (A3a (ds:=(List.drop 3 (C3 x10))) rfl rfl) rfl<|gT rfl hg8<|A0 (E4 rfl rfl) rfl<|gT rfl hg8<|qm rfl<|gT rfl hg8<|B3 (rs:=[.b x11]) rfl rfl (A1 rfl (A1 rfl B5)) ((A0x hx11).frz)<|A0 (C7 rfl hg8 rfl) rfl<|ge 13 rfl rfl rfl
     ·obtain rfl:=os (bf hx12 hg8)
      exact nT rfl hg8 rfl<|nT rfl hg8 rfl<|nT rfl hg8 rfl<|nT rfl hg8 rfl<|nT rfl hg8 rfl<|nT rfl hg8 rfl<|nT rfl hg8 rfl<|nT rfl hg8 rfl<|nT rfl hg8 rfl<|nT rfl hg8 rfl<|nT rfl hg8 rfl<|G3 (E3 rfl (by rw [hg8]; rfl)) rfl<|A0 (C8 rfl hg8 rfl) rfl<|ge 13 rfl rfl rfl
     refine es (ra7 rfl rfl rfl rfl rfl rfl rfl)<|wi hs4 rfl (fun hc13 hs4=>?_) fun hc13 hs4=>?_
     ·refine r0<|oB hs4 fun x14 hx14 hs4=>qm rfl<|A0 (C5 rfl) rfl<|A0 (C2 rfl rfl rfl) rfl<|qm rfl<|A0 (E2 (f:=B4) rfl rfl hx14) rfl<|A0 (A3a (ds:=(List.drop 2 (B4 x14))) rfl rfl) rfl<|A0 (E4 rfl rfl) rfl<|A0 (E1 rfl rfl) rfl<|qm rfl<|en (ra6 rfl rfl rfl rfl rfl rfl)<|r0<|qm rfl<|A0 (E1 rfl rfl) rfl<|qm rfl<|en (ra6 rfl rfl rfl rfl rfl rfl) ?_
      cases hs4
      exact lnT () rfl (su6 rfl rfl rfl rfl rfl rfl)
     ·refine C0<|r0<|qm rfl<|A0 (E1 rfl rfl) rfl<|qm rfl<|en (ra6 rfl rfl rfl rfl rfl rfl) ?_
      cases hs4
      exact lnT () rfl (su6 rfl rfl rfl rfl rfl rfl)
    ·refine E6 ?_
     obtain rfl:=os hs4
     exact lx rfl px (su5 rfl rfl rfl rfl rfl)
   ·rintro e s' H' - ⟨rfl,rfl,rfl⟩
    refine r0<|oB hs1 fun x16 hx16 hs1=>qm rfl<|qm rfl<|A0 (J5 (rows:=List.map cI [o15]) rfl rfl (F1 (fun _=>rfl) _)) rfl<|A7p (A4i (f:=cI) rfl rfl rfl rfl A1s (fun _=>rfl) hx16) rfl<|qm rfl<|en (ra4 rfl rfl rfl rfl)<|r0<|qm rfl<|A0 (E1 rfl rfl) rfl<|qm rfl<|en (ra4 rfl rfl rfl rfl) ?_
    cases hs1
    exact lnT () rfl (su4 rfl rfl rfl rfl)
  ·refine E6 ?_
   obtain rfl:=os hs1
   exact lx rfl px (su1 rfl)
 ·rintro e s' H' - ⟨rfl,rfl,rfl⟩
  refine s0<|qm rfl<|qm rfl<|es (ra1 rfl)<|C6 ?_
  obtain rfl:=os h
  exact retq trivial (A9 rfl B8) (A4 (B2b rfl (List.length_map _)) B7) (A2 A55 B1)
def A6k (a0:(List Int)) (a1:Int) (s1:Int):Option (Int ⊕ (Bool ⊕ Unit)) :=
 if (decide (s1 < (List.length a0:Int))) = true then
  (idx a0 s1).bind fun x4 =>
  if (x4 == a1) = true then
  some (.inr (.inl true))
  else
  some (.inl (w64 (s1 + 1)))
 else
  some (.inr (.inr ()))
def A5x (a0:(List Int)) (a1:Int):Option Bool :=
 (loop (A6k a0 a1) 0).bind fun (o6:(Bool ⊕ Unit)) =>
 match o6 with
 | (.inl vo6_0) =>
  some vo6_0
 | (.inr vo6_1) =>
  some false
theorem A8f {c:Sc} {H:A7} {a0:(List Int)} {a1:Int} {r:Bool} (h:A5x a0 a1 = some r) :
  E8 tab c H (.fn (.func 54) [] []) [(.seq 1 (List.map cI a0)),.i a1] [.b r]:= by
 unfold A5x at h
 refine cE rfl rfl<|s0<|qm rfl<|es (ra2 rfl rfl)<|B6<|s0<|qm rfl<|es (ra3 rfl rfl rfl)<|C4<|oB h fun o6 ho6 h=>wl (fun s1=>[(0,(.seq 1 (List.map cI a0))),(1,.i a1),(5,.i s1)]) (fun (q2:Unit) s1=>[]) 0 (fun r e s' H'=>(match r with | (.inl v)=>e = .ret∧RetQ H [.tmp 4] [.b v] e s' H' | (.inr v)=>PX 0 [] (H++[]) e s' H':Prop)) () ho6 rfl rfl (fun _ _=>rfl) (fun _=>rfl) rfl (fun s1=>(bdc G2 (bdc A5 (bdc A5 bdn)))) (fun q2 s1 ys1 hs1=>?_) ?_
 ·unfold A6k at hs1
  refine B6<|s0<|qm rfl<|qm rfl<|A0 (D4 (f:=cI) rfl) rfl<|A0 (F7 rfl rfl) rfl<|es (ra4 rfl rfl rfl rfl)<|wi hs1 rfl (fun hc3 hs1=>?_) fun hc3 hs1=>?_
  ·refine C0<|B6<|C4<|s0<|oB hs1 fun x4 hx4 hs1=>qm rfl<|qm rfl<|A0 (E2 (f:=cI) rfl rfl hx4) rfl<|A0 (E4 rfl rfl) rfl<|qm rfl<|A0 (F4 rfl rfl) rfl<|es (ra4 rfl rfl rfl rfl)<|wi hs1 rfl (fun hc5 hs1=>?_) fun hc5 hs1=>?_
   ·refine s0<|qm rfl<|es (ra1 rfl)<|C6 ?_
    obtain rfl:=os hs1
    exact lx rfl (And.intro rfl (retq trivial (A9 rfl B8) (A4 rfl B7) (A2 A5 B1))) (Sub.refl _)
   ·refine C0<|r0<|qm rfl<|A0 (E1 rfl rfl) rfl<|qm rfl<|en (ra3 rfl rfl rfl) ?_
    cases hs1
    exact lnT () rfl (su3 rfl rfl rfl)
  ·refine E6 ?_
   obtain rfl:=os hs1
   exact lx rfl px (.nil _)
 ·rcases o6 with vo6_0 | vo6_1
  ·rintro e s' H' - ⟨rfl,hret⟩
   cases h
   exact hret
  ·rintro e s' H' - ⟨rfl,rfl,rfl⟩
   refine s0<|qm rfl<|es (ra1 rfl)<|C6 ?_
   obtain rfl:=os h
   exact retq trivial (A9 rfl B8) (A4 rfl B7) (A2 A5 B1)
def A2z (a0:RoHouse) (a1:RoPlan) (s1:Int) (s4:(Int × Int)):Option ((Int × Int) ⊕ Int) :=
 if (decide (s4.2 < (List.length a1.At:Int))) = true then
  (idx a1.At s4.2).bind fun x7 =>
  (if (x7 != (-1)) = true then
  (idx a1.At s4.2).bind fun x9 =>
  (idx a0.Places x9).bind fun x10 =>
  some x10.Dear
  else
  some false).bind fun x11 =>
  (if x11 = true then
  (idx a0.Figures s4.2).bind fun x13 =>
  some (x13.Class == s1)
  else
  some false).bind fun x14 =>
  if x14 = true then
  some (.inl ((w64 (s4.1 + 1)),(w64 (s4.2 + 1))))
  else
  some (.inl (s4.1,(w64 (s4.2 + 1))))
 else
  some (.inr s4.1)
def A20 (a0:RoHouse) (s1:Int) (s17:(Int × Int)):Option ((Int × Int) ⊕ Int) :=
 if (decide (s17.2 < (List.length a0.Bill:Int))) = true then
  (idx a0.Bill s17.2).bind fun x20 =>
  if (x20 == s1) = true then
  some (.inl ((w64 (s17.1 + 1)),(w64 (s17.2 + 1))))
  else
  some (.inl (s17.1,(w64 (s17.2 + 1))))
 else
  some (.inr s17.1)
def A4x (a0:RoHouse) (a1:RoPlan) (s1:Int):Option (Int ⊕ (Bool ⊕ Unit)) :=
 if (decide (s1≤9)) = true then
  (loop (A2z a0 a1 s1) (0,0)).bind fun (o16:Int) =>
  (loop (A20 a0 s1) (0,0)).bind fun (o22:Int) =>
  if (decide (o16 < o22)) = true then
  some (.inr (.inl false))
  else
  some (.inl (w64 (s1 + 1)))
 else
  some (.inr (.inr ()))
def A65 (a0:RoHouse) (a1:RoPlan):Option Bool :=
 (loop (A4x a0 a1) 0).bind fun (o24:(Bool ⊕ Unit)) =>
 match o24 with
 | (.inl vo24_0) =>
  some vo24_0
 | (.inr vo24_1) =>
  some true
theorem B4z {c:Sc} {H:A7} {a0:RoHouse} {a1:RoPlan} {r:Bool} (h:A65 a0 a1 = some r) :
  E8 tab c H (.fn (.func 47) [] []) [(.agg (A3 a0)),(.agg (B2 a1))] [.b r]:= by
 unfold A65 at h
 refine cE rfl rfl<|sg 0 rfl<|A0 (E9 (cs:=A3 a0) rfl rfl rfl) rfl<|A0 (E9 (cs:=B2 a1) rfl rfl rfl) rfl<|qm rfl<|es (ra2 rfl rfl)<|B6<|s0<|qm rfl<|es (ra3 rfl rfl rfl)<|C4<|oB h fun o24 ho24 h=>wl (fun s1=>[(2,(.ptr (H.length + 0) 0)),(3,(.ptr (H.length + 1) 0)),(5,.i s1)]) (fun (q2:Unit) s1=>[(.cells (A3 a0)),(.cells (B2 a1))]) 2 (fun r e s' H'=>(match r with | (.inl v)=>e = .ret∧RetQ H [.tmp 4] [.b v] e s' H' | (.inr v)=>PX 0 [] (H++[(.cells (A3 a0)),(.cells (B2 a1))]) e s' H':Prop)) () ho24 rfl rfl (fun _ _=>rfl) (fun _=>rfl) rfl (fun s1=>(bdc (D8 rfl) (bdc (D8 rfl) (bdc A5 bdn)))) (fun q2 s1 ys1 hs1=>?_) ?_
 ·unfold A4x at hs1
  refine B6<|s0<|qm rfl<|A0 (B2q rfl rfl) rfl<|es (ra4 rfl rfl rfl rfl)<|wi hs1 rfl (fun hc3 hs1=>?_) fun hc3 hs1=>?_
  ·refine C0<|B6<|C4<|s0<|qm rfl<|qm rfl<|es (ra5 rfl rfl rfl rfl rfl)<|B6<|s0<|qm rfl<|es (ra6 rfl rfl rfl rfl rfl rfl)<|C4<|oB hs1 fun o16 ho16 hs1=>wl (fun s4=>[(2,(.ptr (H.length + 0) 0)),(3,(.ptr (H.length + 1) 0)),(5,.i s1),(6,.i s4.1),(7,.i 0),(8,.i s4.2)]) (fun (q5:Unit) s4=>[(.cells (A3 a0)),(.cells (B2 a1))]) 2 (fun r e s' H'=>PX 2 [(2,(.ptr (H.length + 0) 0)),(3,(.ptr (H.length + 1) 0)),(5,.i s1),(6,.i r),(7,.i 0)] (H++[(.cells (A3 a0)),(.cells (B2 a1))]) e s' H') () ho16 rfl rfl (fun _ _=>rfl) (fun _=>rfl) rfl (fun s4=>(bdc (D8 rfl) (bdc (D8 rfl) (bdc A5 (bdc A5 (bdc A5 (bdc A5 bdn))))))) (fun q5 s4 ys4 hs4=>?_) ?_
   ·unfold A2z at hs4
    refine B6<|s0<|qm rfl<|A0 (C5 rfl) rfl<|A0 (C2 rfl rfl rfl) rfl<|A0 (D4 (f:=cI) rfl) rfl<|A0 (F7 rfl rfl) rfl<|es (ra7 rfl rfl rfl rfl rfl rfl rfl)<|wi hs4 rfl (fun hc6 hs4=>?_) fun hc6 hs4=>?_
    ·refine C0<|B6<|C4<|s0<|oB hs4 fun x7 hx7 hs4=>oB hs4 fun x11 hx11 hs4=>oB hs4 fun x14 hx14 hs4=>A0 (C5 rfl) rfl<|A0 (C2 rfl rfl rfl) rfl<|qm rfl<|A0 (E2 (f:=cI) rfl rfl hx7) rfl<|A0 (E4 rfl rfl) rfl<|A0 (F9 rfl rfl) rfl<|qm rfl<|gp 11 38 (.b x11) 27 rfl rfl (fun hg8=>?_) (fun hg8=>?_) ?_
     ·refine oB (bt hx11 hg8) fun x9 hx9 hx11=>oB hx11 fun x10 hx10 hx11=>?_
      obtain rfl:=os hx11
      exact gT rfl hg8<|A0 (C5 rfl) rfl<|gT rfl hg8<|A0 (C2 rfl rfl rfl) rfl<|gT rfl hg8<|A0 (C5 rfl) rfl<|gT rfl hg8<|A0 (C2 rfl rfl rfl) rfl<|gT rfl hg8<|qm rfl<|gT rfl hg8<|A0 (E2 (f:=cI) rfl rfl hx9) rfl<|gT rfl hg8<|A0 (E4 rfl rfl) rfl<|gT rfl hg8<|A0 (E2 (f:=C3) rfl rfl hx10) rfl<|gT rfl hg8<|A0 (A3a (ds:=(List.drop 1 (C3 x10))) rfl rfl) rfl<|gT rfl hg8<|A0 (E4 rfl rfl) rfl<|A0 (C7 rfl hg8 rfl) rfl<|ge 11 rfl rfl rfl
     ·obtain rfl:=os (bf hx11 hg8)
      exact nT rfl hg8 rfl<|nT rfl hg8 rfl<|nT rfl hg8 rfl<|nT rfl hg8 rfl<|nT rfl hg8 rfl<|nT rfl hg8 rfl<|nT rfl hg8 rfl<|nT rfl hg8 rfl<|nT rfl hg8 rfl<|nT rfl hg8 rfl<|A0 (C8 rfl hg8 rfl) rfl<|ge 11 rfl rfl rfl
     refine qm rfl<|gp 9 48 (.b x14) 39 rfl rfl (fun hg12=>?_) (fun hg12=>?_) ?_
     ·refine oB (bt hx14 hg12) fun x13 hx13 hx14=>?_
      obtain rfl:=os hx14
      exact gT rfl hg12<|A0 (C5 rfl) rfl<|gT rfl hg12<|A0 (C2 rfl rfl rfl) rfl<|gT rfl hg12<|qm rfl<|gT rfl hg12<|A0 (E2 (f:=B4) rfl rfl hx13) rfl<|gT rfl hg12<|A0 (A3a (ds:=(List.drop 1 (B4 x13))) rfl rfl) rfl<|gT rfl hg12<|A0 (E4 rfl rfl) rfl<|gT rfl hg12<|qm rfl<|gT rfl hg12<|A0 (F4 rfl rfl) rfl<|A0 (C7 rfl hg12 rfl) rfl<|ge 9 rfl rfl rfl
     ·obtain rfl:=os (bf hx14 hg12)
      exact nT rfl hg12 rfl<|nT rfl hg12 rfl<|nT rfl hg12 rfl<|nT rfl hg12 rfl<|nT rfl hg12 rfl<|nT rfl hg12 rfl<|nT rfl hg12 rfl<|nT rfl hg12 rfl<|A0 (C8 rfl hg12 rfl) rfl<|ge 9 rfl rfl rfl
     refine es (ra7 rfl rfl rfl rfl rfl rfl rfl)<|wi hs4 rfl (fun hc15 hs4=>?_) fun hc15 hs4=>?_
     ·refine r0<|qm rfl<|A0 (E1 rfl rfl) rfl<|qm rfl<|en (ra6 rfl rfl rfl rfl rfl rfl)<|r0<|qm rfl<|A0 (E1 rfl rfl) rfl<|qm rfl<|en (ra6 rfl rfl rfl rfl rfl rfl) ?_
      cases hs4
      exact lnT () rfl (su6 rfl rfl rfl rfl rfl rfl)
     ·refine C0<|r0<|qm rfl<|A0 (E1 rfl rfl) rfl<|qm rfl<|en (ra6 rfl rfl rfl rfl rfl rfl) ?_
      cases hs4
      exact lnT () rfl (su6 rfl rfl rfl rfl rfl rfl)
    ·refine E6 ?_
     obtain rfl:=os hs4
     exact lx rfl px (su5 rfl rfl rfl rfl rfl)
   ·rintro e s' H' - ⟨rfl,rfl,rfl⟩
    refine B6<|s0<|qm rfl<|es (ra6 rfl rfl rfl rfl rfl rfl)<|C4<|oB hs1 fun o22 ho22 hs1=>wl (fun s17=>[(2,(.ptr (H.length + 0) 0)),(3,(.ptr (H.length + 1) 0)),(5,.i s1),(6,.i o16),(7,.i s17.1),(9,.i s17.2)]) (fun (q18:Unit) s17=>[(.cells (A3 a0)),(.cells (B2 a1))]) 2 (fun r e s' H'=>PX 4 [(2,(.ptr (H.length + 0) 0)),(3,(.ptr (H.length + 1) 0)),(5,.i s1),(6,.i o16),(7,.i r)] (H++[(.cells (A3 a0)),(.cells (B2 a1))]) e s' H') () ho22 rfl rfl (fun _ _=>rfl) (fun _=>rfl) rfl (fun s17=>(bdc (D8 rfl) (bdc (D8 rfl) (bdc A5 (bdc A5 (bdc A5 (bdc A5 bdn))))))) (fun q18 s17 ys17 hs17=>?_) ?_
    ·unfold A20 at hs17
     refine B6<|s0<|qm rfl<|A0 (C5 rfl) rfl<|A0 (C2 rfl rfl rfl) rfl<|A0 (D4 (f:=cI) rfl) rfl<|A0 (F7 rfl rfl) rfl<|es (ra7 rfl rfl rfl rfl rfl rfl rfl)<|wi hs17 rfl (fun hc19 hs17=>?_) fun hc19 hs17=>?_
     ·refine C0<|B6<|C4<|s0<|oB hs17 fun x20 hx20 hs17=>A0 (C5 rfl) rfl<|A0 (C2 rfl rfl rfl) rfl<|qm rfl<|A0 (E2 (f:=cI) rfl rfl hx20) rfl<|A0 (E4 rfl rfl) rfl<|qm rfl<|A0 (F4 rfl rfl) rfl<|es (ra7 rfl rfl rfl rfl rfl rfl rfl)<|wi hs17 rfl (fun hc21 hs17=>?_) fun hc21 hs17=>?_
      ·refine r0<|qm rfl<|A0 (E1 rfl rfl) rfl<|qm rfl<|en (ra6 rfl rfl rfl rfl rfl rfl)<|r0<|qm rfl<|A0 (E1 rfl rfl) rfl<|qm rfl<|en (ra6 rfl rfl rfl rfl rfl rfl) ?_
       cases hs17
       exact lnT () rfl (su6 rfl rfl rfl rfl rfl rfl)
      ·refine C0<|r0<|qm rfl<|A0 (E1 rfl rfl) rfl<|qm rfl<|en (ra6 rfl rfl rfl rfl rfl rfl) ?_
       cases hs17
       exact lnT () rfl (su6 rfl rfl rfl rfl rfl rfl)
     ·refine E6 ?_
      obtain rfl:=os hs17
      exact lx rfl px (su5 rfl rfl rfl rfl rfl)
    ·rintro e s' H' - ⟨rfl,rfl,rfl⟩
     refine s0<|qm rfl<|qm rfl<|A0 (F7 rfl rfl) rfl<|es (ra4 rfl rfl rfl rfl)<|wi hs1 rfl (fun hc23 hs1=>?_) fun hc23 hs1=>?_
     ·refine s0<|qm rfl<|es (ra1 rfl)<|C6 ?_
      obtain rfl:=os hs1
      exact lx rfl (And.intro rfl (retq trivial (A9 rfl B8) (A4 rfl B7) (A2 A5 B1))) (Sub.refl _)
     ·refine C0<|r0<|qm rfl<|A0 (E1 rfl rfl) rfl<|qm rfl<|en (ra3 rfl rfl rfl) ?_
      cases hs1
      exact lnT () rfl (su3 rfl rfl rfl)
  ·refine E6 ?_
   obtain rfl:=os hs1
   exact lx rfl px (.nil _)
 ·rcases o24 with vo24_0 | vo24_1
  ·rintro e s' H' - ⟨rfl,hret⟩
   cases h
   exact hret
  ·rintro e s' H' - ⟨rfl,rfl,rfl⟩
   refine s0<|qm rfl<|es (ra1 rfl)<|C6 ?_
   obtain rfl:=os h
   exact retq trivial (A9 rfl B8) (A4 rfl B7) (A2 A5 B1)
def A1t (a0:RoHouse) (a1:RoPlan) (s1:Int):Option (Int ⊕ (Bool ⊕ Unit)) :=
 if (decide (s1 < (List.length a1.At:Int))) = true then
  (idx a1.At s1).bind fun x4 =>
  (if (x4 != (-1)) = true then
  (idx a0.Figures s1).bind fun x6 =>
  (idx a1.At s1).bind fun x7 =>
  (M9 a0 x6 x7 a1.Lit).bind fun x8 =>
  some (x8 != 1)
  else
  some false).bind fun x9 =>
  if x9 = true then
  some (.inr (.inl false))
  else
  some (.inl (w64 (s1 + 1)))
 else
  some (.inr (.inr ()))
def A1u (a0:RoHouse) (x12:(List Int)) (s13:Int):Option (Int ⊕ (Bool ⊕ Unit)) :=
 if (decide (s13 < (List.length x12:Int))) = true then
  (idx x12 s13).bind fun x16 =>
  (idx a0.Holds s13).bind fun x17 =>
  if (decide (x16 > x17)) = true then
  some (.inr (.inl false))
  else
  some (.inl (w64 (s13 + 1)))
 else
  some (.inr (.inr ()))
def A2x (a0:RoHouse) (a1:RoPlan):Option Bool :=
 (loop (A1t a0 a1) 0).bind fun (o11:(Bool ⊕ Unit)) =>
 match o11 with
 | (.inl vo11_0) =>
  some vo11_0
 | (.inr vo11_1) =>
  (A3l a0 a1).bind fun x12 =>
  (loop (A1u a0 x12) 0).bind fun (o19:(Bool ⊕ Unit)) =>
  match o19 with
  | (.inl vo19_0) =>
  some vo19_0
  | (.inr vo19_1) =>
  (A65 a0 a1).bind fun x20 =>
  some x20
theorem B1d {c:Sc} {H:A7} {a0:RoHouse} {a1:RoPlan} {r:Bool} (h:A2x a0 a1 = some r) :
  E8 tab c H (.fn (.func 92) [] []) [(.agg (A3 a0)),(.agg (B2 a1))] [.b r]:= by
 unfold A2x at h
 refine cE rfl rfl<|sg 0 rfl<|A0 (E9 (cs:=A3 a0) rfl rfl rfl) rfl<|A0 (E9 (cs:=B2 a1) rfl rfl rfl) rfl<|qm rfl<|es (ra2 rfl rfl)<|B6<|s0<|qm rfl<|es (ra3 rfl rfl rfl)<|C4<|oB h fun o11 ho11 h=>wl (fun s1=>[(2,(.ptr (H.length + 0) 0)),(3,(.ptr (H.length + 1) 0)),(5,.i s1)]) (fun (q2:Unit) s1=>[(.cells (A3 a0)),(.cells (B2 a1))]) 2 (fun r e s' H'=>(match r with | (.inl v)=>e = .ret∧RetQ H [.tmp 4] [.b v] e s' H' | (.inr v)=>PX 0 [(2,(.ptr (H.length + 0) 0)),(3,(.ptr (H.length + 1) 0))] (H++[(.cells (A3 a0)),(.cells (B2 a1))]) e s' H':Prop)) () ho11 rfl rfl (fun _ _=>rfl) (fun _=>rfl) rfl (fun s1=>(bdc (D8 rfl) (bdc (D8 rfl) (bdc A5 bdn)))) (fun q2 s1 ys1 hs1=>?_) ?_
 ·unfold A1t at hs1
  refine B6<|s0<|qm rfl<|A0 (C5 rfl) rfl<|A0 (C2 rfl rfl rfl) rfl<|A0 (D4 (f:=cI) rfl) rfl<|A0 (F7 rfl rfl) rfl<|es (ra4 rfl rfl rfl rfl)<|wi hs1 rfl (fun hc3 hs1=>?_) fun hc3 hs1=>?_
  ·refine C0<|B6<|C4<|s0<|oB hs1 fun x4 hx4 hs1=>oB hs1 fun x9 hx9 hs1=>A0 (C5 rfl) rfl<|A0 (C2 rfl rfl rfl) rfl<|qm rfl<|A0 (E2 (f:=cI) rfl rfl hx4) rfl<|A0 (E4 rfl rfl) rfl<|A0 (F9 rfl rfl) rfl<|qm rfl<|gp 16 37 (.b x9) 21 rfl rfl (fun hg5=>?_) (fun hg5=>?_) ?_
   ·refine oB (bt hx9 hg5) fun x6 hx6 hx9=>oB hx9 fun x7 hx7 hx9=>oB hx9 fun x8 hx8 hx9=>?_
    obtain rfl:=os hx9
    exact gT rfl hg5<|A0 (B9 rfl rfl rfl) rfl<|gT rfl hg5<|A0 (C5 rfl) rfl<|gT rfl hg5<|A0 (C2 rfl rfl rfl) rfl<|gT rfl hg5<|qm rfl<|gT rfl hg5<|A0 (E2 (f:=B4) rfl rfl hx6) rfl<|gT rfl hg5<|A0 (N6 rfl rfl) rfl<|gT rfl hg5<|A0 (C5 rfl) rfl<|gT rfl hg5<|A0 (C2 rfl rfl rfl) rfl<|gT rfl hg5<|qm rfl<|gT rfl hg5<|A0 (E2 (f:=cI) rfl rfl hx7) rfl<|gT rfl hg5<|A0 (E4 rfl rfl) rfl<|gT rfl hg5<|A0 (C5 rfl) rfl<|gT rfl hg5<|A0 (C2 rfl rfl rfl) rfl<|gT rfl hg5<|B3 (rs:=[.i x8]) rfl rfl (A1 (C9 rfl) (A1 (C9 rfl) (A1 rfl (A1 rfl B5)))) ((Y9 hx8).frz)<|gT rfl hg5<|A0 (F9 rfl rfl) rfl<|A0 (C7 rfl hg5 rfl) rfl<|ge 16 rfl rfl rfl
   ·obtain rfl:=os (bf hx9 hg5)
    exact nT rfl hg5 rfl<|nT rfl hg5 rfl<|nT rfl hg5 rfl<|nT rfl hg5 rfl<|nT rfl hg5 rfl<|nT rfl hg5 rfl<|nT rfl hg5 rfl<|nT rfl hg5 rfl<|nT rfl hg5 rfl<|nT rfl hg5 rfl<|nT rfl hg5 rfl<|nT rfl hg5 rfl<|nT rfl hg5 rfl<|G3 (E3 rfl (by rw [hg5]; rfl)) rfl<|nT rfl hg5 rfl<|A0 (C8 rfl hg5 rfl) rfl<|ge 16 rfl rfl rfl
   refine es (ra4 rfl rfl rfl rfl)<|wi hs1 rfl (fun hc10 hs1=>?_) fun hc10 hs1=>?_
   ·refine s0<|qm rfl<|es (ra1 rfl)<|C6 ?_
    obtain rfl:=os hs1
    exact lx rfl (And.intro rfl (retq trivial (A9 rfl B8) (A4 rfl B7) (A2 A5 B1))) (Sub.refl _)
   ·refine C0<|r0<|qm rfl<|A0 (E1 rfl rfl) rfl<|qm rfl<|en (ra3 rfl rfl rfl) ?_
    cases hs1
    exact lnT () rfl (su3 rfl rfl rfl)
  ·refine E6 ?_
   obtain rfl:=os hs1
   exact lx rfl px (su2 rfl rfl)
 ·rcases o11 with vo11_0 | vo11_1
  ·rintro e s' H' - ⟨rfl,hret⟩
   cases h
   exact hret
  ·rintro e s' H' - ⟨rfl,rfl,rfl⟩
   refine s0<|oB h fun x12 hx12 h=>A0 (B9 rfl rfl rfl) rfl<|A0 (B9 rfl rfl rfl) rfl<|B3 (rs:=[(.seq 1 (List.map cI x12))]) rfl rfl (A1 (C9 rfl) (A1 (C9 rfl) B5)) ((A9e hx12).frz)<|qm rfl<|es (ra3 rfl rfl rfl)<|B6<|s0<|qm rfl<|es (ra4 rfl rfl rfl rfl)<|C4<|oB h fun o19 ho19 h=>wl (fun s13=>[(2,(.ptr (H.length + 0) 0)),(3,(.ptr (H.length + 1) 0)),(6,(.seq 1 (List.map cI x12))),(7,.i s13)]) (fun (q14:Unit) s13=>[(.cells (A3 a0)),(.cells (B2 a1))]) 2 (fun r e s' H'=>(match r with | (.inl v)=>e = .ret∧RetQ H [.tmp 4] [.b v] e s' H' | (.inr v)=>PX 2 [(2,(.ptr (H.length + 0) 0)),(3,(.ptr (H.length + 1) 0))] (H++[(.cells (A3 a0)),(.cells (B2 a1))]) e s' H':Prop)) () ho19 rfl rfl (fun _ _=>rfl) (fun _=>rfl) rfl (fun s13=>(bdc (D8 rfl) (bdc (D8 rfl) (bdc G2 (bdc A5 bdn))))) (fun q14 s13 ys13 hs13=>?_) ?_
   ·unfold A1u at hs13
    refine B6<|s0<|qm rfl<|qm rfl<|A0 (D4 (f:=cI) rfl) rfl<|A0 (F7 rfl rfl) rfl<|es (ra5 rfl rfl rfl rfl rfl)<|wi hs13 rfl (fun hc15 hs13=>?_) fun hc15 hs13=>?_
    ·refine C0<|B6<|C4<|s0<|oB hs13 fun x16 hx16 hs13=>oB hs13 fun x17 hx17 hs13=>qm rfl<|qm rfl<|A0 (E2 (f:=cI) rfl rfl hx16) rfl<|A0 (E4 rfl rfl) rfl<|A0 (C5 rfl) rfl<|A0 (C2 rfl rfl rfl) rfl<|qm rfl<|A0 (E2 (f:=cI) rfl rfl hx17) rfl<|A0 (E4 rfl rfl) rfl<|A0 (W7 rfl rfl) rfl<|es (ra5 rfl rfl rfl rfl rfl)<|wi hs13 rfl (fun hc18 hs13=>?_) fun hc18 hs13=>?_
     ·refine s0<|qm rfl<|es (ra1 rfl)<|C6 ?_
      obtain rfl:=os hs13
      exact lx rfl (And.intro rfl (retq trivial (A9 rfl B8) (A4 rfl B7) (A2 A5 B1))) (Sub.refl _)
     ·refine C0<|r0<|qm rfl<|A0 (E1 rfl rfl) rfl<|qm rfl<|en (ra4 rfl rfl rfl rfl) ?_
      cases hs13
      exact lnT () rfl (su4 rfl rfl rfl rfl)
    ·refine E6 ?_
     obtain rfl:=os hs13
     exact lx rfl px (su2 rfl rfl)
   ·rcases o19 with vo19_0 | vo19_1
    ·rintro e s' H' - ⟨rfl,hret⟩
     cases h
     exact hret
    ·rintro e s' H' - ⟨rfl,rfl,rfl⟩
     refine s0<|oB h fun x20 hx20 h=>A0 (B9 rfl rfl rfl) rfl<|A0 (B9 rfl rfl rfl) rfl<|B3 (rs:=[.b x20]) rfl rfl (A1 (C9 rfl) (A1 (C9 rfl) B5)) ((B4z hx20).frz)<|qm rfl<|es (ra1 rfl)<|C6 ?_
     obtain rfl:=os h
     exact retq trivial (A9 rfl B8) (A4 rfl B7) (A2 A5 B1)
end Rm
end
section
namespace Rm
open Go Am
theorem C0r {α:Type} [Inhabited α] (l:List α) (p:α→Bool):(first (fun i=>if p l[i]! then some () else none) l.length).isSome = l.any p:= by
 rw [← C4h l p]
 have:(fun (i:Nat)=>if p l[i]! then some () else none) = fun (i:Nat)=>(if p l[i]! then some (i:Int) else none).map fun _=>():= by
  funext i; cases p l[i]! <;> rfl
 rw [this,A5w,Option.isSome_map]
theorem C6o (l:List Int) (x:Int) (hl:l.length < 9223372036854775808):A5x l x = some (l.any (· == x)):= by
 unfold A5x
 have l1:=A7e (b:=A6k l x) l.length (fun (i:Nat)=>if l[i]! == x then some (.inl true) else none) (.inr ()) hl (fun i hi _=>by
  unfold A6k
  rw [if_pos (by simpa using hi),F3 hi]
  simp only [Option.bind_some]
  cases l[i]! == x <;> rfl) (by
  unfold A6k
  rw [if_neg (by simp)])
 rw [l1]
 have ha:=C0r l (· == x)
 have:(fun (i:Nat)=>if l[i]! == x then some (Sum.inl true:Bool ⊕ Unit) else none) = fun (i:Nat)=>(if l[i]! == x then some () else none).map fun _=>Sum.inl true:= by
  funext i; cases l[i]! == x <;> rfl
 rw [this,A5w]
 cases hf:first (fun (i:Nat)=>if l[i]! == x then some () else none) l.length with
 | none=>rw [hf] at ha; rw [← ha]; rfl
 | some u=>rw [hf] at ha; rw [← ha]; rfl
theorem B00 (l:List Int) (hl:l.length < 9223372036854775808):W5 l l = some true:= by
 unfold W5
 have:=G6 (b:=A4v l l) (fun i=>(true,(i:Int))) l.length (r:=true) (by omega) (fun i hi=>by
  unfold A4v
  simp only []
  rw [if_pos (by simpa using hi),F3 hi]
  simp only [Option.bind_some]
  rw [D6 (by omega)]
  simp) (by
  unfold A4v
  simp)
 rw [show (((l.length:Int) == (l.length:Int)),(0:Int)) = (true,((0:Nat):Int)) from by rw [beq_self_eq_true]; rfl,this]; rfl
def R2 (l:List Int) (i:Nat):Bool:=l[i]! != -1 && (l.take i).any (· == l[i]!)
def dup (l:List Int):Bool:=(first (fun i=>if R2 l i then some () else none) l.length).isSome
def e (p:List Int) (i:Nat):Int:=if i < p.length then p[i]! + 1 else 0
def enc (p:List Int):Ar5 Int:=⟨e p 0,e p 1,e p 2,e p 3,e p 4⟩
theorem A91 (p:List Int):∀i:Nat,i < 5→idx (Ar5.l (enc p)) (i:Int) = some (e p i)
 | 0,_=>rfl
 | 1,_=>rfl
 | 2,_=>rfl
 | 3,_=>rfl
 | 4,_=>rfl
 | n + 5,h=>by omega
theorem C9o (p:List Int) {n j:Nat} (h:j < n):(p.take n)[j]! = p[j]!:= by
 by_cases c:j < p.length
 ·rw [getElem!_pos (p.take n) j (by rw [List.length_take]; omega),getElem!_pos p j c,List.getElem_take]
 ·rw [getElem!_neg (p.take n) j (by rw [List.length_take]; omega),getElem!_neg p j c]
theorem D5v (p:List Int) (n j:Nat):e (p.take n) j = if j < n then e p j else 0:= by
 unfold e
 rw [List.length_take]
 by_cases h:j < n
 ·rw [if_pos h,C9o p h]
  by_cases c:j < p.length
  ·rw [if_pos (by omega),if_pos c]
  ·rw [if_neg (by omega),if_neg c]
 ·rw [if_neg h,if_neg (by omega)]
theorem D13 (p:List Int) {i:Nat} (hi:i < p.length):Ar5.set (enc (p.take i)) (i:Int) (p[i]! + 1) = enc (p.take (i + 1)):= by
 have comp:∀j:Nat,(if (i:Int) = (j:Int) then p[i]! + 1 else e (p.take i) j) = e (p.take (i + 1)) j:= by
  intro j
  rw [D5v,D5v]
  by_cases h:i = j
  ·subst h
   rw [if_pos rfl,if_pos (by omega)]
   unfold e
   rw [if_pos hi]
  ·rw [if_neg (by omega)]
   by_cases c:j < i
   ·rw [if_pos c,if_pos (by omega)]
   ·rw [if_neg c,if_neg (by omega)]
 have q:=congr (congr (congr (congr (congrArg Ar5.mk (comp 0)) (comp 1)) (comp 2)) (comp 3)) (comp 4)
 exact q
structure PV (h:RoHouse) (p:List Int):Prop where
 len:p.length = h.Figures.length
 bd:∀i,i < p.length→-1≤p[i]!∧p[i]! < (h.Places.length:Int)
def plc (h:RoHouse) (p:List Int) (i:Nat):RoPlace:=h.Places[p[i]!.toNat]!
def con (h:RoHouse) (p:List Int) (k i:Nat):Int:=if i < p.length∧p[i]! ≠ -1∧bit (plc h p i).Joists.toNat k = true then h.Figures[i]!.Weight else 0
def G0 (h:RoHouse) (p:List Int) (k n:Nat):Int:=iter (fun i s=>s + con h p k i) n 0
theorem N5 (h:RoHouse) (p:List Int) (k n:Nat):G0 h p k (n + 1) = G0 h p k n + con h p k n:=rfl
theorem B5a (h:RoHouse) (p:List Int) (k:Nat):∀n,G0 h p k (p.length + n) = G0 h p k p.length
 | 0=>rfl
 | n + 1=>by
  rw [← Nat.add_assoc,N5,B5a h p k n]
  unfold con
  rw [if_neg (by omega)]; omega
theorem C96 {h:RoHouse} (ok:HOk h) {p:List Int} (pv:PV h p) (k i:Nat):0≤con h p k i∧con h p k i≤500:= by
 unfold con
 by_cases c:i < p.length∧p[i]! ≠ -1∧bit (plc h p i).Joists.toNat k = true
 ·rw [if_pos c]
  have:=(ok.figure _ (G4 (show i < h.Figures.length by rw [← pv.len]; exact c.1))).weight
  omega
 ·rw [if_neg c]; omega
theorem B49 {h:RoHouse} (ok:HOk h) {p:List Int} (pv:PV h p) (k:Nat):∀n,0≤G0 h p k n∧G0 h p k n≤500 * n
 | 0=>by unfold G0 iter; omega
 | n + 1=>by
  have ih:=B49 ok pv k n
  have:=C96 ok pv k n
  rw [N5]; omega
def arr (f:Nat→Int):Ar4 Int:=⟨f 0,f 1,f 2,f 3⟩
theorem D1v (f:Nat→Int):∀k:Nat,k < 4→idx (Ar4.l (arr f)) (k:Int) = some (f k)
 | 0,_=>rfl
 | 1,_=>rfl
 | 2,_=>rfl
 | 3,_=>rfl
 | n + 4,h=>by omega
theorem D8f (f:Nat→Int) (k:Nat) (v:Int):Ar4.set (arr f) (k:Int) v = arr (fun j=>if j = k then v else f j):= by
 have comp:∀j:Nat,(if (k:Int) = (j:Int) then v else f j) = (if j = k then v else f j):= by
  intro j
  by_cases h:j = k
  ·subst h; rw [if_pos rfl,if_pos rfl]
  ·rw [if_neg (by omega),if_neg h]
 have q:=congr (congr (congr (congrArg Ar4.mk (comp 0)) (comp 1)) (comp 2)) (comp 3)
 exact q
theorem B3y {f g:Nat→Int} (h:∀k,k < 4→f k = g k):arr f = arr g:= by
 unfold arr
 rw [h 0 (by omega),h 1 (by omega),h 2 (by omega),h 3 (by omega)]
theorem C49 {h:RoHouse} (ok:HOk h) {q:RoPlace} (hq:PlOk h q):q.Joists = (q.Joists.toNat:Int)∧q.Joists.toNat < 16:= by
 have h1:=hq.joists
 have:2 ^ h.Holds.length≤2 ^ 4:=Nat.pow_le_pow_right (by decide) ok.holds
 omega
theorem shown {h:RoHouse} {p:List Int} (pv:PV h p) {i:Nat} (hi:i < p.length) (hs:p[i]! ≠ -1):∃q:Nat,p[i]! = q∧q < h.Places.length∧plc h p i = h.Places[q]!:= by
 have:=pv.bd i hi
 refine ⟨p[i]!.toNat,by omega,by omega,rfl⟩
theorem D6k {h:RoHouse} (ok:HOk h) {p:List Int} (pv:PV h p) {i:Nat} (hi:i < p.length) (hs:p[i]! ≠ -1) (a:Ar4 Int) :
  loop (P4 ⟨h⟩ ((i:Int),a) (e p i)) (0,arr (fun k=>if k < h.Holds.length then G0 h p k i else 0)) = some (arr (fun k=>if k < h.Holds.length then G0 h p k (i + 1) else 0)):= by
 have h5:=ok.figures
 have hp:=ok.places
 have hh:=ok.holds
 have hl:=pv.len
 obtain ⟨q,hq1,hq2,hq3⟩:=shown pv hi hs
 have hj:=C49 ok (ok.place _ (G4 hq2))
 have l1:=G6 (b:=P4 ⟨h⟩ ((i:Int),a) (e p i)) (fun n=>((n:Int),arr (fun k=>if k < h.Holds.length then (if k < n then G0 h p k (i + 1) else G0 h p k i) else 0))) h.Holds.length (r:=arr (fun k=>if k < h.Holds.length then G0 h p k (i + 1) else 0)) (by omega) (fun n hn=>by
  have b1:=B49 ok pv n i
  have b2:=C96 ok pv n i
  unfold P4
  simp only []
  rw [if_pos (by simpa using hn)]
  have he:w64 (e p i - 1) = (q:Int):= by
   unfold e
   rw [if_pos hi,D6 (by omega)]; omega
  rw [he,F3 hq2]
  simp only [Option.bind_some]
  rw [hj.1,C0b _ hj.2 n (by omega)]
  simp only [Option.bind_some]
  rw [C7s _ (Nat.lt_of_le_of_lt (Nat.div_le_self _ _) hj.2),D1v _ n (by omega),F3 (show i < h.Figures.length by omega),if_pos hn,if_neg (Nat.lt_irrefl n)]
  simp only [Option.bind_some]
  have hc:con h p n i = if bit h.Places[q]!.Joists.toNat n = true then h.Figures[i]!.Weight else 0:= by
   unfold con
   rw [hq3]
   cases bit h.Places[q]!.Joists.toNat n
   ·rw [if_neg (by simp),if_neg (by simp)]
   ·rw [if_pos ⟨hi,hs,rfl⟩,if_pos rfl]
  rw [D6 (n:=(n:Int) + 1) (by omega)]
  show (if bit h.Places[q]!.Joists.toNat n = true then _ else _) = _
  cases hb:bit h.Places[q]!.Joists.toNat n with
  | true =>
   rw [hb,if_pos rfl] at hc
   rw [if_pos rfl,← hc,D6 (by omega),D8f]
   congr 3
   apply B3y
   intro k hk
   by_cases hkn:k = n
   ·subst hkn
    rw [if_pos rfl,if_pos hn,if_pos (by omega),N5]
   ·rw [if_neg hkn]
    by_cases c:k < h.Holds.length
    ·rw [if_pos c,if_pos c]
     by_cases c2:k < n
     ·rw [if_pos c2,if_pos (by omega)]
     ·rw [if_neg c2,if_neg (by omega)]
    ·rw [if_neg c,if_neg c]
  | false =>
   rw [hb,if_neg (by decide)] at hc
   rw [if_neg (by decide)]
   congr 3
   apply B3y
   intro k hk
   by_cases hkn:k = n
   ·subst hkn
    rw [if_pos hn,if_pos hn,if_neg (Nat.lt_irrefl k),if_pos (by omega),N5,hc]; omega
   ·by_cases c:k < h.Holds.length
    ·rw [if_pos c,if_pos c]
     by_cases c2:k < n
     ·rw [if_pos c2,if_pos (by omega)]
     ·rw [if_neg c2,if_neg (by omega)]
    ·rw [if_neg c,if_neg c]) (by
  unfold P4
  simp only []
  rw [if_neg (by simp)]
  congr 2
  apply B3y
  intro k hk
  by_cases c:k < h.Holds.length
  ·rw [if_pos c,if_pos c,if_pos c]
  ·rw [if_neg c,if_neg c])
 have e0:(fun (k:Nat)=>if k < h.Holds.length then (if k < 0 then G0 h p k (i + 1) else G0 h p k i) else 0) = fun (k:Nat)=>if k < h.Holds.length then G0 h p k i else 0:= by
  funext k
  rw [if_neg (Nat.not_lt_zero k)]
 have l1:loop (P4 ⟨h⟩ ((i:Int),a) (e p i)) (0,arr (fun (k:Nat)=>if k < h.Holds.length then (if k < 0 then G0 h p k (i + 1) else G0 h p k i) else 0)) = _:=l1
 rw [e0] at l1
 exact l1
def B13 (h:RoHouse) (p:List Int):Ar4 Int:=arr (fun k=>if k < h.Holds.length then G0 h p k p.length else 0)
theorem C8n {h:RoHouse} (ok:HOk h) {p:List Int} (pv:PV h p):U2 ⟨h⟩ (enc p) = some (B13 h p):= by
 have h5:=ok.figures
 have hp:=ok.places
 have hl:=pv.len
 unfold U2
 have l1:=G6 (b:=S8 ⟨h⟩ (enc p)) (fun i=>((i:Int),arr (fun k=>if k < h.Holds.length then G0 h p k i else 0))) 5 (r:=B13 h p) (by omega) (fun i hi=>by
  unfold S8
  simp only []
  rw [if_pos (by rw [decide_eq_true_eq]; omega),A91 p i hi]
  simp only [Option.bind_some]
  have hc0:∀k,(i < p.length→p[i]! = -1)→G0 h p k (i + 1) = G0 h p k i:= by
   intro k hx
   rw [N5]
   unfold con
   rw [if_neg (fun hq=>hq.2.1 (hx hq.1))]; omega
  by_cases c:i < p.length∧p[i]! ≠ -1
  ·have hb:=pv.bd i c.1
   have hne:(e p i == 0) = false:= by
    rw [beq_eq_false_iff_ne]
    unfold e
    rw [if_pos c.1]; have:=c.2; omega
   rw [hne,if_neg (by decide),D6k ok pv c.1 c.2]
   simp only [Option.bind_some]
   rw [D6 (by omega)]; rfl
  ·have hz:(e p i == 0) = true:= by
    rw [beq_iff_eq]
    unfold e
    by_cases c1:i < p.length
    ·rw [if_pos c1]
     have:p[i]! = -1:=Classical.byContradiction fun hq=>c ⟨c1,hq⟩
     omega
    ·rw [if_neg c1]
   rw [hz,if_pos rfl,D6 (by omega)]
   have:∀k,G0 h p k (i + 1) = G0 h p k i:=fun k=>hc0 k fun c1=>Classical.byContradiction fun hq=>c ⟨c1,hq⟩
   simp only [this]
   rfl) (by
  unfold S8
  simp only []
  rw [if_neg (show ¬ decide (((5:Nat):Int) < 5) = true by rw [decide_eq_true_eq]; omega)]
  unfold B13
  congr 2
  apply B3y
  intro k _
  have:=B5a h p k (5 - p.length)
  rw [show p.length + (5 - p.length) = 5 by omega] at this
  simp only [this])
 have e0:arr (fun k=>if k < h.Holds.length then G0 h p k 0 else 0) = Ar4.mk 0 0 0 0:= by
  have:(fun k=>if k < h.Holds.length then G0 h p k 0 else 0) = fun _=>(0:Int):= by
   funext k
   by_cases c:k < h.Holds.length
   ·rw [if_pos c]; rfl
   ·rw [if_neg c]
  rw [this]; rfl
 have l1:loop (S8 ⟨h⟩ (enc p)) (0,arr (fun k=>if k < h.Holds.length then G0 h p k 0 else 0)) = _:=l1
 rw [e0] at l1
 rw [l1]; rfl
def carry (h:RoHouse) (p:List Int):List Int:=(List.range h.Holds.length).map fun k=>G0 h p k p.length
theorem C67 {h:RoHouse} (ok:HOk h) {p:RoPlan} (pv:PV h p.At) (k:Nat) (hk:k < h.Holds.length) (l:List Int):loop (A1v h p ((k:Int),l)) (0,0) = some (G0 h p.At k p.At.length):= by
 have h5:=ok.figures
 have hp:=ok.places
 have hh:=ok.holds
 have hl:=pv.len
 exact G6 (b:=A1v h p ((k:Int),l)) (fun i=>(G0 h p.At k i,(i:Int))) p.At.length (by omega) (fun i hi=>by
  have b1:=B49 ok pv k i
  have b2:=C96 ok pv k i
  have hb:=pv.bd i hi
  unfold A1v
  simp only []
  rw [if_pos (by simpa using hi),F3 hi]
  simp only [Option.bind_some]
  rw [D6 (n:=(i:Int) + 1) (by omega),F3 (show i < h.Figures.length by omega),N5]
  by_cases hs:p.At[i]! = -1
  ·have hc:con h p.At k i = 0:= by unfold con; rw [if_neg (fun hq=>hq.2.1 hs)]
   rw [if_neg (by simp only [hs]; decide),hc,Int.add_zero]; rfl
  ·obtain ⟨q,hq1,hq2,hq3⟩:=shown pv hi hs
   have hj:=C49 ok (ok.place _ (G4 hq2))
   rw [if_pos (bne_iff_ne.mpr hs),hq1,F3 hq2]
   simp only [Option.bind_some]
   rw [hj.1,A3p hj.2 (by omega)]
   simp only [Option.bind_some]
   cases hb:bit h.Places[q]!.Joists.toNat k with
   | true =>
    have hc:con h p.At k i = h.Figures[i]!.Weight:= by unfold con; rw [hq3,if_pos ⟨hi,hs,hb⟩]
    rw [if_pos rfl,← hc,D6 (by omega)]; rfl
   | false =>
    have hc:con h p.At k i = 0:= by unfold con; rw [hq3,if_neg (fun hq=>by rw [hb] at hq; exact absurd hq.2.2 (by decide))]
    rw [if_neg (by decide),hc,Int.add_zero]; rfl) (by
  unfold A1v
  simp only []
  rw [if_neg (by simp)])
theorem B2e {h:RoHouse} (ok:HOk h) {p:RoPlan} (pv:PV h p.At):A3l h p = some (carry h p.At):= by
 have hh:=ok.holds
 unfold A3l
 have l1:=G6 (b:=A1w h p) (fun k=>((k:Int),(List.range k).map fun k=>G0 h p.At k p.At.length)) h.Holds.length (r:=carry h p.At) (by omega) (fun k hk=>by
  unfold A1w
  simp only []
  rw [if_pos (by simpa using hk),C67 ok pv k hk]
  simp only [Option.bind_some]
  rw [A5g (by omega) (by rw [List.length_map,List.length_range]; simp; omega),D6 (by omega)]
  simp only [Option.bind_some]
  rw [List.range_succ,List.map_append]; rfl) (by
  unfold A1w
  simp only []
  rw [if_neg (by simp)]; rfl)
 have l1:loop (A1w h p) (0,[]) = _:=l1
 rw [l1]; rfl
theorem C4g {n:Nat} {p:Nat→Bool}:(first (fun i=>if p i then none else some ()) n).isNone = (List.range n).all p:= by
 cases hf:first (fun i=>if p i then none else some ()) n with
 | none =>
  have h0:=I1.mp hf
  symm
  rw [Option.isNone_none,List.all_eq_true]
  intro i hi
  have:=h0 i (List.mem_range.mp hi)
  cases hp:p i with
  | true=>rfl
  | false=>rw [hp] at this; exact absurd this (by simp)
 | some u =>
  obtain ⟨i,hi,h1,_⟩:=W4 hf
  symm
  rw [Option.isNone_some,List.all_eq_false]
  refine ⟨i,List.mem_range.mpr hi,?_⟩
  cases hp:p i with
  | true=>rw [hp] at h1; exact absurd h1 (by simp)
  | false=>decide
theorem A9a {b:Int→Option (Int ⊕ (Bool ⊕ Unit))} (n:Nat) (p:Nat→Bool) (hn:n < 9223372036854775808)
  (hs:∀i:Nat,i < n→b (i:Int) = some (if p i then .inl (w64 ((i:Int) + 1)) else .inr (.inl false))) (he:b (n:Int) = some (.inr (.inr ()))) :
  loop b 0 = some (if (List.range n).all p then .inr () else .inl false):= by
 rw [A7e n (fun i=>if p i then none else some (.inl false)) (.inr ()) hn (fun i hi _=>by rw [hs i hi]; cases p i <;> rfl) he,← C4g]
 have:(fun (i:Nat)=>if p i then none else some (Sum.inl false:Bool ⊕ Unit)) = fun (i:Nat)=>(if p i then none else some ()).map fun _=>Sum.inl false:= by
  funext i; cases p i <;> rfl
 rw [this,A5w]
 cases first (fun (i:Nat)=>if p i then none else some ()) n <;> rfl
def R8 (h:RoHouse) (p:List Int):Bool:=(List.range h.Holds.length).all fun k=>decide (G0 h p k p.length≤h.Holds[k]!)
theorem D57 {h:RoHouse} (ok:HOk h) {p:List Int} (pv:PV h p):A17 ⟨h⟩ (enc p) = some (R8 h p):= by
 have hh:=ok.holds
 unfold A17
 rw [C8n ok pv]
 simp only [Option.bind_some]
 rw [A9a (b:=X2 ⟨h⟩ (B13 h p)) 4 (fun k=>if k < h.Holds.length then decide (G0 h p k p.length≤h.Holds[k]!) else true) (by omega) (fun k hk=>by
  unfold X2 B13
  rw [if_pos (by rw [decide_eq_true_eq]; omega),D1v _ k hk]
  simp only [Option.bind_some]
  by_cases c:k < h.Holds.length
  ·rw [if_pos c,if_pos (by rw [decide_eq_true_eq]; exact Int.ofNat_lt.mpr c),F3 c,if_pos c]
   simp only [Option.bind_some]
   by_cases q:G0 h p k p.length≤h.Holds[k]!
   ·rw [decide_eq_true q,decide_eq_false (show ¬ (G0 h p k p.length > h.Holds[k]!) by omega)]; rfl
   ·rw [decide_eq_false q,decide_eq_true (show (G0 h p k p.length > h.Holds[k]!) by omega)]; rfl
  ·rw [if_neg c,if_neg (by rw [decide_eq_true_eq]; intro q; exact c (Int.ofNat_lt.mp q)),if_neg c]; rfl) (by
  unfold X2
  rw [if_neg (by rw [decide_eq_true_eq]; omega)])]
 simp only [Option.bind_some]
 have e1:(List.range 4).all (fun k=>if k < h.Holds.length then decide (G0 h p k p.length≤h.Holds[k]!) else true) = R8 h p:= by
  unfold R8
  rw [Bool.eq_iff_iff,List.all_eq_true,List.all_eq_true]
  constructor
  ·intro q k hk
   have:=q k (List.mem_range.mpr (by have:=List.mem_range.mp hk; omega))
   rwa [if_pos (List.mem_range.mp hk)] at this
  ·intro q k _
   by_cases c:k < h.Holds.length
   ·rw [if_pos c]; exact q k (List.mem_range.mpr c)
   ·rw [if_neg c]
 rw [e1]
 cases R8 h p <;> rfl
def dear (h:RoHouse) (p:List Int) (c:Int) (i:Nat):Int:=if i < p.length∧p[i]! ≠ -1∧(plc h p i).Dear = true∧h.Figures[i]!.Class = c then 1 else 0
def K9 (h:RoHouse) (p:List Int) (c:Int) (n:Nat):Int:=iter (fun i s=>s + dear h p c i) n 0
theorem A04 (h:RoHouse) (p:List Int) (c:Int) (n:Nat):K9 h p c (n + 1) = K9 h p c n + dear h p c n:=rfl
theorem D8n (h:RoHouse) (p:List Int) (c:Int) (i:Nat):0≤dear h p c i∧dear h p c i≤1:= by
 unfold dear
 split <;> omega
theorem A69 (h:RoHouse) (p:List Int) (c:Int):∀n,0≤K9 h p c n∧K9 h p c n≤n
 | 0=>by unfold K9 iter; omega
 | n + 1=>by
  have ih:=A69 h p c n
  have:=D8n h p c n
  rw [A04]; omega
theorem C3b (h:RoHouse) (p:List Int) (c:Int):∀n,K9 h p c (p.length + n) = K9 h p c p.length
 | 0=>rfl
 | n + 1=>by
  rw [← Nat.add_assoc,A04,C3b h p c n]
  unfold dear
  rw [if_neg (by omega)]; omega
def A1o (b:List Int) (c:Int) (n:Nat):Int:=iter (fun i s=>s + if b[i]! == c then 1 else 0) n 0
theorem A5h (b:List Int) (c:Int) (n:Nat):A1o b c (n + 1) = A1o b c n + if b[n]! == c then 1 else 0:=rfl
theorem C01 (b:List Int) (c:Int):∀n,0≤A1o b c n∧A1o b c n≤n
 | 0=>by unfold A1o iter; omega
 | n + 1=>by
  have ih:=C01 b c n
  rw [A5h]
  split <;> omega
theorem C02 (b:List Int) (c:Int) {m:Nat}:∀{n:Nat},m≤n→A1o b c m≤A1o b c n
 | 0,h=>by have:m = 0:= by omega
           subst this; omega
 | n + 1,h=>by
  by_cases e:m = n + 1
  ·subst e; omega
  ·have ih:=C02 b c (m:=m) (n:=n) (by omega)
   rw [A5h]
   split <;> omega
def A2a (h:RoHouse) (p:List Int):Bool:=(List.range 10).all fun c=>decide (A1o h.Bill (c:Int) h.Bill.length≤K9 h p (c:Int) p.length)
theorem B9c {h:RoHouse} (ok:HOk h) {p:RoPlan} (pv:PV h p.At):A65 h p = some (A2a h p.At):= by
 have h5:=ok.figures
 have hp:=ok.places
 have hb3:=ok.bill
 have hl:=pv.len
 unfold A65
 rw [A9a (b:=A4x h p) 10 (fun c=>decide (A1o h.Bill (c:Int) h.Bill.length≤K9 h p.At (c:Int) p.At.length)) (by omega) (fun c hc=>by
  unfold A4x
  rw [if_pos (by rw [decide_eq_true_eq]; omega)]
  have l1:loop (A2z h p (c:Int)) (0,0) = some (K9 h p.At (c:Int) p.At.length):=G6 (b:=A2z h p (c:Int)) (fun i=>(K9 h p.At (c:Int) i,(i:Int))) p.At.length (by omega) (fun i hi=>by
   have b1:=A69 h p.At (c:Int) i
   have hb:=pv.bd i hi
   unfold A2z
   simp only []
   rw [if_pos (by simpa using hi),F3 hi]
   simp only [Option.bind_some]
   rw [D6 (n:=(i:Int) + 1) (by omega),D6 (by omega),F3 (show i < h.Figures.length by omega),A04]
   by_cases hs:p.At[i]! = -1
   ·have hc:dear h p.At (c:Int) i = 0:= by unfold dear; rw [if_neg (fun hq=>hq.2.1 hs)]
    rw [if_neg (by simp only [hs]; decide),hc,Int.add_zero]; rfl
   ·obtain ⟨q,hq1,hq2,hq3⟩:=shown pv hi hs
    rw [if_pos (bne_iff_ne.mpr hs),hq1,F3 hq2]
    simp only [Option.bind_some]
    unfold dear
    rw [hq3]
    cases hd:h.Places[q]!.Dear with
    | false=>rw [if_neg (by decide),if_neg (fun z=>absurd z.2.2.1 (by decide)),Int.add_zero]; rfl
    | true =>
     rw [if_pos rfl]
     simp only [Option.bind_some]
     by_cases hc:h.Figures[i]!.Class = (c:Int)
     ·rw [if_pos (by rw [beq_iff_eq]; exact hc),if_pos ⟨hi,hs,by trivial,hc⟩]; rfl
     ·rw [if_neg (by rw [beq_iff_eq]; exact hc),if_neg (fun z=>hc z.2.2.2),Int.add_zero]; rfl) (by
   unfold A2z
   simp only []
   rw [if_neg (by simp)])
  have l2:loop (A20 h (c:Int)) (0,0) = some (A1o h.Bill (c:Int) h.Bill.length):=G6 (b:=A20 h (c:Int)) (fun i=>(A1o h.Bill (c:Int) i,(i:Int))) h.Bill.length (by omega) (fun i hi=>by
   have b1:=C01 h.Bill (c:Int) i
   unfold A20
   simp only []
   rw [if_pos (by simpa using hi),F3 hi]
   simp only [Option.bind_some]
   rw [D6 (n:=(i:Int) + 1) (by omega),D6 (by omega),A5h]
   cases h.Bill[i]! == (c:Int)
   ·rw [if_neg (by decide),if_neg (by decide),Int.add_zero]; rfl
   ·rfl) (by
   unfold A20
   simp only []
   rw [if_neg (by simp)])
  rw [l1,l2]
  simp only [Option.bind_some]
  by_cases q:A1o h.Bill (c:Int) h.Bill.length≤K9 h p.At (c:Int) p.At.length
  ·rw [decide_eq_true q,if_neg (by rw [decide_eq_true_eq]; omega)]; rfl
  ·rw [decide_eq_false q,if_pos (by rw [decide_eq_true_eq]; omega)]; rfl) (by
  unfold A4x
  rw [if_neg (by rw [decide_eq_true_eq]; omega)])]
 simp only [Option.bind_some]
 show _ = some (A2a h p.At)
 unfold A2a
 cases (List.range 10).all fun (c:Nat)=>decide (A1o h.Bill (c:Int) h.Bill.length≤K9 h p.At (c:Int) p.At.length) <;> rfl
def gd (m:List (Int × Int)) (c:Int):Int:=(kget m c).getD 0
theorem C6m (m:List (Int × Int)) (k v c:Int):gd (kset m k v) c = if c = k then v else gd m c:= by
 unfold gd
 rw [C5a]
 by_cases h:c = k
 ·rw [if_pos h,if_pos h]; rfl
 ·rw [if_neg h,if_neg h]
theorem prom1 {h:RoHouse} (ok:HOk h) {p:List Int} (pv:PV h p):∃m,loop (O9 ⟨h⟩ (enc p)) (0,[]) = some m∧∀ c,gd m c = K9 h p c p.length:= by
 have h5:=ok.figures
 have hp:=ok.places
 have hl:=pv.len
 refine C1q (b:=O9 ⟨h⟩ (enc p)) (fun i s=>s.1 = (i:Int)∧∀ c,gd s.2 c = K9 h p c i) 5 (fun m=>∀ c,gd m c = K9 h p c p.length) (by omega) ?_ ?_ (0,[]) ⟨rfl,fun c=>rfl⟩
 ·rintro i ⟨i',m⟩ hi ⟨h1,h2⟩
  simp only at h1 h2
  subst h1
  unfold O9
  simp only []
  rw [if_pos (by rw [decide_eq_true_eq]; omega),A91 p i hi]
  simp only [Option.bind_some]
  rw [D6 (n:=(i:Int) + 1) (by omega)]
  have same:∀c,(∀ c,dear h p c i = 0)→gd m c = K9 h p c (i + 1):=fun c hd=>by rw [A04,hd c,Int.add_zero]; exact h2 c
  by_cases c1:i < p.length
  ·have hb:=pv.bd i c1
   have he:e p i = p[i]! + 1:= by unfold e; rw [if_pos c1]
   by_cases hs:p[i]! = -1
   ·rw [if_neg (by rw [decide_eq_true_eq]; omega)]
    exact ⟨_,rfl,rfl,fun c=>same c fun c=>by unfold dear; rw [if_neg (fun hq=>hq.2.1 hs)]⟩
   ·obtain ⟨q,hq1,hq2,hq3⟩:=shown pv c1 hs
    rw [if_pos (by rw [decide_eq_true_eq]; omega),he,D6 (by omega),show p[i]! + 1 - 1 = (q:Int) by omega,F3 hq2]
    simp only [Option.bind_some]
    cases hd:h.Places[q]!.Dear with
    | false =>
     rw [if_neg (by decide)]
     exact ⟨_,rfl,rfl,fun c=>same c fun c=>by unfold dear; rw [hq3,hd,if_neg (fun z=>absurd z.2.2.1 (by decide))]⟩
    | true =>
     rw [if_pos rfl,F3 (show i < h.Figures.length by omega)]
     simp only [Option.bind_some]
     refine ⟨_,rfl,rfl,fun c=>?_⟩
     have b1:=A69 h p h.Figures[i]!.Class i
     have h3:=h2 h.Figures[i]!.Class
     have h3:(kget m h.Figures[i]!.Class).getD 0 = K9 h p h.Figures[i]!.Class i:=h3
     rw [C6m,h3,D6 (by omega),A04]
     unfold dear
     rw [hq3,hd]
     by_cases hc:c = h.Figures[i]!.Class
     ·subst hc
      rw [if_pos rfl,if_pos ⟨c1,hs,by trivial,rfl⟩]
     ·rw [if_neg hc,if_neg (fun z=>hc z.2.2.2.symm),Int.add_zero]; exact h2 c
  ·have he:e p i = 0:= by unfold e; rw [if_neg c1]
   rw [he,if_neg (by decide)]
   exact ⟨_,rfl,rfl,fun c=>same c fun c=>by unfold dear; rw [if_neg (fun hq=>c1 hq.1)]⟩
 ·rintro ⟨i',m⟩ ⟨h1,h2⟩
  simp only at h1 h2
  subst h1
  unfold O9
  simp only []
  rw [if_neg (show ¬ decide (((5:Nat):Int) < 5) = true by rw [decide_eq_true_eq]; omega)]
  refine ⟨m,rfl,fun c=>?_⟩
  have:=C3b h p c (5 - p.length)
  rw [show p.length + (5 - p.length) = 5 by omega] at this
  rw [h2 c,this]
theorem B6n {h:RoHouse} (ok:HOk h) (p:List Int):A2a h p = true↔∀ i,i < h.Bill.length→A1o h.Bill h.Bill[i]! (i + 1)≤K9 h p h.Bill[i]! p.length:= by
 unfold A2a
 rw [List.all_eq_true]
 constructor
 ·intro q i hi
  have hb:=ok.class_ _ (G4 hi)
  have:=q h.Bill[i]!.toNat (List.mem_range.mpr (by omega))
  rw [decide_eq_true_eq,show ((h.Bill[i]!.toNat:Nat):Int) = h.Bill[i]! by omega] at this
  have m:=C02 h.Bill h.Bill[i]! (m:=i + 1) (n:=h.Bill.length) (by omega)
  omega
 ·intro q c _
  rw [decide_eq_true_eq]
  have key:∀n,n≤h.Bill.length→A1o h.Bill (c:Int) n≤K9 h p (c:Int) p.length:= by
   intro n
   induction n with
   | zero=>intro _; exact (A69 h p (c:Int) p.length).1
   | succ n ih =>
    intro hn
    by_cases e:h.Bill[n]! = (c:Int)
    ·have:=q n (by omega)
     rwa [e] at this
    ·rw [A5h,if_neg (by rw [beq_iff_eq]; exact e),Int.add_zero]
     exact ih (by omega)
  exact key _ (Nat.le_refl _)
theorem prom2 {h:RoHouse} (ok:HOk h) {p:List Int} {m:List (Int × Int)} (pl:p.length≤5) (hm:∀c,gd m c = K9 h p c p.length):∃r,loop (P0 ⟨h⟩) (0,m) = some r∧(match r with | .inl v=>v = false∧A2a h p = false | .inr _=>A2a h p = true):= by
 have hb3:=ok.bill
 refine B8c (b:=P0 ⟨h⟩) (fun i s=>s.1 = (i:Int)∧(∀ c,gd s.2 c = K9 h p c p.length - A1o h.Bill c i)∧∀ j,j < i→A1o h.Bill h.Bill[j]! (j + 1)≤K9 h p h.Bill[j]! p.length) h.Bill.length (fun r=>match r with | .inl v=>v = false∧A2a h p = false | .inr _=>A2a h p = true) (by omega) ?_ ?_ (0,m) ⟨rfl,fun c=>by rw [hm c]; show _ = _ - (0:Int); omega,fun j hj=>absurd hj (Nat.not_lt_zero j)⟩
 ·rintro i ⟨i',m'⟩ hi ⟨h1,h2,h3⟩
  simp only at h1 h2
  subst h1
  unfold P0
  simp only []
  rw [if_pos (by simpa using hi),F3 hi]
  simp only [Option.bind_some]
  have b1:=A69 h p h.Bill[i]! p.length
  have b2:=C01 h.Bill h.Bill[i]! i
  have h4:=h2 h.Bill[i]!
  have h5:(kget m' h.Bill[i]!).getD 0 = K9 h p h.Bill[i]! p.length - A1o h.Bill h.Bill[i]! i:=h4
  have e1:A1o h.Bill h.Bill[i]! (i + 1) = A1o h.Bill h.Bill[i]! i + 1:= by rw [A5h,if_pos (beq_self_eq_true _)]
  rw [h5,D6 (n:=K9 h p h.Bill[i]! p.length - A1o h.Bill h.Bill[i]! i - 1) (by omega),D6 (n:=(i:Int) + 1) (by omega)]
  have g1:=C6m m' h.Bill[i]! (K9 h p h.Bill[i]! p.length - A1o h.Bill h.Bill[i]! i - 1) h.Bill[i]!
  rw [if_pos rfl] at g1
  have g2:(kget (kset m' h.Bill[i]! (K9 h p h.Bill[i]! p.length - A1o h.Bill h.Bill[i]! i - 1)) h.Bill[i]!).getD 0 = K9 h p h.Bill[i]! p.length - A1o h.Bill h.Bill[i]! i - 1:=g1
  rw [g2]
  by_cases c:K9 h p h.Bill[i]! p.length - A1o h.Bill h.Bill[i]! i - 1 < 0
  ·right
   rw [if_pos (by rw [decide_eq_true_eq]; exact c)]
   refine ⟨_,rfl,rfl,?_⟩
   cases hk:A2a h p with
   | false=>rfl
   | true =>
    have:=(B6n ok p).mp hk i hi
    omega
  ·left
   rw [if_neg (by rw [decide_eq_true_eq]; exact c)]
   refine ⟨_,rfl,rfl,fun c=>?_,fun j hj=>?_⟩
   ·rw [C6m,A5h]
    by_cases hc:c = h.Bill[i]!
    ·rw [if_pos hc,hc,if_pos (beq_self_eq_true _)]; omega
    ·rw [if_neg hc,if_neg (by rw [beq_iff_eq]; exact fun q=>hc q.symm),Int.add_zero]; exact h2 c
   ·by_cases hji:j = i
    ·subst hji; omega
    ·exact h3 j (by omega)
 ·rintro ⟨i',m'⟩ ⟨h1,_,h3⟩
  simp only at h1
  subst h1
  unfold P0
  simp only []
  rw [if_neg (by simp)]
  exact ⟨_,rfl,(B6n ok p).mpr h3⟩
theorem C82 {h:RoHouse} (ok:HOk h) {p:List Int} (pv:PV h p):X3 ⟨h⟩ (enc p) = some (A2a h p):= by
 have h5:=ok.figures
 have hl:=pv.len
 unfold X3
 obtain ⟨m,e1,hm⟩:=prom1 ok pv
 obtain ⟨r,e2,hr⟩:=prom2 ok (by omega) hm
 by_cases hz:((enc p).x0 == 0 && ((enc p).x1 == 0 && ((enc p).x2 == 0 && ((enc p).x3 == 0 && ((enc p).x4 == 0 && true))))) = true
 ·rw [if_pos hz]
  have hall:∀i,i < 5→e p i = 0:= by
   simp only [Bool.and_eq_true,beq_iff_eq] at hz
   intro i hi
   match i,hi with
   | 0,_=>exact hz.1
   | 1,_=>exact hz.2.1
   | 2,_=>exact hz.2.2.1
   | 3,_=>exact hz.2.2.2.1
   | 4,_=>exact hz.2.2.2.2.1
  have ht:∀c,∀ n,K9 h p c n = 0:= by
   intro c n
   induction n with
   | zero=>rfl
   | succ n ih =>
    rw [A04,ih]
    unfold dear
    rw [if_neg (show ¬ (n < p.length∧p[n]! ≠ -1∧(plc h p n).Dear = true∧h.Figures[n]!.Class = c) from fun q=>by
     have q1:=q.1
     have:=hall n (by omega)
     unfold e at this
     rw [if_pos q.1] at this
     exact q.2.1 (by omega))]
    rfl
  by_cases hb:h.Bill.length = 0
  ·have:A2a h p = true:=(B6n ok p).mpr fun i hi=>by omega
   rw [this,hb]; rfl
  ·have:A2a h p = false:= by
    cases hk:A2a h p with
    | false=>rfl
    | true =>
     have:=(B6n ok p).mp hk 0 (by omega)
     rw [ht,A5h,if_pos (beq_self_eq_true _)] at this
     have:(0:Int) + 1≤0:=this
     omega
   rw [this]
   congr 1
   show ((h.Bill.length:Int) == 0) = false
   exact beq_eq_false_iff_ne.mpr (by omega)
 ·rw [if_neg hz,e1]
  simp only [Option.bind_some]
  rw [e2]
  simp only [Option.bind_some]
  cases r with
  | inl v=>rw [hr.1,hr.2]
  | inr m=>rw [hr]
theorem C0f {h:RoHouse} (ok:HOk h) {p:List Int} (pv:PV h p) (last:Bool):M8 ⟨h⟩ (enc p) last = some (R8 h p && (!last || A2a h p)):= by
 unfold M8
 rw [D57 ok pv,C82 ok pv]
 cases last <;> cases R8 h p <;> cases A2a h p <;> rfl
def A5f (h:RoHouse) (p:List Int) (n:Nat):Int:=iter (fun i s=>s + if i < p.length∧p[i]! ≠ -1 then h.Figures[i]!.Worth else 0) n 0
def worth (h:RoHouse) (p:List Int):Int:=A5f h p p.length
def Y3 (h:RoHouse) (l:Nat) (p:List Int) (i:Nat):Bool:=p[i]! == -1 || I5 (warm h p[i]!.toNat l) h.Figures[i]! == 1
def A40 (h:RoHouse) (l:Nat) (p:List Int):Bool:=(List.range p.length).all (Y3 h l p)
def W6 (h:RoHouse) (l:Nat) (p:List Int):Bool:=A40 h l p && (R8 h p && A2a h p)
theorem B3n {h:RoHouse} (ok:HOk h) {p:RoPlan} (pv:PV h p.At) {l:Nat} (hlit:p.Lit = (l:Int)) (hl16:l < 16):A2x h p = some (W6 h l p.At):= by
 have h5:=ok.figures
 have hp:=ok.places
 have hh:=ok.holds
 have hl:=pv.len
 unfold A2x W6
 rw [A9a (b:=A1t h p) p.At.length (Y3 h l p.At) (by omega) (fun i hi=>by
  unfold A1t
  rw [if_pos (by simpa using hi),F3 hi]
  simp only [Option.bind_some]
  unfold Y3
  by_cases hs:p.At[i]! = -1
  ·rw [hs]; rfl
  ·obtain ⟨q,hq1,hq2,_⟩:=shown pv hi hs
   rw [if_pos (bne_iff_ne.mpr hs),F3 (show i < h.Figures.length by omega),hq1,hlit]
   simp only [Option.bind_some]
   rw [A80 ok (ok.figure _ (G4 (show i < h.Figures.length by omega))) hq2 hl16,Int.toNat_natCast]
   have:((q:Int) == -1) = false:=beq_eq_false_iff_ne.mpr (by omega)
   rw [this,Bool.false_or]
   simp only [Option.bind_some]
   rw [bne]
   cases I5 (warm h q l) h.Figures[i]! == 1 <;> rfl) (by
  unfold A1t
  rw [if_neg (by simp)])]
 simp only [Option.bind_some]
 show _ = some (A40 h l p.At && (R8 h p.At && A2a h p.At))
 have hsf:(List.range p.At.length).all (Y3 h l p.At) = A40 h l p.At:=rfl
 rw [hsf]
 cases A40 h l p.At with
 | false=>rfl
 | true =>
  rw [if_pos rfl,B2e ok pv]
  simp only [Option.bind_some]
  have hcl:(carry h p.At).length = h.Holds.length:= by unfold carry; rw [List.length_map,List.length_range]
  rw [A9a (b:=A1u h (carry h p.At)) h.Holds.length (fun k=>decide (G0 h p.At k p.At.length≤h.Holds[k]!)) (by omega) (fun k hk=>by
   unfold A1u
   rw [if_pos (by rw [decide_eq_true_eq]; omega),F3 (by omega),F3 hk]
   simp only [Option.bind_some]
   have hg:(carry h p.At)[k]! = G0 h p.At k p.At.length:= by
    rw [getElem!_pos _ _ (by omega)]
    unfold carry
    rw [List.getElem_map,List.getElem_range]
   rw [hg]
   by_cases q:G0 h p.At k p.At.length≤h.Holds[k]!
   ·rw [decide_eq_true q,decide_eq_false (show ¬ (G0 h p.At k p.At.length > h.Holds[k]!) by omega)]; rfl
   ·rw [decide_eq_false q,decide_eq_true (show (G0 h p.At k p.At.length > h.Holds[k]!) by omega)]; rfl) (by
   unfold A1u
   rw [if_neg (by rw [decide_eq_true_eq]; omega)])]
  simp only [Option.bind_some]
  have hho:(List.range h.Holds.length).all (fun k=>decide (G0 h p.At k p.At.length≤h.Holds[k]!)) = R8 h p.At:=rfl
  rw [hho]
  cases R8 h p.At with
  | false=>rfl
  | true =>
   rw [if_pos rfl,B9c ok pv]; rfl
def B6k (p:List Int) (i:Nat):Prop:=i < p.length∧p[i]! ≠ -1
def left (h:RoHouse) (l:Nat) (p:List Int) (i:Nat):Int:=B05 ((warm h p[i]!.toNat l).Lo - h.Figures[i]!.Cracks) (h.Figures[i]!.Slumps - (warm h p[i]!.toNat l).Hi)
instance (p:List Int) (i:Nat):Decidable (B6k p i):=inferInstanceAs (Decidable (_∧_))
end Rm
end
section
set_option maxRecDepth 100000
set_option maxHeartbeats 0
namespace Rm
open Go Am Go.Proofs.YtbheamjhjgoccaaDoor.Cd
end Rm
end
section
namespace Rm
open Go Am
theorem A30 (l:List Int) (v:Int) (j:Nat):(l++[v])[j]! = if j < l.length then l[j]! else if j = l.length then v else default:= by
 by_cases c:j < l.length
 ·rw [if_pos c,getElem!_pos (l++[v]) j (by rw [List.length_append]; omega),getElem!_pos l j c,List.getElem_append_left c]
 ·rw [if_neg c]
  by_cases c2:j = l.length
  ·subst c2
   rw [if_pos rfl,getElem!_pos (l++[v]) l.length (by rw [List.length_append]; simp),List.getElem_append_right (Nat.le_refl _)]
   simp
  ·rw [if_neg c2,getElem!_neg (l++[v]) j (by rw [List.length_append]; simp; omega)]
theorem B7o {l:List Int} {v:Int} {j:Nat} (hj:j < l.length):R2 (l++[v]) j = R2 l j:= by
 unfold R2
 rw [A30,if_pos hj,List.take_append_of_le_length (by omega)]
theorem B7n (l:List Int) (v:Int):R2 (l++[v]) l.length = (v != -1 && l.any (· == v)):= by
 unfold R2
 rw [A30,if_neg (Nat.lt_irrefl _),if_pos rfl,List.take_left' rfl]
theorem B33 (l:List Int):dup l = false↔∀ i,i < l.length→R2 l i = false:= by
 unfold dup
 constructor
 ·intro h i hi
  cases hf:first (fun i=>if R2 l i then some () else none) l.length with
  | some u=>rw [hf] at h; cases h
  | none =>
   have:=I1.mp hf i hi
   cases ht:R2 l i with
   | false=>rfl
   | true=>rw [ht] at this; exact absurd this (by simp)
 ·intro h
  rw [I1.mpr fun i hi=>by rw [h i hi]; rfl]; rfl
structure AnyOk (h:RoHouse) (safe:Bool) (p:RoPlan):Prop where
 pv:PV h p.At
 lit:∃l:Nat,p.Lit = l∧l < 2 ^ h.Stoves.toNat
 dup:dup p.At = false
 safe:safe = true→A40 h p.Lit.toNat p.At = true
end Rm
end
section
set_option maxRecDepth 100000
set_option maxHeartbeats 0
namespace Rm
open Go Am Go.Proofs.YtbheamjhjgoccaaDoor.Cd
def A50 (a0:RoHouse) (a1:Int) (a2:(List Int)) (g99:((RoHouse × Int × (List Int))→Option (List RoPlan))) (s2:(Int × (List RoPlan))):Option ((Int × (List RoPlan)) ⊕ (List RoPlan)) :=
 if (decide (s2.1≤(List.length a0.Places:Int))) = true then
  (if (s2.1 == (List.length a0.Places:Int)) = true then
   some (.inr (-1))
  else
   (A5x a2 s2.1).bind fun x7 =>
   (if x7 = true then
   some true
   else
   (idx a0.Figures (List.length a2:Int)).bind fun x9 =>
   (M9 a0 x9 s2.1 a1).bind fun x10 =>
   some (x10 != 1)).bind fun x11 =>
   if x11 = true then
   some (.inl ())
   else
   some (.inr s2.1)).bind fun (p5:(Unit ⊕ Int)) =>
  match p5 with
  | (.inl vp5_0) =>
  some (.inl ((w64 (s2.1 + 1)),s2.2))
  | (.inr vp5_1) =>
  (app 8 ([]:List Int) a2).bind fun x13 =>
  (app 8 x13 [vp5_1]).bind fun x14 =>
  (g99 (a0,a1,x14)).bind fun x15 =>
  (app 32 s2.2 x15).bind fun x16 =>
  some (.inl ((w64 (s2.1 + 1)),x16))
 else
  some (.inr s2.2)
def A5p (g99:((RoHouse × Int × (List Int))→Option (List RoPlan))) (a0:RoHouse) (a1:Int) (a2:(List Int)):Option (List RoPlan) :=
 if ((List.length a2:Int) == (List.length a0.Figures:Int)) = true then
  some [(RoPlan.mk a1 a2)]
 else
  (loop (A50 a0 a1 a2 g99) (0,([]:List RoPlan))).bind fun (o17:(List RoPlan)) =>
  some o17
def A5q:Nat→(RoHouse × Int × (List Int))→Option (List RoPlan)
 | 0=>fun _=>none
 | k + 1=>fun y=>A5p (A5q k) y.1 y.2.1 y.2.2
def C2t (a0:RoHouse) (a1:Int) (a2:(List Int)):Option (List RoPlan):=A5q 64 (a0,a1,a2)
theorem C3y {g99:((RoHouse × Int × (List Int))→Option (List RoPlan))} (hg99:∀{c:Sc} {H:A7} {y:(RoHouse × Int × (List Int))} {r:(List RoPlan)},g99 y = some r→A19 tab c H (.fn (.func 120) [] []) [(.agg (A3 y.1)),.i y.2.1,(.seq 1 (List.map cI y.2.2))] [(.seq 2 (List.map B2 r))]) {c:Sc} {H:A7} {a0:RoHouse} {a1:Int} {a2:(List Int)} {r:(List RoPlan)} (h:A5p g99 a0 a1 a2 = some r) :
  A19 tab c H (.fn (.func 120) [] []) [(.agg (A3 a0)),.i a1,(.seq 1 (List.map cI a2))] [(.seq 2 (List.map B2 r))]:= by
 unfold A5p at h
 refine cF rfl rfl<|sg 0 rfl<|A0 (E9 (cs:=A3 a0) rfl rfl rfl) rfl<|qm rfl<|es (ra3 rfl rfl rfl)<|s0<|qm rfl<|A0 (D4 (f:=cI) rfl) rfl<|qm rfl<|es (ra4 rfl rfl rfl rfl)<|B6<|s0<|qm rfl<|A0 (C5 rfl) rfl<|A0 (C2 rfl rfl rfl) rfl<|A0 (D4 (f:=B4) rfl) rfl<|A0 (F4 rfl rfl) rfl<|es (ra5 rfl rfl rfl rfl rfl)<|wi h rfl (fun hc1 h=>?_) fun hc1 h=>?_
 ·refine s0<|qm rfl<|qm rfl<|A0 (G5 (cs:=B2 (RoPlan.mk a1 a2)) rfl rfl) rfl<|A0 (J5 (rows:=List.map B2 [(RoPlan.mk a1 a2)]) rfl rfl (F1 (fun _=>rfl) _)) rfl<|qm rfl<|es (ra1 rfl)<|C6 ?_
  obtain rfl:=os h
  refine Exists.intro [(.seq 2 (List.map B2 [(RoPlan.mk a1 a2)]))] (And.intro ?_ rfl)
  exact retq trivial (A9 rfl B8) (A4 rfl B7) (A2 G2 B1)
 ·refine C0<|sg 1 rfl<|A0 B07 rfl<|es (ra5 rfl rfl rfl rfl rfl)<|B6<|s0<|qm rfl<|es (ra6 rfl rfl rfl rfl rfl rfl)<|C4<|oB h fun o17 ho17 h=>wl (fun s2=>[(1,.i a1),(2,(.seq 1 (List.map cI a2))),(3,(.ptr (H.length + 0) 0)),(7,(.i (List.length a2:Int))),(8,(.asl (H.length + 1) (List.length s2.2))),(9,.i s2.1)]) (fun (q3:Unit) s2=>[(.cells (A3 a0)),(.arr 2 false (List.map B2 s2.2))]) 2 (fun r e s' H'=>PX 0 [(8,(.asl (H.length + 1) (List.length r)))] (H++[(.cells (A3 a0)),(.arr 2 false (List.map B2 r))]) e s' H') () ho17 rfl rfl (fun _ _=>rfl) (fun _=>rfl) rfl (fun s2=>(bdc A5 (bdc G2 (bdc (D8 rfl) (bdc A5 (bdc (A4e rfl) (bdc A5 bdn))))))) (fun q3 s2 ys2 hs2=>?_) ?_
  ·unfold A50 at hs2
   refine B6<|s0<|qm rfl<|A0 (C5 rfl) rfl<|A0 (C2 rfl rfl rfl) rfl<|A0 (D4 (f:=C3) rfl) rfl<|A0 (B2q rfl rfl) rfl<|es (ra7 rfl rfl rfl rfl rfl rfl rfl)<|wi hs2 rfl (fun hc4 hs2=>?_) fun hc4 hs2=>?_
   ·refine C0<|B6<|C4<|s0<|qm rfl<|qm rfl<|es (ra7 rfl rfl rfl rfl rfl rfl rfl)<|B6<|s0<|qm rfl<|A0 (C5 rfl) rfl<|A0 (C2 rfl rfl rfl) rfl<|A0 (D4 (f:=C3) rfl) rfl<|A0 (F4 rfl rfl) rfl<|es (ra8 rfl rfl rfl rfl rfl rfl rfl rfl)<|oB hs2 fun p5 hp5 hs2=>A77 (Q1:=fun e s' H'=>(match p5 with | (.inl v)=>PX 1 [(1,.i a1),(2,(.seq 1 (List.map cI a2))),(3,(.ptr (H.length + 0) 0)),(7,(.i (List.length a2:Int))),(8,(.asl (H.length + 1) (List.length s2.2))),(9,.i s2.1)] (H++[(.cells (A3 a0)),(.arr 2 false (List.map B2 s2.2))]) e s' H' | (.inr v)=>e = .normal∧s' = [(1,.i a1),(2,(.seq 1 (List.map cI a2))),(3,(.ptr (H.length + 0) 0)),(7,(.i (List.length a2:Int))),(8,(.asl (H.length + 1) (List.length s2.2))),(9,.i s2.1),(10,.i v)]∧H' = (H++[(.cells (A3 a0)),(.arr 2 false (List.map B2 s2.2))]):Prop)) ?_ ?_
    ·refine wi hp5 rfl (fun hc6 hp5=>?_) fun hc6 hp5=>?_
     ·refine r0<|qm rfl<|en (ra7 rfl rfl rfl rfl rfl rfl rfl) ?_
      obtain rfl:=os hp5
      exact me (And.intro rfl (And.intro rfl rfl)) (su7 rfl rfl rfl rfl rfl rfl rfl)
     ·refine s0<|oB hp5 fun x7 hx7 hp5=>oB hp5 fun x11 hx11 hp5=>qm rfl<|qm rfl<|B3 (rs:=[.b x7]) rfl rfl (A1 rfl (A1 rfl B5)) ((A8f hx7).frz)<|qm rfl<|gp 11 49 (.b x11) 38 rfl rfl (fun hg8=>?_) (fun hg8=>?_) ?_
      ·obtain rfl:=os (bt hx11 hg8)
       exact nF rfl hg8 rfl<|nF rfl hg8 rfl<|nF rfl hg8 rfl<|nF rfl hg8 rfl<|nF rfl hg8 rfl<|nF rfl hg8 rfl<|nF rfl hg8 rfl<|nF rfl hg8 rfl<|G3 (E3 rfl (by rw [hg8]; rfl)) rfl<|nF rfl hg8 rfl<|A0 (C7 rfl hg8 rfl) rfl<|ge 11 rfl rfl rfl
      ·refine oB (bf hx11 hg8) fun x9 hx9 hx11=>oB hx11 fun x10 hx10 hx11=>?_
       obtain rfl:=os hx11
       exact gF rfl hg8<|A0 (B9 rfl rfl rfl) rfl<|gF rfl hg8<|A0 (C5 rfl) rfl<|gF rfl hg8<|A0 (C2 rfl rfl rfl) rfl<|gF rfl hg8<|qm rfl<|gF rfl hg8<|A0 (E2 (f:=B4) rfl rfl hx9) rfl<|gF rfl hg8<|A0 (N6 rfl rfl) rfl<|gF rfl hg8<|qm rfl<|gF rfl hg8<|qm rfl<|gF rfl hg8<|B3 (rs:=[.i x10]) rfl rfl (A1 (C9 rfl) (A1 (C9 rfl) (A1 rfl (A1 rfl B5)))) ((Y9 hx10).frz)<|gF rfl hg8<|A0 (F9 rfl rfl) rfl<|A0 (C8 rfl hg8 rfl) rfl<|ge 11 rfl rfl rfl
      refine es (ra8 rfl rfl rfl rfl rfl rfl rfl rfl)<|wi hp5 rfl (fun hc12 hp5=>?_) fun hc12 hp5=>?_
      ·refine E6 ?_
       obtain rfl:=os hp5
       exact me px (su6 rfl rfl rfl rfl rfl rfl)
      ·refine C0 ?_
       obtain rfl:=os hp5
       exact me (And.intro rfl (And.intro rfl rfl)) (su7 rfl rfl rfl rfl rfl rfl rfl)
    ·rcases p5 with vp5_0 | vp5_1
     ·rintro e s' H' ⟨rfl,rfl,rfl⟩
      refine r0<|qm rfl<|A0 (E1 rfl rfl) rfl<|qm rfl<|en (ra6 rfl rfl rfl rfl rfl rfl) ?_
      cases hs2
      exact lnT () rfl (su6 rfl rfl rfl rfl rfl rfl)
     ·rintro e s' H' ⟨rfl,rfl,rfl⟩
      refine rg 2 rfl<|oB hs2 fun x13 hx13 hs2=>oB hs2 fun x14 hx14 hs2=>oB hs2 fun x15 hx15 hs2=>oB hs2 fun x16 hx16 hs2=>A0 (B6t (rows:=List.map cI []) rfl rfl (F1 (fun _=>rfl) _)) rfl<|qm rfl<|B62 [0] [(.cells (A3 a0)),(.arr 2 false (List.map B2 s2.2)),(.arr 1 false (List.map cI x13))] (A59 [] rfl (A7a rfl A5i Q9) rfl rfl) (seen0 rfl) (A4i (f:=cI) rfl rfl rfl rfl A1s (fun _=>rfl) hx13) rfl rfl rfl<|qm rfl<|A0 (J5 (rows:=List.map cI [vp5_1]) rfl rfl (F1 (fun _=>rfl) _)) rfl<|B62 [0] [(.cells (A3 a0)),(.arr 2 false (List.map B2 s2.2)),.dead] (A59 [] rfl (A7a rfl A5i Q9) rfl rfl) (seen0 rfl) (B6s (f:=cI) rfl rfl rfl rfl A1s (fun _=>rfl) hx14) rfl rfl rfl<|A38 [2] (A59 [2] rfl Q9 rfl rfl) (B4k (b:=H.length + 0) rfl (A68 (A2d _ rfl) (A68 (A2d _ rfl) B1k))) (B9 rfl rfl rfl) rfl<|qm rfl<|B3 (rs:=[(.seq 2 (List.map B2 x15))]) rfl rfl (A1 (C9 rfl) (A1 rfl (A1 rfl B5))) (hg99 hx15)<|qm rfl<|A7p (A4i (f:=B2) rfl rfl rfl rfl A1s (fun _=>rfl) hx16) rfl<|qm rfl<|en (ra6 rfl rfl rfl rfl rfl rfl)<|r0<|qm rfl<|A0 (E1 rfl rfl) rfl<|qm rfl<|en (ra6 rfl rfl rfl rfl rfl rfl) ?_
      cases hs2
      exact lnT () rfl (su6 rfl rfl rfl rfl rfl rfl)
   ·refine E6 ?_
    obtain rfl:=os hs2
    exact lx rfl px (su1 rfl)
  ·rintro e s' H' - ⟨rfl,rfl,rfl⟩
   refine s0<|qm rfl<|qm rfl<|es (ra1 rfl)<|C6 ?_
   obtain rfl:=os h
   refine Exists.intro [(.fresh 2 (List.map B2 o17))] (And.intro ?_ rfl)
   exact retq trivial (A9 rfl B8) (A4 (B2b rfl (List.length_map _)) B7) (A2 A55 B1)
theorem B41:∀(k:Nat) {c:Sc} {H:A7} {y:(RoHouse × Int × (List Int))} {r:(List RoPlan)},A5q k y = some r→A19 tab c H (.fn (.func 120) [] []) [(.agg (A3 y.1)),.i y.2.1,(.seq 1 (List.map cI y.2.2))] [(.seq 2 (List.map B2 r))]
 | 0,_,_,_,_,h=>by cases h
 | k + 1,_,_,_,_,h=>C3y (B41 k) h
theorem C8v {c:Sc} {H:A7} {a0:RoHouse} {a1:Int} {a2:(List Int)} {r:(List RoPlan)} (h:C2t a0 a1 a2 = some r):A19 tab c H (.fn (.func 120) [] []) [(.agg (A3 a0)),.i a1,(.seq 1 (List.map cI a2))] [(.seq 2 (List.map B2 r))]:=B41 64 h
def Z8 (a0:RoHouse) (x5:(List RoPlan)) (s6:(Int × (List RoPlan))):Option ((Int × (List RoPlan)) ⊕ (List RoPlan)) :=
 if (decide (s6.1 < (List.length x5:Int))) = true then
  (idx x5 s6.1).bind fun x9 =>
  (A2x a0 x9).bind fun x10 =>
  if x10 = true then
  (idx x5 s6.1).bind fun x12 =>
  (app 32 s6.2 [x12]).bind fun x13 =>
  some (.inl ((w64 (s6.1 + 1)),x13))
  else
  some (.inl ((w64 (s6.1 + 1)),s6.2))
 else
  some (.inr s6.2)
def A12 (a0:RoHouse) (s1:(Int × (List RoPlan))):Option ((Int × (List RoPlan)) ⊕ (List RoPlan)) :=
 (A0a a0.Stoves).bind fun x3 =>
 if (decide (s1.1 < x3)) = true then
  (C2t a0 s1.1 ([]:List Int)).bind fun x5 =>
  (loop (Z8 a0 x5) (0,s1.2)).bind fun (o14:(List RoPlan)) =>
  some (.inl ((w64 (s1.1 + 1)),o14))
 else
  some (.inr s1.2)
def A5y (a0:RoHouse):Option (List RoPlan) :=
 (loop (A12 a0) (0,([]:List RoPlan))).bind fun (o15:(List RoPlan)) =>
 some o15
theorem B3f {c:Sc} {H:A7} {a0:RoHouse} {r:(List RoPlan)} (h:A5y a0 = some r) :
  E8 tab c H (.fn (.func 99) [] []) [(.agg (A3 a0))] [(.fresh 2 (List.map B2 r))]:= by
 unfold A5y at h
 refine cE rfl rfl<|sg 0 rfl<|A0 (E9 (cs:=A3 a0) rfl rfl rfl) rfl<|qm rfl<|es (ra1 rfl)<|sg 1 rfl<|A0 B07 rfl<|es (ra2 rfl rfl)<|B6<|s0<|qm rfl<|es (ra3 rfl rfl rfl)<|C4<|oB h fun o15 ho15 h=>wl (fun s1=>[(1,(.ptr (H.length + 0) 0)),(3,(.asl (H.length + 1) (List.length s1.2))),(4,.i s1.1)]) (fun (q2:Unit) s1=>[(.cells (A3 a0)),(.arr 2 false (List.map B2 s1.2))]) 2 (fun r e s' H'=>PX 0 [(3,(.asl (H.length + 1) (List.length r)))] (H++[(.cells (A3 a0)),(.arr 2 false (List.map B2 r))]) e s' H') () ho15 rfl rfl (fun _ _=>rfl) (fun _=>rfl) rfl (fun s1=>(bdc (D8 rfl) (bdc (A4e rfl) (bdc A5 bdn)))) (fun q2 s1 ys1 hs1=>?_) ?_
 ·unfold A12 at hs1
  refine B6<|s0<|oB hs1 fun x3 hx3 hs1=>qm rfl<|A0 (C5 rfl) rfl<|A0 (C2 rfl rfl rfl) rfl<|B3 (rs:=[.i x3]) rfl rfl (A1 rfl B5) ((A4t hx3).frz)<|A0 (F7 rfl rfl) rfl<|es (ra4 rfl rfl rfl rfl)<|wi hs1 rfl (fun hc4 hs1=>?_) fun hc4 hs1=>?_
  ·refine C0<|B6<|C4<|s0<|oB hs1 fun x5 hx5 hs1=>A0 (B9 rfl rfl rfl) rfl<|qm rfl<|B3 (rs:=[(.seq 2 (List.map B2 x5))]) rfl rfl (A1 (C9 rfl) (A1 rfl (A1 rfl B5))) (C8v hx5)<|qm rfl<|es (ra4 rfl rfl rfl rfl)<|s0<|qm rfl<|es (ra5 rfl rfl rfl rfl rfl)<|C4<|oB hs1 fun o14 ho14 hs1=>wl (fun s6=>[(1,(.ptr (H.length + 0) 0)),(3,(.asl (H.length + 1) (List.length s6.2))),(4,.i s1.1),(5,(.seq 2 (List.map B2 x5))),(6,.i s6.1)]) (fun (q7:Unit) s6=>[(.cells (A3 a0)),(.arr 2 false (List.map B2 s6.2))]) 2 (fun r e s' H'=>PX 2 [(1,(.ptr (H.length + 0) 0)),(3,(.asl (H.length + 1) (List.length r))),(4,.i s1.1)] (H++[(.cells (A3 a0)),(.arr 2 false (List.map B2 r))]) e s' H') () ho14 rfl rfl (fun _ _=>rfl) (fun _=>rfl) rfl (fun s6=>(bdc (D8 rfl) (bdc (A4e rfl) (bdc A5 (bdc G2 (bdc A5 bdn)))))) (fun q7 s6 ys6 hs6=>?_) ?_
   ·unfold Z8 at hs6
    refine B6<|s0<|qm rfl<|qm rfl<|A0 (D4 (f:=B2) rfl) rfl<|A0 (F7 rfl rfl) rfl<|es (ra6 rfl rfl rfl rfl rfl rfl)<|wi hs6 rfl (fun hc8 hs6=>?_) fun hc8 hs6=>?_
    ·refine C0<|B6<|C4<|s0<|oB hs6 fun x9 hx9 hs6=>oB hs6 fun x10 hx10 hs6=>A0 (B9 rfl rfl rfl) rfl<|qm rfl<|qm rfl<|A0 (E2 (f:=B2) rfl rfl hx9) rfl<|A0 (N6 rfl rfl) rfl<|B3 (rs:=[.b x10]) rfl rfl (A1 (C9 rfl) (A1 (C9 rfl) B5)) ((B1d hx10).frz)<|es (ra6 rfl rfl rfl rfl rfl rfl)<|wi hs6 rfl (fun hc11 hs6=>?_) fun hc11 hs6=>?_
     ·refine r0<|oB hs6 fun x12 hx12 hs6=>oB hs6 fun x13 hx13 hs6=>qm rfl<|qm rfl<|qm rfl<|A0 (E2 (f:=B2) rfl rfl hx12) rfl<|A0 (N6 rfl rfl) rfl<|A0 (J5 (rows:=List.map B2 [x12]) rfl rfl (F1 (fun _=>rfl) _)) rfl<|A7p (A4i (f:=B2) rfl rfl rfl rfl A1s (fun _=>rfl) hx13) rfl<|qm rfl<|en (ra5 rfl rfl rfl rfl rfl)<|r0<|qm rfl<|A0 (E1 rfl rfl) rfl<|qm rfl<|en (ra5 rfl rfl rfl rfl rfl) ?_
      cases hs6
      exact lnT () rfl (su5 rfl rfl rfl rfl rfl)
     ·refine C0<|r0<|qm rfl<|A0 (E1 rfl rfl) rfl<|qm rfl<|en (ra5 rfl rfl rfl rfl rfl) ?_
      cases hs6
      exact lnT () rfl (su5 rfl rfl rfl rfl rfl)
    ·refine E6 ?_
     obtain rfl:=os hs6
     exact lx rfl px (su3 rfl rfl rfl)
   ·rintro e s' H' - ⟨rfl,rfl,rfl⟩
    refine r0<|qm rfl<|A0 (E1 rfl rfl) rfl<|qm rfl<|en (ra3 rfl rfl rfl) ?_
    cases hs1
    exact lnT () rfl (su3 rfl rfl rfl)
  ·refine E6 ?_
   obtain rfl:=os hs1
   exact lx rfl px (su1 rfl)
 ·rintro e s' H' - ⟨rfl,rfl,rfl⟩
  refine s0<|qm rfl<|qm rfl<|es (ra1 rfl)<|C6 ?_
  obtain rfl:=os h
  exact retq trivial (A9 rfl B8) (A4 (B2b rfl (List.length_map _)) B7) (A2 A55 B1)
end Rm
end
section
namespace Rm
open Go Am
section
variable {α σ ρ:Type}
def A7m (f:α→σ→Option (σ ⊕ ρ)):List α→σ→Option (σ ⊕ ρ)
 | [],s=>some (.inl s)
 | a :: l,s=>(f a s).bind fun x=>match x with
  | .inl s'=>A7m f l s'
  | .inr r=>some (.inr r)
theorem B1y (f:α→σ→Option (σ ⊕ ρ)) (m:List α):∀(l:List α) (s:σ),A7m f (l++m) s = (A7m f l s).bind fun x=>match x with
  | .inl s'=>A7m f m s'
  | .inr r=>some (.inr r)
 | [],s=>rfl
 | a :: l,s=>by
  show (f a s).bind _ = ((f a s).bind _).bind _
  cases f a s with
  | none=>rfl
  | some x=>cases x with
   | inl s'=>exact B1y f m l s'
   | inr r=>rfl
end
def A0i (h:RoHouse) (l:Nat) (q:List Int) (p:Nat):Bool:=!(q.any (· == (p:Int))) && I5 (warm h p l) h.Figures[q.length]! == 1
def cand (h:RoHouse) (l:Nat) (q:List Int):List Int:=(((List.range h.Places.length).filter (A0i h l q)).map fun (p:Nat)=>(p:Int))++[-1]
def DF (h:RoHouse) (l:Nat):Nat→List Int→List (List Int)
 | 0,q=>[q]
 | d + 1,q=>(cand h l q).flatMap fun v=>DF h l d (q++[v])
structure BG (h:RoHouse) (q:List Int):Prop where
 len:q.length≤h.Figures.length
 bd:∀i,i < q.length→-1≤q[i]!∧q[i]! < (h.Places.length:Int)
theorem C0y {h:RoHouse} {l:Nat} {q:List Int} {v:Int} (hv:v ∈ cand h l q):v = -1∨∃ p:Nat,v = p∧p < h.Places.length∧A0i h l q p = true:= by
 unfold cand at hv
 rw [List.mem_append,List.mem_map] at hv
 rcases hv with ⟨p,hp,rfl⟩ | hv
 ·rw [List.mem_filter,List.mem_range] at hp
  exact .inr ⟨p,rfl,hp.1,hp.2⟩
 ·exact .inl (List.mem_singleton.mp hv)
theorem BG.snoc {h:RoHouse} {l:Nat} {q:List Int} (b:BG h q) (hq:q.length < h.Figures.length) {v:Int} (hv:v ∈ cand h l q):BG h (q++[v]):= by
 refine ⟨by rw [List.length_append]; simp; omega,fun i hi=>?_⟩
 rw [A30]
 by_cases c:i < q.length
 ·rw [if_pos c]; exact b.bd i c
 ·rw [List.length_append,List.length_singleton] at hi
  rw [if_neg c,if_pos (by omega)]
  rcases C0y hv with rfl | ⟨p,rfl,hp,_⟩ <;> omega
theorem C9y {h:RoHouse} {l:Nat}:∀(d:Nat) (q p:List Int),p ∈ DF h l d q→p.length = q.length + d
 | 0,q,p,hp=>by rw [List.mem_singleton.mp hp]; rfl
 | d + 1,q,p,hp=>by
  unfold DF at hp
  rw [List.mem_flatMap] at hp
  obtain ⟨v,_,hp⟩:=hp
  rw [C9y d _ p hp,List.length_append,List.length_singleton]; omega
theorem D1i (p:List Int) {n:Nat} (h:n < p.length):p.take (n + 1) = p.take n++[p[n]!]:= by
 rw [List.take_add_one,List.getElem?_eq_getElem h,getElem!_pos p n h]; rfl
theorem B97 {h:RoHouse} {l:Nat}:∀(d:Nat) (q p:List Int),p ∈ DF h l d q→p.take q.length = q
 | 0,q,p,hp=>by rw [List.mem_singleton.mp hp,List.take_length]
 | d + 1,q,p,hp=>by
  unfold DF at hp
  rw [List.mem_flatMap] at hp
  obtain ⟨v,_,hp⟩:=hp
  have:=B97 d _ p hp
  rw [List.length_append,List.length_singleton] at this
  have h2:=congrArg (List.take q.length) this
  rw [List.take_take,Nat.min_eq_left (by omega),List.take_left' rfl] at h2
  exact h2
theorem C00 (h:RoHouse) (p:List Int) (k:Nat) {m:Nat}:∀n,n≤m→G0 h (p.take m) k n = G0 h p k n
 | 0,_=>rfl
 | n + 1,hn=>by
  rw [N5,N5,C00 h p k n (by omega)]
  congr 1
  unfold con plc
  rw [C9o p (show n < m by omega),List.length_take]
  by_cases c:n < p.length∧p[n]! ≠ -1∧bit (h.Places[p[n]!.toNat]!).Joists.toNat k = true
  ·rw [if_pos c,if_pos ⟨by have:=c.1; omega,c.2⟩]
  ·rw [if_neg c,if_neg (fun q=>c ⟨by have:=q.1; omega,q.2⟩)]
theorem E0q {h:RoHouse} (ok:HOk h) {p:List Int} (hl:p.length≤h.Figures.length) (k i:Nat):0≤con h p k i:= by
 unfold con
 by_cases c:i < p.length∧p[i]! ≠ -1∧bit (plc h p i).Joists.toNat k = true
 ·rw [if_pos c]
  have:=(ok.figure _ (G4 (show i < h.Figures.length by have:=c.1; omega))).weight
  omega
 ·rw [if_neg c]; omega
theorem C0z {h:RoHouse} (ok:HOk h) {p:List Int} (hl:p.length≤h.Figures.length) (k:Nat) {m:Nat}:∀{n:Nat},m≤n→G0 h p k m≤G0 h p k n
 | 0,hm=>by
  have:m = 0:= by omega
  subst this; omega
 | n + 1,hm=>by
  by_cases e:m = n + 1
  ·subst e; omega
  ·have ih:=C0z ok hl k (m:=m) (n:=n) (by omega)
   have:=E0q ok hl k n
   rw [N5]; omega
theorem D0i {h:RoHouse} (ok:HOk h) {p:List Int} (hl:p.length≤h.Figures.length) {m:Nat} (hm:m≤p.length) (hh:R8 h p = true):R8 h (p.take m) = true:= by
 unfold R8 at hh ⊢
 rw [List.all_eq_true] at hh ⊢
 intro k hk
 have h1:=hh k hk
 rw [decide_eq_true_eq] at h1 ⊢
 have h2:=C00 h p k (m:=m) m (Nat.le_refl _)
 have h3:=C0z ok hl k hm
 rw [List.length_take,Nat.min_eq_left hm]
 omega
theorem D4w {h:RoHouse} (ok:HOk h) {l:Nat} {d:Nat} {q:List Int} (hl:q.length + d≤h.Figures.length) (hh:R8 h q = false) {g:List Int→Bool} (hg:∀p,g p = true→R8 h p = true):(DF h l d q).filter g = []:= by
 rw [List.filter_eq_nil_iff]
 intro p hp hgp
 have h1:=C9y d q p hp
 have h2:=D0i ok (p:=p) (by omega) (m:=q.length) (by omega) (hg p hgp)
 rw [B97 d q p hp,hh] at h2
 cases h2
def pad (h:RoHouse) (q:List Int):List Int:=q++List.replicate (h.Figures.length - q.length) (-1)
theorem B4f {h:RoHouse} {q:List Int} (hq:q.length≤h.Figures.length):(pad h q).length = h.Figures.length:= by
 unfold pad
 rw [List.length_append,List.length_replicate]; omega
theorem C61 {h:RoHouse} {q:List Int} (hq:q.length≤h.Figures.length) {i:Nat} (hi:i < h.Figures.length):(pad h q)[i]! = if i < q.length then q[i]! else -1:= by
 have hl:=B4f hq
 rw [getElem!_pos (pad h q) i (by omega)]
 unfold pad
 by_cases c:i < q.length
 ·rw [if_pos c,List.getElem_append_left c,getElem!_pos q i c]
 ·rw [if_neg c,List.getElem_append_right (by omega),List.getElem_replicate]
theorem C77 {h:RoHouse} {q:List Int} (hq:q.length≤h.Figures.length) (i:Nat):e (pad h q) i = e q i:= by
 unfold e
 rw [B4f hq]
 by_cases c:i < h.Figures.length
 ·rw [if_pos c,C61 hq c]
  by_cases c2:i < q.length
  ·rw [if_pos c2,if_pos c2]
  ·rw [if_neg c2,if_neg c2]; rfl
 ·rw [if_neg c,if_neg (by omega)]
theorem D8p {h:RoHouse} {q:List Int} (hq:q.length≤h.Figures.length):enc (pad h q) = enc q:= by
 unfold enc
 rw [C77 hq,C77 hq,C77 hq,C77 hq,C77 hq]
theorem E1o {h:RoHouse} {q:List Int} (b:BG h q):PV h (pad h q):= by
 refine ⟨B4f b.len,fun i hi=>?_⟩
 rw [B4f b.len] at hi
 rw [C61 b.len hi]
 by_cases c:i < q.length
 ·rw [if_pos c]; exact b.bd i c
 ·rw [if_neg c]; omega
theorem D8l {h:RoHouse} {q:List Int} (hq:q.length≤h.Figures.length) (k i:Nat):con h (pad h q) k i = con h q k i:= by
 unfold con plc
 rw [B4f hq]
 by_cases c:i < h.Figures.length
 ·rw [C61 hq c]
  by_cases c2:i < q.length
  ·rw [if_pos c2]
   by_cases c3:q[i]! ≠ -1∧bit (h.Places[q[i]!.toNat]!).Joists.toNat k = true
   ·rw [if_pos ⟨c,c3⟩,if_pos ⟨c2,c3⟩]
   ·rw [if_neg (fun z=>c3 z.2),if_neg (fun z=>c3 z.2)]
  ·rw [if_neg c2,if_neg (fun z=>z.2.1 rfl),if_neg (fun z=>c2 z.1)]
 ·rw [if_neg (fun z=>c z.1),if_neg (fun z=>absurd z.1 (by omega))]
theorem C4o {h:RoHouse} {q:List Int} (hq:q.length≤h.Figures.length) (k:Nat):∀n,G0 h (pad h q) k n = G0 h q k n
 | 0=>rfl
 | n + 1=>by rw [N5,N5,C4o hq k n,D8l hq]
theorem D3o {h:RoHouse} {q:List Int} (hq:q.length≤h.Figures.length):R8 h (pad h q) = R8 h q:= by
 unfold R8
 congr 1
 funext k
 rw [B4f hq,C4o hq]
 have:=B5a h q k (h.Figures.length - q.length)
 rw [show q.length + (h.Figures.length - q.length) = h.Figures.length by omega] at this
 rw [this]
theorem D0l {h:RoHouse} (ok:HOk h) {q:List Int} (b:BG h q):M8 ⟨h⟩ (enc q) false = some (R8 h q):= by
 have:=C0f ok (E1o b) false
 rw [D8p b.len,D3o b.len] at this
 rw [this]
 cases R8 h q <;> rfl
theorem B56 (q:List Int) (v:Int):Ar5.set (enc q) (q.length:Int) (v + 1) = enc (q++[v]):= by
 have h1:=D13 (q++[v]) (i:=q.length) (by rw [List.length_append]; simp)
 rw [List.take_left' rfl,A30,if_neg (Nat.lt_irrefl _),if_pos rfl] at h1
 rw [h1]
 congr 1
 rw [List.take_of_length_le (by rw [List.length_append]; simp)]
theorem D5w (q:List Int):enc (q++[-1]) = enc q:= by
 have hz:∀i,e (q++[-1]) i = e q i:= by
  intro i
  unfold e
  rw [List.length_append,List.length_singleton,A30]
  by_cases c:i < q.length
  ·rw [if_pos (by omega),if_pos c,if_pos c]
  ·rw [if_neg c,if_neg c]
   by_cases c2:i = q.length
   ·rw [if_pos (by omega),if_pos c2]; rfl
   ·rw [if_neg (by omega)]
 unfold enc
 rw [hz,hz,hz,hz,hz]
theorem set_set (a:Ar5 Int) (i v w:Int):Ar5.set (Ar5.set a i v) i w = Ar5.set a i w:= by
 unfold Ar5.set
 simp only [Ar5.mk.injEq]
 refine ⟨?_,?_,?_,?_,?_⟩ <;> (split <;> rfl)
def B8t (u:Int) (q:List Int):Prop:=∃ n:Nat,u = n∧n < 32∧∀ p:Nat,p < 5→bit n p = q.any (· == (p:Int))
theorem D3e:∀l:Nat,l < 32→∀ s:Nat,s < 5→B1m .i64 (l:Int) (s:Int) = some ((l / 2 ^ s:Nat):Int):= by decide +kernel
theorem D3b:∀x:Nat,x < 32→(B48 (x:Int) 1 == 1) = (x % 2 == 1):= by decide +kernel
theorem shl5:∀n:Nat,n < 5→B3v .i64 1 (n:Int) = some ((2 ^ n:Nat):Int):= by decide +kernel
theorem D9k:∀u:Nat,u < 32→∀ p:Nat,p < 5→orI (u:Int) ((2 ^ p:Nat):Int) = ((u ||| 2 ^ p:Nat):Int)∧(u ||| 2 ^ p) < 32:= by decide +kernel
theorem E1d:∀u:Nat,u < 32→∀ p:Nat,p < 5→∀ t:Nat,t < 5→bit (u ||| 2 ^ p) t = (bit u t || t == p):= by decide +kernel
theorem D4s {u:Int} {q:List Int} (hu:B8t u q) {p:Nat} (hp:p < 5):B8t (orI u ((2 ^ p:Nat):Int)) (q++[(p:Int)]):= by
 obtain ⟨n,rfl,hn,hb⟩:=hu
 obtain ⟨h1,h2⟩:=D9k n hn p hp
 refine ⟨_,h1,h2,fun t ht=>?_⟩
 rw [E1d n hn p hp t ht,hb t ht,List.any_append,List.any_cons,List.any_nil,Bool.or_false]
 congr 1
 rw [Bool.eq_iff_iff,beq_iff_eq,beq_iff_eq]
 omega
theorem D4r {u:Int} {q:List Int} (hu:B8t u q):B8t u (q++[-1]):= by
 obtain ⟨n,rfl,hn,hb⟩:=hu
 refine ⟨n,rfl,hn,fun t ht=>?_⟩
 rw [hb t ht,List.any_append,List.any_cons,List.any_nil,Bool.or_false]
 have:((-1:Int) == (t:Int)) = false:=beq_eq_false_iff_ne.mpr (by omega)
 rw [this,Bool.or_false]
def okB (h:RoHouse) (p:List Int):Bool:=R8 h p && A2a h p
section
variable {σ ρ:Type}
theorem B8m {h:RoHouse} (ok:HOk h) {l:Nat} (hl16:l < 16) (body:room_plan→σ→Option (σ ⊕ ρ)):∀(d:Nat) (q:List Int) (s:σ) (X:σ ⊕ ρ) (u:Int),q.length + d = h.Figures.length→BG h q→B8t u q →
  A7m (fun p s=>body ⟨(l:Int),enc p⟩ s) ((DF h l d q).filter (okB h)) s = some X→∀ k,d < k→∃ p',A9h ⟨h⟩ (l:Int) body k (q.length:Int) u (enc q) s = some (p',X)∧(X.isLeft = true→p' = enc q)
 | 0,q,s,X,u,hl,b,hu,hf,k,hk=>by
  obtain ⟨k,rfl⟩:∃m,k = m + 1:=⟨k - 1,by omega⟩
  refine ⟨enc q,?_,fun _=>rfl⟩
  unfold A9h
  rw [if_pos (show ((q.length:Int) == (List.length h.Figures:Int)) = true by rw [beq_iff_eq]; omega),C0f ok (p:=q) ⟨by omega,b.bd⟩ true]
  simp only [Option.bind_some,Bool.not_true,Bool.false_or]
  have e1:(R8 h q && A2a h q) = okB h q:=rfl
  rw [e1]
  unfold DF at hf
  cases ho:okB h q with
  | false =>
   rw [List.filter_cons,ho,if_neg (by decide)] at hf
   have hf:some (Sum.inl s) = some X:=hf
   rw [← Option.some.inj hf,if_neg (by decide)]
  | true =>
   rw [List.filter_cons,ho,if_pos rfl] at hf
   rw [if_pos rfl]
   have hf:(body ⟨(l:Int),enc q⟩ s).bind _ = some X:=hf
   cases hb:body ⟨(l:Int),enc q⟩ s with
   | none=>rw [hb] at hf; exact absurd hf (by simp)
   | some x =>
    rw [hb] at hf
    cases x with
    | inl s' =>
     have:some (Sum.inl s') = some X:=hf
     rw [← Option.some.inj this]; rfl
    | inr r =>
     have:some (Sum.inr r) = some X:=hf
     rw [← Option.some.inj this]; rfl
 | d + 1,q,s,X,u,hl,b,hu,hf,k,hk=>by
  obtain ⟨k,rfl⟩:∃m,k = m + 1:=⟨k - 1,by omega⟩
  have hp:=ok.places
  have hf5:=ok.figures
  have hq:q.length < h.Figures.length:= by omega
  have hlen:∀v:Int,((q++[v]).length:Int) = w64 ((q.length:Int) + 1):=fun v=>by
   rw [List.length_append,List.length_singleton,D6 (by omega)]; rfl
  have hidx:∀a:Ar5 Int,∃ z,idx (Ar5.l a) (q.length:Int) = some z:=fun a=>by
   refine ⟨_,F3 (l:=Ar5.l a) (i:=q.length) (show q.length < 5 by omega)⟩
  unfold A9h
  rw [if_neg (show ¬ ((q.length:Int) == (List.length h.Figures:Int)) = true by rw [beq_iff_eq]; omega)]
  have hf:A7m (fun p s=>body ⟨(l:Int),enc p⟩ s) (((((List.range h.Places.length).drop 0).filter (A0i h l q)).map fun (p:Nat)=>(p:Int)).flatMap (fun v=>(DF h l d (q++[v])).filter (okB h))++(DF h l d (q++[-1])).filter (okB h)) s = some X:= by
   unfold DF cand at hf
   rw [List.filter_flatMap,List.flatMap_append,List.flatMap_cons,List.flatMap_nil,List.append_nil] at hf
   exact hf
  obtain ⟨o,ho,hJ⟩:=B8c (b:=B8l ⟨h⟩ (l:Int) (A9h ⟨h⟩ (l:Int) body k) (q.length:Int) u)
   (fun i x=>x.1 = (i:Int)∧(∀ y:Int,Ar5.set x.2.1 (q.length:Int) y = Ar5.set (enc q) (q.length:Int) y)∧A7m (fun p s=>body ⟨(l:Int),enc p⟩ s) (((((List.range h.Places.length).drop i).filter (A0i h l q)).map fun (p:Nat)=>(p:Int)).flatMap (fun v=>(DF h l d (q++[v])).filter (okB h))++(DF h l d (q++[-1])).filter (okB h)) x.2.2 = some X)
   h.Places.length
   (fun o=>match o with | .inl (_,r)=>X = .inr r | .inr (p',s')=>(∀ y:Int,Ar5.set p' (q.length:Int) y = Ar5.set (enc q) (q.length:Int) y)∧A7m (fun p s=>body ⟨(l:Int),enc p⟩ s) ((DF h l d (q++[-1])).filter (okB h)) s' = some X)
   (by omega) (by
    rintro i ⟨n,p,s⟩ hi ⟨e1,e2,e3⟩
    simp only at e1 e2 e3
    subst e1
    obtain ⟨un,hun,hun2,hub⟩:=hu
    rw [List.drop_eq_getElem_cons (by rw [List.length_range]; exact hi),List.getElem_range,List.filter_cons] at e3
    unfold B8l
    simp only []
    rw [if_pos (show decide ((i:Int) < (List.length h.Places:Int)) = true by rw [decide_eq_true_eq]; omega),hun,D3e un hun2 i (by omega)]
    simp only [Option.bind_some]
    rw [D3b _ (Nat.lt_of_le_of_lt (Nat.div_le_self _ _) hun2)]
    have hbit:(un / 2 ^ i % 2 == 1) = q.any (· == (i:Int)):=hub i (by omega)
    rw [hbit]
    have hguard:(if q.any (· == (i:Int)) = true then some true else (O5 ⟨h⟩ (q.length:Int) (i:Int) (l:Int)).bind fun z=>some (z != 1)) = some (!A0i h l q i):= by
     unfold A0i
     cases q.any (· == (i:Int))
     ·rw [if_neg (by decide),B6b ok hq hi hl16]
      simp only [Option.bind_some,Bool.not_false,Bool.true_and]; rfl
     ·rfl
    rw [hguard]
    simp only [Option.bind_some]
    rw [D6 (n:=(i:Int) + 1) (by omega)]
    cases hfr:A0i h l q i with
    | false =>
     rw [hfr,if_neg (by decide)] at e3
     rw [Bool.not_false,if_pos rfl]
     exact .inl ⟨_,rfl,rfl,e2,e3⟩
    | true =>
     rw [hfr,if_pos rfl,List.map_cons,List.flatMap_cons,List.append_assoc,B1y] at e3
     rw [Bool.not_true,if_neg (by decide)]
     obtain ⟨z,hz⟩:=hidx p
     rw [hz]
     simp only [Option.bind_some]
     have hmem:((i:Nat):Int) ∈ cand h l q:= by
      unfold cand
      rw [List.mem_append,List.mem_map]
      exact .inl ⟨i,List.mem_filter.mpr ⟨List.mem_range.mpr hi,hfr⟩,rfl⟩
     have b2:=b.snoc hq hmem
     rw [e2,B56,D0l ok b2]
     simp only [Option.bind_some]
     cases hh:R8 h (q++[(i:Int)]) with
     | false =>
      rw [if_neg (by decide)]
      have hpr:(DF h l d (q++[(i:Int)])).filter (okB h) = []:=D4w ok (by rw [List.length_append,List.length_singleton]; omega) hh fun p hp=>by
       unfold okB at hp
       rw [Bool.and_eq_true] at hp
       exact hp.1
      rw [hpr] at e3
      exact .inl ⟨_,rfl,rfl,fun y=>by rw [← B56,set_set],e3⟩
     | true =>
      rw [if_pos rfl,shl5 i (by omega)]
      simp only [Option.bind_some]
      have hu2:=D4s (p:=i) ⟨un,rfl,hun2,hub⟩ (by omega)
      cases hx:A7m (fun p s=>body ⟨(l:Int),enc p⟩ s) ((DF h l d (q++[(i:Int)])).filter (okB h)) s with
      | none=>rw [hx] at e3; exact absurd e3 (by simp)
      | some x =>
       rw [hx] at e3
       obtain ⟨p1,hp1,hp2⟩:=B8m ok hl16 body d (q++[(i:Int)]) s x _ (by rw [List.length_append,List.length_singleton]; omega) b2 hu2 hx k (by omega)
       rw [hlen] at hp1
       rw [hp1]
       simp only [Option.bind_some]
       cases x with
       | inl s' =>
        have hp2:=hp2 rfl
        exact .inl ⟨_,rfl,rfl,fun y=>by rw [hp2,← B56,set_set],e3⟩
       | inr r =>
        have e3:some (Sum.inr r) = some X:=e3
        exact .inr ⟨_,rfl,(Option.some.inj e3).symm⟩) (by
    rintro ⟨n,p,s⟩ ⟨e1,e2,e3⟩
    simp only at e1 e2 e3
    subst e1
    rw [List.drop_of_length_le (by rw [List.length_range]; exact Nat.le_refl _)] at e3
    unfold B8l
    simp only []
    rw [if_neg (show ¬ decide (((h.Places.length:Nat):Int) < (List.length h.Places:Int)) = true by simp)]
    exact ⟨_,rfl,e2,e3⟩) (0,enc q,s) ⟨rfl,fun _=>rfl,hf⟩
  rw [ho]
  simp only [Option.bind_some]
  rcases o with ⟨p',r⟩ | ⟨p',s'⟩
  ·have hJ:X = .inr r:=hJ
   subst hJ
   exact ⟨p',rfl,fun z=>by cases z⟩
  ·obtain ⟨g1,g2⟩:=hJ
   obtain ⟨z,hz⟩:=hidx p'
   simp only []
   rw [hz]
   simp only [Option.bind_some]
   have g3:Ar5.set p' (q.length:Int) 0 = enc (q++[-1]):= by rw [g1,← B56]; rfl
   rw [g3]
   have b2:BG h (q++[-1]):=b.snoc (l:=l) hq (by unfold cand; rw [List.mem_append]; exact .inr (List.mem_singleton.mpr rfl))
   obtain ⟨p1,hp1,hp2⟩:=B8m ok hl16 body d (q++[-1]) s' X u (by rw [List.length_append,List.length_singleton]; omega) b2 (D4r hu) g2 k (by omega)
   rw [hlen] at hp1
   exact ⟨p1,hp1,fun hX=>by rw [hp2 hX,D5w]⟩
end
def A0e (h:RoHouse) (l:Nat):List (Nat × List Int):=((DF h l h.Figures.length []).filter (okB h)).map fun p=>(l,p)
def N9 (h:RoHouse):List (Nat × List Int):=(List.range (2 ^ h.Stoves.toNat)).flatMap (A0e h)
section
variable {α β σ ρ:Type}
theorem C4w (f:β→σ→Option (σ ⊕ ρ)) (g:α→β):∀(l:List α) (s:σ),A7m f (l.map g) s = A7m (fun a s=>f (g a) s) l s
 | [],_=>rfl
 | a :: l,s=>by
  show (f (g a) s).bind _ = (f (g a) s).bind _
  congr 1
  funext x
  cases x with
  | inl s'=>exact C4w f g l s'
  | inr r=>rfl
theorem D1k:B8t 0 []:=⟨0,rfl,by decide,by decide⟩
theorem B2d {h:RoHouse} (ok:HOk h) (body:room_plan→σ→Option (σ ⊕ ρ)) {s:σ} {X:σ ⊕ ρ} (hf:A7m (fun (x:Nat × List Int) s=>body ⟨(x.1:Int),enc x.2⟩ s) (N9 h) s = some X):A6j ⟨h⟩ σ ρ body s = some X:= by
 have hpw:=A27 ok
 have hf5:=ok.figures
 unfold A6j
 rw [show B3v .i64 1 (room_house.mk h).RoHouse.Stoves = some ((2 ^ h.Stoves.toNat:Nat):Int) from D73 ok]
 simp only [Option.bind_some]
 have hf:A7m (fun (x:Nat × List Int) s=>body ⟨(x.1:Int),enc x.2⟩ s) (((List.range (2 ^ h.Stoves.toNat)).drop 0).flatMap (A0e h)) s = some X:=hf
 obtain ⟨o,ho,hJ⟩:=B8c (b:=C5c ⟨h⟩ ((2 ^ h.Stoves.toNat:Nat):Int) body)
  (fun i x=>x.1 = (i:Int)∧A7m (fun (x:Nat × List Int) s=>body ⟨(x.1:Int),enc x.2⟩ s) (((List.range (2 ^ h.Stoves.toNat)).drop i).flatMap (A0e h)) x.2 = some X)
  (2 ^ h.Stoves.toNat) (fun o=>match o with | .inl r=>X = .inr r | .inr s'=>X = .inl s') (by omega) (by
   rintro i ⟨n,s⟩ hi ⟨e1,e2⟩
   simp only at e1 e2
   subst e1
   rw [List.drop_eq_getElem_cons (by rw [List.length_range]; exact hi),List.getElem_range,List.flatMap_cons,B1y] at e2
   unfold C5c
   simp only []
   rw [if_pos (by rw [decide_eq_true_eq]; omega)]
   cases hx:A7m (fun (x:Nat × List Int) s=>body ⟨(x.1:Int),enc x.2⟩ s) (A0e h i) s with
   | none=>rw [hx] at e2; exact absurd e2 (by simp)
   | some x =>
    rw [hx] at e2
    unfold A0e at hx
    rw [C4w] at hx
    obtain ⟨p',hp',_⟩:=B8m ok (show i < 16 by omega) body h.Figures.length [] s x 0 (by simp) ⟨Nat.zero_le _,fun j hj=>absurd hj (Nat.not_lt_zero j)⟩ D1k hx 64 (by omega)
    have hp':A9h ⟨h⟩ (i:Int) body 64 0 0 ⟨0,0,0,0,0⟩ s = some (p',x):=hp'
    rw [hp']
    simp only [Option.bind_some]
    rw [D6 (by omega)]
    cases x with
    | inl s'=>exact .inl ⟨_,rfl,rfl,e2⟩
    | inr r =>
     have e2:some (Sum.inr r) = some X:=e2
     exact .inr ⟨_,rfl,(Option.some.inj e2).symm⟩) (by
   rintro ⟨n,s⟩ ⟨e1,e2⟩
   simp only at e1 e2
   subst e1
   rw [List.drop_of_length_le (by rw [List.length_range]; exact Nat.le_refl _)] at e2
   have e2:some (Sum.inl s) = some X:=e2
   unfold C5c
   simp only []
   rw [if_neg (by simp)]
   exact ⟨_,rfl,(Option.some.inj e2).symm⟩) (0,s) ⟨rfl,hf⟩
 rw [ho]
 simp only [Option.bind_some]
 cases o with
 | inl r =>
  have hJ:X = .inr r:=hJ
  rw [hJ]
 | inr s' =>
  have hJ:X = .inl s':=hJ
  rw [hJ]
end
theorem D5r (h:RoHouse) (l:Nat) (q:List Int):(cand h l q).length≤h.Places.length + 1:= by
 unfold cand
 rw [List.length_append,List.length_map,List.length_singleton]
 have:=List.length_filter_le (A0i h l q) (List.range h.Places.length)
 rw [List.length_range] at this
 omega
theorem B6c {α β:Type} {f:α→List β} {b:Nat}:∀{l:List α},(∀ x ∈ l,(f x).length≤b)→(l.flatMap f).length≤l.length * b
 | [],_=>by simp
 | x :: l,h=>by
  have ih:=B6c (l:=l) fun y hy=>h y (List.mem_cons_of_mem _ hy)
  have:=h x (List.mem_cons_self ..)
  rw [List.flatMap_cons,List.length_append,List.length_cons,Nat.succ_mul]
  omega
theorem B96 {h:RoHouse} (ok:HOk h) (l:Nat):∀(d:Nat) (q:List Int),(DF h l d q).length≤6 ^ d
 | 0,q=>by unfold DF; simp
 | d + 1,q=>by
  unfold DF
  have h1:=B6c (l:=cand h l q) (f:=fun v=>DF h l d (q++[v])) (b:=6 ^ d) fun v _=>B96 ok l d _
  have h2:=D5r h l q
  have h3:=ok.places
  have h4:(cand h l q).length * 6 ^ d≤6 * 6 ^ d:=Nat.mul_le_mul_right _ (by omega)
  rw [Nat.pow_succ]
  omega
theorem E0h {h:RoHouse} (ok:HOk h) {l:Nat} (hl16:l < 16):∀(d:Nat) (q:List Int),q.length + d = h.Figures.length→∀ k,d < k→A5q k (h,(l:Int),q) = some ((DF h l d q).map (RoPlan.mk (l:Int)))
 | 0,q,hl,k,hk=>by
  obtain ⟨k,rfl⟩:∃m,k = m + 1:=⟨k - 1,by omega⟩
  show A5p _ h (l:Int) q = _
  unfold A5p
  rw [if_pos (by rw [beq_iff_eq]; omega)]; rfl
 | d + 1,q,hl,k,hk=>by
  obtain ⟨k,rfl⟩:∃m,k = m + 1:=⟨k - 1,by omega⟩
  have hp:=ok.places
  have hf5:=ok.figures
  have hq:q.length < h.Figures.length:= by omega
  show A5p _ h (l:Int) q = _
  unfold A5p
  rw [if_neg (by rw [beq_iff_eq]; omega)]
  have hsz:∀v,(DF h l d (q++[v])).length≤7776:=fun v=>Nat.le_trans (B96 ok l d _) (Nat.le_trans (Nat.pow_le_pow_right (show 0 < 6 by decide) (show d≤5 by omega)) (by decide))
  let P:Nat→List Int:=fun i=>((List.range i).filter (A0i h l q)).map fun (p:Nat)=>(p:Int)
  let R:Nat→List RoPlan:=fun i=>(((if i≤h.Places.length then P i else P h.Places.length++[-1])).flatMap fun v=>DF h l d (q++[v])).map (RoPlan.mk (l:Int))
  have hP:∀i,(P i).length≤i:=fun i=>by
   have:=List.length_filter_le (A0i h l q) (List.range i)
   rw [List.length_range] at this
   show (List.map _ _).length≤i
   rw [List.length_map]; exact this
  have hR:∀i,i≤h.Places.length→(R i).length≤50000:=fun i hi=>by
   show (List.map _ _).length≤_
   rw [List.length_map,if_pos hi]
   have h1:=B6c (l:=P i) (f:=fun v=>DF h l d (q++[v])) (b:=7776) fun v _=>hsz v
   have:=hP i
   have:(P i).length * 7776≤5 * 7776:=Nat.mul_le_mul_right _ (by omega)
   omega
  have l1:=G6 (b:=A50 h (l:Int) q (A5q k)) (fun i=>((i:Int),R i)) (h.Places.length + 1) (r:=R (h.Places.length + 1)) (by omega) (fun i hi=>by
   unfold A50
   simp only []
   rw [if_pos (by rw [decide_eq_true_eq]; omega),D6 (n:=(i:Int) + 1) (by omega)]
   have hstep:∀v:Int,((app 8 ([]:List Int) q).bind fun x13=>(app 8 x13 [v]).bind fun x14=>(A5q k (h,(l:Int),x14)).bind fun x15=>(app 32 (R i) x15).bind fun x16=>some (Sum.inl ((i:Int) + 1,x16):(Int × List RoPlan) ⊕ List RoPlan)) = some (.inl ((i:Int) + 1,R i++(DF h l d (q++[v])).map (RoPlan.mk (l:Int)))):= by
    intro v
    rw [A5g (by omega) (by simp; omega)]
    simp only [Option.bind_some,List.nil_append]
    rw [A5g (by omega) (by simp; omega)]
    simp only [Option.bind_some]
    rw [E0h ok hl16 d (q++[v]) (by rw [List.length_append,List.length_singleton]; omega) k (by omega)]
    simp only [Option.bind_some]
    have h1:=hR i (by omega)
    have h2:=hsz v
    have h3:((DF h l d (q++[v])).map (RoPlan.mk (l:Int))).length = (DF h l d (q++[v])).length:=List.length_map _
    rw [A5g (by omega) (by omega)]; rfl
   by_cases c:i = h.Places.length
   ·subst c
    rw [if_pos (by rw [beq_self_eq_true])]
    simp only [Option.bind_some]
    rw [hstep]
    congr 3
    show _ = List.map _ (List.flatMap _ (if h.Places.length + 1≤h.Places.length then _ else _))
    rw [if_neg (by omega),List.flatMap_append,List.map_append]
    show List.map _ (List.flatMap _ (if h.Places.length≤h.Places.length then _ else _))++_ = _
    rw [if_pos (Nat.le_refl _)]
    simp
   ·have hi2:i < h.Places.length:= by omega
    rw [if_neg (by rw [beq_iff_eq]; omega),C6o _ _ (by omega)]
    simp only [Option.bind_some]
    have hg:(if (q.any (· == (i:Int))) = true then some true else (idx h.Figures (List.length q:Int)).bind fun x9=>(M9 h x9 (i:Int) (l:Int)).bind fun x10=>some (x10 != 1)) = some (!A0i h l q i):= by
     unfold A0i
     cases q.any (· == (i:Int))
     ·rw [if_neg (by decide),F3 hq]
      simp only [Option.bind_some]
      rw [A80 ok (ok.figure _ (G4 hq)) hi2 hl16]
      simp only [Option.bind_some,Bool.not_false,Bool.true_and]; rfl
     ·rfl
    rw [hg]
    simp only [Option.bind_some]
    have hPs:P (i + 1) = P i++(if A0i h l q i = true then [(i:Int)] else []):= by
     show List.map _ (List.filter _ (List.range (i + 1))) = _
     rw [List.range_succ,List.filter_append,List.map_append,List.filter_cons,List.filter_nil]
     cases A0i h l q i <;> rfl
    have hRs:R (i + 1) = R i++((if A0i h l q i = true then [(i:Int)] else []).flatMap fun v=>DF h l d (q++[v])).map (RoPlan.mk (l:Int)):= by
     show List.map _ (List.flatMap _ (if i + 1≤h.Places.length then _ else _)) = List.map _ (List.flatMap _ (if i≤h.Places.length then _ else _))++_
     rw [if_pos (by omega),if_pos (by omega),hPs,List.flatMap_append,List.map_append]
    cases hfr:A0i h l q i with
    | false =>
     rw [hfr,if_neg (by decide)] at hRs
     simp only [Bool.not_false,if_true,Option.bind_some]
     rw [hRs]
     simp
    | true =>
     rw [hfr,if_pos rfl] at hRs
     simp only [Bool.not_true,Bool.false_eq_true,if_false,Option.bind_some]
     rw [hstep,hRs]
     simp) (by
   unfold A50
   simp only []
   rw [if_neg (by rw [decide_eq_true_eq]; omega)])
  have l0:R 0 = []:= by
   show List.map _ (List.flatMap _ (if 0≤h.Places.length then _ else _)) = _
   rw [if_pos (Nat.zero_le _)]; rfl
  have l1:loop (A50 h (l:Int) q (A5q k)) (0,R 0) = _:=l1
  rw [l0] at l1
  rw [l1]
  simp only [Option.bind_some]
  congr 1
  show List.map _ (List.flatMap _ (if h.Places.length + 1≤h.Places.length then _ else _)) = _
  rw [if_neg (by omega)]; rfl
theorem D4u {h:RoHouse} {l:Nat} {P:List Int→Prop} (hP:∀q v,q.length < h.Figures.length→v ∈ cand h l q→P q→P (q++[v])):∀(d:Nat) (q p:List Int),q.length + d≤h.Figures.length→P q→p ∈ DF h l d q→P p
 | 0,q,p,_,hq,hp=>by rw [List.mem_singleton.mp hp]; exact hq
 | d + 1,q,p,hl,hq,hp=>by
  unfold DF at hp
  rw [List.mem_flatMap] at hp
  obtain ⟨v,hv,hp⟩:=hp
  exact D4u hP d (q++[v]) p (by rw [List.length_append,List.length_singleton]; omega) (hP q v (by omega) hv hq) hp
theorem C9f (h:RoHouse) (l:Nat) {q:List Int} {v:Int} {j:Nat} (hj:j < q.length):Y3 h l (q++[v]) j = Y3 h l q j:= by
 unfold Y3
 rw [A30,if_pos hj]
structure PG (h:RoHouse) (l:Nat) (p:List Int):Prop where
 bg:BG h p
 safe:∀i,i < p.length→Y3 h l p i = true
 once:∀i,i < p.length→R2 p i = false
theorem PG.snoc {h:RoHouse} {l:Nat} {q:List Int} {v:Int} (hq:q.length < h.Figures.length) (hv:v ∈ cand h l q) (g:PG h l q):PG h l (q++[v]):= by
 refine ⟨g.bg.snoc hq hv,fun i hi=>?_,fun i hi=>?_⟩
 ·rw [List.length_append,List.length_singleton] at hi
  by_cases c:i < q.length
  ·rw [C9f h l c]; exact g.safe i c
  ·rw [show i = q.length by omega]
   unfold Y3
   rw [A30,if_neg (Nat.lt_irrefl _),if_pos rfl]
   rcases C0y hv with rfl | ⟨p,rfl,_,hf⟩
   ·rfl
   ·unfold A0i at hf
    rw [Bool.and_eq_true] at hf
    rw [Int.toNat_natCast,hf.2,Bool.or_true]
 ·rw [List.length_append,List.length_singleton] at hi
  by_cases c:i < q.length
  ·rw [B7o c]; exact g.once i c
  ·rw [show i = q.length by omega,B7n]
   rcases C0y hv with rfl | ⟨p,rfl,_,hf⟩
   ·rfl
   ·unfold A0i at hf
    rw [Bool.and_eq_true,Bool.not_eq_true'] at hf
    rw [hf.1,Bool.and_false]
theorem C4b {h:RoHouse} {l:Nat} {p:List Int} (hp:p ∈ DF h l h.Figures.length []):PG h l p∧PV h p:= by
 have h1:PG h l p:=D4u (P:=PG h l) (fun q v hq hv g=>g.snoc hq hv) _ [] p (by simp) ⟨⟨Nat.zero_le _,fun j hj=>absurd hj (Nat.not_lt_zero j)⟩,fun j hj=>absurd hj (Nat.not_lt_zero j),fun j hj=>absurd hj (Nat.not_lt_zero j)⟩ hp
 have h2:=C9y _ _ _ hp
 exact ⟨h1,by rw [h2]; simp,h1.bg.bd⟩
theorem C0q {h:RoHouse} {l:Nat} {p:List Int} (hp:p ∈ DF h l h.Figures.length []):W6 h l p = okB h p:= by
 have g:=(C4b hp).1
 unfold W6 okB
 have:A40 h l p = true:= by
  unfold A40
  rw [List.all_eq_true]
  intro i hi
  exact g.safe i (List.mem_range.mp hi)
 rw [this,Bool.true_and]
def mkP (x:Nat × List Int):RoPlan:=RoPlan.mk (x.1:Int) x.2
theorem B65 {h:RoHouse} (ok:HOk h) (l:Nat):(A0e h l).length≤7776:= by
 have h5:=ok.figures
 unfold A0e
 rw [List.length_map]
 have h1:=List.length_filter_le (okB h) (DF h l h.Figures.length [])
 have h2:=B96 ok l h.Figures.length []
 have h3:6 ^ h.Figures.length≤6 ^ 5:=Nat.pow_le_pow_right (by decide) h5
 omega
theorem C68 {h:RoHouse} (ok:HOk h) {l:Nat} (hl16:l < 16) (acc:List RoPlan) (ha:acc.length≤100000):loop (Z8 h ((DF h l h.Figures.length []).map (RoPlan.mk (l:Int)))) (0,acc) = some (acc++(A0e h l).map mkP):= by
 have h5:=ok.figures
 have hsz:(DF h l h.Figures.length []).length≤7776:= by
  have h2:=B96 ok l h.Figures.length []
  have h3:6 ^ h.Figures.length≤6 ^ 5:=Nat.pow_le_pow_right (by decide) h5
  omega
 have l1:=G6 (b:=Z8 h ((DF h l h.Figures.length []).map (RoPlan.mk (l:Int)))) (fun i=>((i:Int),acc++((((DF h l h.Figures.length []).take i).filter (okB h)).map fun p=>(l,p)).map mkP)) (DF h l h.Figures.length []).length (r:=acc++(A0e h l).map mkP) (by omega) (fun i hi=>by
  unfold Z8
  simp only []
  rw [List.length_map,if_pos (by rw [decide_eq_true_eq]; omega),F3 (by rw [List.length_map]; exact hi)]
  simp only [Option.bind_some]
  have hg:((DF h l h.Figures.length []).map (RoPlan.mk (l:Int)))[i]! = RoPlan.mk (l:Int) (DF h l h.Figures.length [])[i]!:= by
   rw [getElem!_pos ((DF h l h.Figures.length []).map (RoPlan.mk (l:Int))) i (by rw [List.length_map]; exact hi),List.getElem_map,getElem!_pos (DF h l h.Figures.length []) i hi]
  rw [hg,D6 (n:=(i:Int) + 1) (by omega)]
  have hm:(DF h l h.Figures.length [])[i]! ∈ DF h l h.Figures.length []:=G4 hi
  rw [B3n ok (p:=RoPlan.mk (l:Int) (DF h l h.Figures.length [])[i]!) (C4b hm).2 rfl hl16]
  simp only [Option.bind_some]
  rw [C0q hm]
  have hts:(DF h l h.Figures.length []).take (i + 1) = (DF h l h.Figures.length []).take i++[(DF h l h.Figures.length [])[i]!]:= by
   rw [List.take_add_one,List.getElem?_eq_getElem hi,getElem!_pos (DF h l h.Figures.length []) i hi]; rfl
  have hle:(((((DF h l h.Figures.length []).take i).filter (okB h)).map fun p=>(l,p)).map mkP).length≤7776:= by
   rw [List.length_map,List.length_map]
   have:=List.length_filter_le (okB h) ((DF h l h.Figures.length []).take i)
   rw [List.length_take] at this
   omega
  cases ho:okB h (DF h l h.Figures.length [])[i]! with
  | true =>
   rw [if_pos rfl,A5g (by omega) (by rw [List.length_append]; simp only [List.length_singleton]; omega),hts,List.filter_append,List.filter_cons,ho,if_pos rfl,List.filter_nil]
   simp only [Option.bind_some,List.map_append,List.append_assoc]
   rfl
  | false =>
   rw [if_neg (by decide),hts,List.filter_append,List.filter_cons,ho,if_neg (by decide),List.filter_nil,List.append_nil]
   rfl) (by
  unfold Z8
  simp only []
  rw [List.length_map,if_neg (by simp),List.take_length]; rfl)
 have e0:acc++((((DF h l h.Figures.length []).take 0).filter (okB h)).map fun p=>(l,p)).map mkP = acc:=List.append_nil _
 have l1:loop (Z8 h ((DF h l h.Figures.length []).map (RoPlan.mk (l:Int)))) (0,acc++((((DF h l h.Figures.length []).take 0).filter (okB h)).map fun p=>(l,p)).map mkP) = _:=l1
 rw [e0] at l1
 exact l1
theorem B2f {h:RoHouse} (ok:HOk h):A5y h = some ((N9 h).map mkP):= by
 have hpw:=A27 ok
 have h5:=ok.figures
 unfold A5y
 have hlen:∀i,i≤8→(((List.range i).flatMap (A0e h)).map mkP).length≤62208:=fun i hi=>by
  rw [List.length_map]
  have:=B6c (l:=List.range i) (f:=A0e h) (b:=7776) fun x _=>B65 ok x
  rw [List.length_range] at this
  have:i * 7776≤8 * 7776:=Nat.mul_le_mul_right _ hi
  omega
 have l1:=G6 (b:=A12 h) (fun i=>((i:Int),((List.range i).flatMap (A0e h)).map mkP)) (2 ^ h.Stoves.toNat) (r:=(N9 h).map mkP) (by omega) (fun i hi=>by
  unfold A12
  rw [C24 ok]
  simp only [Option.bind_some]
  rw [if_pos (by rw [decide_eq_true_eq]; omega)]
  have ho:C2t h (i:Int) [] = some ((DF h i h.Figures.length []).map (RoPlan.mk (i:Int))):=E0h ok (by omega) h.Figures.length [] (by simp) 64 (by omega)
  rw [ho]
  simp only [Option.bind_some]
  have hli:=hlen i (by omega)
  rw [C68 ok (by omega) _ (by omega),D6 (by omega),List.range_succ,List.flatMap_append,List.map_append,List.flatMap_cons,List.flatMap_nil,List.append_nil]
  rfl) (by
  unfold A12
  rw [C24 ok]
  simp only [Option.bind_some]
  rw [if_neg (by simp)]; rfl)
 have l1:loop (A12 h) (0,[]) = _:=l1
 rw [l1]; rfl
section
variable {α σ ρ:Type}
end
def a5 (m:Nat→Int):Ar5 Int:=⟨m 0,m 1,m 2,m 3,m 4⟩
theorem E0p {h:RoHouse} (ok:HOk h):A3y ⟨h⟩ = some (!(N9 h).isEmpty):= by
 unfold A3y
 cases hA:N9 h with
 | nil =>
  have:A6j ⟨h⟩ Unit Unit S4 () = some (.inl ()):=B2d ok S4 (by rw [hA]; rfl)
  rw [this]; rfl
 | cons x l =>
  have:A6j ⟨h⟩ Unit Unit S4 () = some (.inr ()):=B2d ok S4 (by rw [hA]; rfl)
  rw [this]; rfl
theorem B9q {h:RoHouse} (ok:HOk h) {b:List Int} (hb:b.length≤3) (hm:∀x ∈ b,0≤x∧x≤9):HOk (X4 h b) :=
 ⟨ok.w,ok.s,ok.holds,ok.hold,ok.places,fun p hp=>⟨(ok.place p hp).len,(ok.place p hp).warms,(ok.place p hp).joists⟩,ok.figures,ok.figure,hb,hm⟩
end Rm
end
section
set_option maxRecDepth 100000
set_option maxHeartbeats 0
namespace Rm
open Go Am Go.Proofs.YtbheamjhjgoccaaDoor.Cd
def B3l (a0:Int) (x2:(List (List Int))) (s3:(Int × (List (List Int)))) (s12:(Int × (List (List Int)))):Option ((Int × (List (List Int))) ⊕ (List (List Int))) :=
 if (decide (s12.1 < a0)) = true then
  (idx x2 s3.1).bind fun x15 =>
  (app 8 ([]:List Int) x15).bind fun x16 =>
  (app 8 x16 [s12.1]).bind fun x17 =>
  (app 24 s12.2 [x17]).bind fun x18 =>
  some (.inl ((w64 (s12.1 + 1)),x18))
 else
  some (.inr s12.2)
def B3m (a0:Int) (x2:(List (List Int))) (s3:(Int × (List (List Int)))):Option ((Int × (List (List Int))) ⊕ (List (List Int))) :=
 if (decide (s3.1 < (List.length x2:Int))) = true then
  (idx x2 s3.1).bind fun x6 =>
  (if (decide ((List.length x6:Int) > 0)) = true then
   (idx x2 s3.1).bind fun x9 =>
   (idx x2 s3.1).bind fun x10 =>
   (idx x9 (w64 ((List.length x10:Int) - 1))).bind fun x11 =>
   some x11
  else
   some (-1)).bind fun (p7:Int) =>
  (loop (B3l a0 x2 s3) ((w64 (p7 + 1)),s3.2)).bind fun (o19:(List (List Int))) =>
  some (.inl ((w64 (s3.1 + 1)),o19))
 else
  some (.inr s3.2)
def B0q (g99:((Int × Int)→Option (List (List Int)))) (a0:Int) (a1:Int):Option (List (List Int)) :=
 if (a1 == 0) = true then
  some [([]:List Int)]
 else
  (g99 (a0,(w64 (a1 - 1)))).bind fun x2 =>
  (loop (B3m a0 x2) (0,([]:List (List Int)))).bind fun (o20:(List (List Int))) =>
  some o20
def B0r:Nat→(Int × Int)→Option (List (List Int))
 | 0=>fun _=>none
 | k + 1=>fun y=>B0q (B0r k) y.1 y.2
def V1 (a0:Int) (a1:Int):Option (List (List Int)):=B0r 64 (a0,a1)
theorem B8f {g99:((Int × Int)→Option (List (List Int)))} (hg99:∀{c:Sc} {H:A7} {y:(Int × Int)} {r:(List (List Int))},g99 y = some r→A19 tab c H (.fn (.func 98) [] []) [.i y.1,.i y.2] [(.seq 1 (List.map (cL 1 cI) r))]) {c:Sc} {H:A7} {a0:Int} {a1:Int} {r:(List (List Int))} (h:B0q g99 a0 a1 = some r) :
  A19 tab c H (.fn (.func 98) [] []) [.i a0,.i a1] [(.seq 1 (List.map (cL 1 cI) r))]:= by
 unfold B0q at h
 refine cF rfl rfl<|s0<|qm rfl<|es (ra2 rfl rfl)<|B6<|s0<|qm rfl<|A0 (F4 rfl rfl) rfl<|es (ra3 rfl rfl rfl)<|wi h rfl (fun hc1 h=>?_) fun hc1 h=>?_
 ·refine s0<|A0 (J5 (rows:=List.map (cL 1 cI) [([]:List Int)]) rfl rfl (F1 (fun _=>rfl) _)) rfl<|qm rfl<|es (ra1 rfl)<|C6 ?_
  obtain rfl:=os h
  refine Exists.intro [(.seq 1 (List.map (cL 1 cI) [([]:List Int)]))] (And.intro ?_ rfl)
  exact retq trivial (A9 rfl B8) (A4 rfl B7) (A2 G2 B1)
 ·refine C0<|sg 0 rfl<|A0 B07 rfl<|es (ra3 rfl rfl rfl)<|s0<|oB h fun x2 hx2 h=>qm rfl<|qm rfl<|A0 (U6 rfl rfl) rfl<|B3 (rs:=[(.seq 1 (List.map (cL 1 cI) x2))]) rfl rfl (A1 rfl (A1 rfl B5)) (hg99 hx2)<|qm rfl<|es (ra3 rfl rfl rfl)<|B6<|s0<|qm rfl<|es (ra4 rfl rfl rfl rfl)<|C4<|oB h fun o20 ho20 h=>wl (fun s3=>[(0,.i a0),(5,(.asl (H.length + 0) (List.length s3.2))),(6,(.seq 1 (List.map (cL 1 cI) x2))),(7,.i s3.1)]) (fun (q4:Unit) s3=>[(.arr 1 false (List.map (cL 1 cI) s3.2))]) 1 (fun r e s' H'=>PX 0 [(5,(.asl (H.length + 0) (List.length r)))] (H++[(.arr 1 false (List.map (cL 1 cI) r))]) e s' H') () ho20 rfl rfl (fun _ _=>rfl) (fun _=>rfl) rfl (fun s3=>(bdc A5 (bdc (A4e rfl) (bdc G2 (bdc A5 bdn))))) (fun q4 s3 ys3 hs3=>?_) ?_
  ·unfold B3m at hs3
   refine B6<|s0<|qm rfl<|qm rfl<|A0 (D4 (f:=(cL 1 cI)) rfl) rfl<|A0 (F7 rfl rfl) rfl<|es (ra5 rfl rfl rfl rfl rfl)<|wi hs3 rfl (fun hc5 hs3=>?_) fun hc5 hs3=>?_
   ·refine C0<|B6<|C4<|s0<|qm rfl<|es (ra5 rfl rfl rfl rfl rfl)<|B6<|s0<|oB hs3 fun x6 hx6 hs3=>qm rfl<|qm rfl<|A0 (E2 (f:=(cL 1 cI)) rfl rfl hx6) rfl<|A0 (E4 rfl rfl) rfl<|A0 (D4 (f:=cI) rfl) rfl<|A0 (W7 rfl rfl) rfl<|es (ra6 rfl rfl rfl rfl rfl rfl)<|oB hs3 fun p7 hp7 hs3=>A77 (Q1:=fun e s' H'=>e = .normal∧s' = [(0,.i a0),(5,(.asl (H.length + 0) (List.length s3.2))),(6,(.seq 1 (List.map (cL 1 cI) x2))),(7,.i s3.1),(8,.i p7)]∧H' = (H++[(.arr 1 false (List.map (cL 1 cI) s3.2))])) ?_ ?_
    ·refine wi hp7 rfl (fun hc8 hp7=>?_) fun hc8 hp7=>?_
     ·refine r0<|oB hp7 fun x9 hx9 hp7=>oB hp7 fun x10 hx10 hp7=>oB hp7 fun x11 hx11 hp7=>qm rfl<|qm rfl<|A0 (E2 (f:=(cL 1 cI)) rfl rfl hx9) rfl<|A0 (E4 rfl rfl) rfl<|qm rfl<|qm rfl<|A0 (E2 (f:=(cL 1 cI)) rfl rfl hx10) rfl<|A0 (E4 rfl rfl) rfl<|A0 (D4 (f:=cI) rfl) rfl<|A0 (U6 rfl rfl) rfl<|A0 (E2 (f:=cI) rfl rfl hx11) rfl<|A0 (E4 rfl rfl) rfl<|qm rfl<|en (ra5 rfl rfl rfl rfl rfl) ?_
      obtain rfl:=os hp7
      exact me (And.intro rfl (And.intro rfl rfl)) (su5 rfl rfl rfl rfl rfl)
     ·refine C0 ?_
      obtain rfl:=os hp7
      exact me (And.intro rfl (And.intro rfl rfl)) (su5 rfl rfl rfl rfl rfl)
    ·rintro e s' H' ⟨rfl,rfl,rfl⟩
     refine s0<|qm rfl<|A0 (E1 rfl rfl) rfl<|qm rfl<|es (ra5 rfl rfl rfl rfl rfl)<|C4<|oB hs3 fun o19 ho19 hs3=>wl (fun s12=>[(0,.i a0),(5,(.asl (H.length + 0) (List.length s12.2))),(6,(.seq 1 (List.map (cL 1 cI) x2))),(7,.i s3.1),(9,.i s12.1)]) (fun (q13:Unit) s12=>[(.arr 1 false (List.map (cL 1 cI) s12.2))]) 1 (fun r e s' H'=>PX 2 [(0,.i a0),(5,(.asl (H.length + 0) (List.length r))),(6,(.seq 1 (List.map (cL 1 cI) x2))),(7,.i s3.1)] (H++[(.arr 1 false (List.map (cL 1 cI) r))]) e s' H') () ho19 rfl rfl (fun _ _=>rfl) (fun _=>rfl) rfl (fun s12=>(bdc A5 (bdc (A4e rfl) (bdc G2 (bdc A5 (bdc A5 bdn)))))) (fun q13 s12 ys12 hs12=>?_) ?_
     ·unfold B3l at hs12
      refine B6<|s0<|qm rfl<|qm rfl<|A0 (F7 rfl rfl) rfl<|es (ra6 rfl rfl rfl rfl rfl rfl)<|wi hs12 rfl (fun hc14 hs12=>?_) fun hc14 hs12=>?_
      ·refine C0<|B6<|C4<|rg 1 rfl<|oB hs12 fun x15 hx15 hs12=>oB hs12 fun x16 hx16 hs12=>oB hs12 fun x17 hx17 hs12=>oB hs12 fun x18 hx18 hs12=>qm rfl<|A0 (B6t (rows:=List.map cI []) rfl rfl (F1 (fun _=>rfl) _)) rfl<|qm rfl<|qm rfl<|A0 (E2 (f:=(cL 1 cI)) rfl rfl hx15) rfl<|A0 (E4 rfl rfl) rfl<|A7p (A4i (f:=cI) rfl rfl rfl rfl A1s (fun _=>rfl) hx16) rfl<|qm rfl<|A0 (J5 (rows:=List.map cI [s12.1]) rfl rfl (F1 (fun _=>rfl) _)) rfl<|A7p (B6s (f:=cI) rfl rfl rfl rfl A1s (fun _=>rfl) hx17) rfl<|A0 (J5 (rows:=List.map (cL 1 cI) [x17]) rfl rfl (F1 (fun _=>rfl) _)) rfl<|A7p (A4i (f:=(cL 1 cI)) rfl rfl rfl rfl A1s (fun _=>rfl) hx18) rfl<|qm rfl<|en (ra5 rfl rfl rfl rfl rfl)<|r0<|qm rfl<|A0 (E1 rfl rfl) rfl<|qm rfl<|en (ra5 rfl rfl rfl rfl rfl) ?_
       cases hs12
       exact lnT () rfl (su5 rfl rfl rfl rfl rfl)
      ·refine E6 ?_
       obtain rfl:=os hs12
       exact lx rfl px (su4 rfl rfl rfl rfl)
     ·rintro e s' H' - ⟨rfl,rfl,rfl⟩
      refine r0<|qm rfl<|A0 (E1 rfl rfl) rfl<|qm rfl<|en (ra4 rfl rfl rfl rfl) ?_
      cases hs3
      exact lnT () rfl (su4 rfl rfl rfl rfl)
   ·refine E6 ?_
    obtain rfl:=os hs3
    exact lx rfl px (su1 rfl)
  ·rintro e s' H' - ⟨rfl,rfl,rfl⟩
   refine s0<|qm rfl<|qm rfl<|es (ra1 rfl)<|C6 ?_
   obtain rfl:=os h
   refine Exists.intro [(.fresh 1 (List.map (cL 1 cI) o20))] (And.intro ?_ rfl)
   exact retq trivial (A9 rfl B8) (A4 (B2b rfl (List.length_map _)) B7) (A2 A55 B1)
theorem B1c:∀(k:Nat) {c:Sc} {H:A7} {y:(Int × Int)} {r:(List (List Int))},B0r k y = some r→A19 tab c H (.fn (.func 98) [] []) [.i y.1,.i y.2] [(.seq 1 (List.map (cL 1 cI) r))]
 | 0,_,_,_,_,h=>by cases h
 | k + 1,_,_,_,_,h=>B8f (B1c k) h
theorem B3e {c:Sc} {H:A7} {a0:Int} {a1:Int} {r:(List (List Int))} (h:V1 a0 a1 = some r):A19 tab c H (.fn (.func 98) [] []) [.i a0,.i a1] [(.seq 1 (List.map (cL 1 cI) r))]:=B1c 64 h
def Z1 (a0:RoHouse) (a1:(List Int)) (s1:(Int × (List Int))):Option ((Int × (List Int)) ⊕ (List Int)) :=
 if (decide (s1.1 < (List.length a0.Bill:Int))) = true then
  (A5x a1 s1.1).bind fun x4 =>
  if (!x4) = true then
  (idx a0.Bill s1.1).bind fun x6 =>
  (app 8 s1.2 [x6]).bind fun x7 =>
  some (.inl ((w64 (s1.1 + 1)),x7))
  else
  some (.inl ((w64 (s1.1 + 1)),s1.2))
 else
  some (.inr s1.2)
def A1e (a0:RoHouse) (a1:(List Int)):Option RoHouse :=
 (loop (Z1 a0 a1) (0,([]:List Int))).bind fun (o8:(List Int)) =>
 some (RoHouse.mk a0.Weather a0.Stoves a0.Holds a0.Places a0.Figures o8)
theorem A61 {c:Sc} {H:A7} {a0:RoHouse} {a1:(List Int)} {r:RoHouse} (h:A1e a0 a1 = some r) :
  E8 tab c H (.fn (.func 55) [] []) [(.agg (A3 a0)),(.seq 1 (List.map cI a1))] [(.agg [.i r.Weather.Lo,.i r.Weather.Hi,.i r.Stoves,(.seq 1 (List.map cI r.Holds)),(.seq 4 (List.map C3 r.Places)),(.seq 6 (List.map B4 r.Figures)),(.fresh 1 (List.map cI r.Bill))])]:= by
 unfold A1e at h
 refine cE rfl rfl<|sg 0 rfl<|A0 (E9 (cs:=A3 a0) rfl rfl rfl) rfl<|A0 C8t rfl<|es (ra3 rfl rfl rfl)<|sg 4 rfl<|A0 B07 rfl<|es (ra4 rfl rfl rfl rfl)<|B6<|s0<|qm rfl<|es (ra5 rfl rfl rfl rfl rfl)<|C4<|oB h fun o8 ho8 h=>wl (fun s1=>[(1,(.seq 1 (List.map cI a1))),(2,(.ptr (H.length + 0) 0)),(4,(.ptr (H.length + 3) 0)),(5,(.asl (H.length + 4) (List.length s1.2))),(6,.i s1.1)]) (fun (q2:Unit) s1=>[(.cells (A3 a0)),(.arr 1 false (List.map cI ([]:List Int))),(.arr 6 false (List.map B4 ([]:List RoFigure))),(.cells [.i 0,.i 0,.i 0,(.asl (H.length + 1) (List.length ([]:List Int))),(.seq 4 (List.map C3 ([]:List RoPlace))),(.asl (H.length + 2) (List.length ([]:List RoFigure))),(.seq 1 (List.map cI ([]:List Int)))]),(.arr 1 false (List.map cI s1.2))]) 5 (fun r e s' H'=>PX 0 [(2,(.ptr (H.length + 0) 0)),(4,(.ptr (H.length + 3) 0)),(5,(.asl (H.length + 4) (List.length r)))] (H++[(.cells (A3 a0)),(.arr 1 false (List.map cI ([]:List Int))),(.arr 6 false (List.map B4 ([]:List RoFigure))),(.cells [.i 0,.i 0,.i 0,(.asl (H.length + 1) (List.length ([]:List Int))),(.seq 4 (List.map C3 ([]:List RoPlace))),(.asl (H.length + 2) (List.length ([]:List RoFigure))),(.seq 1 (List.map cI ([]:List Int)))]),(.arr 1 false (List.map cI r))]) e s' H') () ho8 rfl rfl (fun _ _=>rfl) (fun _=>rfl) rfl (fun s1=>(bdc G2 (bdc (D8 rfl) (bdc (D8 rfl) (bdc (A4e rfl) (bdc A5 bdn)))))) (fun q2 s1 ys1 hs1=>?_) ?_
 ·unfold Z1 at hs1
  refine B6<|s0<|qm rfl<|A0 (C5 rfl) rfl<|A0 (C2 rfl rfl rfl) rfl<|A0 (D4 (f:=cI) rfl) rfl<|A0 (F7 rfl rfl) rfl<|es (ra6 rfl rfl rfl rfl rfl rfl)<|wi hs1 rfl (fun hc3 hs1=>?_) fun hc3 hs1=>?_
  ·refine C0<|B6<|C4<|s0<|oB hs1 fun x4 hx4 hs1=>qm rfl<|qm rfl<|B3 (rs:=[.b x4]) rfl rfl (A1 rfl (A1 rfl B5)) ((A8f hx4).frz)<|A0 (N7 rfl) rfl<|es (ra6 rfl rfl rfl rfl rfl rfl)<|wi hs1 rfl (fun hc5 hs1=>?_) fun hc5 hs1=>?_
   ·refine r0<|oB hs1 fun x6 hx6 hs1=>oB hs1 fun x7 hx7 hs1=>qm rfl<|A0 (C5 rfl) rfl<|A0 (C2 rfl rfl rfl) rfl<|qm rfl<|A0 (E2 (f:=cI) rfl rfl hx6) rfl<|A0 (E4 rfl rfl) rfl<|A0 (J5 (rows:=List.map cI [x6]) rfl rfl (F1 (fun _=>rfl) _)) rfl<|A7p (A4i (f:=cI) rfl rfl rfl rfl A1s (fun _=>rfl) hx7) rfl<|qm rfl<|en (ra5 rfl rfl rfl rfl rfl)<|r0<|qm rfl<|A0 (E1 rfl rfl) rfl<|qm rfl<|en (ra5 rfl rfl rfl rfl rfl) ?_
    cases hs1
    exact lnT () rfl (su5 rfl rfl rfl rfl rfl)
   ·refine C0<|r0<|qm rfl<|A0 (E1 rfl rfl) rfl<|qm rfl<|en (ra5 rfl rfl rfl rfl rfl) ?_
    cases hs1
    exact lnT () rfl (su5 rfl rfl rfl rfl rfl)
  ·refine E6 ?_
   obtain rfl:=os hs1
   exact lx rfl px (su3 rfl rfl rfl)
 ·rintro e s' H' - ⟨rfl,rfl,rfl⟩
  refine s0<|qm rfl<|A0 (C5 rfl) rfl<|F5 (D1 (ds:=[.i a0.Weather.Lo,.i a0.Weather.Hi,.i a0.Stoves,(.seq 1 (List.map cI a0.Holds)),(.seq 4 (List.map C3 a0.Places)),(.seq 6 (List.map B4 a0.Figures)),(.asl (H.length + 4) (List.length o8))]) rfl rfl rfl rfl (A7g (Nat.le_add_right _ _)) rfl) rfl<|es (ra2 rfl rfl)<|s0<|A0 (F0 (ds:=[.i a0.Weather.Lo,.i a0.Weather.Hi,.i a0.Stoves,(.seq 1 (List.map cI a0.Holds)),(.seq 4 (List.map C3 a0.Places)),(.seq 6 (List.map B4 a0.Figures)),(.asl (H.length + 4) (List.length o8))]) rfl rfl rfl rfl) rfl<|F5 (D1 (ds:=[.i a0.Weather.Lo,.i a0.Weather.Hi,.i a0.Stoves,(.seq 1 (List.map cI a0.Holds)),(.seq 4 (List.map C3 a0.Places)),(.seq 6 (List.map B4 a0.Figures)),(.asl (H.length + 4) (List.length o8))]) rfl rfl rfl rfl (A7g (Nat.le_add_right _ _)) rfl) rfl<|es (ra1 rfl)<|C6 ?_
  obtain rfl:=os h
  exact retq trivial (F8 (F0 (ds:=[.i a0.Weather.Lo,.i a0.Weather.Hi,.i a0.Stoves,(.seq 1 (List.map cI a0.Holds)),(.seq 4 (List.map C3 a0.Places)),(.seq 6 (List.map B4 a0.Figures)),(.asl (H.length + 4) (List.length o8))]) rfl rfl rfl rfl) B8) (A4 (D2v (A8e rfl (A8e rfl (A8e rfl (A8e rfl (A8e rfl (A8e rfl (A8e (D64 rfl (List.length_map _)) D63)))))))) B7) (A2 (G8 rfl) B1)
def A5b (a0:RoHouse) (x6:(List (List Int))) (s7:Int):Option (Int ⊕ (((List Int) × Int) ⊕ Unit)) :=
 if (decide (s7 < (List.length x6:Int))) = true then
  (idx x6 s7).bind fun x10 =>
  (A1e a0 x10).bind fun x11 =>
  (A5y x11).bind fun x12 =>
  if (decide ((List.length x12:Int) > 0)) = true then
  (idx x6 s7).bind fun x14 =>
  some (.inr (.inl (x14,0)))
  else
  some (.inl (w64 (s7 + 1)))
 else
  some (.inr (.inr ()))
def A5c (a0:RoHouse) (s3:Int):Option (Int ⊕ (((List Int) × Int) ⊕ Unit)) :=
 if (decide (s3 < (List.length a0.Bill:Int))) = true then
  (V1 (List.length a0.Bill:Int) s3).bind fun x6 =>
  (loop (A5b a0 x6) 0).bind fun (o15:(((List Int) × Int) ⊕ Unit)) =>
  match o15 with
  | (.inl vo15_0) =>
  some (.inr (.inl vo15_0))
  | (.inr vo15_1) =>
  some (.inl (w64 (s3 + 1)))
 else
  some (.inr (.inr ()))
def A6l (a0:RoHouse):Option ((List Int) × Int) :=
 (T1 a0).bind fun x1 =>
 if (x1.2.2 != 0) = true then
  some (([]:List Int),x1.2.2)
 else
  (loop (A5c a0) 0).bind fun (o16:(((List Int) × Int) ⊕ Unit)) =>
  match o16 with
  | (.inl vo16_0) =>
  some vo16_0
  | (.inr vo16_1) =>
  (V1 (List.length a0.Bill:Int) (List.length a0.Bill:Int)).bind fun x17 =>
  (idx x17 0).bind fun x18 =>
  some (x18,0)
theorem B9u {c:Sc} {H:A7} {a0:RoHouse} {r:((List Int) × Int)} (h:A6l a0 = some r) :
  E8 tab c H (.fn (.func 37) [] []) [(.agg (A3 a0))] [(.seq 1 (List.map cI r.1)),.i r.2]:= by
 unfold A6l at h
 refine cE rfl rfl<|sg 0 rfl<|A0 (E9 (cs:=A3 a0) rfl rfl rfl) rfl<|qm rfl<|qm rfl<|es (ra1 rfl)<|s0<|oB h fun x1 hx1 h=>A0 (B9 rfl rfl rfl) rfl<|B3 (rs:=[.i x1.1,.i x1.2.1,.i x1.2.2]) rfl rfl (A1 (C9 rfl) B5) ((V0 hx1).frz)<|qm rfl<|A0 (A6 rfl rfl) rfl<|A0 (A6 rfl rfl) rfl<|A0 (A6 rfl rfl) rfl<|qm rfl<|qm rfl<|qm rfl<|es (ra2 rfl rfl)<|B6<|s0<|qm rfl<|A0 (F9 rfl rfl) rfl<|es (ra3 rfl rfl rfl)<|wi h rfl (fun hc2 h=>?_) fun hc2 h=>?_
 ·refine s0<|qm rfl<|qm rfl<|qm rfl<|es (ra2 rfl rfl)<|C6 ?_
  obtain rfl:=os h
  exact retq trivial (A9 rfl (A9 rfl B8)) (A4 rfl (A4 rfl B7)) (A2 G2 (A2 A5 B1))
 ·refine C0<|B6<|s0<|qm rfl<|es (ra2 rfl rfl)<|C4<|oB h fun o16 ho16 h=>wl (fun s3=>[(1,(.ptr (H.length + 0) 0)),(7,.i s3)]) (fun (q4:Unit) s3=>[(.cells (A3 a0))]) 1 (fun r e s' H'=>(match r with | (.inl v)=>e = .ret∧RetQ H [.tmp 2,.tmp 3] [(.seq 1 (List.map cI v.1)),.i v.2] e s' H' | (.inr v)=>PX 0 [(1,(.ptr (H.length + 0) 0))] (H++[(.cells (A3 a0))]) e s' H':Prop)) () ho16 rfl rfl (fun _ _=>rfl) (fun _=>rfl) rfl (fun s3=>(bdc (D8 rfl) (bdc A5 bdn))) (fun q4 s3 ys3 hs3=>?_) ?_
  ·unfold A5c at hs3
   refine B6<|s0<|qm rfl<|A0 (C5 rfl) rfl<|A0 (C2 rfl rfl rfl) rfl<|A0 (D4 (f:=cI) rfl) rfl<|A0 (F7 rfl rfl) rfl<|es (ra3 rfl rfl rfl)<|wi hs3 rfl (fun hc5 hs3=>?_) fun hc5 hs3=>?_
   ·refine C0<|B6<|C4<|s0<|oB hs3 fun x6 hx6 hs3=>A0 (C5 rfl) rfl<|A0 (C2 rfl rfl rfl) rfl<|A0 (D4 (f:=cI) rfl) rfl<|qm rfl<|B3 (rs:=[(.seq 1 (List.map (cL 1 cI) x6))]) rfl rfl (A1 rfl (A1 rfl B5)) (B3e hx6)<|qm rfl<|es (ra3 rfl rfl rfl)<|s0<|qm rfl<|es (ra4 rfl rfl rfl rfl)<|C4<|oB hs3 fun o15 ho15 hs3=>wl (fun s7=>[(1,(.ptr (H.length + 0) 0)),(7,.i s3),(8,(.seq 1 (List.map (cL 1 cI) x6))),(9,.i s7)]) (fun (q8:Unit) s7=>[(.cells (A3 a0))]) 1 (fun r e s' H'=>(match r with | (.inl v)=>e = .ret∧RetQ H [.tmp 2,.tmp 3] [(.seq 1 (List.map cI v.1)),.i v.2] e s' H' | (.inr v)=>PX 2 [(1,(.ptr (H.length + 0) 0)),(7,.i s3)] (H++[(.cells (A3 a0))]) e s' H':Prop)) () ho15 rfl rfl (fun _ _=>rfl) (fun _=>rfl) rfl (fun s7=>(bdc (D8 rfl) (bdc A5 (bdc G2 (bdc A5 bdn))))) (fun q8 s7 ys7 hs7=>?_) ?_
    ·unfold A5b at hs7
     refine B6<|s0<|qm rfl<|qm rfl<|A0 (D4 (f:=(cL 1 cI)) rfl) rfl<|A0 (F7 rfl rfl) rfl<|es (ra5 rfl rfl rfl rfl rfl)<|wi hs7 rfl (fun hc9 hs7=>?_) fun hc9 hs7=>?_
     ·refine C0<|B6<|C4<|s0<|oB hs7 fun x10 hx10 hs7=>oB hs7 fun x11 hx11 hs7=>oB hs7 fun x12 hx12 hs7=>A0 (B9 rfl rfl rfl) rfl<|qm rfl<|qm rfl<|A0 (E2 (f:=(cL 1 cI)) rfl rfl hx10) rfl<|A0 (E4 rfl rfl) rfl<|B3 (rs:=[(.agg (A3 x11))]) rfl rfl (A1 (C9 rfl) (A1 rfl B5)) ((A61 hx11).frz)<|B3 (rs:=[(.seq 2 (List.map B2 x12))]) rfl rfl (A1 (C9 rfl) B5) ((B3f hx12).frz)<|A0 (D4 (f:=B2) rfl) rfl<|A0 (W7 rfl rfl) rfl<|es (ra5 rfl rfl rfl rfl rfl)<|wi hs7 rfl (fun hc13 hs7=>?_) fun hc13 hs7=>?_
      ·refine s0<|oB hs7 fun x14 hx14 hs7=>qm rfl<|qm rfl<|A0 (E2 (f:=(cL 1 cI)) rfl rfl hx14) rfl<|A0 (E4 rfl rfl) rfl<|qm rfl<|qm rfl<|es (ra2 rfl rfl)<|C6 ?_
       obtain rfl:=os hs7
       exact lx rfl (And.intro rfl (retq trivial (A9 rfl (A9 rfl B8)) (A4 rfl (A4 rfl B7)) (A2 G2 (A2 A5 B1)))) (Sub.refl _)
      ·refine C0<|r0<|qm rfl<|A0 (E1 rfl rfl) rfl<|qm rfl<|en (ra4 rfl rfl rfl rfl) ?_
       cases hs7
       exact lnT () rfl (su4 rfl rfl rfl rfl)
     ·refine E6 ?_
      obtain rfl:=os hs7
      exact lx rfl px (su2 rfl rfl)
    ·rcases o15 with vo15_0 | vo15_1
     ·rintro e s' H' - ⟨rfl,hret⟩
      cases hs3
      exact lx rfl (And.intro rfl hret) (Sub.refl _)
     ·rintro e s' H' - ⟨rfl,rfl,rfl⟩
      refine r0<|qm rfl<|A0 (E1 rfl rfl) rfl<|qm rfl<|en (ra2 rfl rfl) ?_
      cases hs3
      exact lnT () rfl (su2 rfl rfl)
   ·refine E6 ?_
    obtain rfl:=os hs3
    exact lx rfl px (su1 rfl)
  ·rcases o16 with vo16_0 | vo16_1
   ·rintro e s' H' - ⟨rfl,hret⟩
    cases h
    exact hret
   ·rintro e s' H' - ⟨rfl,rfl,rfl⟩
    refine s0<|oB h fun x17 hx17 h=>oB h fun x18 hx18 h=>A0 (C5 rfl) rfl<|A0 (C2 rfl rfl rfl) rfl<|A0 (D4 (f:=cI) rfl) rfl<|A0 (C5 rfl) rfl<|A0 (C2 rfl rfl rfl) rfl<|A0 (D4 (f:=cI) rfl) rfl<|B3 (rs:=[(.seq 1 (List.map (cL 1 cI) x17))]) rfl rfl (A1 rfl (A1 rfl B5)) (B3e hx17)<|A0 (E2 (f:=(cL 1 cI)) rfl rfl hx18) rfl<|A0 (E4 rfl rfl) rfl<|qm rfl<|qm rfl<|es (ra2 rfl rfl)<|C6 ?_
    obtain rfl:=os h
    exact retq trivial (A9 rfl (A9 rfl B8)) (A4 rfl (A4 rfl B7)) (A2 G2 (A2 A5 B1))
def Z9 (a0:RoHouse) (a1:Int) (a2:Int) (s1:Int):Option (Int ⊕ (Bool ⊕ Unit)) :=
 if (decide (s1 < (List.length a0.Places:Int))) = true then
  (idx a0.Figures a1).bind fun x4 =>
  (M9 a0 x4 s1 a2).bind fun x5 =>
  if (x5 == 1) = true then
  some (.inr (.inl true))
  else
  some (.inl (w64 (s1 + 1)))
 else
  some (.inr (.inr ()))
def T2 (a0:RoHouse) (a1:Int) (a2:Int):Option Bool :=
 (loop (Z9 a0 a1 a2) 0).bind fun (o7:(Bool ⊕ Unit)) =>
 match o7 with
 | (.inl vo7_0) =>
  some vo7_0
 | (.inr vo7_1) =>
  some false
theorem A2j {c:Sc} {H:A7} {a0:RoHouse} {a1:Int} {a2:Int} {r:Bool} (h:T2 a0 a1 a2 = some r) :
  E8 tab c H (.fn (.func 60) [] []) [(.agg (A3 a0)),.i a1,.i a2] [.b r]:= by
 unfold T2 at h
 refine cE rfl rfl<|sg 0 rfl<|A0 (E9 (cs:=A3 a0) rfl rfl rfl) rfl<|qm rfl<|es (ra3 rfl rfl rfl)<|B6<|s0<|qm rfl<|es (ra4 rfl rfl rfl rfl)<|C4<|oB h fun o7 ho7 h=>wl (fun s1=>[(1,.i a1),(2,.i a2),(3,(.ptr (H.length + 0) 0)),(7,.i s1)]) (fun (q2:Unit) s1=>[(.cells (A3 a0))]) 1 (fun r e s' H'=>(match r with | (.inl v)=>e = .ret∧RetQ H [.tmp 6] [.b v] e s' H' | (.inr v)=>PX 0 [] (H++[(.cells (A3 a0))]) e s' H':Prop)) () ho7 rfl rfl (fun _ _=>rfl) (fun _=>rfl) rfl (fun s1=>(bdc A5 (bdc A5 (bdc (D8 rfl) (bdc A5 bdn))))) (fun q2 s1 ys1 hs1=>?_) ?_
 ·unfold Z9 at hs1
  refine B6<|s0<|qm rfl<|A0 (C5 rfl) rfl<|A0 (C2 rfl rfl rfl) rfl<|A0 (D4 (f:=C3) rfl) rfl<|A0 (F7 rfl rfl) rfl<|es (ra5 rfl rfl rfl rfl rfl)<|wi hs1 rfl (fun hc3 hs1=>?_) fun hc3 hs1=>?_
  ·refine C0<|B6<|C4<|s0<|oB hs1 fun x4 hx4 hs1=>oB hs1 fun x5 hx5 hs1=>A0 (B9 rfl rfl rfl) rfl<|A0 (C5 rfl) rfl<|A0 (C2 rfl rfl rfl) rfl<|qm rfl<|A0 (E2 (f:=B4) rfl rfl hx4) rfl<|A0 (N6 rfl rfl) rfl<|qm rfl<|qm rfl<|B3 (rs:=[.i x5]) rfl rfl (A1 (C9 rfl) (A1 (C9 rfl) (A1 rfl (A1 rfl B5)))) ((Y9 hx5).frz)<|A0 (F4 rfl rfl) rfl<|es (ra5 rfl rfl rfl rfl rfl)<|wi hs1 rfl (fun hc6 hs1=>?_) fun hc6 hs1=>?_
   ·refine s0<|qm rfl<|es (ra1 rfl)<|C6 ?_
    obtain rfl:=os hs1
    exact lx rfl (And.intro rfl (retq trivial (A9 rfl B8) (A4 rfl B7) (A2 A5 B1))) (Sub.refl _)
   ·refine C0<|r0<|qm rfl<|A0 (E1 rfl rfl) rfl<|qm rfl<|en (ra4 rfl rfl rfl rfl) ?_
    cases hs1
    exact lnT () rfl (su4 rfl rfl rfl rfl)
  ·refine E6 ?_
   obtain rfl:=os hs1
   exact lx rfl px (.nil _)
 ·rcases o7 with vo7_0 | vo7_1
  ·rintro e s' H' - ⟨rfl,hret⟩
   cases h
   exact hret
  ·rintro e s' H' - ⟨rfl,rfl,rfl⟩
   refine s0<|qm rfl<|es (ra1 rfl)<|C6 ?_
   obtain rfl:=os h
   exact retq trivial (A9 rfl B8) (A4 rfl B7) (A2 A5 B1)
def A1z (a0:RoHouse) (s11:Int) (s15:(Int × Int)):Option ((Int × Int) ⊕ Int) :=
 if (decide (s15.2 < a0.Stoves)) = true then
  (A0p s11 s15.2).bind fun x18 =>
  if x18 = true then
  some (.inl ((w64 (s15.1 + 1)),(w64 (s15.2 + 1))))
  else
  some (.inl (s15.1,(w64 (s15.2 + 1))))
 else
  some (.inr s15.1)
def A10 (a0:RoHouse) (a1:Int) (s8:Int) (s11:Int):Option (Int ⊕ ((Int × Int) ⊕ Unit)) :=
 (A0a a0.Stoves).bind fun x13 =>
 if (decide (s11 < x13)) = true then
  (loop (A1z a0 s11) (0,0)).bind fun (o20:Int) =>
  (if (o20 == s8) = true then
  (T2 a0 a1 s11).bind fun x22 =>
  some x22
  else
  some false).bind fun x23 =>
  if x23 = true then
  some (.inr (.inl (s11,0)))
  else
  some (.inl (w64 (s11 + 1)))
 else
  some (.inr (.inr ()))
def A3m (a0:RoHouse) (a1:Int) (s8:Int):Option (Int ⊕ ((Int × Int) ⊕ Unit)) :=
 if (decide (s8≤a0.Stoves)) = true then
  (loop (A10 a0 a1 s8) 0).bind fun (o25:((Int × Int) ⊕ Unit)) =>
  match o25 with
  | (.inl vo25_0) =>
  some (.inr (.inl vo25_0))
  | (.inr vo25_1) =>
  some (.inl (w64 (s8 + 1)))
 else
  some (.inr (.inr ()))
def A7t (a0:RoHouse) (a1:Int):Option (Int × Int) :=
 (T1 a0).bind fun x1 =>
 (if (x1.2.2 == 0) = true then
  (H6 a1 0 (w64 ((List.length a0.Figures:Int) - 1))).bind fun x3 =>
  some (!x3)
 else
  some false).bind fun x4 =>
 (if x4 = true then
  some 4
  else
  some x1.2.2).bind fun (p5:Int) =>
 if (p5 != 0) = true then
  some (0,p5)
 else
  (loop (A3m a0 a1) 0).bind fun (o26:((Int × Int) ⊕ Unit)) =>
  match o26 with
  | (.inl vo26_0) =>
  some vo26_0
  | (.inr vo26_1) =>
  some (0,9)
theorem C2b {c:Sc} {H:A7} {a0:RoHouse} {a1:Int} {r:(Int × Int)} (h:A7t a0 a1 = some r) :
  E8 tab c H (.fn (.func 39) [] []) [(.agg (A3 a0)),.i a1] [.i r.1,.i r.2]:= by
 unfold A7t at h
 refine cE rfl rfl<|sg 0 rfl<|A0 (E9 (cs:=A3 a0) rfl rfl rfl) rfl<|qm rfl<|qm rfl<|es (ra2 rfl rfl)<|s0<|oB h fun x1 hx1 h=>A0 (B9 rfl rfl rfl) rfl<|B3 (rs:=[.i x1.1,.i x1.2.1,.i x1.2.2]) rfl rfl (A1 (C9 rfl) B5) ((V0 hx1).frz)<|qm rfl<|A0 (A6 rfl rfl) rfl<|A0 (A6 rfl rfl) rfl<|A0 (A6 rfl rfl) rfl<|qm rfl<|qm rfl<|qm rfl<|es (ra3 rfl rfl rfl)<|B6<|s0<|oB h fun x4 hx4 h=>qm rfl<|A0 (F4 rfl rfl) rfl<|qm rfl<|gp 8 29 (.b x4) 21 rfl rfl (fun hg2=>?_) (fun hg2=>?_) ?_
 ·refine oB (bt hx4 hg2) fun x3 hx3 hx4=>?_
  obtain rfl:=os hx4
  exact gT rfl hg2<|qm rfl<|gT rfl hg2<|A0 (C5 rfl) rfl<|gT rfl hg2<|A0 (C2 rfl rfl rfl) rfl<|gT rfl hg2<|A0 (D4 (f:=B4) rfl) rfl<|gT rfl hg2<|A0 (U6 rfl rfl) rfl<|gT rfl hg2<|B3 (rs:=[.b x3]) rfl rfl (A1 rfl (A1 rfl (A1 rfl B5))) ((I0 hx3).frz)<|gT rfl hg2<|A0 (N7 rfl) rfl<|A0 (C7 rfl hg2 rfl) rfl<|ge 8 rfl rfl rfl
 ·obtain rfl:=os (bf hx4 hg2)
  exact nT rfl hg2 rfl<|nT rfl hg2 rfl<|nT rfl hg2 rfl<|nT rfl hg2 rfl<|nT rfl hg2 rfl<|G3 (E3 rfl (by rw [hg2]; rfl)) rfl<|nT rfl hg2 rfl<|A0 (C8 rfl hg2 rfl) rfl<|ge 8 rfl rfl rfl
 refine es (ra4 rfl rfl rfl rfl)<|oB h fun p5 hp5 h=>A77 (Q1:=fun e s' H'=>e = .normal∧s' = [(1,.i a1),(2,(.ptr (H.length + 0) 0)),(8,.i p5)]∧H' = (H++[(.cells (A3 a0))])) ?_ ?_
 ·refine wi hp5 rfl (fun hc6 hp5=>?_) fun hc6 hp5=>?_
  ·refine r0<|qm rfl<|en (ra3 rfl rfl rfl) ?_
   obtain rfl:=os hp5
   exact me (And.intro rfl (And.intro rfl rfl)) (su3 rfl rfl rfl)
  ·refine C0 ?_
   obtain rfl:=os hp5
   exact me (And.intro rfl (And.intro rfl rfl)) (su3 rfl rfl rfl)
 ·rintro e s' H' ⟨rfl,rfl,rfl⟩
  refine B6<|s0<|qm rfl<|A0 (F9 rfl rfl) rfl<|es (ra4 rfl rfl rfl rfl)<|wi h rfl (fun hc7 h=>?_) fun hc7 h=>?_
  ·refine s0<|qm rfl<|qm rfl<|qm rfl<|es (ra2 rfl rfl)<|C6 ?_
   obtain rfl:=os h
   exact retq trivial (A9 rfl (A9 rfl B8)) (A4 rfl (A4 rfl B7)) (A2 A5 (A2 A5 B1))
  ·refine C0<|B6<|s0<|qm rfl<|es (ra3 rfl rfl rfl)<|C4<|oB h fun o26 ho26 h=>wl (fun s8=>[(1,.i a1),(2,(.ptr (H.length + 0) 0)),(9,.i s8)]) (fun (q9:Unit) s8=>[(.cells (A3 a0))]) 1 (fun r e s' H'=>(match r with | (.inl v)=>e = .ret∧RetQ H [.tmp 4,.tmp 5] [.i v.1,.i v.2] e s' H' | (.inr v)=>PX 0 [] (H++[(.cells (A3 a0))]) e s' H':Prop)) () ho26 rfl rfl (fun _ _=>rfl) (fun _=>rfl) rfl (fun s8=>(bdc A5 (bdc (D8 rfl) (bdc A5 bdn)))) (fun q9 s8 ys8 hs8=>?_) ?_
   ·unfold A3m at hs8
    refine B6<|s0<|qm rfl<|A0 (C5 rfl) rfl<|A0 (C2 rfl rfl rfl) rfl<|A0 (B2q rfl rfl) rfl<|es (ra4 rfl rfl rfl rfl)<|wi hs8 rfl (fun hc10 hs8=>?_) fun hc10 hs8=>?_
    ·refine C0<|B6<|C4<|s0<|qm rfl<|es (ra4 rfl rfl rfl rfl)<|C4<|oB hs8 fun o25 ho25 hs8=>wl (fun s11=>[(1,.i a1),(2,(.ptr (H.length + 0) 0)),(9,.i s8),(10,.i s11)]) (fun (q12:Unit) s11=>[(.cells (A3 a0))]) 1 (fun r e s' H'=>(match r with | (.inl v)=>e = .ret∧RetQ H [.tmp 4,.tmp 5] [.i v.1,.i v.2] e s' H' | (.inr v)=>PX 2 [(1,.i a1),(2,(.ptr (H.length + 0) 0)),(9,.i s8)] (H++[(.cells (A3 a0))]) e s' H':Prop)) () ho25 rfl rfl (fun _ _=>rfl) (fun _=>rfl) rfl (fun s11=>(bdc A5 (bdc (D8 rfl) (bdc A5 (bdc A5 bdn))))) (fun q12 s11 ys11 hs11=>?_) ?_
     ·unfold A10 at hs11
      refine B6<|s0<|oB hs11 fun x13 hx13 hs11=>qm rfl<|A0 (C5 rfl) rfl<|A0 (C2 rfl rfl rfl) rfl<|B3 (rs:=[.i x13]) rfl rfl (A1 rfl B5) ((A4t hx13).frz)<|A0 (F7 rfl rfl) rfl<|es (ra5 rfl rfl rfl rfl rfl)<|wi hs11 rfl (fun hc14 hs11=>?_) fun hc14 hs11=>?_
      ·refine C0<|B6<|C4<|s0<|qm rfl<|es (ra5 rfl rfl rfl rfl rfl)<|B6<|s0<|qm rfl<|es (ra6 rfl rfl rfl rfl rfl rfl)<|C4<|oB hs11 fun o20 ho20 hs11=>wl (fun s15=>[(1,.i a1),(2,(.ptr (H.length + 0) 0)),(9,.i s8),(10,.i s11),(11,.i s15.1),(12,.i s15.2)]) (fun (q16:Unit) s15=>[(.cells (A3 a0))]) 1 (fun r e s' H'=>PX 4 [(1,.i a1),(2,(.ptr (H.length + 0) 0)),(9,.i s8),(10,.i s11),(11,.i r)] (H++[(.cells (A3 a0))]) e s' H') () ho20 rfl rfl (fun _ _=>rfl) (fun _=>rfl) rfl (fun s15=>(bdc A5 (bdc (D8 rfl) (bdc A5 (bdc A5 (bdc A5 (bdc A5 bdn))))))) (fun q16 s15 ys15 hs15=>?_) ?_
       ·unfold A1z at hs15
        refine B6<|s0<|qm rfl<|A0 (C5 rfl) rfl<|A0 (C2 rfl rfl rfl) rfl<|A0 (F7 rfl rfl) rfl<|es (ra7 rfl rfl rfl rfl rfl rfl rfl)<|wi hs15 rfl (fun hc17 hs15=>?_) fun hc17 hs15=>?_
        ·refine C0<|B6<|C4<|s0<|oB hs15 fun x18 hx18 hs15=>qm rfl<|qm rfl<|B3 (rs:=[.b x18]) rfl rfl (A1 rfl (A1 rfl B5)) ((A0x hx18).frz)<|es (ra7 rfl rfl rfl rfl rfl rfl rfl)<|wi hs15 rfl (fun hc19 hs15=>?_) fun hc19 hs15=>?_
         ·refine r0<|qm rfl<|A0 (E1 rfl rfl) rfl<|qm rfl<|en (ra6 rfl rfl rfl rfl rfl rfl)<|r0<|qm rfl<|A0 (E1 rfl rfl) rfl<|qm rfl<|en (ra6 rfl rfl rfl rfl rfl rfl) ?_
          cases hs15
          exact lnT () rfl (su6 rfl rfl rfl rfl rfl rfl)
         ·refine C0<|r0<|qm rfl<|A0 (E1 rfl rfl) rfl<|qm rfl<|en (ra6 rfl rfl rfl rfl rfl rfl) ?_
          cases hs15
          exact lnT () rfl (su6 rfl rfl rfl rfl rfl rfl)
        ·refine E6 ?_
         obtain rfl:=os hs15
         exact lx rfl px (su5 rfl rfl rfl rfl rfl)
       ·rintro e s' H' - ⟨rfl,rfl,rfl⟩
        refine s0<|oB hs11 fun x23 hx23 hs11=>qm rfl<|qm rfl<|A0 (F4 rfl rfl) rfl<|qm rfl<|gp 5 65 (.b x23) 60 rfl rfl (fun hg21=>?_) (fun hg21=>?_) ?_
        ·refine oB (bt hx23 hg21) fun x22 hx22 hx23=>?_
         obtain rfl:=os hx23
         exact gT rfl hg21<|A0 (B9 rfl rfl rfl) rfl<|gT rfl hg21<|qm rfl<|gT rfl hg21<|qm rfl<|gT rfl hg21<|B3 (rs:=[.b x22]) rfl rfl (A1 (C9 rfl) (A1 rfl (A1 rfl B5))) ((A2j hx22).frz)<|A0 (C7 rfl hg21 rfl) rfl<|ge 5 rfl rfl rfl
        ·obtain rfl:=os (bf hx23 hg21)
         exact nT rfl hg21 rfl<|nT rfl hg21 rfl<|nT rfl hg21 rfl<|G3 (E3 rfl (by rw [hg21]; rfl)) rfl<|A0 (C8 rfl hg21 rfl) rfl<|ge 5 rfl rfl rfl
        refine es (ra5 rfl rfl rfl rfl rfl)<|wi hs11 rfl (fun hc24 hs11=>?_) fun hc24 hs11=>?_
        ·refine s0<|qm rfl<|qm rfl<|qm rfl<|es (ra2 rfl rfl)<|C6 ?_
         obtain rfl:=os hs11
         exact lx rfl (And.intro rfl (retq trivial (A9 rfl (A9 rfl B8)) (A4 rfl (A4 rfl B7)) (A2 A5 (A2 A5 B1)))) (Sub.refl _)
        ·refine C0<|r0<|qm rfl<|A0 (E1 rfl rfl) rfl<|qm rfl<|en (ra4 rfl rfl rfl rfl) ?_
         cases hs11
         exact lnT () rfl (su4 rfl rfl rfl rfl)
      ·refine E6 ?_
       obtain rfl:=os hs11
       exact lx rfl px (su3 rfl rfl rfl)
     ·rcases o25 with vo25_0 | vo25_1
      ·rintro e s' H' - ⟨rfl,hret⟩
       cases hs8
       exact lx rfl (And.intro rfl hret) (Sub.refl _)
      ·rintro e s' H' - ⟨rfl,rfl,rfl⟩
       refine r0<|qm rfl<|A0 (E1 rfl rfl) rfl<|qm rfl<|en (ra3 rfl rfl rfl) ?_
       cases hs8
       exact lnT () rfl (su3 rfl rfl rfl)
    ·refine E6 ?_
     obtain rfl:=os hs8
     exact lx rfl px (.nil _)
   ·rcases o26 with vo26_0 | vo26_1
    ·rintro e s' H' - ⟨rfl,hret⟩
     cases h
     exact hret
    ·rintro e s' H' - ⟨rfl,rfl,rfl⟩
     refine s0<|qm rfl<|qm rfl<|es (ra2 rfl rfl)<|C6 ?_
     obtain rfl:=os h
     exact retq trivial (A9 rfl (A9 rfl B8)) (A4 rfl (A4 rfl B7)) (A2 A5 (A2 A5 B1))
def A33 (a0:RoHouse) (a1:Int):Option Bool :=
 (A01 a0).bind fun x1 =>
 (A6l a0).bind fun x2 =>
 (W5 x1.1 x2.1).bind fun x3 =>
 if ((!x3) || (x1.2 != x2.2)) = true then
  some false
 else
  (A2p a0 a1).bind fun x6 =>
  (A7t a0 a1).bind fun x7 =>
  (if ((x6.1 == x7.1) && (x6.2 == x7.2)) = true then
  (J7).bind fun x10 =>
  some x10
  else
  some false).bind fun x11 =>
  some x11
theorem B4o {c:Sc} {H:A7} (hscv:Z3 c H = true) {a0:RoHouse} {a1:Int} {r:Bool} (h:A33 a0 a1 = some r) :
  E8 tab c H (.fn (.func 6) [] []) [(.agg (A3 a0)),.i a1] [.b r]:= by
 unfold A33 at h
 refine cE rfl rfl<|sg 0 rfl<|A0 (E9 (cs:=A3 a0) rfl rfl rfl) rfl<|qm rfl<|es (ra2 rfl rfl)<|s0<|oB h fun x1 hx1 h=>A0 (B9 rfl rfl rfl) rfl<|B3 (rs:=[(.seq 1 (List.map cI x1.1)),.i x1.2]) rfl rfl (A1 (C9 rfl) B5) ((A6i (A4k hscv) hx1).frz)<|qm rfl<|A0 (A6 rfl rfl) rfl<|A0 (A6 rfl rfl) rfl<|qm rfl<|qm rfl<|es (ra4 rfl rfl rfl rfl)<|s0<|oB h fun x2 hx2 h=>A0 (B9 rfl rfl rfl) rfl<|B3 (rs:=[(.seq 1 (List.map cI x2.1)),.i x2.2]) rfl rfl (A1 (C9 rfl) B5) ((B9u hx2).frz)<|qm rfl<|A0 (A6 rfl rfl) rfl<|A0 (A6 rfl rfl) rfl<|qm rfl<|qm rfl<|es (ra6 rfl rfl rfl rfl rfl rfl)<|B6<|s0<|oB h fun x3 hx3 h=>qm rfl<|qm rfl<|B3 (rs:=[.b x3]) rfl rfl (A1 rfl (A1 rfl B5)) ((A1b hx3).frz)<|A0 (N7 rfl) rfl<|qm rfl<|gp 4 29 (.b ((!x3) || (x1.2 != x2.2))) 25 rfl rfl (fun hg4=>?_) (fun hg4=>?_) ?_
 ·exact nF rfl hg4 rfl<|nF rfl hg4 rfl<|nF rfl hg4 rfl<|A0 (C7 rfl hg4 rfl) rfl<|ge 4 (by rw [hg4]; rfl) rfl rfl
 ·exact gF rfl hg4<|qm rfl<|gF rfl hg4<|qm rfl<|gF rfl hg4<|A0 (F9 rfl rfl) rfl<|A0 (C8 rfl hg4 rfl) rfl<|ge 4 (by rw [hg4]; rfl) rfl rfl
 refine es (ra3 rfl rfl rfl)<|wi h rfl (fun hc5 h=>?_) fun hc5 h=>?_
 ·refine s0<|qm rfl<|es (ra1 rfl)<|C6 ?_
  obtain rfl:=os h
  exact retq trivial (A9 rfl B8) (A4 rfl B7) (A2 A5 B1)
 ·refine C0<|s0<|oB h fun x6 hx6 h=>A0 (B9 rfl rfl rfl) rfl<|qm rfl<|B3 (rs:=[.i x6.1,.i x6.2]) rfl rfl (A1 (C9 rfl) (A1 rfl B5)) ((A4u hx6).frz)<|qm rfl<|A0 (A6 rfl rfl) rfl<|A0 (A6 rfl rfl) rfl<|qm rfl<|qm rfl<|es (ra4 rfl rfl rfl rfl)<|s0<|oB h fun x7 hx7 h=>A0 (B9 rfl rfl rfl) rfl<|qm rfl<|B3 (rs:=[.i x7.1,.i x7.2]) rfl rfl (A1 (C9 rfl) (A1 rfl B5)) ((C2b hx7).frz)<|qm rfl<|A0 (A6 rfl rfl) rfl<|A0 (A6 rfl rfl) rfl<|qm rfl<|qm rfl<|es (ra4 rfl rfl rfl rfl)<|s0<|oB h fun x11 hx11 h=>qm rfl<|qm rfl<|A0 (F4 rfl rfl) rfl<|qm rfl<|gp 4 49 (.b ((x6.1 == x7.1) && (x6.2 == x7.2))) 45 rfl rfl (fun hg8=>?_) (fun hg8=>?_) ?_
  ·exact gT rfl hg8<|qm rfl<|gT rfl hg8<|qm rfl<|gT rfl hg8<|A0 (F4 rfl rfl) rfl<|A0 (C7 rfl hg8 rfl) rfl<|ge 4 (by rw [hg8]; rfl) rfl rfl
  ·exact nT rfl hg8 rfl<|nT rfl hg8 rfl<|nT rfl hg8 rfl<|A0 (C8 rfl hg8 rfl) rfl<|ge 4 (by rw [hg8]; rfl) rfl rfl
  refine qm rfl<|gp 2 52 (.b x11) 50 rfl rfl (fun hg9=>?_) (fun hg9=>?_) ?_
  ·refine oB (bt hx11 hg9) fun x10 hx10 hx11=>?_
   obtain rfl:=os hx11
   exact gT rfl hg9<|B3 (rs:=[.b x10]) rfl rfl B5 ((J2 (A4k hscv) hx10).frz)<|A0 (C7 rfl hg9 rfl) rfl<|ge 2 rfl rfl rfl
  ·obtain rfl:=os (bf hx11 hg9)
   exact G3 (E3 rfl (by rw [hg9]; rfl)) rfl<|A0 (C8 rfl hg9 rfl) rfl<|ge 2 rfl rfl rfl
  refine qm rfl<|es (ra1 rfl)<|C6 ?_
  obtain rfl:=os h
  exact retq trivial (A9 rfl B8) (A4 rfl B7) (A2 A5 B1)
end Rm
end
section
namespace Rm
open Go Am
theorem B14 {σ ρ:Type} {b b':σ→Option (σ ⊕ ρ)} (I:σ→Prop) (hb:∀s,I s→b s = b' s) (hi:∀s s',I s→b' s = some (.inl s')→I s') {s:σ} (h0:I s):loop b s = loop b' s:= by
 have key:∀n s,I s→B4u b n s = B4u b' n s:= by
  intro n
  induction n with
  | zero=>intro s _; rfl
  | succ n ih =>
   intro s hs
   rw [Z5,Z5,hb s hs]
   cases hx:b' s with
   | none=>rfl
   | some x=>cases x with
    | inl s'=>exact ih s' (hi s s' hs hx)
    | inr r=>rfl
 exact key _ s h0
def Z4 (b:List Int) (S:Nat):List Int:=((List.range b.length).filter fun i=>!bit S i).map fun i=>b[i]!
theorem D5j:∀x:Nat,x < 16→(B48 (x:Int) 1 == 0) = !(x % 2 == 1):= by decide +kernel
theorem D5g (b:List Int) (S:Nat):(Z4 b S).length≤b.length:= by
 unfold Z4
 rw [List.length_map]
 have:=List.length_filter_le (fun i=>!bit S i) (List.range b.length)
 rwa [List.length_range] at this
theorem D5h {b:List Int} {S:Nat} {x:Int} (hx:x ∈ Z4 b S):x ∈ b:= by
 unfold Z4 at hx
 rw [List.mem_map] at hx
 obtain ⟨i,hi,rfl⟩:=hx
 exact G4 (List.mem_range.mp (List.mem_filter.mp hi).1)
theorem C7t {h:RoHouse} (ok:HOk h) {S:Nat} (hS:S < 16):loop (A16 h (S:Int)) (0,[]) = some (Z4 h.Bill S):= by
 have hb:=ok.bill
 have hl:∀i,(((List.range i).filter fun i=>!bit S i).map fun i=>h.Bill[i]!).length≤i:=fun i=>by
  rw [List.length_map]
  have:=List.length_filter_le (fun i=>!bit S i) (List.range i)
  rwa [List.length_range] at this
 exact G6 (b:=A16 h (S:Int)) (fun i=>((i:Int),((List.range i).filter fun i=>!bit S i).map fun i=>h.Bill[i]!)) h.Bill.length (r:=Z4 h.Bill S) (by omega) (fun i hi=>by
  have hli:=hl i
  unfold A16
  simp only []
  rw [if_pos (by simpa using hi),F3 hi,C0b S hS i (by omega)]
  simp only [Option.bind_some]
  rw [D5j _ (Nat.lt_of_le_of_lt (Nat.div_le_self _ _) hS),D6 (n:=(i:Int) + 1) (by omega),List.range_succ,List.filter_append,List.map_append,List.filter_cons,List.filter_nil]
  have hbt:(S / 2 ^ i % 2 == 1) = bit S i:=rfl
  rw [hbt]
  cases bit S i with
  | true=>rw [Bool.not_true,if_neg (by decide),if_neg (by decide),List.map_nil,List.append_nil]; rfl
  | false =>
   rw [Bool.not_false,if_pos rfl,if_pos rfl,A5g (by omega) (by simp only [List.length_singleton]; omega)]; rfl) (by
  unfold A16
  simp only []
  rw [if_neg (by simp)]; rfl)
def A6w (h:RoHouse) (S:Nat):Bool:=!(N9 (X4 h (Z4 h.Bill S))).isEmpty
theorem C6b {h:RoHouse} (ok:HOk h) (S:Nat):HOk (X4 h (Z4 h.Bill S)):=B9q ok (Nat.le_trans (D5g _ _) ok.bill) fun _ hx=>ok.class_ _ (D5h hx)
def C7j (n:Int) (c:Nat→Bool) (s:Int × Bool × List Int):Option ((Int × Bool × List Int) ⊕ List Int) :=
 if (decide (s.1 < n)) = true then
  (A8v s.1).bind fun l =>
  (A21 l s.2.2 s.2.1).bind fun skip =>
  if skip = true then some (.inl (w64 (s.1 + 1),s.2.1,s.2.2))
  else if c s.1.toNat = true then some (.inl (w64 (s.1 + 1),true,l))
   else some (.inl (w64 (s.1 + 1),s.2.1,s.2.2))
 else some (.inr s.2.2)
theorem C94 {h:RoHouse} (ok:HOk h) {n:Nat} (hn:n≤8):loop (A3r h (n:Int)) (0,false,[]) = loop (C7j (n:Int) (A6w h)) (0,false,[]):= by
 refine B14 (fun (s:Int × Bool × List Int)=>∃ S:Nat,s.1 = (S:Int)∧S≤8) ?_ ?_ ⟨0,rfl,by omega⟩
 ·rintro ⟨s,f,br⟩ ⟨S,hS,hS8⟩
  simp only at hS
  subst hS
  unfold A3r C7j
  simp only []
  by_cases c:(S:Int) < (n:Int)
  ·rw [if_pos (by rw [decide_eq_true_eq]; exact c),if_pos (by rw [decide_eq_true_eq]; exact c),C7t ok (by omega),Int.toNat_natCast]
   simp only [Option.bind_some]
   rw [E0p (C6b ok S)]
   rfl
  ·rw [if_neg (by rw [decide_eq_true_eq]; exact c),if_neg (by rw [decide_eq_true_eq]; exact c)]
 ·rintro ⟨s,f,br⟩ s' ⟨S,hS,hS8⟩ hx
  simp only at hS
  subst hS
  unfold C7j at hx
  simp only [] at hx
  by_cases c:(S:Int) < (n:Int)
  ·rw [if_pos (by rw [decide_eq_true_eq]; exact c),D6 (by omega)] at hx
   have key:s'.1 = (S:Int) + 1:= by
    cases h1:A8v (S:Int) with
    | none=>rw [h1] at hx; exact absurd hx (by simp)
    | some l =>
     rw [h1] at hx
     simp only [Option.bind_some] at hx
     cases h2:A21 l br f with
     | none=>rw [h2] at hx; exact absurd hx (by simp)
     | some sk =>
      rw [h2] at hx
      simp only [Option.bind_some] at hx
      split at hx
      ·cases hx; rfl
      ·split at hx <;> (cases hx; rfl)
   exact ⟨S + 1,by rw [key]; rfl,by omega⟩
  ·rw [if_neg (by rw [decide_eq_true_eq]; exact c)] at hx
   cases hx
def A8b (l:List Int):Nat:=l.foldl (fun s i=>s ||| 2 ^ i.toNat) 0
theorem B5t {h:RoHouse} (ok:HOk h) {l:List Int} (hl:l.length≤3) {S:Nat} (hS:∀i:Nat,i < h.Bill.length→l.any (· == (i:Int)) = bit S i):A1e h l = some (X4 h (Z4 h.Bill S)):= by
 have hb:=ok.bill
 have hle:∀i,(((List.range i).filter fun i=>!bit S i).map fun i=>h.Bill[i]!).length≤i:=fun i=>by
  rw [List.length_map]
  have:=List.length_filter_le (fun i=>!bit S i) (List.range i)
  rwa [List.length_range] at this
 unfold A1e
 have l1:loop (Z1 h l) (0,[]) = some (Z4 h.Bill S):=G6 (b:=Z1 h l) (fun i=>((i:Int),((List.range i).filter fun i=>!bit S i).map fun i=>h.Bill[i]!)) h.Bill.length (r:=Z4 h.Bill S) (by omega) (fun i hi=>by
  have hli:=hle i
  unfold Z1
  simp only []
  rw [if_pos (by simpa using hi),C6o _ _ (by omega),hS i hi]
  simp only [Option.bind_some]
  rw [D6 (n:=(i:Int) + 1) (by omega),List.range_succ,List.filter_append,List.map_append,List.filter_cons,List.filter_nil]
  cases bit S i with
  | true=>rw [Bool.not_true,if_neg (by decide),if_neg (by decide),List.map_nil,List.append_nil]; rfl
  | false =>
   rw [Bool.not_false,if_pos rfl,if_pos rfl,F3 hi]
   simp only [Option.bind_some]
   rw [A5g (by omega) (by simp only [List.length_singleton]; omega)]; rfl) (by
  unfold Z1
  simp only []
  rw [if_neg (by simp)]; rfl)
 rw [l1]; rfl
def C56 (c:Nat→Bool) (ls:List (List Int)) (s:Int):Option (Int ⊕ ((List Int × Int) ⊕ Unit)) :=
 if (decide (s < (List.length ls:Int))) = true then
  (idx ls s).bind fun l=>if c (A8b l) = true then some (.inr (.inl (l,0))) else some (.inl (w64 (s + 1)))
 else some (.inr (.inr ()))
def C7k (n:Int) (c:Nat→Bool) (s:Int):Option (Int ⊕ ((List Int × Int) ⊕ Unit)) :=
 if (decide (s < n)) = true then
  (V1 n s).bind fun x6=>(loop (C56 c x6) 0).bind fun o=>match o with
   | .inl v=>some (.inr (.inl v))
   | .inr _=>some (.inl (w64 (s + 1)))
 else some (.inr (.inr ()))
def A8z (n:Int) (c:Nat→Bool):Option (List Int × Int) :=
 (loop (C7k n c) 0).bind fun o=>match o with
  | .inl v=>some v
  | .inr _=>(V1 n n).bind fun x=>(idx x 0).bind fun y=>some (y,0)
def B5w (n:Nat) (c:Nat→Bool):Option (List Int × Int):=(loop (C7j ((2 ^ n:Nat):Int) c) (0,false,[])).bind fun o=>some (o,0)
theorem D8q:∀n:Nat,n < 4→∀ m:Nat,m < 256→(!bit m (2 ^ n - 1) || decide (B5w n (bit m) = A8z (n:Int) (bit m))) = true:= by decide +kernel
def D7j (n s:Nat):Bool:=match V1 (n:Int) (s:Int) with
 | some ls=>ls.all fun l=>decide (l.length≤3) && (List.range n).all fun i=>l.any (· == (i:Int)) == bit (A8b l) i
 | none=>false
theorem D7k:∀n:Nat,n < 4→∀ s:Nat,s < 4→D7j n s = true:= by decide +kernel
theorem E1s {h:RoHouse} (ok:HOk h) {ls:List (List Int)} (hls:∀l ∈ ls,l.length≤3∧∀ i:Nat,i < h.Bill.length→l.any (· == (i:Int)) = bit (A8b l) i):A5b h ls = C56 (A6w h) ls:= by
 funext s
 unfold A5b C56
 by_cases c:s < (List.length ls:Int)
 ·rw [if_pos (by rw [decide_eq_true_eq]; exact c),if_pos (by rw [decide_eq_true_eq]; exact c)]
  cases hx:idx ls s with
  | none=>rfl
  | some l =>
   have hm:=hls l (List.mem_of_getElem? (B0g hx))
   simp only [Option.bind_some]
   rw [B5t ok hm.1 hm.2]
   simp only [Option.bind_some]
   rw [B2f (C6b ok (A8b l))]
   simp only [Option.bind_some]
   unfold A6w
   rw [List.length_map]
   cases N9 (X4 h (Z4 h.Bill (A8b l))) with
   | nil=>rfl
   | cons x r=>rw [if_pos (by simp),if_pos (by rfl)]
 ·rw [if_neg (by rw [decide_eq_true_eq]; exact c),if_neg (by rw [decide_eq_true_eq]; exact c)]
theorem D9t {h:RoHouse} (ok:HOk h):loop (A5c h) 0 = loop (C7k (h.Bill.length:Int) (A6w h)) 0:= by
 have hb:=ok.bill
 refine B14 (fun (s:Int)=>∃ S:Nat,s = (S:Int)∧S≤h.Bill.length) ?_ ?_ ⟨0,rfl,Nat.zero_le _⟩
 ·rintro s ⟨S,rfl,hS⟩
  unfold A5c C7k
  by_cases c:(S:Int) < (List.length h.Bill:Int)
  ·rw [if_pos (by rw [decide_eq_true_eq]; exact c),if_pos (by rw [decide_eq_true_eq]; exact c)]
   have hp:=D7k h.Bill.length (by omega) S (by omega)
   unfold D7j at hp
   cases hx:V1 (h.Bill.length:Int) (S:Int) with
   | none=>simp only [Option.bind_none]
   | some ls =>
    rw [hx] at hp
    simp only [Option.bind_some]
    rw [E1s ok (fun l hl=>by
     simp only [] at hp
     rw [List.all_eq_true] at hp
     have:=hp l hl
     rw [Bool.and_eq_true,decide_eq_true_eq,List.all_eq_true] at this
     exact ⟨this.1,fun i hi=>by have:=this.2 i (List.mem_range.mpr hi); simpa using this⟩)]
    all_goals
     generalize loop (C56 (A6w h) ls) 0 = o
     cases o with
     | none=>rfl
     | some o=>cases o <;> rfl
  ·rw [if_neg (by rw [decide_eq_true_eq]; exact c),if_neg (by rw [decide_eq_true_eq]; exact c)]
 ·rintro s s' ⟨S,rfl,hS⟩ hx
  unfold C7k at hx
  by_cases c:(S:Int) < (h.Bill.length:Int)
  ·rw [if_pos (by rw [decide_eq_true_eq]; exact c),D6 (by omega)] at hx
   refine ⟨S + 1,?_,by omega⟩
   cases h1:V1 (h.Bill.length:Int) (S:Int) with
   | none=>rw [h1] at hx; exact absurd hx (by simp)
   | some ls =>
    rw [h1] at hx
    simp only [Option.bind_some] at hx
    cases h2:loop (C56 (A6w h) ls) 0 with
    | none=>rw [h2] at hx; exact absurd hx (by simp)
    | some o =>
     rw [h2] at hx
     cases o with
     | inl v=>cases hx
     | inr u=>cases hx; rfl
  ·rw [if_neg (by rw [decide_eq_true_eq]; exact c)] at hx
   cases hx
end Rm
end
section
set_option maxRecDepth 100000
set_option maxHeartbeats 0
namespace Rm
open Go Am Go.Proofs.YtbheamjhjgoccaaDoor.Cd
end Rm
end
section
namespace Rm
open Go Am
theorem D4v {h:RoHouse} {l:Nat}:∀(d:Nat) (q p:List Int),p.length = q.length + d→p.take q.length = q→(∀ i,q.length≤i→i < p.length→p[i]! ∈ cand h l (p.take i))→p ∈ DF h l d q
 | 0,q,p,hl,ht,_=>by
  unfold DF
  rw [List.take_of_length_le (by omega)] at ht
  rw [ht]; exact List.mem_singleton.mpr rfl
 | d + 1,q,p,hl,ht,hc=>by
  unfold DF
  rw [List.mem_flatMap]
  have h1:=hc q.length (Nat.le_refl _) (by omega)
  rw [ht] at h1
  refine ⟨p[q.length]!,h1,D4v d _ p (by rw [List.length_append,List.length_singleton]; omega) ?_ fun i hi hp=>hc i (by rw [List.length_append,List.length_singleton] at hi; omega) hp⟩
  rw [List.length_append,List.length_singleton,D1i p (by omega),ht]
theorem D8i {h:RoHouse} {l:Nat} {p:List Int} (pv:PV h p) (hd:dup p = false) {i:Nat} (hi:i < p.length) (hs:Y3 h l p i = true):p[i]! ∈ cand h l (p.take i):= by
 unfold cand
 rw [List.mem_append]
 by_cases c:p[i]! = -1
 ·right; rw [c]; exact List.mem_singleton.mpr rfl
 ·left
  obtain ⟨q,hq1,hq2,_⟩:=shown pv hi c
  rw [hq1,List.mem_map]
  refine ⟨q,?_,rfl⟩
  rw [List.mem_filter,List.mem_range]
  refine ⟨hq2,?_⟩
  have ht:=(B33 p).mp hd i hi
  unfold R2 at ht
  unfold Y3 at hs
  have hb:(p[i]! == -1) = false:=beq_eq_false_iff_ne.mpr c
  rw [bne,hb,Bool.not_false,Bool.true_and] at ht
  rw [hb,Bool.false_or,hq1,Int.toNat_natCast] at hs
  unfold A0i
  rw [List.length_take,Nat.min_eq_left (by omega),hs,← hq1,ht]; rfl
theorem D1s {h:RoHouse} {l:Nat} {p:List Int} (pv:PV h p) (hl:l < 2 ^ h.Stoves.toNat) (hd:dup p = false) (ha:W6 h l p = true):(l,p) ∈ N9 h:= by
 unfold W6 at ha
 rw [Bool.and_eq_true] at ha
 unfold N9
 rw [List.mem_flatMap]
 refine ⟨l,List.mem_range.mpr hl,?_⟩
 unfold A0e
 rw [List.mem_map]
 refine ⟨p,?_,rfl⟩
 rw [List.mem_filter]
 refine ⟨D4v _ _ _ (by rw [pv.len]; simp) rfl fun i _ hi=>D8i pv hd hi ?_,ha.2⟩
 have:=ha.1
 unfold A40 at this
 rw [List.all_eq_true] at this
 exact this i (List.mem_range.mpr hi)
def nobody (h:RoHouse):List Int:=List.replicate h.Figures.length (-1)
theorem B17 (h:RoHouse) {i:Nat} (hi:i < h.Figures.length):(nobody h)[i]! = -1:= by
 unfold nobody
 rw [getElem!_pos _ i (by rw [List.length_replicate]; exact hi),List.getElem_replicate]
theorem A9b (h:RoHouse):(nobody h).length = h.Figures.length:=List.length_replicate
theorem B6r (h:RoHouse) (k:Nat):∀n,G0 h (nobody h) k n = 0
 | 0=>rfl
 | n + 1=>by
  rw [N5,B6r h k n]
  unfold con
  rw [if_neg]; · rfl
  rintro ⟨h1,h2,_⟩
  rw [A9b] at h1
  exact h2 (B17 h h1)
theorem D3x {h:RoHouse} (ok:HOk h) (hb:h.Bill = []):(0,nobody h) ∈ N9 h:= by
 refine D1s ⟨A9b h,fun i hi=>?_⟩ (A27 ok).1 ?_ ?_
 ·rw [A9b] at hi
  rw [B17 h hi]; omega
 ·rw [B33]
  intro i hi
  rw [A9b] at hi
  unfold R2
  rw [B17 h hi]; rfl
 ·unfold W6 A40 R8 A2a
  rw [Bool.and_eq_true,Bool.and_eq_true,List.all_eq_true,List.all_eq_true,List.all_eq_true]
  refine ⟨fun i hi=>?_,fun k hk=>?_,fun c _=>?_⟩
  ·rw [List.mem_range,A9b] at hi
   unfold Y3
   rw [B17 h hi]; rfl
  ·rw [List.mem_range] at hk
   rw [B6r,decide_eq_true_eq]
   have:=ok.hold _ (G4 hk)
   omega
  ·rw [hb,decide_eq_true_eq]
   have:=(A69 h (nobody h) (c:Int) (nobody h).length).1
   exact this
theorem C93 (b:List Int) (hb:b.length < 4):Z4 b (2 ^ b.length - 1) = []:= by
 unfold Z4
 have key:∀n:Nat,n < 4→(List.range n).filter (fun i=>!bit (2 ^ n - 1) i) = []:= by decide +kernel
 rw [key _ hb]; rfl
theorem D5q {h:RoHouse} (ok:HOk h):A6w h (2 ^ h.Bill.length - 1) = true:= by
 have hb:=ok.bill
 unfold A6w
 have hz:X4 h (Z4 h.Bill (2 ^ h.Bill.length - 1)) = X4 h []:= by rw [C93 _ (by omega)]
 rw [hz]
 have hok:HOk (X4 h []):=B9q ok (by simp) (by simp)
 have:=D3x hok rfl
 cases hA:N9 (X4 h []) with
 | nil=>rw [hA] at this; cases this
 | cons x l=>rfl
def B94 (c:Nat→Bool):Nat→Nat
 | 0=>0
 | n + 1=>B94 c n + if c n then 2 ^ n else 0
theorem C7c (c:Nat→Bool):∀n,B94 c n < 2 ^ n
 | 0=>Nat.one_pos
 | n + 1=>by
  have:=C7c c n
  unfold B94
  rw [Nat.pow_succ]
  split <;> omega
theorem D1x (a n s:Nat) (h:a < 2 ^ n):bit (a + 2 ^ n) s = if s = n then true else bit a s:= by
 unfold bit
 by_cases e:s = n
 ·subst e
  rw [if_pos rfl,Nat.add_div_right _ (Nat.two_pow_pos s),Nat.div_eq_of_lt h]; rfl
 ·rw [if_neg e]
  by_cases c:s < n
  ·obtain ⟨k,rfl⟩:∃k,n = s + 1 + k:=⟨n - s - 1,by omega⟩
   rw [Nat.pow_add,Nat.pow_succ,Nat.mul_assoc,Nat.add_mul_div_left _ _ (Nat.two_pow_pos s),Nat.add_mul_mod_self_left]
  ·obtain ⟨k,rfl⟩:∃k,s = n + 1 + k:=⟨s - n - 1,by omega⟩
   have h1:a + 2 ^ n < 2 ^ (n + 1 + k):= by
    have:2 ^ (n + 1)≤2 ^ (n + 1 + k):=Nat.pow_le_pow_right (by omega) (by omega)
    rw [Nat.pow_succ] at this; omega
   rw [Nat.div_eq_of_lt h1,Nat.div_eq_of_lt (by omega)]
theorem C3a (c:Nat→Bool):∀n s,s < n→bit (B94 c n) s = c s
 | n + 1,s,h=>by
  unfold B94
  have hl:=C7c c n
  by_cases e:s = n
  ·subst e
   cases hc:c s with
   | true=>rw [if_pos rfl,D1x _ _ _ hl,if_pos rfl]
   | false =>
    rw [if_neg (by decide),Nat.add_zero]
    unfold bit
    rw [Nat.div_eq_of_lt hl]; rfl
  ·have ih:=C3a c n s (by omega)
   cases hc:c n with
   | true=>rw [if_pos rfl,D1x _ _ _ hl,if_neg e,ih]
   | false=>rw [if_neg (by decide),Nat.add_zero,ih]
theorem D07 {n:Nat} (hn:n < 4) {c c':Nat→Bool} (h:∀s,s < 8→c s = c' s):B5w n c = B5w n c':= by
 unfold B5w
 have hp:(2:Nat) ^ n≤8:=(show ∀n:Nat,n < 4→2 ^ n≤8 by decide) n hn
 suffices hh:loop (C7j ((2 ^ n:Nat):Int) c) (0,false,[]) = loop (C7j ((2 ^ n:Nat):Int) c') (0,false,[]) by rw [hh]
 refine B14 (fun (s:Int × Bool × List Int)=>∃ S:Nat,s.1 = (S:Int)∧S≤8) ?_ ?_ ⟨0,rfl,by omega⟩
 ·rintro ⟨s,f,br⟩ ⟨S,hS,hS8⟩
  simp only at hS
  subst hS
  unfold C7j
  simp only []
  by_cases q:(S:Int) < ((2 ^ n:Nat):Int)
  ·rw [if_pos (by rw [decide_eq_true_eq]; exact q),if_pos (by rw [decide_eq_true_eq]; exact q),Int.toNat_natCast,h S (by omega)]
  ·rw [if_neg (by rw [decide_eq_true_eq]; exact q),if_neg (by rw [decide_eq_true_eq]; exact q)]
 ·rintro ⟨s,f,br⟩ s' ⟨S,hS,hS8⟩ hx
  simp only at hS
  subst hS
  unfold C7j at hx
  simp only [] at hx
  by_cases q:(S:Int) < ((2 ^ n:Nat):Int)
  ·rw [if_pos (by rw [decide_eq_true_eq]; exact q),D6 (by omega)] at hx
   have key:s'.1 = (S:Int) + 1:= by
    cases h1:A8v (S:Int) with
    | none=>rw [h1] at hx; exact absurd hx (by simp)
    | some l =>
     rw [h1] at hx
     simp only [Option.bind_some] at hx
     cases h2:A21 l br f with
     | none=>rw [h2] at hx; exact absurd hx (by simp)
     | some sk =>
      rw [h2] at hx
      simp only [Option.bind_some] at hx
      split at hx
      ·cases hx; rfl
      ·split at hx <;> (cases hx; rfl)
   exact ⟨S + 1,by rw [key]; rfl,by omega⟩
  ·rw [if_neg (by rw [decide_eq_true_eq]; exact q)] at hx
   cases hx
def D7i (n s:Nat):Bool:=match V1 (n:Int) (s:Int) with
 | some ls=>ls.all fun l=>decide (A8b l < 8)
 | none=>false
theorem D9p:∀n:Nat,n < 4→∀ s:Nat,s < 4→D7i n s = true:= by decide +kernel
theorem C9z {c c':Nat→Bool} {ls:List (List Int)} (h:∀l ∈ ls,c (A8b l) = c' (A8b l)):C56 c ls = C56 c' ls:= by
 funext s
 unfold C56
 by_cases q:s < (List.length ls:Int)
 ·rw [if_pos (by rw [decide_eq_true_eq]; exact q),if_pos (by rw [decide_eq_true_eq]; exact q)]
  cases hx:idx ls s with
  | none=>rfl
  | some l =>
   simp only [Option.bind_some]
   rw [h l (List.mem_of_getElem? (B0g hx))]
 ·rw [if_neg (by rw [decide_eq_true_eq]; exact q),if_neg (by rw [decide_eq_true_eq]; exact q)]
theorem C5g {n:Nat} (hn:n < 4) {c c':Nat→Bool} (h:∀s,s < 8→c s = c' s):A8z (n:Int) c = A8z (n:Int) c':= by
 unfold A8z
 suffices hh:loop (C7k (n:Int) c) 0 = loop (C7k (n:Int) c') 0 by rw [hh]
 refine B14 (fun (s:Int)=>∃ S:Nat,s = (S:Int)∧S≤n) ?_ ?_ ⟨0,rfl,Nat.zero_le _⟩
 ·rintro s ⟨S,rfl,hS⟩
  unfold C7k
  by_cases q:(S:Int) < (n:Int)
  ·rw [if_pos (by rw [decide_eq_true_eq]; exact q),if_pos (by rw [decide_eq_true_eq]; exact q)]
   have hp:=D9p n hn S (by omega)
   unfold D7i at hp
   cases hx:V1 (n:Int) (S:Int) with
   | none=>simp only [Option.bind_none]
   | some ls =>
    rw [hx] at hp
    simp only [] at hp
    rw [List.all_eq_true] at hp
    simp only [Option.bind_some]
    rw [C9z (c:=c) (c':=c') fun l hl=>h _ (by have:=hp l hl; rwa [decide_eq_true_eq] at this)]
  ·rw [if_neg (by rw [decide_eq_true_eq]; exact q),if_neg (by rw [decide_eq_true_eq]; exact q)]
 ·rintro s s' ⟨S,rfl,hS⟩ hx
  unfold C7k at hx
  by_cases q:(S:Int) < (n:Int)
  ·rw [if_pos (by rw [decide_eq_true_eq]; exact q),D6 (by omega)] at hx
   refine ⟨S + 1,?_,by omega⟩
   cases h1:V1 (n:Int) (S:Int) with
   | none=>rw [h1] at hx; exact absurd hx (by simp)
   | some ls =>
    rw [h1] at hx
    simp only [Option.bind_some] at hx
    cases h2:loop (C56 c' ls) 0 with
    | none=>rw [h2] at hx; exact absurd hx (by simp)
    | some o =>
     rw [h2] at hx
     cases o with
     | inl v=>cases hx
     | inr u=>cases hx; rfl
  ·rw [if_neg (by rw [decide_eq_true_eq]; exact q)] at hx
   cases hx
def D1u (n m:Nat):Bool:=match A8z (n:Int) (bit m) with
 | some (l,f)=>f == 0 && decide (l.length≤n) && bit m (A8b l) && (List.range n).all (fun i=>l.any (· == (i:Int)) == bit (A8b l) i)
 | none=>false
theorem D8e:∀n:Nat,n < 4→∀ m:Nat,m < 256→(!bit m (2 ^ n - 1) || D1u n m) = true:= by decide +kernel
def A4m (h:RoHouse):List Int × Int:=if (check h).2.2 != 0 then ([],(check h).2.2) else (A8z (h.Bill.length:Int) (A6w h)).getD default
theorem D10 {h:RoHouse} (ok:HOk h):(∀ s,s < 8→A6w h s = bit (B94 (A6w h) 8) s)∧B94 (A6w h) 8 < 256∧bit (B94 (A6w h) 8) (2 ^ h.Bill.length - 1) = true:= by
 have hb:=ok.bill
 refine ⟨fun s hs=>(C3a _ 8 s hs).symm,C7c _ 8,?_⟩
 have hp:∀n:Nat,n < 4→2 ^ n - 1 < 8:= by decide
 rw [C3a _ 8 _ (hp _ (by omega))]
 exact D5q ok
theorem A9z {h:RoHouse} (ok:HOk h):∃l,A8z (h.Bill.length:Int) (A6w h) = some (l,0)∧B5w h.Bill.length (A6w h) = some (l,0)∧l.length≤3∧D1u h.Bill.length (B94 (A6w h) 8) = true:= by
 have hb:=ok.bill
 obtain ⟨h1,h2,h3⟩:=D10 ok
 rw [C5g (by omega) h1,D07 (by omega) h1]
 have f1:=D8q h.Bill.length (by omega) _ h2
 have f2:=D8e h.Bill.length (by omega) _ h2
 rw [h3,Bool.not_true,Bool.false_or] at f1 f2
 rw [decide_eq_true_eq] at f1
 rw [f1]
 have f3:=f2
 unfold D1u at f3
 cases hx:A8z (h.Bill.length:Int) (bit (B94 (A6w h) 8)) with
 | none=>rw [hx] at f3; cases f3
 | some x =>
  rw [hx] at f3
  obtain ⟨l,f⟩:=x
  simp only [Bool.and_eq_true,beq_iff_eq,decide_eq_true_eq] at f3
  obtain ⟨⟨⟨rfl,g⟩,_⟩,_⟩:=f3
  exact ⟨l,rfl,rfl,by omega,f2⟩
theorem E5n {h:RoHouse} (ok:HOk h):B3v .i64 1 (List.length h.Bill:Int) = some ((2 ^ h.Bill.length:Nat):Int):=shl5 _ (by have:=ok.bill; omega)
theorem B1r {h:RoHouse} (e0:(check h).2.2 = 0) {l:List Int} (hl:A8z (h.Bill.length:Int) (A6w h) = some (l,0)):A4m h = (l,0):= by
 unfold A4m
 rw [if_neg (by simp [e0]),hl]; rfl
theorem C4a {h:RoHouse} (hb:NB h):A01 h = some (A4m h):= by
 unfold A01
 rw [Q2 h hb]
 simp only [Option.bind_some]
 by_cases e0:(check h).2.2 = 0
 ·have ok:=M6 e0
  have hbl:=ok.bill
  obtain ⟨l,h1,h2,_⟩:=A9z ok
  have hp:(2:Nat) ^ h.Bill.length≤8:=(show ∀n:Nat,n < 4→2 ^ n≤8 by decide) _ (by omega)
  rw [if_neg (by simp [e0]),E5n ok,B1r e0 h1]
  simp only [Option.bind_some]
  rw [C94 ok hp]
  exact h2
 ·unfold A4m
  rw [if_pos (bne_iff_ne.mpr e0),if_pos (bne_iff_ne.mpr e0)]
theorem C31 (h:RoHouse):A6l h = some (A4m h):= by
 unfold A6l
 rw [O1]
 simp only [Option.bind_some]
 by_cases e0:(check h).2.2 = 0
 ·have ok:=M6 e0
  obtain ⟨l,h1,h2,_⟩:=A9z ok
  rw [if_neg (by simp [e0]),B1r e0 h1,D9t ok]
  exact h1
 ·unfold A4m
  rw [if_pos (bne_iff_ne.mpr e0),if_pos (bne_iff_ne.mpr e0)]
theorem C6d (h:RoHouse):(A4m h).1.length < 9223372036854775808:= by
 by_cases e0:(check h).2.2 = 0
 ·obtain ⟨l,h1,_,h3,_⟩:=A9z (M6 e0)
  rw [B1r e0 h1]
  show l.length < _
  omega
 ·unfold A4m
  rw [if_pos (bne_iff_ne.mpr e0)]
  show (0:Nat) < _
  decide
end Rm
end
section
set_option maxRecDepth 100000
set_option maxHeartbeats 0
namespace Rm
open Go Am Go.Proofs.YtbheamjhjgoccaaDoor.Cd
end Rm
end
section
namespace Rm
open Go Am
def pop (l:Nat):Int:=(if bit l 0 then 1 else 0) + (if bit l 1 then 1 else 0) + (if bit l 2 then 1 else 0) + (if bit l 3 then 1 else 0)
theorem D2t:∀l:Nat,l < 16→W9 (IntKind.u64.wrap (l:Int)) = some (pop l):= by decide +kernel
def somew (h:RoHouse) (f l:Nat):Bool:=(List.range h.Places.length).any fun q=>I5 (warm h q l) h.Figures[f]! == 1
theorem C0s (n:Nat) (p:Nat→Bool):(List.range (n + 1)).any p = ((List.range n).any p || p n):= by
 rw [List.range_succ,List.any_append,List.any_cons,List.any_nil,Bool.or_false]
theorem C8s {h:RoHouse} (ok:HOk h) {f l:Nat} (hf:f < h.Figures.length) (hl:l < 16) (s:Int):loop (A22 h (f:Int) (s,(l:Int))) (s,0) = some (if somew h f l then (l:Int) else s):= by
 have hp:=ok.places
 have l1:=G6 (b:=A22 h (f:Int) (s,(l:Int))) (fun q=>(if (List.range q).any (fun q=>I5 (warm h q l) h.Figures[f]! == 1) then (l:Int) else s,(q:Int))) h.Places.length (r:=if somew h f l then (l:Int) else s) (by omega) (fun q hq=>by
  unfold A22
  simp only []
  rw [if_pos (by simpa using hq),B6b ok hf hq hl]
  simp only [Option.bind_some]
  rw [D6 (n:=(q:Int) + 1) (by omega),C0s]
  cases I5 (warm h q l) h.Figures[f]! == 1
  ·rw [Bool.or_false,if_neg (by decide)]; rfl
  ·rw [Bool.or_true,if_pos rfl]; rfl) (by
  unfold A22
  simp only []
  rw [if_neg (by simp)]; rfl)
 exact l1
def A24 (h:RoHouse) (f n:Nat):Int:=iter (fun l s=>if (s < 0∨pop l < pop s.toNat)∧somew h f l = true then (l:Int) else s) n (-1)
theorem B8v (h:RoHouse) (f n:Nat):A24 h f (n + 1) = if (A24 h f n < 0∨pop n < pop (A24 h f n).toNat)∧somew h f n = true then (n:Int) else A24 h f n:=rfl
theorem B3z (h:RoHouse) (f:Nat):∀n,(A24 h f n = -1∧∀ l,l < n→somew h f l = false)∨∃ k:Nat,k < n∧A24 h f n = (k:Int)∧somew h f k = true∧(∀ l,l < n→somew h f l = true→pop k≤pop l)∧∀ l,l < k→somew h f l = true→pop k < pop l
 | 0=>.inl ⟨rfl,fun l hl=>absurd hl (Nat.not_lt_zero l)⟩
 | n + 1=>by
  rw [B8v]
  rcases B3z h f n with ⟨h1,h2⟩ | ⟨k,hk,h1,h2,h3,h4⟩
  ·cases hs:somew h f n with
   | true =>
    right
    rw [if_pos ⟨.inl (by omega),rfl⟩]
    refine ⟨n,Nat.lt_succ_self n,rfl,hs,fun l hl hsl=>?_,fun l hl hsl=>by rw [h2 l hl] at hsl; cases hsl⟩
    by_cases e:l = n
    ·subst e; omega
    ·rw [h2 l (by omega)] at hsl; cases hsl
   | false =>
    left
    rw [if_neg (fun q=>by cases q.2)]
    refine ⟨h1,fun l hl=>?_⟩
    by_cases e:l = n
    ·subst e; exact hs
    ·exact h2 l (by omega)
  ·right
   rw [h1,Int.toNat_natCast]
   by_cases c:pop n < pop k∧somew h f n = true
   ·rw [if_pos ⟨.inr c.1,c.2⟩]
    refine ⟨n,Nat.lt_succ_self n,rfl,c.2,fun l hl hsl=>?_,fun l hl hsl=>?_⟩
    ·by_cases e:l = n
     ·subst e; omega
     ·have:=h3 l (by omega) hsl
      have:=c.1
      omega
    ·have:=h3 l (by omega) hsl
     have:=c.1
     omega
   ·rw [if_neg (fun q=>c ⟨q.1.resolve_left (by omega),q.2⟩)]
    refine ⟨k,by omega,rfl,h2,fun l hl hsl=>?_,h4⟩
    by_cases e:l = n
    ·subst e
     have:¬ pop l < pop k:=fun q=>c ⟨q,hsl⟩
     omega
    ·exact h3 l (by omega) hsl
theorem D8g (h:RoHouse) (f n:Nat):-1≤A24 h f n∧A24 h f n < n:= by
 rcases B3z h f n with ⟨h1,_⟩ | ⟨k,hk,h1,_⟩ <;> omega
def A7f (h:RoHouse) (f:Int):Int × Int :=
 if (check h).2.2 != 0 then (0,(check h).2.2) else
 if out 0 ((h.Figures.length:Int) - 1) f then (0,4) else
 if A24 h f.toNat (2 ^ h.Stoves.toNat) < 0 then (0,9) else (A24 h f.toNat (2 ^ h.Stoves.toNat),0)
theorem C0n {h:RoHouse} (hb:NB h) (f:Int):A2p h f = some (A7f h f):= by
 unfold A2p A7f
 rw [Q2 h hb]
 simp only [Option.bind_some]
 by_cases e0:(check h).2.2 = 0
 ·have ok:=M6 e0
  have hf5:=ok.figures
  have hpw:=A27 ok
  rw [if_neg (by simp [e0]),if_neg (by simp [e0]),D6 (by omega),beyond1]
  simp only [Option.bind_some]
  cases ho:out 0 ((h.Figures.length:Int) - 1) f with
  | true=>rfl
  | false =>
   have bo:=K2.mp ho
   obtain ⟨f',rfl⟩:∃f':Nat,f = f':=⟨f.toNat,by omega⟩
   have hf:f' < h.Figures.length:= by omega
   rw [D73 ok,Int.toNat_natCast]
   simp only [Option.bind_some,Bool.false_eq_true,if_false]
   have l1:=G6 (b:=A23 h (f':Int) ((2 ^ h.Stoves.toNat:Nat):Int)) (fun l=>(A24 h f' l,(l:Int))) (2 ^ h.Stoves.toNat) (r:=A24 h f' (2 ^ h.Stoves.toNat)) (by omega) (fun l hl=>by
    have bb:=D8g h f' l
    unfold A23
    simp only []
    rw [if_pos (by rw [decide_eq_true_eq]; exact Int.ofNat_lt.mpr hl),D6 (n:=(l:Int) + 1) (by omega),B8v]
    by_cases c:A24 h f' l ≥ 0
    ·rw [if_pos (by rw [decide_eq_true_eq]; exact c)]
     obtain ⟨k,hk⟩:∃k:Nat,A24 h f' l = k:=⟨(A24 h f' l).toNat,by omega⟩
     rw [hk,D2t l (by omega),D2t k (by omega),Int.toNat_natCast]
     simp only [Option.bind_some]
     by_cases c2:pop l ≥ pop k
     ·rw [if_pos (by rw [decide_eq_true_eq]; exact c2),if_neg (fun q=>by have:=q.1.resolve_left (by omega); omega)]; rfl
     ·rw [if_neg (by rw [decide_eq_true_eq]; exact c2),C8s ok hf (by omega)]
      simp only [Option.bind_some]
      cases hs:somew h f' l with
      | true=>rw [if_pos rfl,if_pos ⟨.inr (by omega),rfl⟩]; rfl
      | false=>rw [if_neg (by decide),if_neg (fun q=>by cases q.2)]; rfl
    ·rw [if_neg (by rw [decide_eq_true_eq]; exact c)]
     simp only [Option.bind_some,Bool.false_eq_true,if_false]
     rw [C8s ok hf (by omega)]
     simp only [Option.bind_some]
     cases hs:somew h f' l with
     | true=>rw [if_pos rfl,if_pos ⟨.inl (by omega),rfl⟩]; rfl
     | false=>rw [if_neg (by decide),if_neg (fun q=>by cases q.2)]; rfl) (by
    unfold A23
    simp only []
    rw [if_neg (by simp)])
   have l1:loop (A23 h (f':Int) ((2 ^ h.Stoves.toNat:Nat):Int)) (-1,0) = _:=l1
   rw [l1]
   simp only [Option.bind_some]
   by_cases c:A24 h f' (2 ^ h.Stoves.toNat) < 0
   ·rw [if_pos (by rw [decide_eq_true_eq]; exact c),if_pos c]
   ·rw [if_neg (by rw [decide_eq_true_eq]; exact c),if_neg c]
 ·rw [if_pos (bne_iff_ne.mpr e0),if_pos (bne_iff_ne.mpr e0)]
theorem A8k {h:RoHouse} (ok:HOk h) {f l:Nat} (hf:f < h.Figures.length) (hl:l < 16):T2 h (f:Int) (l:Int) = some (somew h f l):= by
 have hp:=ok.places
 unfold T2
 have l2:=A7e (b:=Z9 h (f:Int) (l:Int)) h.Places.length (fun q=>if I5 (warm h q l) h.Figures[f]! == 1 then some (.inl true) else none) (.inr ()) (by omega) (fun q hq _=>by
  unfold Z9
  rw [if_pos (by simpa using hq),F3 hf]
  simp only [Option.bind_some]
  rw [A80 ok (ok.figure _ (G4 hf)) hq hl]
  simp only [Option.bind_some]
  cases I5 (warm h q l) h.Figures[f]! == 1 <;> rfl) (by
  unfold Z9
  rw [if_neg (by simp)])
 rw [l2]
 simp only [Option.bind_some]
 unfold somew
 cases hf2:first (fun q=>if I5 (warm h q l) h.Figures[f]! == 1 then some (Sum.inl true:Bool ⊕ Unit) else none) h.Places.length with
 | none =>
  have h0:=I1.mp hf2
  have:((List.range h.Places.length).any fun q=>I5 (warm h q l) h.Figures[f]! == 1) = false:= by
   rw [List.any_eq_false]
   intro q hq
   have:=h0 q (List.mem_range.mp hq)
   intro hc
   rw [if_pos hc] at this; cases this
  rw [this]; rfl
 | some r =>
  obtain ⟨q,hq,h1,_⟩:=W4 hf2
  have hc:(I5 (warm h q l) h.Figures[f]! == 1) = true:= by
   cases hc:I5 (warm h q l) h.Figures[f]! == 1 with
   | true=>rfl
   | false=>rw [hc] at h1; exact absurd h1 (by simp)
  rw [hc,if_pos rfl] at h1
  have:((List.range h.Places.length).any fun q=>I5 (warm h q l) h.Figures[f]! == 1) = true:=List.any_eq_true.mpr ⟨q,List.mem_range.mpr hq,hc⟩
  rw [this,← Option.some.inj h1]; rfl
def B90 (l n:Nat):Int:=iter (fun s a=>if bit l s then a + 1 else a) n 0
theorem B4g (l n:Nat):B90 l (n + 1) = if bit l n then B90 l n + 1 else B90 l n:=rfl
theorem B66 (l:Nat):∀n,0≤B90 l n∧B90 l n≤n
 | 0=>by unfold B90 iter; omega
 | n + 1=>by
  have ih:=B66 l n
  rw [B4g]
  split <;> omega
theorem C0k:∀n:Nat,n < 4→∀ l:Nat,l < 2 ^ n→B90 l n = pop l:= by decide +kernel
theorem E1p:∀l,0≤pop l∧pop l≤4:= by
 intro l
 unfold pop
 cases bit l 0 <;> cases bit l 1 <;> cases bit l 2 <;> cases bit l 3 <;> decide
def C1i (h:RoHouse) (f:Nat) (m:Int) (l:Nat):Bool:=pop l == m && somew h f l
theorem D9u {h:RoHouse} (ok:HOk h) {l:Nat} (hl:l < 2 ^ h.Stoves.toNat):loop (A1z h (l:Int)) (0,0) = some (pop l):= by
 have hs:=ok.s
 have hpw:=A27 ok
 rw [← C0k h.Stoves.toNat (by omega) l hl]
 exact G6 (b:=A1z h (l:Int)) (fun s=>(B90 l s,(s:Int))) h.Stoves.toNat (r:=B90 l h.Stoves.toNat) (by omega) (fun s hs'=>by
  have b:=B66 l s
  unfold A1z
  simp only []
  rw [if_pos (by rw [decide_eq_true_eq]; omega),A3p (by omega) (by omega)]
  simp only [Option.bind_some]
  rw [D6 (n:=(s:Int) + 1) (by omega),D6 (n:=B90 l s + 1) (by omega),B4g]
  cases bit l s <;> rfl) (by
  unfold A1z
  simp only []
  rw [if_neg (by rw [decide_eq_true_eq]; omega)])
def C5f (h:RoHouse) (f:Nat) (m:Int):(Int × Int) ⊕ Unit:=(first (fun l=>if C1i h f m l then some (.inl ((l:Int),0)) else none) (2 ^ h.Stoves.toNat)).getD (.inr ())
theorem D7r {h:RoHouse} (ok:HOk h) {f:Nat} (hf:f < h.Figures.length) (m:Int):loop (A10 h (f:Int) m) 0 = some (C5f h f m):= by
 have hpw:=A27 ok
 refine A7e (b:=A10 h (f:Int) m) (2 ^ h.Stoves.toNat) (fun l=>if C1i h f m l then some (.inl ((l:Int),0)) else none) (.inr ()) (by omega) (fun l hl _=>?_) ?_
 ·unfold A10
  rw [C24 ok]
  simp only [Option.bind_some]
  rw [if_pos (by rw [decide_eq_true_eq]; omega),D9u ok hl,A8k ok hf (by omega)]
  simp only [Option.bind_some]
  unfold C1i
  cases pop l == m with
  | false=>rfl
  | true=>cases somew h f l <;> rfl
 ·unfold A10
  rw [C24 ok]
  simp only [Option.bind_some]
  rw [if_neg (by simp)]
theorem C65 (h:RoHouse) (f:Int):A7t h f = some (A7f h f):= by
 unfold A7t A7f
 rw [O1]
 simp only [Option.bind_some]
 by_cases e0:(check h).2.2 = 0
 ·have ok:=M6 e0
  have hf5:=ok.figures
  have hpw:=A27 ok
  have hs:=ok.s
  rw [if_pos (by simp [e0]),if_neg (by simp [e0]),D6 (by omega),within5]
  simp only [Option.bind_some,Bool.not_not]
  cases ho:out 0 ((h.Figures.length:Int) - 1) f with
  | true=>rfl
  | false =>
   have bo:=K2.mp ho
   obtain ⟨f',rfl⟩:∃f':Nat,f = f':=⟨f.toNat,by omega⟩
   have hf:f' < h.Figures.length:= by omega
   rw [Int.toNat_natCast]
   simp only [Option.bind_some,Bool.false_eq_true,if_false]
   rw [if_neg (by simp [e0])]
   have l3:=A7e (b:=A3m h (f':Int)) (h.Stoves.toNat + 1) (fun m=>(C5f h f' (m:Int)).elim (fun v=>some (.inl v)) (fun _=>none)) (.inr ()) (by omega) (fun m hm _=>by
    unfold A3m
    rw [if_pos (by rw [decide_eq_true_eq]; omega),D7r ok hf]
    simp only [Option.bind_some]
    cases C5f h f' (m:Int) <;> rfl) (by
    unfold A3m
    rw [if_neg (by rw [decide_eq_true_eq]; omega)])
   rw [l3]
   simp only [Option.bind_some]
   have hpm:∀l,l < 2 ^ h.Stoves.toNat→pop l≤h.Stoves:=fun l hl=>by
    have:=C0k h.Stoves.toNat (by omega) l hl
    have b:=B66 l h.Stoves.toNat
    omega
   rcases B3z h f' (2 ^ h.Stoves.toNat) with ⟨h1,h2⟩ | ⟨k,hk,h1,h2,h3,h4⟩
   ·rw [if_pos (by omega),I1.mpr fun m hm=>by
     unfold C5f
     rw [I1.mpr fun l hl=>by
      unfold C1i
      rw [h2 l hl,Bool.and_false]; rfl]
     rfl]
    rfl
   ·rw [if_neg (by omega),h1]
    have hp:=E1p k
    have hkm:=hpm k hk
    rw [A83 (i:=(pop k).toNat) (r:=.inl ((k:Int),0)) (by omega) (by
     unfold C5f
     rw [A83 (i:=k) (r:=.inl ((k:Int),0)) hk (by
      unfold C1i
      rw [h2,Int.toNat_of_nonneg hp.1]; simp) (fun j hj=>by
      unfold C1i
      cases hsj:somew h f' j with
      | false=>rw [Bool.and_false]; rfl
      | true =>
       have:=h4 j hj hsj
       rw [Int.toNat_of_nonneg hp.1,beq_eq_false_iff_ne.mpr (show pop j ≠ pop k by omega)]; rfl)]
     rfl) (fun m hm=>by
     unfold C5f
     rw [I1.mpr fun l hl=>by
      unfold C1i
      cases hsj:somew h f' l with
      | false=>rw [Bool.and_false]; rfl
      | true =>
       have:=h3 l hl hsj
       rw [beq_eq_false_iff_ne.mpr (show pop l ≠ (m:Int) by omega)]; rfl]
     rfl)]
    rfl
 ·rw [if_neg (by simp [e0]),if_pos (bne_iff_ne.mpr e0)]
  simp only [Option.bind_some,Bool.false_eq_true,if_false]
  rw [if_pos (bne_iff_ne.mpr e0)]
theorem B92 {h:RoHouse} (hb:NB h) {f:Int} (_:True):A33 h f = some true:= by
 unfold A33
 rw [C4a hb,C31,C0n hb,C65]
 simp only [Option.bind_some]
 rw [B00 _ (C6d h)]
 simp only [Option.bind_some,Bool.not_true,bne_self_eq_false,Bool.or_self,Bool.false_eq_true,if_false,beq_self_eq_true,Bool.and_self,if_true]
 rw [P2]; rfl
end Rm
end
