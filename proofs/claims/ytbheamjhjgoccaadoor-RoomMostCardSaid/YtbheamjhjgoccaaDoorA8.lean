/- Texts that the claim stands on, one behind another. -/
import Derived.Test.YtbheamjhjgoccaaDoorA7
set_option linter.unusedVariables false
set_option linter.unusedSimpArgs false
set_option linter.unnecessarySimpa false
section
set_option maxRecDepth 100000
set_option maxHeartbeats 0
namespace Rm
open Go Am Go.Proofs.YtbheamjhjgoccaaDoor.Cd
def B30 (a1:RoPlan) (s9:(Int × room_plan)):Option ((Int × room_plan) ⊕ (room_plan ⊕ Unit)) :=
 if (decide (s9.1 < (List.length a1.At:Int))) = true then
  (idx a1.At s9.1).bind fun x12 =>
  (if (x12 != (-1)) = true then
  (slc a1.At 0 s9.1).bind fun x14 =>
  (M0 x14 x12).bind fun x15 =>
  some x15
  else
  some false).bind fun x16 =>
  if x16 = true then
  some (.inr (.inr ()))
  else
  (idx (Ar5.l s9.2.at_) s9.1).bind fun x18 =>
  some (.inl ((w64 (s9.1 + 1)),(room_plan.mk s9.2.lit_ (Ar5.set s9.2.at_ s9.1 (w64 (x12 + 1))))))
 else
  some (.inr (.inl s9.2))
def A03 (a0:RoHouse) (vo19_0:room_plan) (s20:Int):Option (Int ⊕ (Unit ⊕ Unit)) :=
 if (decide (s20 < 5)) = true then
  (idx (Ar5.l vo19_0.at_) s20).bind fun x23 =>
  (if (decide (x23 > 0)) = true then
  (O2 (room_house.mk a0) s20 (w64 (x23 - 1)) vo19_0.lit_).bind fun x25 =>
  some (x25 != 1)
  else
  some false).bind fun x26 =>
  if x26 = true then
  some (.inr (.inr ()))
  else
  some (.inl (w64 (s20 + 1)))
 else
  some (.inr (.inl ()))
def A29 (a0:RoHouse) (a1:RoPlan):Option (Int × Int) :=
 (Q0 a0).bind fun x1 =>
 if (x1.2.2 != 0) = true then
  some (0,x1.2.2)
 else
  (B3h .i64 1 a0.Stoves).bind fun x3 =>
  (G6 0 (w64 (x3 - 1)) [a1.Lit]).bind fun x4 =>
  if x4 = true then
  some (0,7)
  else
  if ((List.length a1.At:Int) != (List.length a0.Figures:Int)) = true then
   some (0,3)
  else
   (G6 (-1) (w64 ((List.length a0.Places:Int) - 1)) a1.At).bind fun x7 =>
   if x7 = true then
   some (0,4)
   else
   (loop (B30 a1) (0,(room_plan.mk a1.Lit (Ar5.mk 0 0 0 0 0)))).bind fun (o19:(room_plan ⊕ Unit)) =>
   match o19 with
   | (.inl vo19_0) =>
    (loop (A03 a0 vo19_0) 0).bind fun (o28:(Unit ⊕ Unit)) =>
    match o28 with
    | (.inl vo28_0) =>
    (M7 (room_house.mk a0) vo19_0.at_ true).bind fun x29 =>
    if (!x29) = true then
     some (0,9)
    else
     (T8 (room_house.mk a0) vo19_0.at_).bind fun x31 =>
     some (x31,0)
    | (.inr vo28_1) =>
    some (0,9)
   | (.inr vo19_1) =>
    some (0,5)
theorem A6n {c:Sc} {H:A6} {a0:RoHouse} {a1:RoPlan} {r:(Int × Int)} (h:A29 a0 a1 = some r) :
  E7 tab c H (.fn (.func 27) [] []) [(.agg (A3 a0)),(.agg (B1 a1))] [.i r.1,.i r.2]:= by
 unfold A29 at h
 refine cE rfl rfl<|sg 0 rfl<|A0 (E8 (cs:=A3 a0) rfl rfl rfl) rfl<|A0 (E8 (cs:=B1 a1) rfl rfl rfl) rfl<|qm rfl<|qm rfl<|es (ra2 rfl rfl)<|sg 2 rfl<|A0 (C0 rfl rfl rfl) rfl<|A0 (C0 rfl rfl rfl) rfl<|P2 (as2:=[(.agg (A3 a0)),(.agg (B1 a1))]) (H1:=(H++[(.cells (A3 a0)),(.cells (B1 a1)),.dead])) rfl rfl (A1 (D1 rfl) (A1 (D1 rfl) B7)) rfl rfl rfl (V2 rfl)<|sg 3 rfl<|A0 (E8 (cs:=A3 a0) rfl rfl rfl) rfl<|A0 (E8 (cs:=B1 a1) rfl rfl rfl) rfl<|qm rfl<|A0 D5 rfl<|qm rfl<|es (ra3 rfl rfl rfl)<|sg 6 rfl<|A0 (C0 rfl rfl rfl) rfl<|A0 (C0 rfl rfl rfl) rfl<|P2 (as2:=[(.agg (A3 a0)),(.agg (B1 a1))]) (H1:=(H++[(.cells (A3 a0)),(.cells (B1 a1)),.dead,(.cells (A3 a0)),(.cells (B1 a1)),(.cells (A8 (room_plan.mk 0 (Ar5.mk 0 0 0 0 0)))),.dead])) rfl rfl (A1 (D1 rfl) (A1 (D1 rfl) B7)) rfl rfl rfl (V2 rfl)<|sg 7 rfl<|A0 (E8 (cs:=A3 a0) rfl rfl rfl) rfl<|A0 (E8 (cs:=B1 a1) rfl rfl rfl) rfl<|qm rfl<|A0 D5 rfl<|qm rfl<|es (ra3 rfl rfl rfl)<|s0<|A0 (C0 rfl rfl rfl) rfl<|P2 (as2:=[(.agg (A3 a0))]) (H1:=(H++[(.cells (A3 a0)),(.cells (B1 a1)),.dead,(.cells (A3 a0)),(.cells (B1 a1)),(.cells (A8 (room_plan.mk 0 (Ar5.mk 0 0 0 0 0)))),.dead,(.cells (A3 a0)),(.cells (B1 a1)),(.cells (A8 (room_plan.mk 0 (Ar5.mk 0 0 0 0 0))))])) rfl rfl (A1 (D1 rfl) B7) rfl rfl rfl (V2 rfl)<|sg 10 rfl<|A0 (E8 (cs:=A3 a0) rfl rfl rfl) rfl<|qm rfl<|qm rfl<|es (ra1 rfl)<|s0<|oB h fun x1 hx1 h=>A0 (C0 rfl rfl rfl) rfl<|B4 (rs:=[.i x1.1,.i x1.2.1,.i x1.2.2]) rfl rfl (A1 (D1 rfl) B7) ((R2 hx1).frz)<|qm rfl<|A0 (A7 rfl rfl) rfl<|A0 (A7 rfl rfl) rfl<|A0 (A7 rfl rfl) rfl<|qm rfl<|qm rfl<|qm rfl<|es (ra2 rfl rfl)<|sg 11 rfl<|A0 (C0 rfl rfl rfl) rfl<|A0 (G3 (cs:=[.b false,(.fn (.func 112) [] [])]) rfl rfl) rfl<|A0 (G3 (cs:=[.b true,(.fn (.func 113) [] [])]) rfl rfl) rfl<|A0 (A7h (rows:=[[.b false,(.fn (.func 112) [] [])],[.b true,(.fn (.func 113) [] [])]]) rfl rfl) rfl<|A0 (G3 (cs:=[.i a0.Weather.Lo,.i a0.Weather.Hi,.i a0.Stoves,(.seq 1 (List.map cI a0.Holds)),(.seq 4 (List.map C3 a0.Places)),(.seq 6 (List.map B3 a0.Figures)),(.seq 1 (List.map cI a0.Bill)),(.xseq 2 [[.b false,(.fn (.func 112) [] [])],[.b true,(.fn (.func 113) [] [])]])]) rfl rfl) rfl<|A0 (E8 (cs:=[.i a0.Weather.Lo,.i a0.Weather.Hi,.i a0.Stoves,(.seq 1 (List.map cI a0.Holds)),(.seq 4 (List.map C3 a0.Places)),(.seq 6 (List.map B3 a0.Figures)),(.seq 1 (List.map cI a0.Bill)),(.xseq 2 [[.b false,(.fn (.func 112) [] [])],[.b true,(.fn (.func 113) [] [])]])]) rfl rfl rfl) rfl<|qm rfl<|qm rfl<|qm rfl<|es (ra2 rfl rfl)<|C5 ?_
 refine InlQ.mk trivial ⟨_,_,_,[(.ptr (H.length + 11) 0),.i x1.2.2],_,(A9 rfl (A9 rfl B6)),(A4 rfl (A4 rfl B5)),(W6 (N2 (W4 rfl)) (D2 rfl (D2 rfl J1))),?_⟩
 refine qm rfl<|A0 (A7 rfl rfl) rfl<|A0 (A7 rfl rfl) rfl<|qm rfl<|qm rfl<|es (ra5 rfl rfl rfl rfl rfl)<|B8<|C6<|s0<|qm rfl<|A0 (F7 rfl rfl) rfl<|qm rfl<|es (ra6 rfl rfl rfl rfl rfl rfl)<|wi h rfl (fun hc2 h=>?_) fun hc2 h=>?_
 ·refine s0<|A0 (C0 rfl rfl rfl) rfl<|qm rfl<|F2 (D0 (ds:=(A8 (room_plan.mk 0 (Ar5.mk 0 0 0 0 0)))) rfl rfl rfl rfl (B9 rfl) rfl) rfl<|qm rfl<|qm rfl<|es (ra3 rfl rfl rfl)<|C5<|InlQ.mk trivial ⟨_,_,_,[(.lit (.pointer none)),(.agg (A8 (room_plan.mk 0 (Ar5.mk 0 0 0 0 0)))),.i x1.2.2],_,(A9 rfl (F8 (E9 (ds:=A8 (room_plan.mk 0 (Ar5.mk 0 0 0 0 0))) rfl rfl rfl rfl) (A9 rfl B6))),(A4 rfl (A4 (I0 rfl) (A4 rfl B5))),(R1 (A2 A5 (A2 (G5 rfl) (A2 A5 B2))) (D2 rfl (D2 rfl (D2 rfl J1))) (H7 _ _ _)),?_⟩
  refine qm rfl<|A0 (A7 rfl rfl) rfl<|A0 (A7 rfl rfl) rfl<|A0 (A7 rfl rfl) rfl<|A0 D5 rfl<|qm rfl<|F2 (D0 (ds:=(A8 (room_plan.mk 0 (Ar5.mk 0 0 0 0 0)))) rfl rfl rfl rfl (B9 rfl) rfl) rfl<|qm rfl<|es (ra4 rfl rfl rfl rfl)<|B8<|s0<|qm rfl<|A0 (F7 rfl rfl) rfl<|es (ra5 rfl rfl rfl rfl rfl)<|L2 rfl hc2<|s0<|A0 (C0 rfl rfl rfl) rfl<|qm rfl<|F2 (D0 (ds:=(A8 (room_plan.mk 0 (Ar5.mk 0 0 0 0 0)))) rfl rfl rfl rfl (B9 rfl) rfl) rfl<|qm rfl<|qm rfl<|es (ra3 rfl rfl rfl)<|C5<|InlQ.mk trivial ⟨_,_,_,[(.lit (.pointer none)),(.agg (A8 (room_plan.mk 0 (Ar5.mk 0 0 0 0 0)))),.i x1.2.2],_,(A9 rfl (F8 (E9 (ds:=A8 (room_plan.mk 0 (Ar5.mk 0 0 0 0 0))) rfl rfl rfl rfl) (A9 rfl B6))),(A4 rfl (A4 (I0 rfl) (A4 rfl B5))),(R1 (A2 A5 (A2 (G5 rfl) (A2 A5 B2))) (D2 rfl (D2 rfl (D2 rfl J1))) (H7 _ _ _)),?_⟩
  refine qm rfl<|A0 (A7 rfl rfl) rfl<|A0 (A7 rfl rfl) rfl<|A0 (A7 rfl rfl) rfl<|A0 D5 rfl<|qm rfl<|F2 (D0 (ds:=(A8 (room_plan.mk 0 (Ar5.mk 0 0 0 0 0)))) rfl rfl rfl rfl (B9 rfl) rfl) rfl<|qm rfl<|es (ra3 rfl rfl rfl)<|B8<|s0<|qm rfl<|A0 (F7 rfl rfl) rfl<|es (ra4 rfl rfl rfl rfl)<|L2 rfl hc2<|s0<|qm rfl<|qm rfl<|qm rfl<|es (ra2 rfl rfl)<|C5 ?_
  obtain rfl:=os h
  exact retq trivial (A9 rfl (A9 rfl B6)) (A4 rfl (A4 rfl B5)) (A2 A5 (A2 A5 B2))
 ·refine s0<|oB h fun x3 hx3 h=>oB h fun x4 hx4 h=>A0 (C4 rfl) rfl<|A0 (C2 rfl rfl rfl) rfl<|A0 (B5n rfl rfl hx3) rfl<|A0 (X4 rfl rfl) rfl<|A0 (C4 rfl) rfl<|A0 (C2 rfl rfl rfl) rfl<|A0 (K8 (rows:=List.map cI [a1.Lit]) rfl rfl (F4 (fun _=>rfl) _)) rfl<|B4 (rs:=[.b x4]) rfl rfl (A1 rfl (A1 rfl (A1 rfl B7))) ((H9 hx4).frz)<|qm rfl<|es (ra5 rfl rfl rfl rfl rfl)<|wi h rfl (fun hc5 h=>?_) fun hc5 h=>?_
  ·refine s0<|A0 (C0 rfl rfl rfl) rfl<|qm rfl<|F2 (D0 (ds:=(A8 (room_plan.mk 0 (Ar5.mk 0 0 0 0 0)))) rfl rfl rfl rfl (B9 rfl) rfl) rfl<|qm rfl<|es (ra3 rfl rfl rfl)<|C5<|InlQ.mk trivial ⟨_,_,_,[(.lit (.pointer none)),(.agg (A8 (room_plan.mk 0 (Ar5.mk 0 0 0 0 0)))),.i 7],_,(A9 rfl (F8 (E9 (ds:=A8 (room_plan.mk 0 (Ar5.mk 0 0 0 0 0))) rfl rfl rfl rfl) (A9 rfl B6))),(A4 rfl (A4 (I0 rfl) (A4 rfl B5))),(R1 (A2 A5 (A2 (G5 rfl) (A2 A5 B2))) (D2 rfl (D2 rfl (D2 rfl J1))) (H7 _ _ _)),?_⟩
   refine qm rfl<|A0 (A7 rfl rfl) rfl<|A0 (A7 rfl rfl) rfl<|A0 (A7 rfl rfl) rfl<|A0 D5 rfl<|qm rfl<|F2 (D0 (ds:=(A8 (room_plan.mk 0 (Ar5.mk 0 0 0 0 0)))) rfl rfl rfl rfl (B9 rfl) rfl) rfl<|qm rfl<|es (ra4 rfl rfl rfl rfl)<|B8<|s0<|qm rfl<|A0 (H6 (v:=(.b true)) rfl rfl rfl) rfl<|es (ra5 rfl rfl rfl rfl rfl)<|L2 rfl rfl<|s0<|A0 (C0 rfl rfl rfl) rfl<|qm rfl<|F2 (D0 (ds:=(A8 (room_plan.mk 0 (Ar5.mk 0 0 0 0 0)))) rfl rfl rfl rfl (B9 rfl) rfl) rfl<|qm rfl<|qm rfl<|es (ra3 rfl rfl rfl)<|C5<|InlQ.mk trivial ⟨_,_,_,[(.lit (.pointer none)),(.agg (A8 (room_plan.mk 0 (Ar5.mk 0 0 0 0 0)))),.i 7],_,(A9 rfl (F8 (E9 (ds:=A8 (room_plan.mk 0 (Ar5.mk 0 0 0 0 0))) rfl rfl rfl rfl) (A9 rfl B6))),(A4 rfl (A4 (I0 rfl) (A4 rfl B5))),(R1 (A2 A5 (A2 (G5 rfl) (A2 A5 B2))) (D2 rfl (D2 rfl (D2 rfl J1))) (H7 _ _ _)),?_⟩
   refine qm rfl<|A0 (A7 rfl rfl) rfl<|A0 (A7 rfl rfl) rfl<|A0 (A7 rfl rfl) rfl<|A0 D5 rfl<|qm rfl<|F2 (D0 (ds:=(A8 (room_plan.mk 0 (Ar5.mk 0 0 0 0 0)))) rfl rfl rfl rfl (B9 rfl) rfl) rfl<|qm rfl<|es (ra3 rfl rfl rfl)<|B8<|s0<|qm rfl<|A0 (H6 (v:=(.b true)) rfl rfl rfl) rfl<|es (ra4 rfl rfl rfl rfl)<|L2 rfl rfl<|s0<|qm rfl<|qm rfl<|qm rfl<|es (ra2 rfl rfl)<|C5 ?_
   obtain rfl:=os h
   exact retq trivial (A9 rfl (A9 rfl B6)) (A4 rfl (A4 rfl B5)) (A2 A5 (A2 A5 B2))
  ·refine s0<|A0 (C4 rfl) rfl<|A0 (C2 rfl rfl rfl) rfl<|A0 (D9 (f:=cI) rfl) rfl<|A0 (C4 rfl) rfl<|A0 (C2 rfl rfl rfl) rfl<|A0 (D9 (f:=B3) rfl) rfl<|A0 (F7 rfl rfl) rfl<|qm rfl<|es (ra5 rfl rfl rfl rfl rfl)<|wi h rfl (fun hc6 h=>?_) fun hc6 h=>?_
   ·refine s0<|A0 (C0 rfl rfl rfl) rfl<|qm rfl<|F2 (D0 (ds:=(A8 (room_plan.mk 0 (Ar5.mk 0 0 0 0 0)))) rfl rfl rfl rfl (B9 rfl) rfl) rfl<|qm rfl<|es (ra3 rfl rfl rfl)<|C5<|InlQ.mk trivial ⟨_,_,_,[(.lit (.pointer none)),(.agg (A8 (room_plan.mk 0 (Ar5.mk 0 0 0 0 0)))),.i 3],_,(A9 rfl (F8 (E9 (ds:=A8 (room_plan.mk 0 (Ar5.mk 0 0 0 0 0))) rfl rfl rfl rfl) (A9 rfl B6))),(A4 rfl (A4 (I0 rfl) (A4 rfl B5))),(R1 (A2 A5 (A2 (G5 rfl) (A2 A5 B2))) (D2 rfl (D2 rfl (D2 rfl J1))) (H7 _ _ _)),?_⟩
    refine qm rfl<|A0 (A7 rfl rfl) rfl<|A0 (A7 rfl rfl) rfl<|A0 (A7 rfl rfl) rfl<|A0 D5 rfl<|qm rfl<|F2 (D0 (ds:=(A8 (room_plan.mk 0 (Ar5.mk 0 0 0 0 0)))) rfl rfl rfl rfl (B9 rfl) rfl) rfl<|qm rfl<|es (ra4 rfl rfl rfl rfl)<|B8<|s0<|qm rfl<|A0 (H6 (v:=(.b true)) rfl rfl rfl) rfl<|es (ra5 rfl rfl rfl rfl rfl)<|L2 rfl rfl<|s0<|A0 (C0 rfl rfl rfl) rfl<|qm rfl<|F2 (D0 (ds:=(A8 (room_plan.mk 0 (Ar5.mk 0 0 0 0 0)))) rfl rfl rfl rfl (B9 rfl) rfl) rfl<|qm rfl<|qm rfl<|es (ra3 rfl rfl rfl)<|C5<|InlQ.mk trivial ⟨_,_,_,[(.lit (.pointer none)),(.agg (A8 (room_plan.mk 0 (Ar5.mk 0 0 0 0 0)))),.i 3],_,(A9 rfl (F8 (E9 (ds:=A8 (room_plan.mk 0 (Ar5.mk 0 0 0 0 0))) rfl rfl rfl rfl) (A9 rfl B6))),(A4 rfl (A4 (I0 rfl) (A4 rfl B5))),(R1 (A2 A5 (A2 (G5 rfl) (A2 A5 B2))) (D2 rfl (D2 rfl (D2 rfl J1))) (H7 _ _ _)),?_⟩
    refine qm rfl<|A0 (A7 rfl rfl) rfl<|A0 (A7 rfl rfl) rfl<|A0 (A7 rfl rfl) rfl<|A0 D5 rfl<|qm rfl<|F2 (D0 (ds:=(A8 (room_plan.mk 0 (Ar5.mk 0 0 0 0 0)))) rfl rfl rfl rfl (B9 rfl) rfl) rfl<|qm rfl<|es (ra3 rfl rfl rfl)<|B8<|s0<|qm rfl<|A0 (H6 (v:=(.b true)) rfl rfl rfl) rfl<|es (ra4 rfl rfl rfl rfl)<|L2 rfl rfl<|s0<|qm rfl<|qm rfl<|qm rfl<|es (ra2 rfl rfl)<|C5 ?_
    obtain rfl:=os h
    exact retq trivial (A9 rfl (A9 rfl B6)) (A4 rfl (A4 rfl B5)) (A2 A5 (A2 A5 B2))
   ·refine s0<|oB h fun x7 hx7 h=>A0 (C4 rfl) rfl<|A0 (C2 rfl rfl rfl) rfl<|A0 (D9 (f:=C3) rfl) rfl<|A0 (X4 rfl rfl) rfl<|A0 (C4 rfl) rfl<|A0 (C2 rfl rfl rfl) rfl<|B4 (rs:=[.b x7]) rfl rfl (A1 rfl (A1 rfl (A1 rfl B7))) ((H9 hx7).frz)<|qm rfl<|es (ra4 rfl rfl rfl rfl)<|wi h rfl (fun hc8 h=>?_) fun hc8 h=>?_
    ·refine s0<|A0 (C0 rfl rfl rfl) rfl<|qm rfl<|F2 (D0 (ds:=(A8 (room_plan.mk 0 (Ar5.mk 0 0 0 0 0)))) rfl rfl rfl rfl (B9 rfl) rfl) rfl<|qm rfl<|es (ra3 rfl rfl rfl)<|C5<|InlQ.mk trivial ⟨_,_,_,[(.lit (.pointer none)),(.agg (A8 (room_plan.mk 0 (Ar5.mk 0 0 0 0 0)))),.i 4],_,(A9 rfl (F8 (E9 (ds:=A8 (room_plan.mk 0 (Ar5.mk 0 0 0 0 0))) rfl rfl rfl rfl) (A9 rfl B6))),(A4 rfl (A4 (I0 rfl) (A4 rfl B5))),(R1 (A2 A5 (A2 (G5 rfl) (A2 A5 B2))) (D2 rfl (D2 rfl (D2 rfl J1))) (H7 _ _ _)),?_⟩
     refine qm rfl<|A0 (A7 rfl rfl) rfl<|A0 (A7 rfl rfl) rfl<|A0 (A7 rfl rfl) rfl<|A0 D5 rfl<|qm rfl<|F2 (D0 (ds:=(A8 (room_plan.mk 0 (Ar5.mk 0 0 0 0 0)))) rfl rfl rfl rfl (B9 rfl) rfl) rfl<|qm rfl<|es (ra4 rfl rfl rfl rfl)<|B8<|s0<|qm rfl<|A0 (H6 (v:=(.b true)) rfl rfl rfl) rfl<|es (ra5 rfl rfl rfl rfl rfl)<|L2 rfl rfl<|s0<|A0 (C0 rfl rfl rfl) rfl<|qm rfl<|F2 (D0 (ds:=(A8 (room_plan.mk 0 (Ar5.mk 0 0 0 0 0)))) rfl rfl rfl rfl (B9 rfl) rfl) rfl<|qm rfl<|qm rfl<|es (ra3 rfl rfl rfl)<|C5<|InlQ.mk trivial ⟨_,_,_,[(.lit (.pointer none)),(.agg (A8 (room_plan.mk 0 (Ar5.mk 0 0 0 0 0)))),.i 4],_,(A9 rfl (F8 (E9 (ds:=A8 (room_plan.mk 0 (Ar5.mk 0 0 0 0 0))) rfl rfl rfl rfl) (A9 rfl B6))),(A4 rfl (A4 (I0 rfl) (A4 rfl B5))),(R1 (A2 A5 (A2 (G5 rfl) (A2 A5 B2))) (D2 rfl (D2 rfl (D2 rfl J1))) (H7 _ _ _)),?_⟩
     refine qm rfl<|A0 (A7 rfl rfl) rfl<|A0 (A7 rfl rfl) rfl<|A0 (A7 rfl rfl) rfl<|A0 D5 rfl<|qm rfl<|F2 (D0 (ds:=(A8 (room_plan.mk 0 (Ar5.mk 0 0 0 0 0)))) rfl rfl rfl rfl (B9 rfl) rfl) rfl<|qm rfl<|es (ra3 rfl rfl rfl)<|B8<|s0<|qm rfl<|A0 (H6 (v:=(.b true)) rfl rfl rfl) rfl<|es (ra4 rfl rfl rfl rfl)<|L2 rfl rfl<|s0<|qm rfl<|qm rfl<|qm rfl<|es (ra2 rfl rfl)<|C5 ?_
     obtain rfl:=os h
     exact retq trivial (A9 rfl (A9 rfl B6)) (A4 rfl (A4 rfl B5)) (A2 A5 (A2 A5 B2))
    ·refine C1<|s0<|A0 (C4 rfl) rfl<|A0 (C2 rfl rfl rfl) rfl<|A0 (C4 rfl) rfl<|F2 (D0 (ds:=(A8 (room_plan.mk a1.Lit (Ar5.mk 0 0 0 0 0)))) rfl rfl rfl rfl (B9 rfl) rfl) rfl<|es (ra3 rfl rfl rfl)<|B8<|s0<|A0 (C4 rfl) rfl<|A0 (C2 rfl rfl rfl) rfl<|A0 (D9 (f:=cI) rfl) rfl<|qm rfl<|es (ra6 rfl rfl rfl rfl rfl rfl)<|C6<|oB h fun o19 ho19 h=>wl (fun s9=>[(3,(.ptr (H.length + 8) 0)),(4,(.ptr (H.length + 11) 0)),(5,(.ptr (H.length + 9) 0)),(51,(.seq 1 (List.map cI a1.At))),(52,(.i (List.length a1.At:Int))),(53,.i s9.1)]) (fun (q10:Unit) s9=>[(.cells (A3 a0)),(.cells (B1 a1)),.dead,(.cells (A3 a0)),(.cells (B1 a1)),(.cells (A8 (room_plan.mk 0 (Ar5.mk 0 0 0 0 0)))),.dead,(.cells (A3 a0)),(.cells (B1 a1)),(.cells (A8 s9.2)),(.cells (A3 a0)),(.cells [.i a0.Weather.Lo,.i a0.Weather.Hi,.i a0.Stoves,(.seq 1 (List.map cI a0.Holds)),(.seq 4 (List.map C3 a0.Places)),(.seq 6 (List.map B3 a0.Figures)),(.seq 1 (List.map cI a0.Bill)),(.xseq 2 [[.b false,(.fn (.func 112) [] [])],[.b true,(.fn (.func 113) [] [])]])])]) 12 (fun r e s' H'=>(match r with | (.inl v)=>PX 1 [(4,(.ptr (H.length + 11) 0)),(5,(.ptr (H.length + 9) 0))] (H++[(.cells (A3 a0)),(.cells (B1 a1)),.dead,(.cells (A3 a0)),(.cells (B1 a1)),(.cells (A8 (room_plan.mk 0 (Ar5.mk 0 0 0 0 0)))),.dead,(.cells (A3 a0)),(.cells (B1 a1)),(.cells (A8 v)),(.cells (A3 a0)),(.cells [.i a0.Weather.Lo,.i a0.Weather.Hi,.i a0.Stoves,(.seq 1 (List.map cI a0.Holds)),(.seq 4 (List.map C3 a0.Places)),(.seq 6 (List.map B3 a0.Figures)),(.seq 1 (List.map cI a0.Bill)),(.xseq 2 [[.b false,(.fn (.func 112) [] [])],[.b true,(.fn (.func 113) [] [])]])])]) e s' H' | (.inr v)=>e = .ret∧s' = [(4,(.lit (.pointer none))),(5,(.ptr (H.length + 9) 0)),(6,.i 5)]∧H' = (H++[(.cells (A3 a0)),(.cells (B1 a1)),.dead,(.cells (A3 a0)),(.cells (B1 a1)),(.cells (A8 (room_plan.mk 0 (Ar5.mk 0 0 0 0 0)))),.dead,(.cells (A3 a0)),(.cells (B1 a1)),(.cells (A8 (room_plan.mk 0 (Ar5.mk 0 0 0 0 0)))),(.cells (A3 a0)),(.cells [.i a0.Weather.Lo,.i a0.Weather.Hi,.i a0.Stoves,(.seq 1 (List.map cI a0.Holds)),(.seq 4 (List.map C3 a0.Places)),(.seq 6 (List.map B3 a0.Figures)),(.seq 1 (List.map cI a0.Bill)),(.xseq 2 [[.b false,(.fn (.func 112) [] [])],[.b true,(.fn (.func 113) [] [])]])])]):Prop)) () ho19 rfl rfl (fun _ _=>rfl) (fun _=>rfl) rfl (fun s9=>(bdc (D8 rfl) (bdc (D8 rfl) (bdc (D8 rfl) (bdc G8 (bdc A5 (bdc A5 bdn))))))) (fun q10 s9 ys9 hs9=>?_) ?_
     ·unfold B30 at hs9
      refine s0<|A0 (G0 rfl rfl) rfl<|es (ra7 rfl rfl rfl rfl rfl rfl rfl)<|B8<|wi hs9 rfl (fun hc11 hs9=>?_) fun hc11 hs9=>?_
      ·refine C1<|B8<|C6<|s0<|oB hs9 fun x12 hx12 hs9=>qm rfl<|A0 (E3 (f:=cI) rfl rfl hx12) rfl<|A0 (E5 rfl rfl) rfl<|qm rfl<|qm rfl<|es (ra8 rfl rfl rfl rfl rfl rfl rfl rfl)<|B8<|s0<|oB hs9 fun x16 hx16 hs9=>qm rfl<|A0 (F7 rfl rfl) rfl<|qm rfl<|gp 7 67 (.b x16) 60 rfl rfl (fun hg13=>?_) (fun hg13=>?_) ?_
       ·refine oB (bt hx16 hg13) fun x14 hx14 hx16=>oB hx16 fun x15 hx15 hx16=>?_
        obtain rfl:=os hx16
        exact gT rfl hg13<|A0 (C4 rfl) rfl<|gT rfl hg13<|A0 (C2 rfl rfl rfl) rfl<|gT rfl hg13<|qm rfl<|gT rfl hg13<|A0 (A91 (f:=cI) rfl rfl rfl hx14) rfl<|gT rfl hg13<|qm rfl<|gT rfl hg13<|B4 (rs:=[.b x15]) rfl rfl (A1 rfl (A1 rfl B7)) ((Y4 hx15).frz)<|A0 (C8 rfl hg13 rfl) rfl<|ge 7 rfl rfl rfl
       ·obtain rfl:=os (bf hx16 hg13)
        exact nT rfl hg13 rfl<|nT rfl hg13 rfl<|nT rfl hg13 rfl<|nT rfl hg13 rfl<|nT rfl hg13 rfl<|G7 (E6 rfl (by rw [hg13]; rfl)) rfl<|A0 (C9 rfl hg13 rfl) rfl<|ge 7 rfl rfl rfl
       refine es (ra9 rfl rfl rfl rfl rfl rfl rfl rfl rfl)<|wi hs9 rfl (fun hc17 hs9=>?_) fun hc17 hs9=>?_
       ·refine s0<|A0 (G3 (cs:=A8 (room_plan.mk 0 (Ar5.mk 0 0 0 0 0))) rfl rfl) rfl<|qm rfl<|F2 (D0 (ds:=(A8 (room_plan.mk 0 (Ar5.mk 0 0 0 0 0)))) rfl rfl rfl rfl (B9 rfl) rfl) rfl<|qm rfl<|es (ra3 rfl rfl rfl)<|C5 ?_
        obtain rfl:=os hs9
        exact lx rfl (And.intro rfl (And.intro rfl rfl)) (su3 rfl rfl rfl)
       ·refine C1<|r0<|oB hs9 fun x18 hx18 hs9=>qm rfl<|qm rfl<|A0 (E1 rfl rfl) rfl<|A0 (C4 rfl) rfl<|A0 (W7 (e:=Ar5.l s9.2.at_) rfl rfl rfl hx18) rfl<|F2 (A92 (f:=cI) (e:=Ar5.l s9.2.at_) (e2:=Ar5.l (Ar5.set s9.2.at_ s9.1 (w64 (x12 + 1)))) (z:=(w64 (x12 + 1))) (ds:=(A8 (room_plan.mk s9.2.lit_ (Ar5.set s9.2.at_ s9.1 (w64 (x12 + 1)))))) rfl rfl rfl rfl rfl rfl (fun _=>rfl) hx18 (Ar5.set_l hx18) rfl (B9 rfl)) rfl<|en (ra6 rfl rfl rfl rfl rfl rfl)<|r0<|A0 (E1 rfl rfl) rfl<|qm rfl<|en (ra6 rfl rfl rfl rfl rfl rfl) ?_
        cases hs9
        exact lnT () rfl (su6 rfl rfl rfl rfl rfl rfl)
      ·refine F0 ?_
       obtain rfl:=os hs9
       exact lx rfl px (su2 rfl rfl)
     ·rcases o19 with vo19_0 | vo19_1
      ·rintro e s' H' - ⟨rfl,rfl,rfl⟩
       refine s0<|qm rfl<|A0 (C0 rfl rfl rfl) rfl<|qm rfl<|F2 (D0 (ds:=(A8 vo19_0)) rfl rfl rfl rfl (B9 rfl) rfl) rfl<|qm rfl<|es (ra3 rfl rfl rfl)<|C5<|InlQ.mk trivial ⟨_,_,_,[(.ptr (H.length + 11) 0),(.agg (A8 vo19_0)),.i 0],_,(A9 rfl (F8 (E9 (ds:=A8 vo19_0) rfl rfl rfl rfl) (A9 rfl B6))),(A4 rfl (A4 (I0 rfl) (A4 rfl B5))),(W6 (N2 (W4 rfl)) (D2 rfl (D2 rfl (D2 rfl J1)))),?_⟩
       refine qm rfl<|A0 (A7 rfl rfl) rfl<|A0 (A7 rfl rfl) rfl<|A0 (A7 rfl rfl) rfl<|A0 D5 rfl<|qm rfl<|F2 (D0 (ds:=(A8 vo19_0)) rfl rfl rfl rfl (B9 rfl) rfl) rfl<|qm rfl<|es (ra4 rfl rfl rfl rfl)<|B8<|s0<|qm rfl<|A0 (H6 (v:=(.b false)) rfl rfl rfl) rfl<|es (ra5 rfl rfl rfl rfl rfl)<|A2r rfl rfl<|C1<|B8<|s0<|A0 (C4 rfl) rfl<|A0 (E9 (ds:=(M9 cI) vo19_0.at_) rfl rfl rfl rfl) rfl<|qm rfl<|es (ra5 rfl rfl rfl rfl rfl)<|C6<|oB h fun o28 ho28 h=>wl (fun s20=>[(5,(.ptr (H.length + 5) 0)),(7,(.ptr (H.length + 11) 0)),(8,(.ptr (H.length + 6) 0)),(24,(.agg ((M9 cI) vo19_0.at_))),(25,.i s20)]) (fun (q21:Unit) s20=>[(.cells (A3 a0)),(.cells (B1 a1)),.dead,(.cells (A3 a0)),(.cells (B1 a1)),(.cells (A8 (room_plan.mk 0 (Ar5.mk 0 0 0 0 0)))),(.cells (A8 vo19_0)),(.cells (A3 a0)),(.cells (B1 a1)),(.cells (A8 vo19_0)),(.cells (A3 a0)),(.cells [.i a0.Weather.Lo,.i a0.Weather.Hi,.i a0.Stoves,(.seq 1 (List.map cI a0.Holds)),(.seq 4 (List.map C3 a0.Places)),(.seq 6 (List.map B3 a0.Figures)),(.seq 1 (List.map cI a0.Bill)),(.xseq 2 [[.b false,(.fn (.func 112) [] [])],[.b true,(.fn (.func 113) [] [])]])])]) 12 (fun r e s' H'=>(match r with | (.inl v)=>PX 0 [(5,(.ptr (H.length + 5) 0)),(7,(.ptr (H.length + 11) 0)),(8,(.ptr (H.length + 6) 0))] (H++[(.cells (A3 a0)),(.cells (B1 a1)),.dead,(.cells (A3 a0)),(.cells (B1 a1)),(.cells (A8 (room_plan.mk 0 (Ar5.mk 0 0 0 0 0)))),(.cells (A8 vo19_0)),(.cells (A3 a0)),(.cells (B1 a1)),(.cells (A8 vo19_0)),(.cells (A3 a0)),(.cells [.i a0.Weather.Lo,.i a0.Weather.Hi,.i a0.Stoves,(.seq 1 (List.map cI a0.Holds)),(.seq 4 (List.map C3 a0.Places)),(.seq 6 (List.map B3 a0.Figures)),(.seq 1 (List.map cI a0.Bill)),(.xseq 2 [[.b false,(.fn (.func 112) [] [])],[.b true,(.fn (.func 113) [] [])]])])]) e s' H' | (.inr v)=>e = .ret∧s' = [(4,(.lit (.pointer none))),(5,(.ptr (H.length + 5) 0)),(6,.i 9)]∧H' = (H++[(.cells (A3 a0)),(.cells (B1 a1)),.dead,(.cells (A3 a0)),(.cells (B1 a1)),(.cells (A8 vo19_0)),(.cells (A8 vo19_0)),(.cells (A3 a0)),(.cells (B1 a1)),(.cells (A8 vo19_0)),(.cells (A3 a0)),(.cells [.i a0.Weather.Lo,.i a0.Weather.Hi,.i a0.Stoves,(.seq 1 (List.map cI a0.Holds)),(.seq 4 (List.map C3 a0.Places)),(.seq 6 (List.map B3 a0.Figures)),(.seq 1 (List.map cI a0.Bill)),(.xseq 2 [[.b false,(.fn (.func 112) [] [])],[.b true,(.fn (.func 113) [] [])]])])]):Prop)) () ho28 rfl rfl (fun _ _=>rfl) (fun _=>rfl) rfl (fun s20=>(bdc (D8 rfl) (bdc (D8 rfl) (bdc (D8 rfl) (bdc (G5 rfl) (bdc A5 bdn)))))) (fun q21 s20 ys20 hs20=>?_) ?_
       ·unfold A03 at hs20
        refine s0<|A0 (G0 rfl rfl) rfl<|es (ra6 rfl rfl rfl rfl rfl rfl)<|B8<|wi hs20 rfl (fun hc22 hs20=>?_) fun hc22 hs20=>?_
        ·refine C1<|B8<|C6<|s0<|oB hs20 fun x23 hx23 hs20=>qm rfl<|A0 (A6t (f:=cI) (g:=fun n=>(.i n)) (e:=Ar5.l vo19_0.at_) (fun _=>rfl) rfl rfl rfl rfl hx23) rfl<|qm rfl<|qm rfl<|es (ra7 rfl rfl rfl rfl rfl rfl rfl)<|s0<|oB hs20 fun x26 hx26 hs20=>qm rfl<|A0 (Z3 rfl rfl) rfl<|qm rfl<|gp 9 40 (.b x26) 31 rfl rfl (fun hg24=>?_) (fun hg24=>?_) ?_
         ·refine oB (bt hx26 hg24) fun x25 hx25 hx26=>?_
          obtain rfl:=os hx26
          exact gT rfl hg24<|qm rfl<|gT rfl hg24<|qm rfl<|gT rfl hg24<|qm rfl<|gT rfl hg24<|A0 (X4 rfl rfl) rfl<|gT rfl hg24<|A0 (C4 rfl) rfl<|gT rfl hg24<|A0 (C2 rfl rfl rfl) rfl<|gT rfl hg24<|B4 (rs:=[.i x25]) rfl rfl (A1 rfl (A1 rfl (A1 rfl (A1 rfl B7)))) ((Y3 (D7 rfl) hx25).frz)<|gT rfl hg24<|A0 (F7 rfl rfl) rfl<|A0 (C8 rfl hg24 rfl) rfl<|ge 9 rfl rfl rfl
         ·obtain rfl:=os (bf hx26 hg24)
          exact nT rfl hg24 rfl<|nT rfl hg24 rfl<|nT rfl hg24 rfl<|nT rfl hg24 rfl<|nT rfl hg24 rfl<|nT rfl hg24 rfl<|G7 (E6 rfl (by rw [hg24]; rfl)) rfl<|nT rfl hg24 rfl<|A0 (C9 rfl hg24 rfl) rfl<|ge 9 rfl rfl rfl
         refine es (ra6 rfl rfl rfl rfl rfl rfl)<|wi hs20 rfl (fun hc27 hs20=>?_) fun hc27 hs20=>?_
         ·refine s0<|A0 (C0 rfl rfl rfl) rfl<|qm rfl<|F2 (D0 (ds:=(A8 vo19_0)) rfl rfl rfl rfl (B9 rfl) rfl) rfl<|qm rfl<|es (ra3 rfl rfl rfl)<|C5 ?_
          obtain rfl:=os hs20
          exact lx rfl (And.intro rfl (And.intro rfl rfl)) (su3 rfl rfl rfl)
         ·refine C1<|r0<|A0 (E1 rfl rfl) rfl<|qm rfl<|en (ra5 rfl rfl rfl rfl rfl) ?_
          cases hs20
          exact lnT () rfl (su5 rfl rfl rfl rfl rfl)
        ·refine F0 ?_
         obtain rfl:=os hs20
         exact lx rfl px (su3 rfl rfl rfl)
       ·rcases o28 with vo28_0 | vo28_1
        ·rintro e s' H' - ⟨rfl,rfl,rfl⟩
         refine B8<|s0<|oB h fun x29 hx29 h=>qm rfl<|A0 (C4 rfl) rfl<|A0 (E9 (ds:=(M9 cI) vo19_0.at_) rfl rfl rfl rfl) rfl<|B4 (rs:=[.b x29]) rfl rfl (A1 rfl (A1 (D1 rfl) (A1 rfl B7))) ((T4 (D7 rfl) hx29).frz)<|A0 (Q5 rfl) rfl<|es (ra4 rfl rfl rfl rfl)<|wi h rfl (fun hc30 h=>?_) fun hc30 h=>?_
         ·refine s0<|A0 (C0 rfl rfl rfl) rfl<|qm rfl<|F2 (D0 (ds:=(A8 vo19_0)) rfl rfl rfl rfl (B9 rfl) rfl) rfl<|qm rfl<|es (ra3 rfl rfl rfl)<|C5<|InlQ.mk trivial ⟨_,_,_,[(.lit (.pointer none)),(.agg (A8 vo19_0)),.i 9],_,(A9 rfl (F8 (E9 (ds:=A8 vo19_0) rfl rfl rfl rfl) (A9 rfl B6))),(A4 rfl (A4 (I0 rfl) (A4 rfl B5))),(R1 (A2 A5 (A2 (G5 rfl) (A2 A5 B2))) (D2 rfl (D2 rfl (D2 rfl J1))) (H7 _ _ _)),?_⟩
          refine qm rfl<|A0 (A7 rfl rfl) rfl<|A0 (A7 rfl rfl) rfl<|A0 (A7 rfl rfl) rfl<|A0 D5 rfl<|qm rfl<|F2 (D0 (ds:=(A8 vo19_0)) rfl rfl rfl rfl (B9 rfl) rfl) rfl<|qm rfl<|es (ra3 rfl rfl rfl)<|B8<|s0<|qm rfl<|A0 (H6 (v:=(.b true)) rfl rfl rfl) rfl<|es (ra4 rfl rfl rfl rfl)<|L2 rfl rfl<|s0<|qm rfl<|qm rfl<|qm rfl<|es (ra2 rfl rfl)<|C5 ?_
          obtain rfl:=os h
          exact retq trivial (A9 rfl (A9 rfl B6)) (A4 rfl (A4 rfl B5)) (A2 A5 (A2 A5 B2))
         ·refine C1<|s0<|qm rfl<|A0 (C0 rfl rfl rfl) rfl<|qm rfl<|F2 (D0 (ds:=(A8 vo19_0)) rfl rfl rfl rfl (B9 rfl) rfl) rfl<|qm rfl<|es (ra3 rfl rfl rfl)<|C5<|InlQ.mk trivial ⟨_,_,_,[(.ptr (H.length + 11) 0),(.agg (A8 vo19_0)),.i 0],_,(A9 rfl (F8 (E9 (ds:=A8 vo19_0) rfl rfl rfl rfl) (A9 rfl B6))),(A4 rfl (A4 (I0 rfl) (A4 rfl B5))),(W6 (N2 (W4 rfl)) (D2 rfl (D2 rfl (D2 rfl J1)))),?_⟩
          refine qm rfl<|A0 (A7 rfl rfl) rfl<|A0 (A7 rfl rfl) rfl<|A0 (A7 rfl rfl) rfl<|A0 D5 rfl<|qm rfl<|F2 (D0 (ds:=(A8 vo19_0)) rfl rfl rfl rfl (B9 rfl) rfl) rfl<|qm rfl<|es (ra3 rfl rfl rfl)<|B8<|s0<|qm rfl<|A0 (H6 (v:=(.b false)) rfl rfl rfl) rfl<|es (ra4 rfl rfl rfl rfl)<|A2r rfl rfl<|C1<|s0<|oB h fun x31 hx31 h=>qm rfl<|A0 (C4 rfl) rfl<|A0 (E9 (ds:=(M9 cI) vo19_0.at_) rfl rfl rfl rfl) rfl<|B4 (rs:=[.i x31]) rfl rfl (A1 rfl (A1 (D1 rfl) B7)) ((A7f (D7 rfl) hx31).frz)<|qm rfl<|qm rfl<|es (ra2 rfl rfl)<|C5 ?_
          obtain rfl:=os h
          exact retq trivial (A9 rfl (A9 rfl B6)) (A4 rfl (A4 rfl B5)) (A2 A5 (A2 A5 B2))
        ·rintro e s' H' - ⟨rfl,rfl,rfl⟩
         refine InlQ.mk trivial ⟨_,_,_,[(.lit (.pointer none)),(.agg (A8 vo19_0)),.i 9],_,(A9 rfl (F8 (E9 (ds:=A8 vo19_0) rfl rfl rfl rfl) (A9 rfl B6))),(A4 rfl (A4 (I0 rfl) (A4 rfl B5))),(R1 (A2 A5 (A2 (G5 rfl) (A2 A5 B2))) (D2 rfl (D2 rfl (D2 rfl J1))) (H7 _ _ _)),?_⟩
         refine qm rfl<|A0 (A7 rfl rfl) rfl<|A0 (A7 rfl rfl) rfl<|A0 (A7 rfl rfl) rfl<|A0 D5 rfl<|qm rfl<|F2 (D0 (ds:=(A8 vo19_0)) rfl rfl rfl rfl (B9 rfl) rfl) rfl<|qm rfl<|es (ra3 rfl rfl rfl)<|B8<|s0<|qm rfl<|A0 (H6 (v:=(.b true)) rfl rfl rfl) rfl<|es (ra4 rfl rfl rfl rfl)<|L2 rfl rfl<|s0<|qm rfl<|qm rfl<|qm rfl<|es (ra2 rfl rfl)<|C5 ?_
         obtain rfl:=os h
         exact retq trivial (A9 rfl (A9 rfl B6)) (A4 rfl (A4 rfl B5)) (A2 A5 (A2 A5 B2))
      ·rintro e s' H' - ⟨rfl,rfl,rfl⟩
       refine InlQ.mk trivial ⟨_,_,_,[(.lit (.pointer none)),(.agg (A8 (room_plan.mk 0 (Ar5.mk 0 0 0 0 0)))),.i 5],_,(A9 rfl (F8 (E9 (ds:=A8 (room_plan.mk 0 (Ar5.mk 0 0 0 0 0))) rfl rfl rfl rfl) (A9 rfl B6))),(A4 rfl (A4 (I0 rfl) (A4 rfl B5))),(R1 (A2 A5 (A2 (G5 rfl) (A2 A5 B2))) (D2 rfl (D2 rfl (D2 rfl J1))) (H7 _ _ _)),?_⟩
       refine qm rfl<|A0 (A7 rfl rfl) rfl<|A0 (A7 rfl rfl) rfl<|A0 (A7 rfl rfl) rfl<|A0 D5 rfl<|qm rfl<|F2 (D0 (ds:=(A8 (room_plan.mk 0 (Ar5.mk 0 0 0 0 0)))) rfl rfl rfl rfl (B9 rfl) rfl) rfl<|qm rfl<|es (ra4 rfl rfl rfl rfl)<|B8<|s0<|qm rfl<|A0 (H6 (v:=(.b true)) rfl rfl rfl) rfl<|es (ra5 rfl rfl rfl rfl rfl)<|L2 rfl rfl<|s0<|A0 (C0 rfl rfl rfl) rfl<|qm rfl<|F2 (D0 (ds:=(A8 (room_plan.mk 0 (Ar5.mk 0 0 0 0 0)))) rfl rfl rfl rfl (B9 rfl) rfl) rfl<|qm rfl<|qm rfl<|es (ra3 rfl rfl rfl)<|C5<|InlQ.mk trivial ⟨_,_,_,[(.lit (.pointer none)),(.agg (A8 (room_plan.mk 0 (Ar5.mk 0 0 0 0 0)))),.i 5],_,(A9 rfl (F8 (E9 (ds:=A8 (room_plan.mk 0 (Ar5.mk 0 0 0 0 0))) rfl rfl rfl rfl) (A9 rfl B6))),(A4 rfl (A4 (I0 rfl) (A4 rfl B5))),(R1 (A2 A5 (A2 (G5 rfl) (A2 A5 B2))) (D2 rfl (D2 rfl (D2 rfl J1))) (H7 _ _ _)),?_⟩
       refine qm rfl<|A0 (A7 rfl rfl) rfl<|A0 (A7 rfl rfl) rfl<|A0 (A7 rfl rfl) rfl<|A0 D5 rfl<|qm rfl<|F2 (D0 (ds:=(A8 (room_plan.mk 0 (Ar5.mk 0 0 0 0 0)))) rfl rfl rfl rfl (B9 rfl) rfl) rfl<|qm rfl<|es (ra3 rfl rfl rfl)<|B8<|s0<|qm rfl<|A0 (H6 (v:=(.b true)) rfl rfl rfl) rfl<|es (ra4 rfl rfl rfl rfl)<|L2 rfl rfl<|s0<|qm rfl<|qm rfl<|qm rfl<|es (ra2 rfl rfl)<|C5 ?_
       obtain rfl:=os h
       exact retq trivial (A9 rfl (A9 rfl B6)) (A4 rfl (A4 rfl B5)) (A2 A5 (A2 A5 B2))
def A5x  (x2:room_plan) (s3:Unit):Option (Unit ⊕ Unit) :=
 some (.inr ())
def A8n (a0:room_house):Option Bool :=
 (A7m a0 Unit Unit A5x ()).bind fun (o4:(Unit ⊕ Unit)) =>
 match o4 with
 | (.inl vo4_5) =>
  some false
 | (.inr vo4_6) =>
  some true
theorem B5u {c:Sc} {H:A6} (hscv:Z2 c H = true) (hcl:clH H.length H = true) {a0:room_house} {b0:Nat} (hb0:hcells H b0 = some [.i a0.RoHouse.Weather.Lo,.i a0.RoHouse.Weather.Hi,.i a0.RoHouse.Stoves,(.seq 1 (List.map cI a0.RoHouse.Holds)),(.seq 4 (List.map C3 a0.RoHouse.Places)),(.seq 6 (List.map B3 a0.RoHouse.Figures)),(.seq 1 (List.map cI a0.RoHouse.Bill)),(.xseq 2 [[.b false,(.fn (.func 112) [] [])],[.b true,(.fn (.func 113) [] [])]])]) {r:Bool} (h:A8n a0 = some r) :
  E7 tab c H (.fn (.func 97) [] []) [.ptr b0 0] [.b r]:= by
 unfold A8n at h
 refine cE rfl rfl<|sg 0 rfl<|A0 D5 rfl<|es (ra2 rfl rfl)<|B8<|s0<|qm rfl<|P2 (as2:=[.ptr b0 0]) (H1:=(H++[(.cells (cB false))])) rfl rfl (A1 rfl B7) rfl rfl rfl (V2 rfl)<|sg 1 rfl<|A0 (E8 (cs:=[.ptr b0 0]) rfl rfl rfl) rfl<|qm rfl<|es (ra1 rfl)<|s0<|A0 (A69 rfl rfl) rfl<|qm rfl<|es (ra1 rfl)<|C5<|InlQ.mk trivial ⟨_,_,_,[(.fn (.func 116) [] [(.ptr (H.length + 1) 0)])],_,(A9 rfl B6),(A4 rfl B5),(W6 (N2 (B9e (N2 (W4 rfl)))) (D2 rfl J1)),?_⟩
 refine es (ra2 rfl rfl)<|C6<|oB h fun o4 ho4 h=>?_
 have hb0_lt:=A3f hb0
 refine C5m (σ:=Unit) (ρ:=Unit) (k:=2) (ea:=(fun (x2:room_plan)=>(.agg (A8 x2)))) (body:=A5x) (pre:=fun H1=>hcells H1 (H.length + 1) = some [.ptr b0 0]∧hcells H1 b0 = some (B61 a0)) (C05 (t:=a0) (b1:=H.length + 1) (bt:=b0)) B21 [(2,(.ptr (H.length + 0) 0))] (fun s3=>[(.cells (cB false)),(.cells [.ptr b0 0])]) (fun (vo4_6:Unit)=>[(.cells (cB true)),(.cells [.ptr b0 0])]) (fun _=>.ret) ho4 (fun _=>rfl) rfl (fun S hS=>P9 (live:=[2]) rfl (by decide) (Sub.trans (su1 rfl) hS)) rfl (fun _=>rfl) (fun _=>rfl) hcl (by rw [Bool.and_eq_true,Bool.and_eq_true]; exact ⟨⟨by kernel_rfl,by kernel_rfl⟩,(by simp [clH,clS,AO.cl,AV.cl,clL,clM,clR,A3b,A8w,A3t,A47,M9,cI,cB,cS,J4,freeL,AV.free,freeR,Nat.blt,R6,A4c,J7,V8,I6,S8,K6,V7,O4,A0b,J9,P7,A2c,A4d] <;> omega)⟩) (fun _=>(by simp [clH,clS,AO.cl,AV.cl,clL,clM,clR,A3b,A8w,A3t,A47,M9,cI,cB,cS,J4,freeL,AV.free,freeR,Nat.blt,R6,A4c,J7,V8,I6,S8,K6,V7,O4,A0b,J9,P7,A2c,A4d] <;> omega)) (fun _=>(by simp [clH,clS,AO.cl,AV.cl,clL,clM,clR,A3b,A8w,A3t,A47,M9,cI,cB,cS,J4,freeL,AV.free,freeR,Nat.blt,R6,A4c,J7,V8,I6,S8,K6,V7,O4,A0b,J9,P7,A2c,A4d] <;> omega)) (fun _=>(by simp [clH,clS,AO.cl,AV.cl,clL,clM,clR,A3b,A8w,A3t,A47,M9,cI,cB,cS,J4,freeL,AV.free,freeR,Nat.blt,R6,A4c,J7,V8,I6,S8,K6,V7,O4,A0b,J9,P7,A2c,A4d] <;> omega)) ⟨fun _ _=>(And.intro (D7 rfl) (M8 hb0 _)),fun _ _=>(And.intro (D7 rfl) (M8 hb0 _))⟩ (A45 hscv) (fun c x2 s3 o hs3 y0_2 y1_2=>?_) ?_
 ·unfold A5x at hs3
  refine C1<|⟨_,rfl,rfl,rfl,?_⟩
  refine C6<|s0<|F2 (D0 (ds:=(cB true)) rfl rfl rfl rfl (B9 rfl) rfl) rfl<|es .n<|C5 ?_
  cases hs3
  exact ⟨_,rfl,rfl,rfl⟩
 ·rcases o4 with vo4_5 | vo4_6
  ·refine s0<|F2 (D0 (ds:=(cB false)) rfl rfl rfl rfl (B9 rfl) rfl) rfl<|es (ra1 rfl)<|C5 ?_
   obtain rfl:=os h
   exact retq trivial (F8 (C2 (x:=(.b false)) rfl rfl rfl) B6) (A4 rfl B5) (A2 A5 B2)
  ·obtain rfl:=os h
   exact retq trivial (F8 (C2 (x:=(.b true)) rfl rfl rfl) B6) (A4 rfl B5) (A2 A5 B2)
def Z8 (a0:Int):Option Int :=
 if (a0 == 0) = true then
  some 64
 else
  (B3i .u64 (IntKind.u64.wrap ((O3 .u64 a0 (IntKind.u64.wrap (0 - a0))) * 285870213051353865)) 58).bind fun x2 =>
  (idx gl1 x2).bind fun x3 =>
  some (w64 x3)
theorem A7b {c:Sc} {H:A6} {a0:Int} {r:Int} (h:Z8 a0 = some r) :
  E7 tab c H (.fn (.func 126) [] []) [(.lit (.int .u64 a0))] [.i r]:= by
 unfold Z8 at h
 refine cE rfl rfl<|s0<|qm rfl<|es (ra1 rfl)<|B8<|s0<|qm rfl<|A0 (F5 rfl rfl) rfl<|es (ra2 rfl rfl)<|wi h rfl (fun hc1 h=>?_) fun hc1 h=>?_
 ·refine s0<|qm rfl<|es (ra1 rfl)<|C5 ?_
  obtain rfl:=os h
  exact retq trivial (A9 rfl B6) (A4 rfl B5) (A2 A5 B2)
 ·refine C1<|s0<|oB h fun x2 hx2 h=>oB h fun x3 hx3 h=>qm rfl<|qm rfl<|A0 (D60 rfl rfl) rfl<|A0 (H6 (v:=(.lit (.int .u64 (O3 .u64 a0 (IntKind.u64.wrap (0 - a0)))))) rfl rfl rfl) rfl<|A0 (H6 (v:=(.lit (.int .u64 (IntKind.u64.wrap ((O3 .u64 a0 (IntKind.u64.wrap (0 - a0))) * 285870213051353865))))) rfl rfl rfl) rfl<|A0 (B1j rfl rfl hx2) rfl<|A0 (D6s (e:=gl1) (g:=fun n=>(.lit (.int .u8 n))) rfl rfl rfl hx3) rfl<|A0 (D4v (g:=fun n=>(.lit (.int .u8 n))) rfl hx3) rfl<|A0 (A4p rfl) rfl<|qm rfl<|es (ra1 rfl)<|C5 ?_
  obtain rfl:=os h
  exact retq trivial (A9 rfl B6) (A4 rfl B5) (A2 A5 B2)
def A1c (a0:Int):Option Int :=
 (Z8 a0).bind fun x1 =>
 some x1
theorem A8c {c:Sc} {H:A6} {a0:Int} {r:Int} (h:A1c a0 = some r) :
  E7 tab c H (.fn (.func 118) [] []) [(.lit (.int .u64 a0))] [.i r]:= by
 unfold A1c at h
 refine cE rfl rfl<|s0<|qm rfl<|es (ra1 rfl)<|B8<|A2r rfl rfl<|C1<|s0<|oB h fun x1 hx1 h=>qm rfl<|B4 (rs:=[.i x1]) rfl rfl (A1 rfl B7) ((A7b hx1).frz)<|qm rfl<|es (ra1 rfl)<|C5 ?_
 obtain rfl:=os h
 exact retq trivial (A9 rfl B6) (A4 rfl B5) (A2 A5 B2)
def B6a  (s1:(Int × (List Int))):Option ((Int × (List Int)) ⊕ (List Int)) :=
 if (s1.1 != 0) = true then
  (A1c (IntKind.u64.wrap s1.1)).bind fun x4 =>
  (app 8 s1.2 [x4]).bind fun x5 =>
  some (.inl ((B4s s1.1 (w64 (s1.1 - 1))),x5))
 else
  some (.inr s1.2)
def B7i (a0:Int):Option (List Int) :=
 (loop B6a (a0,([]:List Int))).bind fun (o6:(List Int)) =>
 some o6
theorem C5a {c:Sc} {H:A6} {a0:Int} {r:(List Int)} (h:B7i a0 = some r) :
  E7 tab c H (.fn (.func 95) [] []) [.i a0] [(.fresh 1 (List.map cI r))]:= by
 unfold B7i at h
 refine cE rfl rfl<|sg 0 rfl<|A0 B3p rfl<|es (ra2 rfl rfl)<|B8<|C6<|oB h fun o6 ho6 h=>wl (fun s1=>[(0,.i s1.1),(2,(.asl (H.length + 0) (List.length s1.2)))]) (fun (q2:Unit) s1=>[(.arr 1 false (List.map cI s1.2))]) 1 (fun r e s' H'=>PX 0 [(2,(.asl (H.length + 0) (List.length r)))] (H++[(.arr 1 false (List.map cI r))]) e s' H') () ho6 rfl rfl (fun _ _=>rfl) (fun _=>rfl) rfl (fun s1=>(bdc A5 (bdc (A64 rfl) bdn))) (fun q2 s1 ys1 hs1=>?_) ?_
 ·unfold B6a at hs1
  refine B8<|s0<|qm rfl<|A0 (F7 rfl rfl) rfl<|es (ra3 rfl rfl rfl)<|wi hs1 rfl (fun hc3 hs1=>?_) fun hc3 hs1=>?_
  ·refine C1<|B8<|C6<|r0<|oB hs1 fun x4 hx4 hs1=>oB hs1 fun x5 hx5 hs1=>qm rfl<|qm rfl<|A0 (A4p rfl) rfl<|B4 (rs:=[.i x4]) rfl rfl (A1 rfl B7) ((A8c hx4).frz)<|A0 (K8 (rows:=List.map cI [x4]) rfl rfl (F4 (fun _=>rfl) _)) rfl<|A80 (A54 (f:=cI) rfl rfl rfl rfl A3v (fun _=>rfl) hx5) rfl<|qm rfl<|en (ra2 rfl rfl)<|r0<|qm rfl<|qm rfl<|A0 (X4 rfl rfl) rfl<|A0 (H6 (v:=(.i (B4s s1.1 (w64 (s1.1 - 1))))) rfl rfl rfl) rfl<|qm rfl<|en (ra2 rfl rfl) ?_
   cases hs1
   exact lnT () rfl (su2 rfl rfl)
  ·refine F0 ?_
   obtain rfl:=os hs1
   exact lx rfl px (su1 rfl)
 ·rintro e s' H' - ⟨rfl,rfl,rfl⟩
  refine s0<|qm rfl<|qm rfl<|es (ra1 rfl)<|C5 ?_
  obtain rfl:=os h
  exact retq trivial (A9 rfl B6) (A4 (B2e rfl (List.length_map _)) B5) (A2 A6p B2)
def A6e (a0:Int):Option Bool :=
 some (a0 != a0)
theorem A93 {c:Sc} {H:A6} {a0:Int} {r:Bool} (h:A6e a0 = some r) :
  E7 tab c H (.fn (.func 127) [] []) [.i a0] [.b r]:= by
 unfold A6e at h
 refine cE rfl rfl<|s0<|qm rfl<|es (ra1 rfl)<|s0<|qm rfl<|qm rfl<|A0 (F7 rfl rfl) rfl<|qm rfl<|es (ra1 rfl)<|C5 ?_
 obtain rfl:=os h
 exact retq trivial (A9 rfl B6) (A4 rfl B5) (A2 A5 B2)
def A66 (a0:Int) (a1:Int):Option Int :=
 (A6e a0).bind fun x1 =>
 (A6e a1).bind fun x2 =>
 if x1 = true then
  if x2 = true then
  some 0
  else
  some (-1)
 else
  if x2 = true then
  some 1
  else
  if (decide (a0 < a1)) = true then
   some (-1)
  else
   if (decide (a0 > a1)) = true then
   some 1
   else
   some 0
theorem B4e {c:Sc} {H:A6} {a0:Int} {a1:Int} {r:Int} (h:A66 a0 a1 = some r) :
  E7 tab c H (.fn (.func 119) [] []) [.i a0,.i a1] [.i r]:= by
 unfold A66 at h
 refine cE rfl rfl<|s0<|qm rfl<|es (ra2 rfl rfl)<|s0<|oB h fun x1 hx1 h=>qm rfl<|B4 (rs:=[.b x1]) rfl rfl (A1 rfl B7) ((A93 hx1).frz)<|qm rfl<|es (ra3 rfl rfl rfl)<|s0<|oB h fun x2 hx2 h=>qm rfl<|B4 (rs:=[.b x2]) rfl rfl (A1 rfl B7) ((A93 hx2).frz)<|qm rfl<|es (ra4 rfl rfl rfl rfl)<|B8<|s0<|qm rfl<|es (ra4 rfl rfl rfl rfl)<|wi h rfl (fun hc3 h=>?_) fun hc3 h=>?_
 ·refine B8<|s0<|qm rfl<|es (ra1 rfl)<|wi h rfl (fun hc4 h=>?_) fun hc4 h=>?_
  ·refine s0<|qm rfl<|es (ra1 rfl)<|C5 ?_
   obtain rfl:=os h
   exact retq trivial (A9 rfl B6) (A4 rfl B5) (A2 A5 B2)
  ·refine C1<|s0<|qm rfl<|es (ra1 rfl)<|C5 ?_
   obtain rfl:=os h
   exact retq trivial (A9 rfl B6) (A4 rfl B5) (A2 A5 B2)
 ·refine C1<|B8<|s0<|qm rfl<|es (ra3 rfl rfl rfl)<|wi h rfl (fun hc5 h=>?_) fun hc5 h=>?_
  ·refine s0<|qm rfl<|es (ra1 rfl)<|C5 ?_
   obtain rfl:=os h
   exact retq trivial (A9 rfl B6) (A4 rfl B5) (A2 A5 B2)
  ·refine C1<|B8<|s0<|qm rfl<|qm rfl<|A0 (G0 rfl rfl) rfl<|es (ra3 rfl rfl rfl)<|wi h rfl (fun hc6 h=>?_) fun hc6 h=>?_
   ·refine s0<|qm rfl<|es (ra1 rfl)<|C5 ?_
    obtain rfl:=os h
    exact retq trivial (A9 rfl B6) (A4 rfl B5) (A2 A5 B2)
   ·refine C1<|B8<|s0<|qm rfl<|qm rfl<|A0 (Z3 rfl rfl) rfl<|es (ra1 rfl)<|wi h rfl (fun hc7 h=>?_) fun hc7 h=>?_
    ·refine s0<|qm rfl<|es (ra1 rfl)<|C5 ?_
     obtain rfl:=os h
     exact retq trivial (A9 rfl B6) (A4 rfl B5) (A2 A5 B2)
    ·refine C1<|s0<|qm rfl<|es (ra1 rfl)<|C5 ?_
     obtain rfl:=os h
     exact retq trivial (A9 rfl B6) (A4 rfl B5) (A2 A5 B2)
def A3s (a0:(List Int)) (a1:(List Int)) (s1:Int):Option (Int ⊕ (Int ⊕ Unit)) :=
 if (decide (s1 < (List.length a0:Int))) = true then
  (idx a0 s1).bind fun x4 =>
  if (decide (s1 ≥ (List.length a1:Int))) = true then
  some (.inr (.inl 1))
  else
  (idx a1 s1).bind fun x6 =>
  (A66 x4 x6).bind fun x7 =>
  if (x7 != 0) = true then
   some (.inr (.inl x7))
  else
   some (.inl (w64 (s1 + 1)))
 else
  some (.inr (.inr ()))
def A2a (a0:(List Int)) (a1:(List Int)):Option Int :=
 (loop (A3s a0 a1) 0).bind fun (o9:(Int ⊕ Unit)) =>
 match o9 with
 | (.inl vo9_0) =>
  some vo9_0
 | (.inr vo9_1) =>
  if (decide ((List.length a0:Int) < (List.length a1:Int))) = true then
  some (-1)
  else
  some 0
theorem A8z {c:Sc} {H:A6} {a0:(List Int)} {a1:(List Int)} {r:Int} (h:A2a a0 a1 = some r) :
  E7 tab c H (.fn (.func 96) [] []) [(.seq 1 (List.map cI a0)),(.seq 1 (List.map cI a1))] [.i r]:= by
 unfold A2a at h
 refine cE rfl rfl<|s0<|qm rfl<|es (ra2 rfl rfl)<|B8<|s0<|qm rfl<|A0 (D9 (f:=cI) rfl) rfl<|qm rfl<|es (ra5 rfl rfl rfl rfl rfl)<|C6<|oB h fun o9 ho9 h=>wl (fun s1=>[(0,(.seq 1 (List.map cI a0))),(1,(.seq 1 (List.map cI a1))),(9,(.seq 1 (List.map cI a0))),(10,(.i (List.length a0:Int))),(11,.i s1)]) (fun (q2:Unit) s1=>[]) 0 (fun r e s' H'=>(match r with | (.inl v)=>e = .ret∧RetQ H [.tmp 4] [.i v] e s' H' | (.inr v)=>PX 0 [(0,(.seq 1 (List.map cI a0))),(1,(.seq 1 (List.map cI a1)))] (H++[]) e s' H':Prop)) () ho9 rfl rfl (fun _ _=>rfl) (fun _=>rfl) rfl (fun s1=>(bdc G8 (bdc G8 (bdc G8 (bdc A5 (bdc A5 bdn)))))) (fun q2 s1 ys1 hs1=>?_) ?_
 ·unfold A3s at hs1
  refine s0<|A0 (G0 rfl rfl) rfl<|es (ra6 rfl rfl rfl rfl rfl rfl)<|B8<|wi hs1 rfl (fun hc3 hs1=>?_) fun hc3 hs1=>?_
  ·refine C1<|B8<|C6<|s0<|oB hs1 fun x4 hx4 hs1=>qm rfl<|A0 (E3 (f:=cI) rfl rfl hx4) rfl<|A0 (E5 rfl rfl) rfl<|qm rfl<|qm rfl<|es (ra7 rfl rfl rfl rfl rfl rfl rfl)<|B8<|s0<|qm rfl<|qm rfl<|A0 (D9 (f:=cI) rfl) rfl<|A0 (B1g rfl rfl) rfl<|es (ra8 rfl rfl rfl rfl rfl rfl rfl rfl)<|wi hs1 rfl (fun hc5 hs1=>?_) fun hc5 hs1=>?_
   ·refine s0<|qm rfl<|es (ra1 rfl)<|C5 ?_
    obtain rfl:=os hs1
    exact lx rfl (And.intro rfl (retq trivial (A9 rfl B6) (A4 rfl B5) (A2 A5 B2))) (Sub.refl _)
   ·refine C1<|s0<|oB hs1 fun x6 hx6 hs1=>qm rfl<|qm rfl<|A0 (E3 (f:=cI) rfl rfl hx6) rfl<|A0 (E5 rfl rfl) rfl<|qm rfl<|es (ra7 rfl rfl rfl rfl rfl rfl rfl)<|s0<|oB hs1 fun x7 hx7 hs1=>qm rfl<|qm rfl<|B4 (rs:=[.i x7]) rfl rfl (A1 rfl (A1 rfl B7)) ((B4e hx7).frz)<|qm rfl<|es (ra6 rfl rfl rfl rfl rfl rfl)<|s0<|qm rfl<|A0 (F7 rfl rfl) rfl<|es (ra7 rfl rfl rfl rfl rfl rfl rfl)<|wi hs1 rfl (fun hc8 hs1=>?_) fun hc8 hs1=>?_
    ·refine s0<|qm rfl<|qm rfl<|es (ra1 rfl)<|C5 ?_
     obtain rfl:=os hs1
     exact lx rfl (And.intro rfl (retq trivial (A9 rfl B6) (A4 rfl B5) (A2 A5 B2))) (Sub.refl _)
    ·refine C1<|r0<|A0 (E1 rfl rfl) rfl<|qm rfl<|en (ra5 rfl rfl rfl rfl rfl) ?_
     cases hs1
     exact lnT () rfl (su5 rfl rfl rfl rfl rfl)
  ·refine F0 ?_
   obtain rfl:=os hs1
   exact lx rfl px (su2 rfl rfl)
 ·rcases o9 with vo9_0 | vo9_1
  ·rintro e s' H' - ⟨rfl,hret⟩
   cases h
   exact hret
  ·rintro e s' H' - ⟨rfl,rfl,rfl⟩
   refine B8<|s0<|qm rfl<|A0 (D9 (f:=cI) rfl) rfl<|qm rfl<|A0 (D9 (f:=cI) rfl) rfl<|A0 (G0 rfl rfl) rfl<|es (ra1 rfl)<|wi h rfl (fun hc10 h=>?_) fun hc10 h=>?_
   ·refine s0<|qm rfl<|es (ra1 rfl)<|C5 ?_
    obtain rfl:=os h
    exact retq trivial (A9 rfl B6) (A4 rfl B5) (A2 A5 B2)
   ·refine C1<|s0<|qm rfl<|es (ra1 rfl)<|C5 ?_
    obtain rfl:=os h
    exact retq trivial (A9 rfl B6) (A4 rfl B5) (A2 A5 B2)
end Rm
end
section
set_option maxRecDepth 100000
namespace Rm
open Go Am Go.Proofs.YtbheamjhjgoccaaDoor.Cd
def C70 (t:RoHouse) (b:List Int):RoHouse:=⟨t.Weather,t.Stoves,t.Holds,t.Places,t.Figures,b⟩
def B2k (a0:RoHouse) (set:Int) (s:Int × List Int):Option ((Int × List Int) ⊕ List Int) :=
 if (decide (s.1 < (List.length a0.Bill:Int))) = true then
  (idx a0.Bill s.1).bind fun n =>
  (B3i .i64 set s.1).bind fun q =>
  if (B4s q 1 == 0) = true then
   (app 8 s.2 [n]).bind fun b =>
   some (.inl (w64 (s.1 + 1),b))
  else some (.inl (w64 (s.1 + 1),s.2))
 else some (.inr s.2)
def A9o (l breaks:List Int) (found:Bool):Option Bool :=
 if found = true then
  if (decide ((l.length:Int) > (breaks.length:Int))) = true then some true
  else if ((l.length:Int) == (breaks.length:Int)) = true then
   (A2a l breaks).bind fun z=>some (decide (z > 0))
  else some false
 else some false
def A8m (a0:RoHouse) (n:Int) (s:Int × Bool × List Int):Option ((Int × Bool × List Int) ⊕ List Int) :=
 if (decide (s.1 < n)) = true then
  (B7i s.1).bind fun l =>
  (A9o l s.2.2 s.2.1).bind fun skip =>
  if skip = true then some (.inl (w64 (s.1 + 1),s.2.1,s.2.2))
  else
   (loop (B2k a0 s.1) (0,[])).bind fun b =>
   (A8n ⟨C70 a0 b⟩).bind fun k =>
   if k = true then some (.inl (w64 (s.1 + 1),true,l))
   else some (.inl (w64 (s.1 + 1),s.2.1,s.2.2))
 else some (.inr s.2.2)
def A60 (a0:RoHouse):Option (List Int × Int) :=
 (Q0 a0).bind fun x1 =>
 if (x1.2.2 != 0) = true then some (([]:List Int),x1.2.2)
 else
  (B3h .i64 1 (List.length a0.Bill:Int)).bind fun n =>
  (loop (A8m a0 n) (0,false,([]:List Int))).bind fun o =>
  some (o,0)
def B1s (t:RoHouse) (v:AV):List AV:=[.i t.Weather.Lo,.i t.Weather.Hi,.i t.Stoves,(.seq 1 (List.map cI t.Holds)),(.seq 4 (List.map C3 t.Places)),(.seq 6 (List.map B3 t.Figures)),v,.xseq 2 [[.b false,(.fn (.func 112) [] [])],[.b true,(.fn (.func 113) [] [])]]]
def arB (p:Bool) (r:List Int):AO:=.arr 1 p (r.map cI)
def tlB (g:List (List Int)):List AO:=g.map (arB true)
def lB (t:RoHouse) (v:AV) (g:List AO):List AO:=.cells (A3 t) :: .cells (A3 t) :: .cells (B1s t v) :: g
section
variable {T:Tab} {s:C7} {H0 H:A6} {l:List AO} {c:Sc} {n0 N:Nat} {hc:List (Option (List Nat))} {ops:List AOper} {R:C7→A6→Prop}
theorem gU {d:Nat} {op:AOp} {t:Nat} {w:Bool} {hid:List Nat} {hida:List (Nat × List Nat)} {inc src:Nat} (hw:wanted s (some (t,w)) = some false) (hwr:writes op = true) (k:M5 T c n0 ops ((d,.tup []) :: s) H (none :: hc) R) :
  M5 T c n0 (⟨some d,op,some (t,w),hid,hida,inc,src⟩ :: ops) s H hc R:=G7 hw hwr k
theorem gV {d:Nat} {op:AOp} {t:Nat} {w:Bool} {hid:List Nat} {hida:List (Nat × List Nat)} {inc src:Nat} (hw:wanted s (some (t,w)) = some false) (hwr:writes op = false) (k:M5 T c n0 ops ((d,.tup []) :: s) H hc R) :
  M5 T c n0 (⟨some d,op,some (t,w),hid,hida,inc,src⟩ :: ops) s H hc R:=D0w hw hwr k
theorem fvc {H1 H2:A6} {v v':AV} {l l':List AV} (h:frv H v = some (v',H1)) (k:A0u H1 l = some (l',H2)):A0u H (v :: l) = some (v' :: l',H2):= by simp only [A0u,h,k]
end
theorem D3o {N:Nat}:∀g:List (List Int),clH N (tlB g) = true
 | []=>rfl
 | r :: g=>by
  have ih:=D3o (N:=N) g
  unfold tlB clH at ih ⊢
  rw [List.map_cons,List.all_cons,ih,Bool.and_true]
  unfold arB
  simp only [AO.cl]
  exact A3b (fun x=>rfl) r
theorem E0b {N:Nat} (t:RoHouse) (b:List Int) (g:List (List Int)):clH N (lB t (.seq 1 (b.map cI)) (tlB g)) = true:= by
 have h:=D3o (N:=N) g
 unfold lB clH at h ⊢
 simp only [List.all_cons,h,Bool.and_true]
 simp [AO.cl,clL_free _ (K6 t),B1s,clL,AV.cl,clR,J4,cI,freeL,AV.free,J7,I6]
theorem B8h {c:Sc} {H:A6} (hscv:Z2 c H = true) (hcl:clH H.length H = true) {a0:RoHouse} {r:((List Int) × Int)} (h:A60 a0 = some r) :
  E7 tab c H (.fn (.func 36) [] []) [(.agg (A3 a0))] [(.seq 1 (List.map cI r.1)),.i r.2]:= by
 unfold A60 at h
 refine cE rfl rfl<|sg 0 rfl<|A0 (E8 (cs:=A3 a0) rfl rfl rfl) rfl<|qm rfl<|qm rfl<|es (ra2 rfl rfl)<|s0<|A0 (C0 rfl rfl rfl) rfl<|P2 (as2:=[(.agg (A3 a0))]) (H1:=(H++[(.cells (A3 a0))])) rfl rfl (A1 (D1 rfl) B7) rfl rfl rfl (V2 rfl)<|sg 1 rfl<|A0 (E8 (cs:=A3 a0) rfl rfl rfl) rfl<|qm rfl<|qm rfl<|es (ra1 rfl)<|s0<|oB h fun x1 hx1 h=>A0 (C0 rfl rfl rfl) rfl<|B4 (rs:=[.i x1.1,.i x1.2.1,.i x1.2.2]) rfl rfl (A1 (D1 rfl) B7) ((R2 hx1).frz)<|qm rfl<|A0 (A7 rfl rfl) rfl<|A0 (A7 rfl rfl) rfl<|A0 (A7 rfl rfl) rfl<|qm rfl<|qm rfl<|qm rfl<|es (ra2 rfl rfl)<|sg 2 rfl<|A0 (C0 rfl rfl rfl) rfl<|A0 (G3 (cs:=[.b false,(.fn (.func 112) [] [])]) rfl rfl) rfl<|A0 (G3 (cs:=[.b true,(.fn (.func 113) [] [])]) rfl rfl) rfl<|A0 (A7h (rows:=[[.b false,(.fn (.func 112) [] [])],[.b true,(.fn (.func 113) [] [])]]) rfl rfl) rfl<|A0 (G3 (cs:=B1s a0 (.seq 1 (List.map cI a0.Bill))) rfl rfl) rfl<|A0 (E8 (cs:=B1s a0 (.seq 1 (List.map cI a0.Bill))) rfl rfl rfl) rfl<|qm rfl<|qm rfl<|qm rfl<|es (ra2 rfl rfl)<|C5<|InlQ.mk trivial ⟨_,_,_,[(.ptr (H.length + 2) 0),.i x1.2.2],_,(A9 rfl (A9 rfl B6)),(A4 rfl (A4 rfl B5)),(W6 (N2 (W4 rfl)) (D2 rfl (D2 rfl J1))),?_⟩
 refine qm rfl<|A0 (A7 rfl rfl) rfl<|A0 (A7 rfl rfl) rfl<|qm rfl<|qm rfl<|es (ra4 rfl rfl rfl rfl)<|B8<|s0<|qm rfl<|A0 (F7 rfl rfl) rfl<|es (ra5 rfl rfl rfl rfl rfl)<|wi h rfl (fun hc2 h=>?_) fun hc2 h=>?_
 ·refine s0<|qm rfl<|qm rfl<|qm rfl<|es (ra2 rfl rfl)<|C5 ?_
  obtain rfl:=os h
  exact retq trivial (A9 rfl (A9 rfl B6)) (A4 rfl (A4 rfl B5)) (A2 G8 (A2 A5 B2))
 refine oB h fun n hn h=>oB h fun o ho h=>?_
 refine C1<|s0<|qm rfl<|es (ra4 rfl rfl rfl rfl)<|B8<|s0<|A0 (C4 rfl) rfl<|A0 (C2 rfl rfl rfl) rfl<|A0 (D9 (f:=cI) rfl) rfl<|A0 (B5n rfl rfl hn) rfl<|qm rfl<|es (ra6 rfl rfl rfl rfl rfl rfl)<|C6 ?_
 refine A70 (D5u (γ:=List Int × List (List Int)) (live:=[1,2,4,5,21,22]) (body:=A8m a0 n) (fun x=>[(1,.ptr (H.length + 0) 0),(2,.seq 1 (x.2.2.map cI)),(4,.ptr (H.length + 2) 0),(5,.b x.2.1),(21,.i n),(22,.i x.1)]) (fun g x=>H++lB a0 (.seq 1 (g.1.map cI)) (tlB g.2))
  (fun r e s' H'=>e = .exit 0∧s' = [(2,.seq 1 (r.map cI))]∧∃ l',H' = H++l') (fun _=>rfl) (by decide) ?_ ho (a0.Bill,[])) ?_
 ·intro g x o' hb
  unfold A8m at hb
  refine s0<|A0 (G0 rfl rfl) rfl<|es (ra7 rfl rfl rfl rfl rfl rfl rfl)<|B8<|wi hb rfl (fun hc hb=>?_) fun hc hb=>?_
  ·refine oB hb fun l hl hb=>oB hb fun skip hsk hb=>?_
   refine C1<|B8<|C6<|s0<|qm rfl<|qm rfl<|es (ra7 rfl rfl rfl rfl rfl rfl rfl)<|s0<|qm rfl<|B4 (rs:=[.seq 1 (l.map cI)]) rfl rfl (A1 rfl B7) ((C5a hl).frz)<|qm rfl<|es (ra8 rfl rfl rfl rfl rfl rfl rfl rfl)<|B8<|s0<|qm rfl<|qm rfl ?_
   refine gp 19 47 (.b skip) 28 rfl rfl (fun hg1=>?_) (fun hg1=>?_) ?_
   ·unfold A9o at hsk
    rw [if_pos hg1] at hsk
    refine gT rfl hg1<|qm rfl<|gT rfl hg1<|A0 (D9 (f:=cI) rfl) rfl<|gT rfl hg1<|qm rfl<|gT rfl hg1<|A0 (D9 (f:=cI) rfl) rfl<|gT rfl hg1<|A0 (Z3 rfl rfl) rfl<|gT rfl hg1<|qm rfl ?_
    cases h2:decide ((l.length:Int) > (x.2.2.length:Int)) with
    | true =>
     rw [if_pos h2] at hsk
     cases hsk
     exact nF rfl rfl rfl<|nF rfl rfl rfl<|nF rfl rfl rfl<|nF rfl rfl rfl<|nF rfl rfl rfl<|nF rfl rfl rfl<|gV rfl rfl<|gV rfl rfl<|gU rfl rfl<|gV rfl rfl<|nF rfl rfl rfl<|gT rfl hg1<|A0 (C8 rfl rfl rfl) rfl<|A0 (C8 rfl hg1 rfl) rfl<|ge 19 rfl rfl rfl
    | false =>
     rw [if_neg (by rw [h2]; decide)] at hsk
     refine gF rfl rfl<|qm rfl<|gF rfl rfl<|A0 (D9 (f:=cI) rfl) rfl<|gF rfl rfl<|qm rfl<|gF rfl rfl<|A0 (D9 (f:=cI) rfl) rfl<|gF rfl rfl<|A0 (F5 rfl rfl) rfl<|gF rfl rfl<|qm rfl ?_
     cases h3:((l.length:Int) == (x.2.2.length:Int)) with
     | true =>
      rw [if_pos h3] at hsk
      refine oB hsk fun z hz hsk=>?_
      cases hsk
      exact gT rfl rfl<|qm rfl<|gT rfl rfl<|qm rfl<|gT rfl rfl<|B4 (rs:=[.i z]) rfl rfl (A1 rfl (A1 rfl B7)) ((A8z hz).frz)<|gT rfl rfl<|A0 (Z3 rfl rfl) rfl<|gF rfl rfl<|A0 (C8 rfl rfl rfl) rfl<|gT rfl hg1<|A0 (C9 rfl rfl rfl) rfl<|A0 (C8 rfl hg1 rfl) rfl<|ge 19 rfl rfl rfl
     | false =>
      rw [if_neg (by rw [h3]; decide)] at hsk
      cases hsk
      exact nT rfl rfl rfl<|nT rfl rfl rfl<|gN rfl rfl rfl<|nT rfl rfl rfl<|gF rfl rfl<|A0 (C9 rfl rfl rfl) rfl<|gT rfl hg1<|A0 (C9 rfl rfl rfl) rfl<|A0 (C8 rfl hg1 rfl) rfl<|ge 19 rfl rfl rfl
   ·unfold A9o at hsk
    rw [if_neg (by rw [hg1]; decide)] at hsk
    cases hsk
    exact nT rfl hg1 rfl<|nT rfl hg1 rfl<|nT rfl hg1 rfl<|nT rfl hg1 rfl<|nT rfl hg1 rfl<|nT rfl hg1 rfl<|gV rfl rfl<|gV rfl rfl<|gV rfl rfl<|gV rfl rfl<|gV rfl rfl<|gV rfl rfl<|gV rfl rfl<|gV rfl rfl<|gU rfl rfl<|gV rfl rfl<|gV rfl rfl<|nT rfl hg1 rfl<|A0 (C9 rfl hg1 rfl) rfl<|ge 19 rfl rfl rfl
   refine es (ra9 rfl rfl rfl rfl rfl rfl rfl rfl rfl)<|wi hb rfl (fun hc2 hb=>?_) fun hc2 hb=>?_
   ·refine F0<|r0<|A0 (E1 rfl rfl) rfl<|qm rfl<|en (ra6 rfl rfl rfl rfl rfl rfl) ?_
    cases hb
    exact ⟨rfl,su6 rfl rfl rfl rfl rfl rfl,g,rfl⟩
   refine oB hb fun b hb2 hb=>oB hb fun k hk hb=>?_
   refine C1<|sg ((tlB g.2).length + 3) rfl<|qm rfl<|A0 (S3 rfl rfl) rfl<|A0 (C4 rfl) rfl<|A0 (C4 rfl) rfl<|F2 (D4y (cs:=B1s a0 (.seq 1 (g.1.map cI))) (ds:=B1s a0 (.asl (H.length + ((tlB g.2).length + 3 + 0)) 0)) rfl rfl rfl (A7i (Nat.le_add_right _ _)) rfl) rfl<|es (ra8 rfl rfl rfl rfl rfl rfl rfl rfl) ?_
   have e1:((lB a0 (.seq 1 (g.1.map cI)) (tlB g.2)++List.replicate 1 AO.dead).set ((tlB g.2).length + 3 + 0) (.arr 1 false [])).set 2 (.cells (B1s a0 (.asl (H.length + ((tlB g.2).length + 3 + 0)) 0))) = lB a0 (.asl (H.length + ((tlB g.2).length + 3)) 0) (tlB g.2++[arB false []]):= by
    show (AO.cells _ :: AO.cells _ :: AO.cells _ :: ((tlB g.2++[AO.dead]).set (tlB g.2).length (.arr 1 false []))) = _
    rw [C6v _ _ _ rfl]; rfl
   rw [e1]
   have hlN:∀v q,(lB a0 v (tlB g.2++[q])).length = (tlB g.2).length + 4:=fun v q=>by simp [lB]
   have hget:∀v q,(lB a0 v (tlB g.2++[q]))[(tlB g.2).length + 3]? = some q:=fun v q=>D4b (tlB g.2) q rfl
   have hset:∀v q q',(lB a0 v (tlB g.2++[q])).set ((tlB g.2).length + 3) q' = lB a0 v (tlB g.2++[q']):=fun v q q'=>by
    show (AO.cells _ :: AO.cells _ :: AO.cells _ :: ((tlB g.2++[q]).set (tlB g.2).length q')) = _
    rw [C6v _ _ _ rfl]; rfl
   refine B8<|s0<|A0 (C4 rfl) rfl<|A0 (C2 rfl rfl rfl) rfl<|A0 (D9 (f:=cI) rfl) rfl<|qm rfl<|es (ra11 rfl rfl rfl rfl rfl rfl rfl rfl rfl rfl rfl)<|C6<|wl (fun y=>[(1,.ptr (H.length + 0) 0),(2,.seq 1 (x.2.2.map cI)),(4,.ptr (H.length + 2) 0),(5,.b x.2.1),(6,.i x.1),(7,.seq 1 (l.map cI)),(21,.i n),(22,.i x.1),(53,.seq 1 (a0.Bill.map cI)),(54,.i (List.length a0.Bill:Int)),(55,.i y.1)]) (fun (q2:Unit) y=>lB a0 (.asl (H.length + ((tlB g.2).length + 3)) y.2.length) (tlB g.2++[arB false y.2])) ((tlB g.2).length + 4) (fun r e s' H'=>PX 2 [(1,.ptr (H.length + 0) 0),(2,.seq 1 (x.2.2.map cI)),(4,.ptr (H.length + 2) 0),(5,.b x.2.1),(7,.seq 1 (l.map cI)),(21,.i n),(22,.i x.1)] (H++lB a0 (.asl (H.length + ((tlB g.2).length + 3)) r.length) (tlB g.2++[arB false r])) e s' H') () hb2 rfl rfl (fun _ _=>hlN _ _) (fun _=>rfl) rfl (fun y=>(bdc (D8 rfl) (bdc G8 (bdc (D8 rfl) (bdc A5 (bdc A5 (bdc G8 (bdc A5 (bdc A5 (bdc G8 (bdc A5 (bdc A5 bdn)))))))))))) (fun q2 y o' hy=>?_) ?_
   ·unfold B2k at hy
    refine s0<|A0 (G0 rfl rfl) rfl<|es (ra12 rfl rfl rfl rfl rfl rfl rfl rfl rfl rfl rfl rfl)<|B8<|wi hy rfl (fun hc3 hy=>?_) fun hc3 hy=>?_
    ·refine oB hy fun z hz hy=>oB hy fun q hq hy=>?_
     refine C1<|B8<|C6<|s0<|qm rfl<|A0 (E3 (f:=cI) rfl rfl hz) rfl<|A0 (E5 rfl rfl) rfl<|qm rfl<|qm rfl<|es (ra13 rfl rfl rfl rfl rfl rfl rfl rfl rfl rfl rfl rfl rfl)<|s0<|qm rfl<|qm rfl<|A0 (B1j rfl rfl hq) rfl<|A0 (H6 (v:=(.i (B4s q 1))) rfl rfl rfl) rfl<|A0 (F5 rfl rfl) rfl<|es (ra13 rfl rfl rfl rfl rfl rfl rfl rfl rfl rfl rfl rfl rfl)<|wi hy rfl (fun hc4 hy=>?_) fun hc4 hy=>?_
     ·refine oB hy fun w hw hy=>?_
      refine r0<|qm rfl<|qm rfl<|A0 (S3 rfl rfl) rfl<|A0 (C4 rfl) rfl<|A0 (C4 rfl) rfl<|A0 (C2 rfl rfl rfl) rfl<|qm rfl<|A0 (K8 (rows:=[[.i z]]) rfl rfl rfl) rfl<|A80 (A54 (f:=cI) (d:=y.2) (m:=[z]) rfl rfl (hget _ _) rfl A3v (fun _=>rfl) hw) rfl<|A0 (S3 rfl rfl) rfl<|A0 (C4 rfl) rfl<|A0 (C4 rfl) rfl ?_
      rw [hset]
      refine F2 (D0 (ds:=B1s a0 (.asl (H.length + ((tlB g.2).length + 3)) w.length)) rfl rfl rfl rfl (D63 ?_ ?_) rfl) rfl<|en (ra11 rfl rfl rfl rfl rfl rfl rfl rfl rfl rfl rfl)<|r0<|A0 (E1 rfl rfl) rfl<|qm rfl<|en (ra11 rfl rfl rfl rfl rfl rfl rfl rfl rfl rfl rfl) ?_
      ·simp only [AV.bd]; exact Nat.ble_eq_true_of_le (by omega)
      ·exact E0x (Nat.le_add_right _ _) (D8t hscv)
      cases hy
      exact lnT () (List.take_of_length_le (Nat.le_of_eq (hlN _ _))) (su11 rfl rfl rfl rfl rfl rfl rfl rfl rfl rfl rfl)
     ·refine C1<|r0<|A0 (E1 rfl rfl) rfl<|qm rfl<|en (ra11 rfl rfl rfl rfl rfl rfl rfl rfl rfl rfl rfl) ?_
      cases hy
      exact lnT () (List.take_of_length_le (Nat.le_of_eq (hlN _ _))) (su11 rfl rfl rfl rfl rfl rfl rfl rfl rfl rfl rfl)
    ·refine F0 ?_
     obtain rfl:=os hy
     exact lx rfl px (su7 rfl rfl rfl rfl rfl rfl rfl)
   rintro e s' H' - ⟨rfl,rfl,rfl⟩
   have hfz:A0u (H++lB a0 (.asl (H.length + ((tlB g.2).length + 3)) b.length) (tlB g.2++[arB false b])) (B1s a0 (.asl (H.length + ((tlB g.2).length + 3)) b.length)) = some (B1s a0 (.seq 1 (b.map cI)),H++lB a0 (.asl (H.length + ((tlB g.2).length + 3)) b.length) (tlB g.2++[arB true b])):= by
    have h1:frv (H++lB a0 (.asl (H.length + ((tlB g.2).length + 3)) b.length) (tlB g.2++[arB false b])) (.asl (H.length + ((tlB g.2).length + 3)) b.length) = some (.seq 1 (b.map cI),H++lB a0 (.asl (H.length + ((tlB g.2).length + 3)) b.length) (tlB g.2++[arB true b])):= by
     have:=B9q (H0:=H) (l:=lB a0 (.asl (H.length + ((tlB g.2).length + 3)) b.length) (tlB g.2++[arB false b])) (hget _ (arB false b)) (List.length_map (cI))
     rw [hset] at this
     exact this
    exact fvc rfl<|fvc rfl<|fvc rfl<|fvc rfl<|fvc rfl<|fvc rfl<|fvc h1<|fvc rfl rfl
   have e2:(lB a0 (.asl (H.length + ((tlB g.2).length + 3)) b.length) (tlB g.2++[arB true b])).set 2 (.cells (B1s a0 (.seq 1 (b.map cI)))) = lB a0 (.seq 1 (b.map cI)) (tlB (g.2++[b])):= by
    show (AO.cells _ :: AO.cells _ :: AO.cells _ :: (tlB g.2++[arB true b])) = _
    unfold lB tlB
    rw [List.map_append]; rfl
   refine B8<|E07 (D7c rfl rfl hfz rfl) ?_
   rw [e2]
   have hcan:E7 tab ⟨H.length,c.cur :: c.outer⟩ (H++lB a0 (.seq 1 (b.map cI)) (tlB (g.2++[b]))) (.fn (.func 97) [] []) [.ptr (H.length + 2) 0] [.b k]:=B5u (a0:=⟨C70 a0 b⟩) (b0:=H.length + 2) (A45 hscv) (D56 hcl (E0b a0 b _)) (D7 (l:=lB a0 (.seq 1 (b.map cI)) (tlB (g.2++[b]))) rfl) hk
   refine r0<|qm rfl<|B4 (rs:=[.b k]) rfl rfl (A1 rfl B7) (hcan.frz)<|es (ra8 rfl rfl rfl rfl rfl rfl rfl rfl) ?_
   cases k with
   | true =>
    refine L2 rfl rfl<|r0<|qm rfl<|qm rfl<|qm rfl<|en (ra6 rfl rfl rfl rfl rfl rfl)<|r0<|A0 (E1 rfl rfl) rfl<|qm rfl<|en (ra6 rfl rfl rfl rfl rfl rfl) ?_
    cases hb
    exact ⟨rfl,su6 rfl rfl rfl rfl rfl rfl,(b,g.2++[b]),rfl⟩
   | false =>
    refine A2r rfl rfl<|C1<|r0<|A0 (E1 rfl rfl) rfl<|qm rfl<|en (ra6 rfl rfl rfl rfl rfl rfl) ?_
    cases hb
    exact ⟨rfl,su6 rfl rfl rfl rfl rfl rfl,(b,g.2++[b]),rfl⟩
  ·refine F0 ?_
   cases hb
   exact ⟨rfl,_,su1 rfl,rfl,rfl,_,rfl⟩
 ·intro e s' H' q
  obtain ⟨_,rfl,rfl,l',rfl⟩:=q
  cases h
  refine s0<|qm rfl<|qm rfl<|qm rfl<|es (ra2 rfl rfl)<|C5 ?_
  exact retq trivial (A9 rfl (A9 rfl B6)) (A4 rfl (A4 rfl B5)) (A2 G8 (A2 A5 B2))
theorem B2b {c:Sc} {H:A6} (hscv:Z2 c H = true) {a0:RoHouse} {r:((List Int) × Int)} (h:A60 a0 = some r) :
  E7 tab c H (.fn (.func 36) [] []) [(.agg (A3 a0))] [(.seq 1 (List.map cI r.1)),.i r.2]:=B1u B21 (B8h (c:=⟨0,[]⟩) (H:=[]) rfl rfl h) (by simp [freeL,AV.free,K6]) (by simp [freeL,AV.free,J4,cI]) hscv
end Rm
end
section
set_option maxRecDepth 100000
set_option maxHeartbeats 0
namespace Rm
open Go Am Go.Proofs.YtbheamjhjgoccaaDoor.Cd
def J3 :Option Bool :=
 (A2t [3]).bind fun x1 =>
 (A2t ([]:List Int)).bind fun x2 =>
 (U7 x1 1 1).bind fun x3 =>
 (T6 x1 0 1 1).bind fun x4 =>
 (T6 x1 2 1 1).bind fun x5 =>
 (X9 x1).bind fun x6 =>
 (A2u 1 [1,(-1),2]).bind fun x7 =>
 (A29 x1 x7).bind fun x8 =>
 (A2u 1 [1,0,2]).bind fun x9 =>
 (A27 x1 x9).bind fun x10 =>
 (A2t [1,3]).bind fun x11 =>
 (A60 x11).bind fun x12 =>
 (A18 x1).bind fun x13 =>
 (A18 x2).bind fun x14 =>
 (B06 x1 0).bind fun x15 =>
 (A28 x1 x6.1).bind fun x16 =>
 (if (((((((((((x3.2 == 0) && (x4.2 == 0)) && (x5.2 == 0)) && (x6.2.2 == 0)) && (x8.2 == 9)) && (x10.2 == 0)) && (x12.2 == 0)) && (x13.2 == 0)) && (x14.2 == 0)) && (x15.2 == 0)) && (x16.2.2 == 0)) = true then
  (S0 45 70).bind fun x28 =>
  some ((x3.1.Lo == x28.Lo) && ((x3.1.Hi == x28.Hi) && true))
 else
  some false).bind fun x29 =>
 (if ((x29 && (x4.1 == 1)) && (x5.1 == 0)) = true then
  (A2u 1 [(-1),0,2]).bind fun x33 =>
  (A4t x6.1 x33).bind fun x34 =>
  some x34
 else
  some false).bind fun x35 =>
 (if (x35 && (x6.2.1 == 12)) = true then
  (Y5 x10.1 [350,320]).bind fun x38 =>
  some x38
 else
  some false).bind fun x39 =>
 (if x39 = true then
  (Y5 x12.1 [0]).bind fun x41 =>
  some x41
 else
  some false).bind fun x42 =>
 (if x42 = true then
  (Y5 x13.1 [0]).bind fun x44 =>
  some x44
 else
  some false).bind fun x45 =>
 some ((((x45 && ((List.length x14.1:Int) == 0)) && (x15.1 == 1)) && (x16.1 == 1)) && (x16.2.1 == 0))
theorem K9 {c:Sc} {H:A6} (hscv:Z2 c H = true)  {r:Bool} (h:J3  = some r) :
  E7 tab c H (.fn (.func 23) [] []) [] [.b r]:= by
 unfold J3 at h
 refine cE rfl rfl<|s0<|qm rfl<|es .n<|sg 0 rfl<|oB h fun x1 hx1 h=>oB h fun x2 hx2 h=>A0 (K8 (rows:=List.map cI [3]) rfl rfl (F4 (fun _=>rfl) _)) rfl<|B4 (rs:=[(.agg (A3 x1))]) rfl rfl (A1 rfl B7) ((A2v hx1).frz)<|B4 (rs:=[(.agg (A3 x2))]) rfl rfl (A1 rfl B7) ((A2v hx2).frz)<|A0 D5 rfl<|A0 D5 rfl<|F2 (D0 (ds:=(A3 x1)) rfl rfl rfl rfl (B9 rfl) rfl) rfl<|F2 (D0 (ds:=(A3 x2)) rfl rfl rfl rfl (B9 rfl) rfl) rfl<|es (ra2 rfl rfl)<|sg 2 rfl<|oB h fun x3 hx3 h=>A0 (C0 rfl rfl rfl) rfl<|B4 (rs:=[(.agg (D4 x3.1)),.i x3.2]) rfl rfl (A1 (D1 rfl) (A1 rfl (A1 rfl B7))) ((A2y hx3).frz)<|qm rfl<|A0 (A7 rfl rfl) rfl<|A0 (A7 rfl rfl) rfl<|A0 D5 rfl<|F2 (D0 (ds:=(D4 x3.1)) rfl rfl rfl rfl (B9 rfl) rfl) rfl<|qm rfl<|es (ra4 rfl rfl rfl rfl)<|s0<|oB h fun x4 hx4 h=>A0 (C0 rfl rfl rfl) rfl<|B4 (rs:=[.i x4.1,.i x4.2]) rfl rfl (A1 (D1 rfl) (A1 rfl (A1 rfl (A1 rfl B7)))) ((A13 hx4).frz)<|qm rfl<|A0 (A7 rfl rfl) rfl<|A0 (A7 rfl rfl) rfl<|qm rfl<|qm rfl<|es (ra6 rfl rfl rfl rfl rfl rfl)<|s0<|oB h fun x5 hx5 h=>A0 (C0 rfl rfl rfl) rfl<|B4 (rs:=[.i x5.1,.i x5.2]) rfl rfl (A1 (D1 rfl) (A1 rfl (A1 rfl (A1 rfl B7)))) ((A13 hx5).frz)<|qm rfl<|A0 (A7 rfl rfl) rfl<|A0 (A7 rfl rfl) rfl<|qm rfl<|qm rfl<|es (ra8 rfl rfl rfl rfl rfl rfl rfl rfl)<|sg 3 rfl<|oB h fun x6 hx6 h=>A0 (C0 rfl rfl rfl) rfl<|B4 (rs:=[(.agg (B1 x6.1)),.i x6.2.1,.i x6.2.2]) rfl rfl (A1 (D1 rfl) B7) (A3g (A45 hscv) hx6)<|qm rfl<|A0 (A7 rfl rfl) rfl<|A0 (A7 rfl rfl) rfl<|A0 (A7 rfl rfl) rfl<|A0 D5 rfl<|F2 (D0 (ds:=(B1 x6.1)) rfl rfl rfl rfl (B9 rfl) rfl) rfl<|qm rfl<|qm rfl<|es (ra11 rfl rfl rfl rfl rfl rfl rfl rfl rfl rfl rfl)<|s0<|oB h fun x7 hx7 h=>?_
 refine oB h fun x8 hx8 h=>A0 (C0 rfl rfl rfl) rfl<|A0 (K8 (rows:=List.map cI [1,(-1),2]) rfl rfl (F4 (fun _=>rfl) _)) rfl<|W1 (rs:=[(.agg (B1 x7))]) rfl rfl (K3 rfl (K3 rfl A2n)) (A1 rfl (A1 rfl B7)) ((A2f hx7).frz)<|B4 (rs:=[.i x8.1,.i x8.2]) rfl rfl (A1 (D1 rfl) (A1 (D1 rfl) B7)) ((A6n hx8).frz)<|qm rfl<|A0 (A7 rfl rfl) rfl<|A0 (A7 rfl rfl) rfl<|qm rfl<|qm rfl<|es (ra12 rfl rfl rfl rfl rfl rfl rfl rfl rfl rfl rfl rfl)<|s0<|oB h fun x9 hx9 h=>oB h fun x10 hx10 h=>A0 (C0 rfl rfl rfl) rfl<|A0 (K8 (rows:=List.map cI [1,0,2]) rfl rfl (F4 (fun _=>rfl) _)) rfl<|W1 (rs:=[(.agg (B1 x9))]) rfl rfl (K3 rfl (K3 rfl A2n)) (A1 rfl (A1 rfl B7)) ((A2f hx9).frz)<|B4 (rs:=[(.seq 1 (List.map cI x10.1)),.i x10.2]) rfl rfl (A1 (D1 rfl) (A1 (D1 rfl) B7)) ((A6l hx10).frz)<|qm rfl<|A0 (A7 rfl rfl) rfl<|A0 (A7 rfl rfl) rfl<|qm rfl<|qm rfl<|es (ra14 rfl rfl rfl rfl rfl rfl rfl rfl rfl rfl rfl rfl rfl rfl)<|s0<|oB h fun x11 hx11 h=>oB h fun x12 hx12 h=>A0 (K8 (rows:=List.map cI [1,3]) rfl rfl (F4 (fun _=>rfl) _)) rfl<|B4 (rs:=[(.agg (A3 x11))]) rfl rfl (A1 rfl B7) ((A2v hx11).frz)<|B4 (rs:=[(.seq 1 (List.map cI x12.1)),.i x12.2]) rfl rfl (A1 (D1 rfl) B7) ((B2b (A45 hscv) hx12).frz)<|qm rfl<|A0 (A7 rfl rfl) rfl<|A0 (A7 rfl rfl) rfl<|qm rfl<|qm rfl<|es (.k rfl (.k rfl (.k rfl (.k rfl (.k rfl (.k rfl (.k rfl (.k rfl (.k rfl (.k rfl (.k rfl (.k rfl (.k rfl (.k rfl (.k rfl (.k rfl .n))))))))))))))))<|s0<|oB h fun x13 hx13 h=>A0 (C0 rfl rfl rfl) rfl<|B4 (rs:=[(.seq 1 (List.map cI x13.1)),.i x13.2]) rfl rfl (A1 (D1 rfl) B7) ((A6m (A45 hscv) hx13).frz)<|qm rfl<|A0 (A7 rfl rfl) rfl<|A0 (A7 rfl rfl) rfl<|qm rfl<|qm rfl<|es (.k rfl (.k rfl (.k rfl (.k rfl (.k rfl (.k rfl (.k rfl (.k rfl (.k rfl (.k rfl (.k rfl (.k rfl (.k rfl (.k rfl (.k rfl (.k rfl (.k rfl (.k rfl .n))))))))))))))))))<|s0<|oB h fun x14 hx14 h=>A0 (C0 rfl rfl rfl) rfl<|B4 (rs:=[(.seq 1 (List.map cI x14.1)),.i x14.2]) rfl rfl (A1 (D1 rfl) B7) ((A6m (A45 hscv) hx14).frz)<|qm rfl<|A0 (A7 rfl rfl) rfl<|A0 (A7 rfl rfl) rfl<|qm rfl<|qm rfl<|es (.k rfl (.k rfl (.k rfl (.k rfl (.k rfl (.k rfl (.k rfl (.k rfl (.k rfl (.k rfl (.k rfl (.k rfl (.k rfl (.k rfl (.k rfl (.k rfl (.k rfl (.k rfl (.k rfl .n)))))))))))))))))))<|s0<|oB h fun x15 hx15 h=>A0 (C0 rfl rfl rfl) rfl<|B4 (rs:=[.i x15.1,.i x15.2]) rfl rfl (A1 (D1 rfl) (A1 rfl B7)) ((B3w hx15).frz)<|qm rfl ?_
 refine A0 (A7 rfl rfl) rfl<|A0 (A7 rfl rfl) rfl<|qm rfl<|qm rfl<|es (.k rfl (.k rfl (.k rfl (.k rfl (.k rfl (.k rfl (.k rfl (.k rfl (.k rfl (.k rfl (.k rfl (.k rfl (.k rfl (.k rfl (.k rfl (.k rfl (.k rfl (.k rfl (.k rfl (.k rfl (.k rfl .n)))))))))))))))))))))<|s0<|oB h fun x16 hx16 h=>A0 (C0 rfl rfl rfl) rfl<|A0 (C0 rfl rfl rfl) rfl<|B4 (rs:=[.i x16.1,.i x16.2.1,.i x16.2.2]) rfl rfl (A1 (D1 rfl) (A1 (D1 rfl) B7)) ((A8e hx16).frz)<|qm rfl<|A0 (A7 rfl rfl) rfl<|A0 (A7 rfl rfl) rfl<|A0 (A7 rfl rfl) rfl<|qm rfl<|qm rfl<|qm rfl<|es (.k rfl (.k rfl (.k rfl (.k rfl (.k rfl (.k rfl (.k rfl (.k rfl (.k rfl (.k rfl (.k rfl (.k rfl (.k rfl (.k rfl (.k rfl (.k rfl (.k rfl (.k rfl (.k rfl (.k rfl (.k rfl (.k rfl (.k rfl .n)))))))))))))))))))))))<|s0<|oB h fun x29 hx29 h=>oB h fun x35 hx35 h=>oB h fun x39 hx39 h=>oB h fun x42 hx42 h=>oB h fun x45 hx45 h=>qm rfl<|A0 (F5 rfl rfl) rfl<|qm rfl<|gp 3 98 (.b ((x3.2 == 0) && (x4.2 == 0))) 95 rfl rfl (fun hg17=>?_) (fun hg17=>?_) ?_
 ·exact gT rfl hg17<|qm rfl<|gT rfl hg17<|A0 (F5 rfl rfl) rfl<|A0 (C8 rfl hg17 rfl) rfl<|ge 3 (by rw [hg17]; rfl) rfl rfl
 ·exact nT rfl hg17 rfl<|nT rfl hg17 rfl<|A0 (C9 rfl hg17 rfl) rfl<|ge 3 (by rw [hg17]; rfl) rfl rfl
 refine qm rfl<|gp 3 102 (.b (((x3.2 == 0) && (x4.2 == 0)) && (x5.2 == 0))) 99 rfl rfl (fun hg18=>?_) (fun hg18=>?_) ?_
 ·exact gT rfl hg18<|qm rfl<|gT rfl hg18<|A0 (F5 rfl rfl) rfl<|A0 (C8 rfl hg18 rfl) rfl<|ge 3 (by rw [hg18]; rfl) rfl rfl
 ·exact nT rfl hg18 rfl<|nT rfl hg18 rfl<|A0 (C9 rfl hg18 rfl) rfl<|ge 3 (by rw [hg18]; rfl) rfl rfl
 refine qm rfl<|gp 3 106 (.b ((((x3.2 == 0) && (x4.2 == 0)) && (x5.2 == 0)) && (x6.2.2 == 0))) 103 rfl rfl (fun hg19=>?_) (fun hg19=>?_) ?_
 ·exact gT rfl hg19<|qm rfl<|gT rfl hg19<|A0 (F5 rfl rfl) rfl<|A0 (C8 rfl hg19 rfl) rfl<|ge 3 (by rw [hg19]; rfl) rfl rfl
 ·exact nT rfl hg19 rfl<|nT rfl hg19 rfl<|A0 (C9 rfl hg19 rfl) rfl<|ge 3 (by rw [hg19]; rfl) rfl rfl
 refine qm rfl<|gp 3 110 (.b (((((x3.2 == 0) && (x4.2 == 0)) && (x5.2 == 0)) && (x6.2.2 == 0)) && (x8.2 == 9))) 107 rfl rfl (fun hg20=>?_) (fun hg20=>?_) ?_
 ·exact gT rfl hg20<|qm rfl<|gT rfl hg20<|A0 (F5 rfl rfl) rfl<|A0 (C8 rfl hg20 rfl) rfl<|ge 3 (by rw [hg20]; rfl) rfl rfl
 ·exact nT rfl hg20 rfl<|nT rfl hg20 rfl<|A0 (C9 rfl hg20 rfl) rfl<|ge 3 (by rw [hg20]; rfl) rfl rfl
 refine qm rfl<|gp 3 114 (.b ((((((x3.2 == 0) && (x4.2 == 0)) && (x5.2 == 0)) && (x6.2.2 == 0)) && (x8.2 == 9)) && (x10.2 == 0))) 111 rfl rfl (fun hg21=>?_) (fun hg21=>?_) ?_
 ·exact gT rfl hg21<|qm rfl<|gT rfl hg21<|A0 (F5 rfl rfl) rfl<|A0 (C8 rfl hg21 rfl) rfl<|ge 3 (by rw [hg21]; rfl) rfl rfl
 ·exact nT rfl hg21 rfl<|nT rfl hg21 rfl<|A0 (C9 rfl hg21 rfl) rfl<|ge 3 (by rw [hg21]; rfl) rfl rfl
 refine qm rfl<|gp 3 118 (.b (((((((x3.2 == 0) && (x4.2 == 0)) && (x5.2 == 0)) && (x6.2.2 == 0)) && (x8.2 == 9)) && (x10.2 == 0)) && (x12.2 == 0))) 115 rfl rfl (fun hg22=>?_) (fun hg22=>?_) ?_
 ·exact gT rfl hg22<|qm rfl<|gT rfl hg22<|A0 (F5 rfl rfl) rfl<|A0 (C8 rfl hg22 rfl) rfl<|ge 3 (by rw [hg22]; rfl) rfl rfl
 ·exact nT rfl hg22 rfl<|nT rfl hg22 rfl<|A0 (C9 rfl hg22 rfl) rfl<|ge 3 (by rw [hg22]; rfl) rfl rfl
 refine qm rfl<|gp 3 122 (.b ((((((((x3.2 == 0) && (x4.2 == 0)) && (x5.2 == 0)) && (x6.2.2 == 0)) && (x8.2 == 9)) && (x10.2 == 0)) && (x12.2 == 0)) && (x13.2 == 0))) 119 rfl rfl (fun hg23=>?_) (fun hg23=>?_) ?_
 ·exact gT rfl hg23<|qm rfl<|gT rfl hg23<|A0 (F5 rfl rfl) rfl<|A0 (C8 rfl hg23 rfl) rfl<|ge 3 (by rw [hg23]; rfl) rfl rfl
 ·exact nT rfl hg23 rfl<|nT rfl hg23 rfl<|A0 (C9 rfl hg23 rfl) rfl<|ge 3 (by rw [hg23]; rfl) rfl rfl
 refine qm rfl<|gp 3 126 (.b (((((((((x3.2 == 0) && (x4.2 == 0)) && (x5.2 == 0)) && (x6.2.2 == 0)) && (x8.2 == 9)) && (x10.2 == 0)) && (x12.2 == 0)) && (x13.2 == 0)) && (x14.2 == 0))) 123 rfl rfl (fun hg24=>?_) (fun hg24=>?_) ?_
 ·exact gT rfl hg24<|qm rfl<|gT rfl hg24<|A0 (F5 rfl rfl) rfl<|A0 (C8 rfl hg24 rfl) rfl<|ge 3 (by rw [hg24]; rfl) rfl rfl
 ·exact nT rfl hg24 rfl<|nT rfl hg24 rfl<|A0 (C9 rfl hg24 rfl) rfl<|ge 3 (by rw [hg24]; rfl) rfl rfl
 refine qm rfl<|gp 3 130 (.b ((((((((((x3.2 == 0) && (x4.2 == 0)) && (x5.2 == 0)) && (x6.2.2 == 0)) && (x8.2 == 9)) && (x10.2 == 0)) && (x12.2 == 0)) && (x13.2 == 0)) && (x14.2 == 0)) && (x15.2 == 0))) 127 rfl rfl (fun hg25=>?_) (fun hg25=>?_) ?_
 ·exact gT rfl hg25<|qm rfl<|gT rfl hg25<|A0 (F5 rfl rfl) rfl<|A0 (C8 rfl hg25 rfl) rfl<|ge 3 (by rw [hg25]; rfl) rfl rfl
 ·exact nT rfl hg25 rfl<|nT rfl hg25 rfl<|A0 (C9 rfl hg25 rfl) rfl<|ge 3 (by rw [hg25]; rfl) rfl rfl
 refine qm rfl<|gp 3 134 (.b (((((((((((x3.2 == 0) && (x4.2 == 0)) && (x5.2 == 0)) && (x6.2.2 == 0)) && (x8.2 == 9)) && (x10.2 == 0)) && (x12.2 == 0)) && (x13.2 == 0)) && (x14.2 == 0)) && (x15.2 == 0)) && (x16.2.2 == 0))) 131 rfl rfl (fun hg26=>?_) (fun hg26=>?_) ?_
 ·exact gT rfl hg26<|qm rfl<|gT rfl hg26<|A0 (F5 rfl rfl) rfl<|A0 (C8 rfl hg26 rfl) rfl<|ge 3 (by rw [hg26]; rfl) rfl rfl
 ·exact nT rfl hg26 rfl<|nT rfl hg26 rfl<|A0 (C9 rfl hg26 rfl) rfl<|ge 3 (by rw [hg26]; rfl) rfl rfl
 refine qm rfl<|gp 4 139 (.b x29) 135 rfl rfl (fun hg27=>?_) (fun hg27=>?_) ?_
 ·refine oB (bt hx29 hg27) fun x28 hx28 hx29=>?_
  obtain rfl:=os hx29
  exact gT rfl hg27<|A0 (C0 rfl rfl rfl) rfl<|gT rfl hg27<|W1 (rs:=[(.agg (D4 x28))]) rfl rfl (K3 rfl (K3 rfl A2n)) (A1 rfl (A1 rfl B7)) ((P6 hx28).frz)<|gT rfl hg27<|A0 (C45 (a:=D4 x3.1) (b:=D4 x28) rfl rfl rfl rfl (A2p (A2p B42))) rfl<|A0 (C8 rfl hg27 rfl) rfl<|ge 4 rfl rfl rfl
 ·obtain rfl:=os (bf hx29 hg27)
  exact nT rfl hg27 rfl<|nT rfl hg27 rfl<|nT rfl hg27 rfl<|A0 (C9 rfl hg27 rfl) rfl<|ge 4 rfl rfl rfl
 refine qm rfl<|gp 3 143 (.b (x29 && (x4.1 == 1))) 140 rfl rfl (fun hg30=>?_) (fun hg30=>?_) ?_
 ·exact gT rfl hg30<|qm rfl<|gT rfl hg30<|A0 (F5 rfl rfl) rfl<|A0 (C8 rfl hg30 rfl) rfl<|ge 3 (by rw [hg30]; rfl) rfl rfl
 ·exact nT rfl hg30 rfl<|nT rfl hg30 rfl<|A0 (C9 rfl hg30 rfl) rfl<|ge 3 (by rw [hg30]; rfl) rfl rfl
 refine qm rfl<|gp 3 147 (.b ((x29 && (x4.1 == 1)) && (x5.1 == 0))) 144 rfl rfl (fun hg31=>?_) (fun hg31=>?_) ?_
 ·exact gT rfl hg31<|qm rfl<|gT rfl hg31<|A0 (F5 rfl rfl) rfl<|A0 (C8 rfl hg31 rfl) rfl<|ge 3 (by rw [hg31]; rfl) rfl rfl
 ·exact nT rfl hg31 rfl<|nT rfl hg31 rfl<|A0 (C9 rfl hg31 rfl) rfl<|ge 3 (by rw [hg31]; rfl) rfl rfl
 refine qm rfl<|gp 5 153 (.b x35) 148 rfl rfl (fun hg32=>?_) (fun hg32=>?_) ?_
 ·refine oB (bt hx35 hg32) fun x33 hx33 hx35=>oB hx35 fun x34 hx34 hx35=>?_
  obtain rfl:=os hx35
  exact gT rfl hg32<|A0 (C0 rfl rfl rfl) rfl<|gT rfl hg32<|A0 (K8 (rows:=List.map cI [(-1),0,2]) rfl rfl (F4 (fun _=>rfl) _)) rfl<|gT rfl hg32<|W1 (rs:=[(.agg (B1 x33))]) rfl rfl (K3 rfl (K3 rfl A2n)) (A1 rfl (A1 rfl B7)) ((A2f hx33).frz)<|gT rfl hg32<|B4 (rs:=[.b x34]) rfl rfl (A1 (D1 rfl) (A1 (D1 rfl) B7)) ((A9m hx34).frz)<|A0 (C8 rfl hg32 rfl) rfl<|ge 5 rfl rfl rfl
 ·obtain rfl:=os (bf hx35 hg32)
  exact nT rfl hg32 rfl<|nT rfl hg32 rfl<|nT rfl hg32 rfl<|G7 (E6 rfl (by rw [hg32]; rfl)) rfl<|A0 (C9 rfl hg32 rfl) rfl<|ge 5 rfl rfl rfl
 refine qm rfl<|gp 3 157 (.b (x35 && (x6.2.1 == 12))) 154 rfl rfl (fun hg36=>?_) (fun hg36=>?_) ?_
 ·exact gT rfl hg36<|qm rfl<|gT rfl hg36<|A0 (F5 rfl rfl) rfl<|A0 (C8 rfl hg36 rfl) rfl<|ge 3 (by rw [hg36]; rfl) rfl rfl
 ·exact nT rfl hg36 rfl<|nT rfl hg36 rfl<|A0 (C9 rfl hg36 rfl) rfl<|ge 3 (by rw [hg36]; rfl) rfl rfl
 refine qm rfl<|gp 4 162 (.b x39) 158 rfl rfl (fun hg37=>?_) (fun hg37=>?_) ?_
 ·refine oB (bt hx39 hg37) fun x38 hx38 hx39=>?_
  obtain rfl:=os hx39
  exact gT rfl hg37<|qm rfl<|gT rfl hg37<|A0 (K8 (rows:=List.map cI [350,320]) rfl rfl (F4 (fun _=>rfl) _)) rfl<|gT rfl hg37<|B4 (rs:=[.b x38]) rfl rfl (A1 rfl (A1 rfl B7)) ((A2g hx38).frz)<|A0 (C8 rfl hg37 rfl) rfl<|ge 4 rfl rfl rfl
 ·obtain rfl:=os (bf hx39 hg37)
  exact nT rfl hg37 rfl<|nT rfl hg37 rfl<|G7 (E6 rfl (by rw [hg37]; rfl)) rfl<|A0 (C9 rfl hg37 rfl) rfl<|ge 4 rfl rfl rfl
 refine qm rfl<|gp 4 167 (.b x42) 163 rfl rfl (fun hg40=>?_) (fun hg40=>?_) ?_
 ·refine oB (bt hx42 hg40) fun x41 hx41 hx42=>?_
  obtain rfl:=os hx42
  exact gT rfl hg40<|qm rfl<|gT rfl hg40<|A0 (K8 (rows:=List.map cI [0]) rfl rfl (F4 (fun _=>rfl) _)) rfl<|gT rfl hg40<|B4 (rs:=[.b x41]) rfl rfl (A1 rfl (A1 rfl B7)) ((A2g hx41).frz)<|A0 (C8 rfl hg40 rfl) rfl<|ge 4 rfl rfl rfl
 ·obtain rfl:=os (bf hx42 hg40)
  exact nT rfl hg40 rfl<|nT rfl hg40 rfl<|G7 (E6 rfl (by rw [hg40]; rfl)) rfl<|A0 (C9 rfl hg40 rfl) rfl<|ge 4 rfl rfl rfl
 refine qm rfl<|gp 4 172 (.b x45) 168 rfl rfl (fun hg43=>?_) (fun hg43=>?_) ?_
 ·refine oB (bt hx45 hg43) fun x44 hx44 hx45=>?_
  obtain rfl:=os hx45
  exact gT rfl hg43<|qm rfl<|gT rfl hg43<|A0 (K8 (rows:=List.map cI [0]) rfl rfl (F4 (fun _=>rfl) _)) rfl<|gT rfl hg43<|B4 (rs:=[.b x44]) rfl rfl (A1 rfl (A1 rfl B7)) ((A2g hx44).frz)<|A0 (C8 rfl hg43 rfl) rfl<|ge 4 rfl rfl rfl
 ·obtain rfl:=os (bf hx45 hg43)
  exact nT rfl hg43 rfl<|nT rfl hg43 rfl<|G7 (E6 rfl (by rw [hg43]; rfl)) rfl<|A0 (C9 rfl hg43 rfl) rfl<|ge 4 rfl rfl rfl
 refine qm rfl<|gp 4 177 (.b (x45 && ((List.length x14.1:Int) == 0))) 173 rfl rfl (fun hg46=>?_) (fun hg46=>?_) ?_
 ·exact gT rfl hg46<|qm rfl<|gT rfl hg46<|A0 (D9 (f:=cI) rfl) rfl<|gT rfl hg46<|A0 (F5 rfl rfl) rfl<|A0 (C8 rfl hg46 rfl) rfl<|ge 4 (by rw [hg46]; rfl) rfl rfl
 ·exact nT rfl hg46 rfl<|nT rfl hg46 rfl<|nT rfl hg46 rfl<|A0 (C9 rfl hg46 rfl) rfl<|ge 4 (by rw [hg46]; rfl) rfl rfl
 refine qm rfl<|gp 3 181 (.b ((x45 && ((List.length x14.1:Int) == 0)) && (x15.1 == 1))) 178 rfl rfl (fun hg47=>?_) (fun hg47=>?_) ?_
 ·exact gT rfl hg47<|qm rfl<|gT rfl hg47<|A0 (F5 rfl rfl) rfl<|A0 (C8 rfl hg47 rfl) rfl<|ge 3 (by rw [hg47]; rfl) rfl rfl
 ·exact nT rfl hg47 rfl<|nT rfl hg47 rfl<|A0 (C9 rfl hg47 rfl) rfl<|ge 3 (by rw [hg47]; rfl) rfl rfl
 refine qm rfl<|gp 3 185 (.b (((x45 && ((List.length x14.1:Int) == 0)) && (x15.1 == 1)) && (x16.1 == 1))) 182 rfl rfl (fun hg48=>?_) (fun hg48=>?_) ?_
 ·exact gT rfl hg48<|qm rfl<|gT rfl hg48<|A0 (F5 rfl rfl) rfl<|A0 (C8 rfl hg48 rfl) rfl<|ge 3 (by rw [hg48]; rfl) rfl rfl
 ·exact nT rfl hg48 rfl<|nT rfl hg48 rfl<|A0 (C9 rfl hg48 rfl) rfl<|ge 3 (by rw [hg48]; rfl) rfl rfl
 refine qm rfl<|gp 3 189 (.b ((((x45 && ((List.length x14.1:Int) == 0)) && (x15.1 == 1)) && (x16.1 == 1)) && (x16.2.1 == 0))) 186 rfl rfl (fun hg49=>?_) (fun hg49=>?_) ?_
 ·exact gT rfl hg49<|qm rfl<|gT rfl hg49<|A0 (F5 rfl rfl) rfl<|A0 (C8 rfl hg49 rfl) rfl<|ge 3 (by rw [hg49]; rfl) rfl rfl
 ·exact nT rfl hg49 rfl<|nT rfl hg49 rfl<|A0 (C9 rfl hg49 rfl) rfl<|ge 3 (by rw [hg49]; rfl) rfl rfl
 refine qm rfl<|es (ra1 rfl)<|C5 ?_
 obtain rfl:=os h
 exact retq trivial (A9 rfl B6) (A4 rfl B5) (A2 A5 B2)
end Rm
end
section
set_option maxRecDepth 100000
set_option maxHeartbeats 0
namespace Rm
open Go Am
theorem V6:J3 = some true:= by decide +kernel
end Rm
end
section
set_option maxRecDepth 100000
set_option maxHeartbeats 0
namespace Rm
open Go Am Go.Proofs.YtbheamjhjgoccaaDoor.Cd
end Rm
end
section
namespace Rm
open Go Am
def L6 (w:Span) (f:RoFigure):Int:=if f.Cracks≤w.Lo∧w.Hi≤f.Slumps then 1 else if f.Cracks > w.Hi∨w.Lo > f.Slumps then 2 else 0
theorem B8y {h:RoHouse} (ok:HOk h) {f p l:Nat} (hf:f < h.Figures.length) (hp:p < h.Places.length) (hl:l < 16):O2 ⟨h⟩ (f:Int) (p:Int) (l:Int) = some (L6 (warm h p l) h.Figures[f]!):= by
 have b:=A9d ok hp l
 have g:=(ok.figure _ (G2 hf)).bears
 unfold O2
 rw [B3e ok hp hl,F3 hf]
 simp only [Option.bind_some]
 generalize warm h p l = w at b ⊢
 generalize h.Figures[f]! = r at g ⊢
 unfold L6 A5i B1n
 by_cases c1:r.Cracks≤w.Lo
 ·by_cases c2:w.Hi≤r.Slumps
  ·simp [c1,c2,show ¬ (r.Cracks > w.Lo) by omega,show ¬ (r.Slumps < w.Hi) by omega]
  ·by_cases c3:w.Lo > r.Slumps
   ·simp [c2,c3,show ¬ (r.Cracks > w.Lo) by omega,show (r.Slumps < w.Hi) by omega,show ¬ (r.Slumps = w.Hi) by omega]
   ·simp [c2,c3,show ¬ (r.Cracks > w.Lo) by omega,show (r.Slumps < w.Hi) by omega,show ¬ (r.Slumps = w.Hi) by omega,show ¬ (r.Cracks > w.Hi) by omega]
 ·by_cases c2:w.Hi≤r.Slumps
  ·by_cases c3:r.Cracks > w.Hi
   ·simp [c1,c3,show (r.Cracks > w.Lo) by omega,show ¬ (r.Slumps < w.Hi) by omega,show ¬ (r.Cracks = w.Lo) by omega]
   ·simp [c1,c3,show (r.Cracks > w.Lo) by omega,show ¬ (r.Slumps < w.Hi) by omega,show ¬ (r.Cracks = w.Lo) by omega,show ¬ (w.Lo > r.Slumps) by omega]
  ·have h1:¬ (r.Cracks > r.Slumps):= by omega
   simp [c1,h1,show (r.Cracks > w.Lo) by omega,show (r.Slumps < w.Hi) by omega,show ¬ (r.Cracks = w.Lo) by omega,show ¬ (w.Lo > r.Slumps) by omega,show ¬ (r.Cracks > w.Hi) by omega]
def B0m (lo c s:Int) (i:Nat):Int:=max 0 (min (lo + i) (s + 1) - max lo c)
theorem C2y {h:RoHouse} {f:RoFigure} {p l:Int} {w:Span} (hw:A15 h p l = some w) (b:-1000≤w.Lo∧w.Lo≤w.Hi∧w.Hi≤1000) (g:-1000≤f.Cracks∧f.Cracks≤f.Slumps∧f.Slumps≤1000):O0 h f p l = some (L6 w f):= by
 unfold O0
 rw [hw]
 simp only [Option.bind_some]
 have l1:=I2 (b:=X8 f w) (fun i=>(B0m w.Lo f.Cracks f.Slumps i,(i:Int),w.Lo + i)) (w.Hi - w.Lo + 1).toNat (r:=(B0m w.Lo f.Cracks f.Slumps (w.Hi - w.Lo + 1).toNat,((w.Hi - w.Lo + 1).toNat:Int))) (by omega) (fun i hi=>by
  unfold X8
  simp only []
  have hc:0≤B0m w.Lo f.Cracks f.Slumps i∧B0m w.Lo f.Cracks f.Slumps i≤3000:= by unfold B0m; omega
  rw [if_pos (by rw [decide_eq_true_eq]; omega),within5]
  simp only [Option.bind_some]
  rw [E0 (n:=(i:Int) + 1) (by omega),E0 (n:=w.Lo + i + 1) (by omega),E0 (n:=B0m w.Lo f.Cracks f.Slumps i + 1) (by omega)]
  have e2:w.Lo + (i:Int) + 1 = w.Lo + ((i + 1:Nat):Int):= by omega
  rw [e2]
  cases ho:out f.Cracks f.Slumps (w.Lo + i) with
  | true =>
   have:¬ (f.Cracks≤w.Lo + i∧w.Lo + i≤f.Slumps):=fun h=>by rw [L4.mpr h] at ho; cases ho
   have e1:B0m w.Lo f.Cracks f.Slumps (i + 1) = B0m w.Lo f.Cracks f.Slumps i:= by unfold B0m; omega
   rw [e1]; rfl
  | false =>
   have:=L4.mp ho
   have e1:B0m w.Lo f.Cracks f.Slumps (i + 1) = B0m w.Lo f.Cracks f.Slumps i + 1:= by unfold B0m; omega
   rw [e1]; rfl) (by
  unfold X8
  simp only []
  rw [if_neg (by rw [decide_eq_true_eq]; omega)])
 have l0:(B0m w.Lo f.Cracks f.Slumps 0,((0:Nat):Int),w.Lo + ((0:Nat):Int)) = (0,0,w.Lo):= by
  have:B0m w.Lo f.Cracks f.Slumps 0 = 0:= by unfold B0m; omega
  rw [this,Int.natCast_zero,Int.add_zero]
 have l1:loop (X8 f w) (B0m w.Lo f.Cracks f.Slumps 0,((0:Nat):Int),w.Lo + ((0:Nat):Int)) = some (B0m w.Lo f.Cracks f.Slumps (w.Hi - w.Lo + 1).toNat,((w.Hi - w.Lo + 1).toNat:Int)):=l1
 rw [l0] at l1
 rw [l1]
 simp only [Option.bind_some]
 unfold L6
 have hc:B0m w.Lo f.Cracks f.Slumps (w.Hi - w.Lo + 1).toNat = max 0 (min (w.Hi + 1) (f.Slumps + 1) - max w.Lo f.Cracks):= by
  unfold B0m
  congr 3
  omega
 rw [hc]
 by_cases c1:f.Cracks≤w.Lo∧w.Hi≤f.Slumps
 ·rw [if_pos c1,if_pos (by rw [beq_iff_eq]; omega)]
 ·rw [if_neg c1,if_neg (by rw [beq_iff_eq]; omega)]
  by_cases c2:f.Cracks > w.Hi∨w.Lo > f.Slumps
  ·rw [if_pos c2,if_pos (by rw [beq_iff_eq]; omega)]
  ·rw [if_neg c2,if_neg (by rw [beq_iff_eq]; omega)]
theorem B0i {h:RoHouse} (ok:HOk h) {f:RoFigure} (hf:FiOk f) {p l:Nat} (hp:p < h.Places.length) (hl:l < 16):O0 h f (p:Int) (l:Int) = some (L6 (warm h p l) f):= by
 have b:=A9d ok hp l
 have g:=hf.bears
 exact C2y (B73 ok hp hl) (by omega) (by omega)
theorem A5l {h:RoHouse} (ok:HOk h):1≤2 ^ h.Stoves.toNat∧2 ^ h.Stoves.toNat≤8:= by
 have:=ok.s
 exact ⟨Nat.pow_pos (by decide),Nat.le_trans (Nat.pow_le_pow_right (by decide) (show h.Stoves.toNat≤3 by omega)) (by decide)⟩
theorem D7j {h:RoHouse} (ok:HOk h):B3h .i64 1 h.Stoves = some ((2 ^ h.Stoves.toNat:Nat):Int):= by
 have:=ok.s
 have e:=shl1 h.Stoves.toNat (by omega)
 rwa [Int.toNat_of_nonneg ok.s.1] at e
theorem C7r {h:RoHouse} (ok:HOk h):A00 h.Stoves = some ((2 ^ h.Stoves.toNat:Nat):Int):= by
 have:=ok.s
 have e:=D02 h.Stoves.toNat (by omega)
 rwa [Int.toNat_of_nonneg ok.s.1] at e
end Rm
end
section
set_option maxRecDepth 100000
set_option maxHeartbeats 0
namespace Rm
open Go Am Go.Proofs.YtbheamjhjgoccaaDoor.Cd
def A5m (a0:(List Int)) (a1:Int) (s1:Int):Option (Int ⊕ (Bool ⊕ Unit)) :=
 if (decide (s1 < (List.length a0:Int))) = true then
  (idx a0 s1).bind fun x4 =>
  if (x4 == a1) = true then
  some (.inr (.inl true))
  else
  some (.inl (w64 (s1 + 1)))
 else
  some (.inr (.inr ()))
def A3k (a0:(List Int)) (a1:Int):Option Bool :=
 (loop (A5m a0 a1) 0).bind fun (o6:(Bool ⊕ Unit)) =>
 match o6 with
 | (.inl vo6_0) =>
  some vo6_0
 | (.inr vo6_1) =>
  some false
theorem A7j {c:Sc} {H:A6} {a0:(List Int)} {a1:Int} {r:Bool} (h:A3k a0 a1 = some r) :
  E7 tab c H (.fn (.func 54) [] []) [(.seq 1 (List.map cI a0)),.i a1] [.b r]:= by
 unfold A3k at h
 refine cE rfl rfl<|s0<|qm rfl<|es (ra2 rfl rfl)<|B8<|s0<|qm rfl<|es (ra3 rfl rfl rfl)<|C6<|oB h fun o6 ho6 h=>wl (fun s1=>[(0,(.seq 1 (List.map cI a0))),(1,.i a1),(5,.i s1)]) (fun (q2:Unit) s1=>[]) 0 (fun r e s' H'=>(match r with | (.inl v)=>e = .ret∧RetQ H [.tmp 4] [.b v] e s' H' | (.inr v)=>PX 0 [] (H++[]) e s' H':Prop)) () ho6 rfl rfl (fun _ _=>rfl) (fun _=>rfl) rfl (fun s1=>(bdc G8 (bdc A5 (bdc A5 bdn)))) (fun q2 s1 ys1 hs1=>?_) ?_
 ·unfold A5m at hs1
  refine B8<|s0<|qm rfl<|qm rfl<|A0 (D9 (f:=cI) rfl) rfl<|A0 (G0 rfl rfl) rfl<|es (ra4 rfl rfl rfl rfl)<|wi hs1 rfl (fun hc3 hs1=>?_) fun hc3 hs1=>?_
  ·refine C1<|B8<|C6<|s0<|oB hs1 fun x4 hx4 hs1=>qm rfl<|qm rfl<|A0 (E3 (f:=cI) rfl rfl hx4) rfl<|A0 (E5 rfl rfl) rfl<|qm rfl<|A0 (F5 rfl rfl) rfl<|es (ra4 rfl rfl rfl rfl)<|wi hs1 rfl (fun hc5 hs1=>?_) fun hc5 hs1=>?_
   ·refine s0<|qm rfl<|es (ra1 rfl)<|C5 ?_
    obtain rfl:=os hs1
    exact lx rfl (And.intro rfl (retq trivial (A9 rfl B6) (A4 rfl B5) (A2 A5 B2))) (Sub.refl _)
   ·refine C1<|r0<|qm rfl<|A0 (E1 rfl rfl) rfl<|qm rfl<|en (ra3 rfl rfl rfl) ?_
    cases hs1
    exact lnT () rfl (su3 rfl rfl rfl)
  ·refine F0 ?_
   obtain rfl:=os hs1
   exact lx rfl px (.nil _)
 ·rcases o6 with vo6_0 | vo6_1
  ·rintro e s' H' - ⟨rfl,hret⟩
   cases h
   exact hret
  ·rintro e s' H' - ⟨rfl,rfl,rfl⟩
   refine s0<|qm rfl<|es (ra1 rfl)<|C5 ?_
   obtain rfl:=os h
   exact retq trivial (A9 rfl B6) (A4 rfl B5) (A2 A5 B2)
end Rm
end
section
namespace Rm
open Go Am
theorem B9b {α:Type} [Inhabited α] (l:List α) (p:α→Bool):(first (fun i=>if p l[i]! then some () else none) l.length).isSome = l.any p:= by
 rw [← C2v l p]
 have:(fun (i:Nat)=>if p l[i]! then some () else none) = fun (i:Nat)=>(if p l[i]! then some (i:Int) else none).map fun _=>():= by
  funext i; cases p l[i]! <;> rfl
 rw [this,A40,Option.isSome_map]
theorem C6f (l:List Int) (x:Int) (hl:l.length < 9223372036854775808):M0 l x = some (l.any (x == ·)):= by
 unfold M0 A0r
 obtain ⟨o,ho,hc⟩:=B6u l (fun y=>x == y) (b:=Q4 l x) hl (fun i hi=>by
  unfold Q4
  rw [if_pos (by simpa using hi),F3 hi]
  simp only [Option.bind_some]
  cases x == l[i]! <;> rfl) (by
  unfold Q4
  rw [if_neg (by simp)])
 rw [ho]
 rcases o with i | u
 ·simp only [Option.bind_some]
  rw [hc.2,decide_eq_true hc.1]
 ·simp only [Option.bind_some]
  rw [hc]; rfl
theorem C4y (l:List Int) (x:Int) (hl:l.length < 9223372036854775808):A3k l x = some (l.any (· == x)):= by
 unfold A3k
 have l1:=B0w (b:=A5m l x) l.length (fun (i:Nat)=>if l[i]! == x then some (.inl true) else none) (.inr ()) hl (fun i hi _=>by
  unfold A5m
  rw [if_pos (by simpa using hi),F3 hi]
  simp only [Option.bind_some]
  cases l[i]! == x <;> rfl) (by
  unfold A5m
  rw [if_neg (by simp)])
 rw [l1]
 have ha:=B9b l (· == x)
 have:(fun (i:Nat)=>if l[i]! == x then some (Sum.inl true:Bool ⊕ Unit) else none) = fun (i:Nat)=>(if l[i]! == x then some () else none).map fun _=>Sum.inl true:= by
  funext i; cases l[i]! == x <;> rfl
 rw [this,A40]
 cases hf:first (fun (i:Nat)=>if l[i]! == x then some () else none) l.length with
 | none=>rw [hf] at ha; rw [← ha]; rfl
 | some u=>rw [hf] at ha; rw [← ha]; rfl
def R0 (l:List Int) (i:Nat):Bool:=l[i]! != -1 && (l.take i).any (· == l[i]!)
def dup (l:List Int):Bool:=(first (fun i=>if R0 l i then some () else none) l.length).isSome
def K2 (h:RoHouse) (p:RoPlan):Int :=
 if (check h).2.2 != 0 then (check h).2.2 else
 if out 0 (((2 ^ h.Stoves.toNat:Nat):Int) - 1) p.Lit then 7 else
 if (p.At.length:Int) != (h.Figures.length:Int) then 3 else
 if p.At.any (out (-1) ((h.Places.length:Int) - 1)) then 4 else
 if dup p.At then 5 else 0
theorem D27 (l:List Int) (x:Int):l.any (x == ·) = l.any (· == x):= by
 congr 1
 funext y
 rw [Bool.eq_iff_iff,beq_iff_eq,beq_iff_eq]
 exact ⟨Eq.symm,Eq.symm⟩
def e (p:List Int) (i:Nat):Int:=if i < p.length then p[i]! + 1 else 0
def enc (p:List Int):Ar5 Int:=⟨e p 0,e p 1,e p 2,e p 3,e p 4⟩
theorem A82 (p:List Int):∀i:Nat,i < 5→idx (Ar5.l (enc p)) (i:Int) = some (e p i)
 | 0,_=>rfl
 | 1,_=>rfl
 | 2,_=>rfl
 | 3,_=>rfl
 | 4,_=>rfl
 | n + 5,h=>by omega
theorem C7w (p:List Int) {n j:Nat} (h:j < n):(p.take n)[j]! = p[j]!:= by
 by_cases c:j < p.length
 ·rw [getElem!_pos (p.take n) j (by rw [List.length_take]; omega),getElem!_pos p j c,List.getElem_take]
 ·rw [getElem!_neg (p.take n) j (by rw [List.length_take]; omega),getElem!_neg p j c]
theorem D3r (p:List Int) (n j:Nat):e (p.take n) j = if j < n then e p j else 0:= by
 unfold e
 rw [List.length_take]
 by_cases h:j < n
 ·rw [if_pos h,C7w p h]
  by_cases c:j < p.length
  ·rw [if_pos (by omega),if_pos c]
  ·rw [if_neg (by omega),if_neg c]
 ·rw [if_neg h,if_neg (by omega)]
theorem C94 (p:List Int) {i:Nat} (hi:i < p.length):Ar5.set (enc (p.take i)) (i:Int) (p[i]! + 1) = enc (p.take (i + 1)):= by
 have comp:∀j:Nat,(if (i:Int) = (j:Int) then p[i]! + 1 else e (p.take i) j) = e (p.take (i + 1)) j:= by
  intro j
  rw [D3r,D3r]
  by_cases h:i = j
  ·subst h
   rw [if_pos rfl,if_pos (by omega)]
   unfold e
   rw [if_pos hi]
  ·rw [if_neg (by omega)]
   by_cases c:j < i
   ·rw [if_pos c,if_pos (by omega)]
   ·rw [if_neg c,if_neg (by omega)]
 have q:=congr (congr (congr (congr (congrArg Ar5.mk (comp 0)) (comp 1)) (comp 2)) (comp 3)) (comp 4)
 exact q
structure PV (h:RoHouse) (p:List Int):Prop where
 len:p.length = h.Figures.length
 bd:∀i,i < p.length→-1≤p[i]!∧p[i]! < (h.Places.length:Int)
theorem B5y {h:RoHouse} (ok:HOk h) (p:RoPlan) (pv:PV h p.At):loop (X6 p) (0,⟨p.Lit,⟨0,0,0,0,0⟩⟩) = some (if dup p.At then .inr () else .inl ⟨p.Lit,enc p.At⟩):= by
 have h5:=ok.figures
 have hp:=ok.places
 have hl:=pv.len
 have l1:=A9z (b:=X6 p) (fun i=>((i:Int),room_plan.mk p.Lit (enc (p.At.take i)))) p.At.length (fun i=>if R0 p.At i then some (Sum.inr ()) else none) (.inl ⟨p.Lit,enc p.At⟩) (by omega) (fun i hi _=>by
  have hb:=pv.bd i hi
  unfold X6
  simp only []
  rw [if_pos (by simpa using hi),F3 hi]
  simp only [Option.bind_some]
  rw [B6e (Nat.le_of_lt hi)]
  simp only [Option.bind_some]
  rw [C6f _ _ (by rw [List.length_take]; omega),D27,A82 _ i (by omega),E0 (by omega),E0 (by omega),C94 _ hi]
  unfold R0
  cases p.At[i]! != -1
  ·rfl
  ·simp only [Option.bind_some,if_true,Bool.true_and]
   cases (p.At.take i).any (· == p.At[i]!) <;> rfl) (fun _=>by
  unfold X6
  simp only []
  rw [if_neg (by simp),List.take_length])
 have l1:loop (X6 p) (0,⟨p.Lit,⟨0,0,0,0,0⟩⟩) = _:=l1
 rw [l1]
 unfold dup
 have:(fun (i:Nat)=>if R0 p.At i then some (Sum.inr ():room_plan ⊕ Unit) else none) = fun (i:Nat)=>(if R0 p.At i then some () else none).map fun _=>Sum.inr ():= by
  funext i; cases R0 p.At i <;> rfl
 rw [this,A40]
 cases first (fun (i:Nat)=>if R0 p.At i then some () else none) p.At.length <;> rfl
theorem A1t {h:RoHouse} {p:RoPlan} (c:K2 h p = 0):HOk h∧PV h p.At∧(∃ l:Nat,p.Lit = l∧l < 2 ^ h.Stoves.toNat)∧dup p.At = false∧(check h).2.2 = 0:= by
 unfold K2 at c
 by_cases e0:(check h).2.2 = 0
 ·have ok:=R5 e0
  rw [if_neg (by simp [e0])] at c
  cases h1:out 0 (((2 ^ h.Stoves.toNat:Nat):Int) - 1) p.Lit with
  | true=>rw [h1,if_pos rfl] at c; exact absurd c (by decide)
  | false =>
  rw [h1,if_neg (by decide)] at c
  cases h2:(p.At.length:Int) != (h.Figures.length:Int) with
  | true=>rw [h2,if_pos rfl] at c; exact absurd c (by decide)
  | false =>
  rw [h2,if_neg (by decide)] at c
  cases h3:p.At.any (out (-1) ((h.Places.length:Int) - 1)) with
  | true=>rw [h3,if_pos rfl] at c; exact absurd c (by decide)
  | false =>
  rw [h3,if_neg (by decide)] at c
  cases h4:dup p.At with
  | true=>rw [h4,if_pos rfl] at c; exact absurd c (by decide)
  | false =>
  have b1:=L4.mp h1
  have h2:(p.At.length:Int) = (h.Figures.length:Int):= by
   by_cases q:(p.At.length:Int) = (h.Figures.length:Int)
   ·exact q
   ·rw [bne_iff_ne.mpr q] at h2; cases h2
  refine ⟨ok,⟨by omega,fun i hi=>?_⟩,⟨p.Lit.toNat,by omega,by omega⟩,rfl,e0⟩
  rw [List.any_eq_false] at h3
  have:=h3 _ (G2 hi)
  have:=L4.mp (by simpa using this:out (-1) ((h.Places.length:Int) - 1) p.At[i]! = false)
  omega
 ·rw [if_pos (bne_iff_ne.mpr e0)] at c
  exact absurd c e0
theorem B2f {α:Type} {h:RoHouse} (hb:NB h) (p:RoPlan) (hl:p.At.length < 9223372036854775808) (err:Int→α) (k:room_plan→Option α) {F:Option α}
  (hF:F = (Q0 h).bind fun x1=>if (x1.2.2 != 0) = true then some (err x1.2.2) else
   (B3h .i64 1 h.Stoves).bind fun x3=>(G6 0 (w64 (x3 - 1)) [p.Lit]).bind fun x4=>if x4 = true then some (err 7) else
   if ((List.length p.At:Int) != (List.length h.Figures:Int)) = true then some (err 3) else
   (G6 (-1) (w64 ((List.length h.Places:Int) - 1)) p.At).bind fun x7=>if x7 = true then some (err 4) else
   (loop (X6 p) (0,(room_plan.mk p.Lit (Ar5.mk 0 0 0 0 0)))).bind fun (o19:(room_plan ⊕ Unit))=>match o19 with | .inl v=>k v | .inr _=>some (err 5)) :
  F = if K2 h p = 0 then k ⟨p.Lit,enc p.At⟩ else some (err (K2 h p)):= by
 rw [hF,U1 h hb]
 simp only [Option.bind_some]
 by_cases c:K2 h p = 0
 ·obtain ⟨ok,pv,⟨l,hlit,hl2⟩,hd,e0⟩:=A1t c
  have hs:=A5l ok
  have hp:=ok.places
  have h2:=pv.len
  have o1:out 0 (((2 ^ h.Stoves.toNat:Nat):Int) - 1) p.Lit = false:=L4.mpr ⟨by omega,by omega⟩
  have o2:p.At.any (out (-1) ((h.Places.length:Int) - 1)) = false:= by
   rw [List.any_eq_false]
   intro x hx
   obtain ⟨i,hi,rfl⟩:=A6h hx
   have:=pv.bd i hi
   rw [L4.mpr ⟨by omega,by omega⟩]; decide
  rw [if_pos c,if_neg (by simp [e0]),D7j ok]
  simp only [Option.bind_some]
  rw [E0 (by omega),beyond1,o1]
  simp only [Option.bind_some,Bool.false_eq_true,if_false]
  rw [if_neg (by simp [h2]),E0 (by omega),B2t _ _ _ (by omega),o2]
  simp only [Option.bind_some,Bool.false_eq_true,if_false]
  rw [B5y ok p pv,hd]; rfl
 ·rw [if_neg c]
  unfold K2 at c ⊢
  by_cases e0:(check h).2.2 = 0
  ·have ok:=R5 e0
   have hs:=A5l ok
   have hp:=ok.places
   rw [if_neg (by simp [e0])] at c
   rw [if_neg (show ¬ ((check h).2.2 != 0) = true by simp [e0]),if_neg (show ¬ ((check h).2.2 != 0) = true by simp [e0]),D7j ok]
   simp only [Option.bind_some]
   rw [E0 (by omega),beyond1]
   simp only [Option.bind_some]
   cases h1:out 0 (((2 ^ h.Stoves.toNat:Nat):Int) - 1) p.Lit with
   | true=>rfl
   | false =>
   rw [h1,if_neg (by decide)] at c
   simp only [Bool.false_eq_true,if_false]
   cases h2:(p.At.length:Int) != (h.Figures.length:Int) with
   | true=>rfl
   | false =>
   rw [h2,if_neg (by decide)] at c
   simp only [Bool.false_eq_true,if_false]
   rw [E0 (by omega),B2t _ _ _ (by omega)]
   simp only [Option.bind_some]
   cases h3:p.At.any (out (-1) ((h.Places.length:Int) - 1)) with
   | true=>rfl
   | false =>
   rw [h3,if_neg (by decide)] at c
   simp only [Bool.false_eq_true,if_false]
   cases h4:dup p.At with
   | false=>rw [h4,if_neg (by decide)] at c; exact absurd rfl c
   | true =>
   have h2:(p.At.length:Int) = (h.Figures.length:Int):= by
    by_cases q:(p.At.length:Int) = (h.Figures.length:Int)
    ·exact q
    ·rw [bne_iff_ne.mpr q] at h2; cases h2
   rw [B5y ok p ⟨by omega,fun i hi=>by
    rw [List.any_eq_false] at h3
    have:=h3 _ (G2 hi)
    have:=L4.mp (by simpa using this:out (-1) ((h.Places.length:Int) - 1) p.At[i]! = false)
    omega⟩,h4]
   rfl
  ·rw [if_pos (bne_iff_ne.mpr e0),if_pos (bne_iff_ne.mpr e0)]
def plc (h:RoHouse) (p:List Int) (i:Nat):RoPlace:=h.Places[p[i]!.toNat]!
def con (h:RoHouse) (p:List Int) (k i:Nat):Int:=if i < p.length∧p[i]! ≠ -1∧bit (plc h p i).Joists.toNat k = true then h.Figures[i]!.Weight else 0
def F9 (h:RoHouse) (p:List Int) (k n:Nat):Int:=iter (fun i s=>s + con h p k i) n 0
theorem N3 (h:RoHouse) (p:List Int) (k n:Nat):F9 h p k (n + 1) = F9 h p k n + con h p k n:=rfl
theorem B35 (h:RoHouse) (p:List Int) (k:Nat):∀n,F9 h p k (p.length + n) = F9 h p k p.length
 | 0=>rfl
 | n + 1=>by
  rw [← Nat.add_assoc,N3,B35 h p k n]
  unfold con
  rw [if_neg (by omega)]; omega
theorem C8b {h:RoHouse} (ok:HOk h) {p:List Int} (pv:PV h p) (k i:Nat):0≤con h p k i∧con h p k i≤500:= by
 unfold con
 by_cases c:i < p.length∧p[i]! ≠ -1∧bit (plc h p i).Joists.toNat k = true
 ·rw [if_pos c]
  have:=(ok.figure _ (G2 (show i < h.Figures.length by rw [← pv.len]; exact c.1))).weight
  omega
 ·rw [if_neg c]; omega
theorem B34 {h:RoHouse} (ok:HOk h) {p:List Int} (pv:PV h p) (k:Nat):∀n,0≤F9 h p k n∧F9 h p k n≤500 * n
 | 0=>by unfold F9 iter; omega
 | n + 1=>by
  have ih:=B34 ok pv k n
  have:=C8b ok pv k n
  rw [N3]; omega
def arr (f:Nat→Int):Ar4 Int:=⟨f 0,f 1,f 2,f 3⟩
theorem C9z (f:Nat→Int):∀k:Nat,k < 4→idx (Ar4.l (arr f)) (k:Int) = some (f k)
 | 0,_=>rfl
 | 1,_=>rfl
 | 2,_=>rfl
 | 3,_=>rfl
 | n + 4,h=>by omega
theorem D51 (f:Nat→Int) (k:Nat) (v:Int):Ar4.set (arr f) (k:Int) v = arr (fun j=>if j = k then v else f j):= by
 have comp:∀j:Nat,(if (k:Int) = (j:Int) then v else f j) = (if j = k then v else f j):= by
  intro j
  by_cases h:j = k
  ·subst h; rw [if_pos rfl,if_pos rfl]
  ·rw [if_neg (by omega),if_neg h]
 have q:=congr (congr (congr (congrArg Ar4.mk (comp 0)) (comp 1)) (comp 2)) (comp 3)
 exact q
theorem B2s {f g:Nat→Int} (h:∀k,k < 4→f k = g k):arr f = arr g:= by
 unfold arr
 rw [h 0 (by omega),h 1 (by omega),h 2 (by omega),h 3 (by omega)]
theorem C3l {h:RoHouse} (ok:HOk h) {q:RoPlace} (hq:PlOk h q):q.Joists = (q.Joists.toNat:Int)∧q.Joists.toNat < 16:= by
 have h1:=hq.joists
 have:2 ^ h.Holds.length≤2 ^ 4:=Nat.pow_le_pow_right (by decide) ok.holds
 omega
theorem shown {h:RoHouse} {p:List Int} (pv:PV h p) {i:Nat} (hi:i < p.length) (hs:p[i]! ≠ -1):∃q:Nat,p[i]! = q∧q < h.Places.length∧plc h p i = h.Places[q]!:= by
 have:=pv.bd i hi
 refine ⟨p[i]!.toNat,by omega,by omega,rfl⟩
theorem D4f {h:RoHouse} (ok:HOk h) {p:List Int} (pv:PV h p) {i:Nat} (hi:i < p.length) (hs:p[i]! ≠ -1) (a:Ar4 Int) :
  loop (P0 ⟨h⟩ ((i:Int),a) (e p i)) (0,arr (fun k=>if k < h.Holds.length then F9 h p k i else 0)) = some (arr (fun k=>if k < h.Holds.length then F9 h p k (i + 1) else 0)):= by
 have h5:=ok.figures
 have hp:=ok.places
 have hh:=ok.holds
 have hl:=pv.len
 obtain ⟨q,hq1,hq2,hq3⟩:=shown pv hi hs
 have hj:=C3l ok (ok.place _ (G2 hq2))
 have l1:=I2 (b:=P0 ⟨h⟩ ((i:Int),a) (e p i)) (fun n=>((n:Int),arr (fun k=>if k < h.Holds.length then (if k < n then F9 h p k (i + 1) else F9 h p k i) else 0))) h.Holds.length (r:=arr (fun k=>if k < h.Holds.length then F9 h p k (i + 1) else 0)) (by omega) (fun n hn=>by
  have b1:=B34 ok pv n i
  have b2:=C8b ok pv n i
  unfold P0
  simp only []
  rw [if_pos (by simpa using hn)]
  have he:w64 (e p i - 1) = (q:Int):= by
   unfold e
   rw [if_pos hi,E0 (by omega)]; omega
  rw [he,F3 hq2]
  simp only [Option.bind_some]
  rw [hj.1,C4m _ hj.2 n (by omega)]
  simp only [Option.bind_some]
  rw [C54 _ (Nat.lt_of_le_of_lt (Nat.div_le_self _ _) hj.2),C9z _ n (by omega),F3 (show i < h.Figures.length by omega),if_pos hn,if_neg (Nat.lt_irrefl n)]
  simp only [Option.bind_some]
  have hc:con h p n i = if bit h.Places[q]!.Joists.toNat n = true then h.Figures[i]!.Weight else 0:= by
   unfold con
   rw [hq3]
   cases bit h.Places[q]!.Joists.toNat n
   ·rw [if_neg (by simp),if_neg (by simp)]
   ·rw [if_pos ⟨hi,hs,rfl⟩,if_pos rfl]
  rw [E0 (n:=(n:Int) + 1) (by omega)]
  show (if bit h.Places[q]!.Joists.toNat n = true then _ else _) = _
  cases hb:bit h.Places[q]!.Joists.toNat n with
  | true =>
   rw [hb,if_pos rfl] at hc
   rw [if_pos rfl,← hc,E0 (by omega),D51]
   congr 3
   apply B2s
   intro k hk
   by_cases hkn:k = n
   ·subst hkn
    rw [if_pos rfl,if_pos hn,if_pos (by omega),N3]
   ·rw [if_neg hkn]
    by_cases c:k < h.Holds.length
    ·rw [if_pos c,if_pos c]
     by_cases c2:k < n
     ·rw [if_pos c2,if_pos (by omega)]
     ·rw [if_neg c2,if_neg (by omega)]
    ·rw [if_neg c,if_neg c]
  | false =>
   rw [hb,if_neg (by decide)] at hc
   rw [if_neg (by decide)]
   congr 3
   apply B2s
   intro k hk
   by_cases hkn:k = n
   ·subst hkn
    rw [if_pos hn,if_pos hn,if_neg (Nat.lt_irrefl k),if_pos (by omega),N3,hc]; omega
   ·by_cases c:k < h.Holds.length
    ·rw [if_pos c,if_pos c]
     by_cases c2:k < n
     ·rw [if_pos c2,if_pos (by omega)]
     ·rw [if_neg c2,if_neg (by omega)]
    ·rw [if_neg c,if_neg c]) (by
  unfold P0
  simp only []
  rw [if_neg (by simp)]
  congr 2
  apply B2s
  intro k hk
  by_cases c:k < h.Holds.length
  ·rw [if_pos c,if_pos c,if_pos c]
  ·rw [if_neg c,if_neg c])
 have e0:(fun (k:Nat)=>if k < h.Holds.length then (if k < 0 then F9 h p k (i + 1) else F9 h p k i) else 0) = fun (k:Nat)=>if k < h.Holds.length then F9 h p k i else 0:= by
  funext k
  rw [if_neg (Nat.not_lt_zero k)]
 have l1:loop (P0 ⟨h⟩ ((i:Int),a) (e p i)) (0,arr (fun (k:Nat)=>if k < h.Holds.length then (if k < 0 then F9 h p k (i + 1) else F9 h p k i) else 0)) = _:=l1
 rw [e0] at l1
 exact l1
def B0v (h:RoHouse) (p:List Int):Ar4 Int:=arr (fun k=>if k < h.Holds.length then F9 h p k p.length else 0)
theorem C6x {h:RoHouse} (ok:HOk h) {p:List Int} (pv:PV h p):T7 ⟨h⟩ (enc p) = some (B0v h p):= by
 have h5:=ok.figures
 have hp:=ok.places
 have hl:=pv.len
 unfold T7
 have l1:=I2 (b:=S6 ⟨h⟩ (enc p)) (fun i=>((i:Int),arr (fun k=>if k < h.Holds.length then F9 h p k i else 0))) 5 (r:=B0v h p) (by omega) (fun i hi=>by
  unfold S6
  simp only []
  rw [if_pos (by rw [decide_eq_true_eq]; omega),A82 p i hi]
  simp only [Option.bind_some]
  have hc0:∀k,(i < p.length→p[i]! = -1)→F9 h p k (i + 1) = F9 h p k i:= by
   intro k hx
   rw [N3]
   unfold con
   rw [if_neg (fun hq=>hq.2.1 (hx hq.1))]; omega
  by_cases c:i < p.length∧p[i]! ≠ -1
  ·have hb:=pv.bd i c.1
   have hne:(e p i == 0) = false:= by
    rw [beq_eq_false_iff_ne]
    unfold e
    rw [if_pos c.1]; have:=c.2; omega
   rw [hne,if_neg (by decide),D4f ok pv c.1 c.2]
   simp only [Option.bind_some]
   rw [E0 (by omega)]; rfl
  ·have hz:(e p i == 0) = true:= by
    rw [beq_iff_eq]
    unfold e
    by_cases c1:i < p.length
    ·rw [if_pos c1]
     have:p[i]! = -1:=Classical.byContradiction fun hq=>c ⟨c1,hq⟩
     omega
    ·rw [if_neg c1]
   rw [hz,if_pos rfl,E0 (by omega)]
   have:∀k,F9 h p k (i + 1) = F9 h p k i:=fun k=>hc0 k fun c1=>Classical.byContradiction fun hq=>c ⟨c1,hq⟩
   simp only [this]
   rfl) (by
  unfold S6
  simp only []
  rw [if_neg (show ¬ decide (((5:Nat):Int) < 5) = true by rw [decide_eq_true_eq]; omega)]
  unfold B0v
  congr 2
  apply B2s
  intro k _
  have:=B35 h p k (5 - p.length)
  rw [show p.length + (5 - p.length) = 5 by omega] at this
  simp only [this])
 have e0:arr (fun k=>if k < h.Holds.length then F9 h p k 0 else 0) = Ar4.mk 0 0 0 0:= by
  have:(fun k=>if k < h.Holds.length then F9 h p k 0 else 0) = fun _=>(0:Int):= by
   funext k
   by_cases c:k < h.Holds.length
   ·rw [if_pos c]; rfl
   ·rw [if_neg c]
  rw [this]; rfl
 have l1:loop (S6 ⟨h⟩ (enc p)) (0,arr (fun k=>if k < h.Holds.length then F9 h p k 0 else 0)) = _:=l1
 rw [e0] at l1
 rw [l1]; rfl
theorem C2u {n:Nat} {p:Nat→Bool}:(first (fun i=>if p i then none else some ()) n).isNone = (List.range n).all p:= by
 cases hf:first (fun i=>if p i then none else some ()) n with
 | none =>
  have h0:=K5.mp hf
  symm
  rw [Option.isNone_none,List.all_eq_true]
  intro i hi
  have:=h0 i (List.mem_range.mp hi)
  cases hp:p i with
  | true=>rfl
  | false=>rw [hp] at this; exact absurd this (by simp)
 | some u =>
  obtain ⟨i,hi,h1,_⟩:=Y1 hf
  symm
  rw [Option.isNone_some,List.all_eq_false]
  refine ⟨i,List.mem_range.mpr hi,?_⟩
  cases hp:p i with
  | true=>rw [hp] at h1; exact absurd h1 (by simp)
  | false=>decide
theorem A79 {b:Int→Option (Int ⊕ (Bool ⊕ Unit))} (n:Nat) (p:Nat→Bool) (hn:n < 9223372036854775808)
  (hs:∀i:Nat,i < n→b (i:Int) = some (if p i then .inl (w64 ((i:Int) + 1)) else .inr (.inl false))) (he:b (n:Int) = some (.inr (.inr ()))) :
  loop b 0 = some (if (List.range n).all p then .inr () else .inl false):= by
 rw [B0w n (fun i=>if p i then none else some (.inl false)) (.inr ()) hn (fun i hi _=>by rw [hs i hi]; cases p i <;> rfl) he,← C2u]
 have:(fun (i:Nat)=>if p i then none else some (Sum.inl false:Bool ⊕ Unit)) = fun (i:Nat)=>(if p i then none else some ()).map fun _=>Sum.inl false:= by
  funext i; cases p i <;> rfl
 rw [this,A40]
 cases first (fun (i:Nat)=>if p i then none else some ()) n <;> rfl
def R7 (h:RoHouse) (p:List Int):Bool:=(List.range h.Holds.length).all fun k=>decide (F9 h p k p.length≤h.Holds[k]!)
theorem D33 {h:RoHouse} (ok:HOk h) {p:List Int} (pv:PV h p):A1q ⟨h⟩ (enc p) = some (R7 h p):= by
 have hh:=ok.holds
 unfold A1q
 rw [C6x ok pv]
 simp only [Option.bind_some]
 rw [A79 (b:=W2 ⟨h⟩ (B0v h p)) 4 (fun k=>if k < h.Holds.length then decide (F9 h p k p.length≤h.Holds[k]!) else true) (by omega) (fun k hk=>by
  unfold W2 B0v
  rw [if_pos (by rw [decide_eq_true_eq]; omega),C9z _ k hk]
  simp only [Option.bind_some]
  by_cases c:k < h.Holds.length
  ·rw [if_pos c,if_pos (by rw [decide_eq_true_eq]; exact Int.ofNat_lt.mpr c),F3 c,if_pos c]
   simp only [Option.bind_some]
   by_cases q:F9 h p k p.length≤h.Holds[k]!
   ·rw [decide_eq_true q,decide_eq_false (show ¬ (F9 h p k p.length > h.Holds[k]!) by omega)]; rfl
   ·rw [decide_eq_false q,decide_eq_true (show (F9 h p k p.length > h.Holds[k]!) by omega)]; rfl
  ·rw [if_neg c,if_neg (by rw [decide_eq_true_eq]; intro q; exact c (Int.ofNat_lt.mp q)),if_neg c]; rfl) (by
  unfold W2
  rw [if_neg (by rw [decide_eq_true_eq]; omega)])]
 simp only [Option.bind_some]
 have e1:(List.range 4).all (fun k=>if k < h.Holds.length then decide (F9 h p k p.length≤h.Holds[k]!) else true) = R7 h p:= by
  unfold R7
  rw [Bool.eq_iff_iff,List.all_eq_true,List.all_eq_true]
  constructor
  ·intro q k hk
   have:=q k (List.mem_range.mpr (by have:=List.mem_range.mp hk; omega))
   rwa [if_pos (List.mem_range.mp hk)] at this
  ·intro q k _
   by_cases c:k < h.Holds.length
   ·rw [if_pos c]; exact q k (List.mem_range.mpr c)
   ·rw [if_neg c]
 rw [e1]
 cases R7 h p <;> rfl
def dear (h:RoHouse) (p:List Int) (c:Int) (i:Nat):Int:=if i < p.length∧p[i]! ≠ -1∧(plc h p i).Dear = true∧h.Figures[i]!.Class = c then 1 else 0
def K4 (h:RoHouse) (p:List Int) (c:Int) (n:Nat):Int:=iter (fun i s=>s + dear h p c i) n 0
theorem A0s (h:RoHouse) (p:List Int) (c:Int) (n:Nat):K4 h p c (n + 1) = K4 h p c n + dear h p c n:=rfl
theorem D6a (h:RoHouse) (p:List Int) (c:Int) (i:Nat):0≤dear h p c i∧dear h p c i≤1:= by
 unfold dear
 split <;> omega
theorem A6c (h:RoHouse) (p:List Int) (c:Int):∀n,0≤K4 h p c n∧K4 h p c n≤n
 | 0=>by unfold K4 iter; omega
 | n + 1=>by
  have ih:=A6c h p c n
  have:=D6a h p c n
  rw [A0s]; omega
theorem C1s (h:RoHouse) (p:List Int) (c:Int):∀n,K4 h p c (p.length + n) = K4 h p c p.length
 | 0=>rfl
 | n + 1=>by
  rw [← Nat.add_assoc,A0s,C1s h p c n]
  unfold dear
  rw [if_neg (by omega)]; omega
def A1b (b:List Int) (c:Int) (n:Nat):Int:=iter (fun i s=>s + if b[i]! == c then 1 else 0) n 0
theorem A4m (b:List Int) (c:Int) (n:Nat):A1b b c (n + 1) = A1b b c n + if b[n]! == c then 1 else 0:=rfl
theorem B9j (b:List Int) (c:Int):∀n,0≤A1b b c n∧A1b b c n≤n
 | 0=>by unfold A1b iter; omega
 | n + 1=>by
  have ih:=B9j b c n
  rw [A4m]
  split <;> omega
theorem B9k (b:List Int) (c:Int) {m:Nat}:∀{n:Nat},m≤n→A1b b c m≤A1b b c n
 | 0,h=>by have:m = 0:= by omega
           subst this; omega
 | n + 1,h=>by
  by_cases e:m = n + 1
  ·subst e; omega
  ·have ih:=B9k b c (m:=m) (n:=n) (by omega)
   rw [A4m]
   split <;> omega
def A1s (h:RoHouse) (p:List Int):Bool:=(List.range 10).all fun c=>decide (A1b h.Bill (c:Int) h.Bill.length≤K4 h p (c:Int) p.length)
def gd (m:List (Int × Int)) (c:Int):Int:=(kget m c).getD 0
theorem C4w (m:List (Int × Int)) (k v c:Int):gd (kset m k v) c = if c = k then v else gd m c:= by
 unfold gd
 rw [C3m]
 by_cases h:c = k
 ·rw [if_pos h,if_pos h]; rfl
 ·rw [if_neg h,if_neg h]
theorem prom1 {h:RoHouse} (ok:HOk h) {p:List Int} (pv:PV h p):∃m,loop (O6 ⟨h⟩ (enc p)) (0,[]) = some m∧∀ c,gd m c = K4 h p c p.length:= by
 have h5:=ok.figures
 have hp:=ok.places
 have hl:=pv.len
 refine B98 (b:=O6 ⟨h⟩ (enc p)) (fun i s=>s.1 = (i:Int)∧∀ c,gd s.2 c = K4 h p c i) 5 (fun m=>∀ c,gd m c = K4 h p c p.length) (by omega) ?_ ?_ (0,[]) ⟨rfl,fun c=>rfl⟩
 ·rintro i ⟨i',m⟩ hi ⟨h1,h2⟩
  simp only at h1 h2
  subst h1
  unfold O6
  simp only []
  rw [if_pos (by rw [decide_eq_true_eq]; omega),A82 p i hi]
  simp only [Option.bind_some]
  rw [E0 (n:=(i:Int) + 1) (by omega)]
  have same:∀c,(∀ c,dear h p c i = 0)→gd m c = K4 h p c (i + 1):=fun c hd=>by rw [A0s,hd c,Int.add_zero]; exact h2 c
  by_cases c1:i < p.length
  ·have hb:=pv.bd i c1
   have he:e p i = p[i]! + 1:= by unfold e; rw [if_pos c1]
   by_cases hs:p[i]! = -1
   ·rw [if_neg (by rw [decide_eq_true_eq]; omega)]
    exact ⟨_,rfl,rfl,fun c=>same c fun c=>by unfold dear; rw [if_neg (fun hq=>hq.2.1 hs)]⟩
   ·obtain ⟨q,hq1,hq2,hq3⟩:=shown pv c1 hs
    rw [if_pos (by rw [decide_eq_true_eq]; omega),he,E0 (by omega),show p[i]! + 1 - 1 = (q:Int) by omega,F3 hq2]
    simp only [Option.bind_some]
    cases hd:h.Places[q]!.Dear with
    | false =>
     rw [if_neg (by decide)]
     exact ⟨_,rfl,rfl,fun c=>same c fun c=>by unfold dear; rw [hq3,hd,if_neg (fun z=>absurd z.2.2.1 (by decide))]⟩
    | true =>
     rw [if_pos rfl,F3 (show i < h.Figures.length by omega)]
     simp only [Option.bind_some]
     refine ⟨_,rfl,rfl,fun c=>?_⟩
     have b1:=A6c h p h.Figures[i]!.Class i
     have h3:=h2 h.Figures[i]!.Class
     have h3:(kget m h.Figures[i]!.Class).getD 0 = K4 h p h.Figures[i]!.Class i:=h3
     rw [C4w,h3,E0 (by omega),A0s]
     unfold dear
     rw [hq3,hd]
     by_cases hc:c = h.Figures[i]!.Class
     ·subst hc
      rw [if_pos rfl,if_pos ⟨c1,hs,by trivial,rfl⟩]
     ·rw [if_neg hc,if_neg (fun z=>hc z.2.2.2.symm),Int.add_zero]; exact h2 c
  ·have he:e p i = 0:= by unfold e; rw [if_neg c1]
   rw [he,if_neg (by decide)]
   exact ⟨_,rfl,rfl,fun c=>same c fun c=>by unfold dear; rw [if_neg (fun hq=>c1 hq.1)]⟩
 ·rintro ⟨i',m⟩ ⟨h1,h2⟩
  simp only at h1 h2
  subst h1
  unfold O6
  simp only []
  rw [if_neg (show ¬ decide (((5:Nat):Int) < 5) = true by rw [decide_eq_true_eq]; omega)]
  refine ⟨m,rfl,fun c=>?_⟩
  have:=C1s h p c (5 - p.length)
  rw [show p.length + (5 - p.length) = 5 by omega] at this
  rw [h2 c,this]
theorem B5g {h:RoHouse} (ok:HOk h) (p:List Int):A1s h p = true↔∀ i,i < h.Bill.length→A1b h.Bill h.Bill[i]! (i + 1)≤K4 h p h.Bill[i]! p.length:= by
 unfold A1s
 rw [List.all_eq_true]
 constructor
 ·intro q i hi
  have hb:=ok.class_ _ (G2 hi)
  have:=q h.Bill[i]!.toNat (List.mem_range.mpr (by omega))
  rw [decide_eq_true_eq,show ((h.Bill[i]!.toNat:Nat):Int) = h.Bill[i]! by omega] at this
  have m:=B9k h.Bill h.Bill[i]! (m:=i + 1) (n:=h.Bill.length) (by omega)
  omega
 ·intro q c _
  rw [decide_eq_true_eq]
  have key:∀n,n≤h.Bill.length→A1b h.Bill (c:Int) n≤K4 h p (c:Int) p.length:= by
   intro n
   induction n with
   | zero=>intro _; exact (A6c h p (c:Int) p.length).1
   | succ n ih =>
    intro hn
    by_cases e:h.Bill[n]! = (c:Int)
    ·have:=q n (by omega)
     rwa [e] at this
    ·rw [A4m,if_neg (by rw [beq_iff_eq]; exact e),Int.add_zero]
     exact ih (by omega)
  exact key _ (Nat.le_refl _)
theorem prom2 {h:RoHouse} (ok:HOk h) {p:List Int} {m:List (Int × Int)} (pl:p.length≤5) (hm:∀c,gd m c = K4 h p c p.length):∃r,loop (O7 ⟨h⟩) (0,m) = some r∧(match r with | .inl v=>v = false∧A1s h p = false | .inr _=>A1s h p = true):= by
 have hb3:=ok.bill
 refine B65 (b:=O7 ⟨h⟩) (fun i s=>s.1 = (i:Int)∧(∀ c,gd s.2 c = K4 h p c p.length - A1b h.Bill c i)∧∀ j,j < i→A1b h.Bill h.Bill[j]! (j + 1)≤K4 h p h.Bill[j]! p.length) h.Bill.length (fun r=>match r with | .inl v=>v = false∧A1s h p = false | .inr _=>A1s h p = true) (by omega) ?_ ?_ (0,m) ⟨rfl,fun c=>by rw [hm c]; show _ = _ - (0:Int); omega,fun j hj=>absurd hj (Nat.not_lt_zero j)⟩
 ·rintro i ⟨i',m'⟩ hi ⟨h1,h2,h3⟩
  simp only at h1 h2
  subst h1
  unfold O7
  simp only []
  rw [if_pos (by simpa using hi),F3 hi]
  simp only [Option.bind_some]
  have b1:=A6c h p h.Bill[i]! p.length
  have b2:=B9j h.Bill h.Bill[i]! i
  have h4:=h2 h.Bill[i]!
  have h5:(kget m' h.Bill[i]!).getD 0 = K4 h p h.Bill[i]! p.length - A1b h.Bill h.Bill[i]! i:=h4
  have e1:A1b h.Bill h.Bill[i]! (i + 1) = A1b h.Bill h.Bill[i]! i + 1:= by rw [A4m,if_pos (beq_self_eq_true _)]
  rw [h5,E0 (n:=K4 h p h.Bill[i]! p.length - A1b h.Bill h.Bill[i]! i - 1) (by omega),E0 (n:=(i:Int) + 1) (by omega)]
  have g1:=C4w m' h.Bill[i]! (K4 h p h.Bill[i]! p.length - A1b h.Bill h.Bill[i]! i - 1) h.Bill[i]!
  rw [if_pos rfl] at g1
  have g2:(kget (kset m' h.Bill[i]! (K4 h p h.Bill[i]! p.length - A1b h.Bill h.Bill[i]! i - 1)) h.Bill[i]!).getD 0 = K4 h p h.Bill[i]! p.length - A1b h.Bill h.Bill[i]! i - 1:=g1
  rw [g2]
  by_cases c:K4 h p h.Bill[i]! p.length - A1b h.Bill h.Bill[i]! i - 1 < 0
  ·right
   rw [if_pos (by rw [decide_eq_true_eq]; exact c)]
   refine ⟨_,rfl,rfl,?_⟩
   cases hk:A1s h p with
   | false=>rfl
   | true =>
    have:=(B5g ok p).mp hk i hi
    omega
  ·left
   rw [if_neg (by rw [decide_eq_true_eq]; exact c)]
   refine ⟨_,rfl,rfl,fun c=>?_,fun j hj=>?_⟩
   ·rw [C4w,A4m]
    by_cases hc:c = h.Bill[i]!
    ·rw [if_pos hc,hc,if_pos (beq_self_eq_true _)]; omega
    ·rw [if_neg hc,if_neg (by rw [beq_iff_eq]; exact fun q=>hc q.symm),Int.add_zero]; exact h2 c
   ·by_cases hji:j = i
    ·subst hji; omega
    ·exact h3 j (by omega)
 ·rintro ⟨i',m'⟩ ⟨h1,_,h3⟩
  simp only at h1
  subst h1
  unfold O7
  simp only []
  rw [if_neg (by simp)]
  exact ⟨_,rfl,(B5g ok p).mpr h3⟩
theorem C7a {h:RoHouse} (ok:HOk h) {p:List Int} (pv:PV h p):W3 ⟨h⟩ (enc p) = some (A1s h p):= by
 have h5:=ok.figures
 have hl:=pv.len
 unfold W3
 obtain ⟨m,e1,hm⟩:=prom1 ok pv
 obtain ⟨r,e2,hr⟩:=prom2 ok (by omega) hm
 by_cases hz:((enc p).x0 == 0 && ((enc p).x1 == 0 && ((enc p).x2 == 0 && ((enc p).x3 == 0 && ((enc p).x4 == 0 && true))))) = true
 ·rw [if_pos hz]
  have hall:∀i,i < 5→e p i = 0:= by
   simp only [Bool.and_eq_true,beq_iff_eq] at hz
   intro i hi
   match i,hi with
   | 0,_=>exact hz.1
   | 1,_=>exact hz.2.1
   | 2,_=>exact hz.2.2.1
   | 3,_=>exact hz.2.2.2.1
   | 4,_=>exact hz.2.2.2.2.1
  have ht:∀c,∀ n,K4 h p c n = 0:= by
   intro c n
   induction n with
   | zero=>rfl
   | succ n ih =>
    rw [A0s,ih]
    unfold dear
    rw [if_neg (show ¬ (n < p.length∧p[n]! ≠ -1∧(plc h p n).Dear = true∧h.Figures[n]!.Class = c) from fun q=>by
     have q1:=q.1
     have:=hall n (by omega)
     unfold e at this
     rw [if_pos q.1] at this
     exact q.2.1 (by omega))]
    rfl
  by_cases hb:h.Bill.length = 0
  ·have:A1s h p = true:=(B5g ok p).mpr fun i hi=>by omega
   rw [this,hb]; rfl
  ·have:A1s h p = false:= by
    cases hk:A1s h p with
    | false=>rfl
    | true =>
     have:=(B5g ok p).mp hk 0 (by omega)
     rw [ht,A4m,if_pos (beq_self_eq_true _)] at this
     have:(0:Int) + 1≤0:=this
     omega
   rw [this]
   congr 1
   show ((h.Bill.length:Int) == 0) = false
   exact beq_eq_false_iff_ne.mpr (by omega)
 ·rw [if_neg hz,e1]
  simp only [Option.bind_some]
  rw [e2]
  simp only [Option.bind_some]
  cases r with
  | inl v=>rw [hr.1,hr.2]
  | inr m=>rw [hr]
theorem B81 {h:RoHouse} (ok:HOk h) {p:List Int} (pv:PV h p) (last:Bool):M7 ⟨h⟩ (enc p) last = some (R7 h p && (!last || A1s h p)):= by
 unfold M7
 rw [D33 ok pv,C7a ok pv]
 cases last <;> cases R7 h p <;> cases A1s h p <;> rfl
def A3q (h:RoHouse) (p:List Int) (n:Nat):Int:=iter (fun i s=>s + if i < p.length∧p[i]! ≠ -1 then h.Figures[i]!.Worth else 0) n 0
theorem A5y (h:RoHouse) (p:List Int) (n:Nat):A3q h p (n + 1) = A3q h p n + if n < p.length∧p[n]! ≠ -1 then h.Figures[n]!.Worth else 0:=rfl
theorem A8u {h:RoHouse} (ok:HOk h) {p:List Int} (pv:PV h p):∀n,0≤A3q h p n∧A3q h p n≤100 * n
 | 0=>by unfold A3q iter; omega
 | n + 1=>by
  have ih:=A8u ok pv n
  rw [A5y]
  by_cases c:n < p.length∧p[n]! ≠ -1
  ·have:=(ok.figure _ (G2 (show n < h.Figures.length by rw [← pv.len]; exact c.1))).worth
   rw [if_pos c]; omega
  ·rw [if_neg c]; omega
theorem C11 (h:RoHouse) (p:List Int):∀n,A3q h p (p.length + n) = A3q h p p.length
 | 0=>rfl
 | n + 1=>by
  rw [← Nat.add_assoc,A5y,C11 h p n,if_neg (by omega)]; omega
def worth (h:RoHouse) (p:List Int):Int:=A3q h p p.length
theorem C71 {h:RoHouse} (ok:HOk h) {p:List Int} (pv:PV h p):T8 ⟨h⟩ (enc p) = some (worth h p):= by
 have h5:=ok.figures
 have hp:=ok.places
 have hl:=pv.len
 unfold T8
 have l1:loop (S7 ⟨h⟩ (enc p)) (0,0) = some (worth h p):=I2 (b:=S7 ⟨h⟩ (enc p)) (fun i=>(A3q h p i,(i:Int))) 5 (by omega) (fun i hi=>by
  have b1:=A8u ok pv i
  unfold S7
  simp only []
  rw [if_pos (by rw [decide_eq_true_eq]; omega),A82 p i hi]
  simp only [Option.bind_some]
  rw [E0 (n:=(i:Int) + 1) (by omega),A5y]
  by_cases c:i < p.length∧p[i]! ≠ -1
  ·have hb:=pv.bd i c.1
   have hw:=(ok.figure _ (G2 (show i < h.Figures.length by rw [← pv.len]; exact c.1))).worth
   have he:e p i > 0:= by unfold e; rw [if_pos c.1]; have:=c.2; omega
   rw [if_pos (by rw [decide_eq_true_eq]; exact he),F3 (show i < h.Figures.length by have:=c.1; omega),if_pos c]
   simp only [Option.bind_some]
   rw [E0 (by omega)]; rfl
  ·have he:¬ e p i > 0:= by
    unfold e
    by_cases c1:i < p.length
    ·rw [if_pos c1]
     have:p[i]! = -1:=Classical.byContradiction fun hq=>c ⟨c1,hq⟩
     omega
    ·rw [if_neg c1]; omega
   rw [if_neg (by rw [decide_eq_true_eq]; exact he),if_neg c,Int.add_zero]; rfl) (by
  unfold S7
  simp only []
  rw [if_neg (show ¬ decide (((5:Nat):Int) < 5) = true by rw [decide_eq_true_eq]; omega)]
  have:=C11 h p (5 - p.length)
  rw [show p.length + (5 - p.length) = 5 by omega] at this
  rw [this]; rfl)
 rw [l1]; rfl
def X1 (h:RoHouse) (l:Nat) (p:List Int) (i:Nat):Bool:=p[i]! == -1 || L6 (warm h p[i]!.toNat l) h.Figures[i]! == 1
def A39 (h:RoHouse) (l:Nat) (p:List Int):Bool:=(List.range p.length).all (X1 h l p)
def Q2 (h:RoHouse) (l:Nat) (p:List Int):Bool:=A39 h l p && (R7 h p && A1s h p)
theorem C43 {n m:Nat} {p:Nat→Bool} (hnm:n≤m) (hp:∀i,n≤i→i < m→p i = true):(List.range m).all p = (List.range n).all p:= by
 rw [Bool.eq_iff_iff,List.all_eq_true,List.all_eq_true]
 constructor
 ·intro q i hi
  exact q i (List.mem_range.mpr (by have:=List.mem_range.mp hi; omega))
 ·intro q i hi
  by_cases c:i < n
  ·exact q i (List.mem_range.mpr c)
  ·exact hp i (by omega) (List.mem_range.mp hi)
theorem D1u {b:Int→Option (Int ⊕ (Unit ⊕ Unit))} (n:Nat) (p:Nat→Bool) (hn:n < 9223372036854775808)
  (hs:∀i:Nat,i < n→b (i:Int) = some (if p i then .inl (w64 ((i:Int) + 1)) else .inr (.inr ()))) (he:b (n:Int) = some (.inr (.inl ()))) :
  loop b 0 = some (if (List.range n).all p then .inl () else .inr ()):= by
 rw [B0w n (fun i=>if p i then none else some (.inr ())) (.inl ()) hn (fun i hi _=>by rw [hs i hi]; cases p i <;> rfl) he,← C2u]
 have:(fun (i:Nat)=>if p i then none else some (Sum.inr ():Unit ⊕ Unit)) = fun (i:Nat)=>(if p i then none else some ()).map fun _=>Sum.inr ():= by
  funext i; cases p i <;> rfl
 rw [this,A40]
 cases first (fun (i:Nat)=>if p i then none else some ()) n <;> rfl
theorem D0z {h:RoHouse} (ok:HOk h) {p:List Int} (pv:PV h p) {l:Nat} (hl16:l < 16):loop (A03 h ⟨(l:Int),enc p⟩) 0 = some (if A39 h l p then .inl () else .inr ()):= by
 have h5:=ok.figures
 have hp:=ok.places
 have hl:=pv.len
 rw [D1u (b:=A03 h ⟨(l:Int),enc p⟩) 5 (fun i=>if i < p.length then X1 h l p i else true) (by omega) (fun i hi=>by
  unfold A03
  rw [if_pos (by rw [decide_eq_true_eq]; omega),A82 p i hi]
  simp only [Option.bind_some]
  by_cases c1:i < p.length
  ·have hb:=pv.bd i c1
   have he:e p i = p[i]! + 1:= by unfold e; rw [if_pos c1]
   rw [if_pos c1]
   unfold X1
   by_cases hs:p[i]! = -1
   ·rw [if_neg (by rw [decide_eq_true_eq]; omega),hs]; rfl
   ·obtain ⟨q,hq1,hq2,_⟩:=shown pv c1 hs
    rw [if_pos (by rw [decide_eq_true_eq]; omega),he,E0 (by omega),show p[i]! + 1 - 1 = (q:Int) by omega,B8y ok (show i < h.Figures.length by omega) hq2 hl16]
    simp only [Option.bind_some]
    rw [hq1,Int.toNat_natCast]
    have:((q:Int) == -1) = false:=beq_eq_false_iff_ne.mpr (by omega)
    rw [this,Bool.false_or,bne]
    cases L6 (warm h q l) h.Figures[i]! == 1 <;> rfl
  ·have he:e p i = 0:= by unfold e; rw [if_neg c1]
   rw [he,if_neg c1,if_neg (by decide)]; rfl) (by
  unfold A03
  rw [if_neg (by rw [decide_eq_true_eq]; omega)])]
 have:(List.range 5).all (fun i=>if i < p.length then X1 h l p i else true) = A39 h l p:= by
  rw [C43 (n:=p.length) (by omega) (fun i hi _=>if_neg (by omega))]
  unfold A39
  rw [Bool.eq_iff_iff,List.all_eq_true,List.all_eq_true]
  constructor
  ·intro q i hi
   have:=q i hi
   rwa [if_pos (List.mem_range.mp hi)] at this
  ·intro q i hi
   rw [if_pos (List.mem_range.mp hi)]; exact q i hi
 rw [this]
theorem lit16 {h:RoHouse} (ok:HOk h) {l:Nat} (hl:l < 2 ^ h.Stoves.toNat):l < 16:= by
 have:=A5l ok
 omega
def A4k (h:RoHouse) (p:RoPlan):Int × Int:=if K2 h p = 0 then (if Q2 h p.Lit.toNat p.At then (worth h p.At,0) else (0,9)) else (0,K2 h p)
theorem C5r {h:RoHouse} (hb:NB h) (p:RoPlan) (hl:p.At.length < 9223372036854775808):A29 h p = some (A4k h p):= by
 rw [B2f hb p hl (fun c=>((0:Int),c)) (fun v=>(loop (A03 h v) 0).bind fun (o28:(Unit ⊕ Unit))=>match o28 with | (.inl _)=>(M7 (room_house.mk h) v.at_ true).bind fun x29=>if (!x29) = true then some (0,9) else (T8 (room_house.mk h) v.at_).bind fun x31=>some (x31,0) | (.inr _)=>some (0,9)) (F:=A29 h p) rfl]
 unfold A4k
 by_cases c:K2 h p = 0
 ·obtain ⟨ok,pv,⟨l,hlit,hl2⟩,_,_⟩:=A1t c
  rw [if_pos c,if_pos c]
  simp only []
  rw [hlit,D0z ok pv (lit16 ok hl2),Int.toNat_natCast]
  simp only [Option.bind_some]
  unfold Q2
  cases A39 h l p.At with
  | false=>rfl
  | true =>
   rw [if_pos rfl]
   simp only []
   rw [B81 ok pv,C71 ok pv]
   cases R7 h p.At <;> cases A1s h p.At <;> rfl
 ·rw [if_neg c,if_neg c]
def B5d (p:List Int) (i:Nat):Prop:=i < p.length∧p[i]! ≠ -1
def left (h:RoHouse) (l:Nat) (p:List Int) (i:Nat):Int:=B1n ((warm h p[i]!.toNat l).Lo - h.Figures[i]!.Cracks) (h.Figures[i]!.Slumps - (warm h p[i]!.toNat l).Hi)
instance (p:List Int) (i:Nat):Decidable (B5d p i):=inferInstanceAs (Decidable (_∧_))
end Rm
end
section
set_option maxRecDepth 100000
set_option maxHeartbeats 0
namespace Rm
open Go Am Go.Proofs.YtbheamjhjgoccaaDoor.Cd
def A0x (a0:(List Int)) (a1:Int):Option Int :=
 if ((List.length a0:Int) == 0) = true then
  some 0
 else
  (B7f a1 (List.length a0:Int)).bind fun x2 =>
  (idx a0 x2).bind fun x3 =>
  some (w64 x3)
theorem A6j {c:Sc} {H:A6} {a0:(List Int)} {a1:Int} {r:Int} (h:A0x a0 a1 = some r) :
  E7 tab c H (.fn (.func 49) [] []) [(.seq 1 (List.map Z5 a0)),.i a1] [.i r]:= by
 unfold A0x at h
 refine cE rfl rfl<|s0<|qm rfl<|es (ra2 rfl rfl)<|B8<|s0<|qm rfl<|A0 (D9 (f:=Z5) rfl) rfl<|A0 (F5 rfl rfl) rfl<|es (ra3 rfl rfl rfl)<|wi h rfl (fun hc1 h=>?_) fun hc1 h=>?_
 ·refine s0<|qm rfl<|es (ra1 rfl)<|C5 ?_
  obtain rfl:=os h
  exact retq trivial (A9 rfl B6) (A4 rfl B5) (A2 A5 B2)
 ·refine C1<|s0<|oB h fun x2 hx2 h=>oB h fun x3 hx3 h=>qm rfl<|qm rfl<|qm rfl<|A0 (D9 (f:=Z5) rfl) rfl<|A0 (B7r rfl rfl hx2) rfl<|A0 (E3 (f:=Z5) rfl rfl hx3) rfl<|A0 (E5 rfl rfl) rfl<|A0 (A4p rfl) rfl<|qm rfl<|es (ra1 rfl)<|C5 ?_
  obtain rfl:=os h
  exact retq trivial (A9 rfl B6) (A4 rfl B5) (A2 A5 B2)
def B0u (a0:RoHouse) (s1:(Int × Int)):Option ((Int × Int) ⊕ Int) :=
 if (decide (s1.2 < a0.Stoves)) = true then
  some (.inl ((w64 (2 * s1.1)),(w64 (s1.2 + 1))))
 else
  some (.inr s1.1)
def A5b (a0:RoHouse) (a1:(List Int)) (a2:Bool) (s7:(Int × RoPlan)):Option ((Int × RoPlan) ⊕ RoPlan) :=
 if (decide (s7.1 < (List.length a0.Figures:Int))) = true then
  (A0x a1 (w64 (s7.1 + 1))).bind fun x10 =>
  (B7f x10 (w64 ((List.length a0.Places:Int) + 1))).bind fun x11 =>
  (A3k s7.2.At (w64 (x11 - 1))).bind fun x12 =>
  (if x12 = true then
  some true
  else
  (if (((w64 (x11 - 1)) != (-1)) && a2) = true then
   (idx a0.Figures s7.1).bind fun x16 =>
   (O0 a0 x16 (w64 (x11 - 1)) s7.2.Lit).bind fun x17 =>
   some (x17 != 1)
  else
   some false).bind fun x18 =>
  some x18).bind fun x19 =>
  if x19 = true then
  (app 8 ([]:List Int) s7.2.At).bind fun x21 =>
  (app 8 x21 [(-1)]).bind fun x22 =>
  some (.inl ((w64 (s7.1 + 1)),(RoPlan.mk s7.2.Lit x22)))
  else
  (app 8 ([]:List Int) s7.2.At).bind fun x23 =>
  (app 8 x23 [(w64 (x11 - 1))]).bind fun x24 =>
  some (.inl ((w64 (s7.1 + 1)),(RoPlan.mk s7.2.Lit x24)))
 else
  some (.inr s7.2)
def A7s (a0:RoHouse) (a1:(List Int)) (a2:Bool):Option RoPlan :=
 (loop (B0u a0) (1,0)).bind fun (o4:Int) =>
 (A0x a1 0).bind fun x5 =>
 (B7f x5 o4).bind fun x6 =>
 (loop (A5b a0 a1 a2) (0,(RoPlan.mk x6 ([]:List Int)))).bind fun (o25:RoPlan) =>
 some o25
theorem B5o {c:Sc} {H:A6} {a0:RoHouse} {a1:(List Int)} {a2:Bool} {r:RoPlan} (h:A7s a0 a1 a2 = some r) :
  E7 tab c H (.fn (.func 52) [] []) [(.agg (A3 a0)),(.seq 1 (List.map Z5 a1)),.b a2] [(.agg (B1 r))]:= by
 unfold A7s at h
 refine cE rfl rfl<|sg 0 rfl<|A0 (E8 (cs:=A3 a0) rfl rfl rfl) rfl<|A0 D5 rfl<|es (ra4 rfl rfl rfl rfl)<|s0<|qm rfl<|es (ra5 rfl rfl rfl rfl rfl)<|B8<|s0<|qm rfl<|es (ra6 rfl rfl rfl rfl rfl rfl)<|C6<|oB h fun o4 ho4 h=>wl (fun s1=>[(1,(.seq 1 (List.map Z5 a1))),(2,.b a2),(3,(.ptr (H.length + 0) 0)),(6,(.ptr (H.length + 1) 0)),(7,.i s1.1),(8,.i s1.2)]) (fun (q2:Unit) s1=>[(.cells (A3 a0)),(.cells (B1 (RoPlan.mk 0 ([]:List Int))))]) 2 (fun r e s' H'=>PX 0 [(1,(.seq 1 (List.map Z5 a1))),(2,.b a2),(3,(.ptr (H.length + 0) 0)),(6,(.ptr (H.length + 1) 0)),(7,.i r)] (H++[(.cells (A3 a0)),(.cells (B1 (RoPlan.mk 0 ([]:List Int))))]) e s' H') () ho4 rfl rfl (fun _ _=>rfl) (fun _=>rfl) rfl (fun s1=>(bdc G8 (bdc A5 (bdc (D8 rfl) (bdc (D8 rfl) (bdc A5 (bdc A5 bdn))))))) (fun q2 s1 ys1 hs1=>?_) ?_
 ·unfold B0u at hs1
  refine B8<|s0<|qm rfl<|A0 (C4 rfl) rfl<|A0 (C2 rfl rfl rfl) rfl<|A0 (G0 rfl rfl) rfl<|es (ra7 rfl rfl rfl rfl rfl rfl rfl)<|wi hs1 rfl (fun hc3 hs1=>?_) fun hc3 hs1=>?_
  ·refine C1<|B8<|C6<|r0<|qm rfl<|A0 (C50 rfl rfl) rfl<|qm rfl<|en (ra6 rfl rfl rfl rfl rfl rfl)<|r0<|qm rfl<|A0 (E1 rfl rfl) rfl<|qm rfl<|en (ra6 rfl rfl rfl rfl rfl rfl) ?_
   cases hs1
   exact lnT () rfl (su6 rfl rfl rfl rfl rfl rfl)
  ·refine F0 ?_
   obtain rfl:=os hs1
   exact lx rfl px (su5 rfl rfl rfl rfl rfl)
 ·rintro e s' H' - ⟨rfl,rfl,rfl⟩
  refine sg 2 rfl<|oB h fun x5 hx5 h=>oB h fun x6 hx6 h=>qm rfl<|B4 (rs:=[.i x5]) rfl rfl (A1 rfl (A1 rfl B7)) ((A6j hx5).frz)<|qm rfl<|A0 (B7r rfl rfl hx6) rfl<|A0 (G3 (cs:=B1 (RoPlan.mk x6 ([]:List Int))) rfl rfl) rfl<|A0 D5 rfl<|F2 (D0 (ds:=(B1 (RoPlan.mk x6 ([]:List Int)))) rfl rfl rfl rfl (B9 rfl) rfl) rfl<|es (ra5 rfl rfl rfl rfl rfl)<|B8<|s0<|qm rfl<|es (ra6 rfl rfl rfl rfl rfl rfl)<|C6<|oB h fun o25 ho25 h=>wl (fun s7=>[(1,(.seq 1 (List.map Z5 a1))),(2,.b a2),(3,(.ptr (H.length + 0) 0)),(6,(.ptr (H.length + 1) 0)),(9,(.ptr (H.length + 2) 0)),(10,.i s7.1)]) (fun (q8:Unit) s7=>[(.cells (A3 a0)),(.cells (B1 (RoPlan.mk 0 ([]:List Int)))),(.cells (B1 s7.2))]) 3 (fun r e s' H'=>PX 2 [(6,(.ptr (H.length + 1) 0)),(9,(.ptr (H.length + 2) 0))] (H++[(.cells (A3 a0)),(.cells (B1 (RoPlan.mk 0 ([]:List Int)))),(.cells (B1 r))]) e s' H') () ho25 rfl rfl (fun _ _=>rfl) (fun _=>rfl) rfl (fun s7=>(bdc G8 (bdc A5 (bdc (D8 rfl) (bdc (D8 rfl) (bdc (D8 rfl) (bdc A5 bdn))))))) (fun q8 s7 ys7 hs7=>?_) ?_
  ·unfold A5b at hs7
   refine B8<|s0<|qm rfl<|A0 (C4 rfl) rfl<|A0 (C2 rfl rfl rfl) rfl<|A0 (D9 (f:=B3) rfl) rfl<|A0 (G0 rfl rfl) rfl<|es (ra7 rfl rfl rfl rfl rfl rfl rfl)<|wi hs7 rfl (fun hc9 hs7=>?_) fun hc9 hs7=>?_
   ·refine C1<|B8<|C6<|s0<|oB hs7 fun x10 hx10 hs7=>oB hs7 fun x11 hx11 hs7=>qm rfl<|qm rfl<|A0 (E1 rfl rfl) rfl<|W1 (rs:=[.i x10]) rfl rfl (K3 rfl (K3 rfl A2n)) (A1 rfl (A1 rfl B7)) ((A6j hx10).frz)<|A0 (C4 rfl) rfl<|A0 (C2 rfl rfl rfl) rfl<|A0 (D9 (f:=C3) rfl) rfl<|A0 (E1 rfl rfl) rfl<|A0 (B7r rfl rfl hx11) rfl<|A0 (X4 rfl rfl) rfl<|qm rfl<|es (ra7 rfl rfl rfl rfl rfl rfl rfl)<|B8<|s0<|oB hs7 fun x12 hx12 hs7=>oB hs7 fun x19 hx19 hs7=>A0 (C4 rfl) rfl<|A0 (C2 rfl rfl rfl) rfl<|qm rfl<|B4 (rs:=[.b x12]) rfl rfl (A1 rfl (A1 rfl B7)) ((A7j hx12).frz)<|qm rfl<|gp 19 65 (.b x19) 46 rfl rfl (fun hg13=>?_) (fun hg13=>?_) ?_
    ·obtain rfl:=os (bt hx19 hg13)
     exact nF rfl hg13 rfl<|nF rfl hg13 rfl<|nF rfl hg13 rfl<|nX rfl rfl<|nF rfl hg13 rfl<|nF rfl hg13 rfl<|nX rfl rfl<|nX rfl rfl<|nX rfl rfl<|nX rfl rfl<|nX rfl rfl<|nX rfl rfl<|nX rfl rfl<|nX rfl rfl<|nX rfl rfl<|G7 (B4l rfl) rfl<|nX rfl rfl<|nF rfl hg13 rfl<|A0 (C8 rfl hg13 rfl) rfl<|ge 19 rfl rfl rfl
    ·refine oB (bf hx19 hg13) fun x18 hx18 hx19=>?_
     obtain rfl:=os hx19
     refine gF rfl hg13<|qm rfl<|gF rfl hg13<|A0 (F7 rfl rfl) rfl<|gF rfl hg13<|qm rfl<|gq 2 51 (.b (((w64 (x11 - 1)) != (-1)) && a2)) 49 rfl rfl (fun hg14=>?_) (fun hg14=>?_) ?_
     ·exact gT rfl hg14<|qm rfl<|gF rfl hg13<|A0 (C8 rfl hg14 rfl) rfl<|ge 2 (by rw [hg14]; rfl) rfl rfl
     ·exact nT rfl hg14 rfl<|gF rfl hg13<|A0 (C9 rfl hg14 rfl) rfl<|ge 2 (by rw [hg14]; rfl) rfl rfl
     refine gF rfl hg13<|qm rfl<|gq 12 64 (.b x18) 52 rfl rfl (fun hg15=>?_) (fun hg15=>?_) ?_
     ·refine oB (bt hx18 hg15) fun x16 hx16 hx18=>oB hx18 fun x17 hx17 hx18=>?_
      obtain rfl:=os hx18
      exact gT rfl hg15<|A0 (C0 rfl rfl rfl) rfl<|gT rfl hg15<|A0 (C4 rfl) rfl<|gT rfl hg15<|A0 (C2 rfl rfl rfl) rfl<|gT rfl hg15<|qm rfl<|gT rfl hg15<|A0 (E3 (f:=B3) rfl rfl hx16) rfl<|gT rfl hg15<|A0 (N6 rfl rfl) rfl<|gT rfl hg15<|qm rfl<|gT rfl hg15<|A0 (C4 rfl) rfl<|gT rfl hg15<|A0 (C2 rfl rfl rfl) rfl<|gT rfl hg15<|B4 (rs:=[.i x17]) rfl rfl (A1 (D1 rfl) (A1 (D1 rfl) (A1 rfl (A1 rfl B7)))) ((A1d hx17).frz)<|gT rfl hg15<|A0 (F7 rfl rfl) rfl<|gF rfl hg13<|A0 (C8 rfl hg15 rfl) rfl<|ge 12 rfl rfl rfl
     ·obtain rfl:=os (bf hx18 hg15)
      exact nT rfl hg15 rfl<|nT rfl hg15 rfl<|nT rfl hg15 rfl<|nT rfl hg15 rfl<|nT rfl hg15 rfl<|nT rfl hg15 rfl<|nT rfl hg15 rfl<|nT rfl hg15 rfl<|nT rfl hg15 rfl<|G7 (E6 rfl (by rw [hg15]; rfl)) rfl<|nT rfl hg15 rfl<|gF rfl hg13<|A0 (C9 rfl hg15 rfl) rfl<|ge 12 rfl rfl rfl
     exact A0 (C9 rfl hg13 rfl) rfl<|ge 7 rfl rfl rfl
    refine es (ra8 rfl rfl rfl rfl rfl rfl rfl rfl)<|wi hs7 rfl (fun hc20 hs7=>?_) fun hc20 hs7=>?_
    ·refine r0<|qm rfl<|en (ra7 rfl rfl rfl rfl rfl rfl rfl)<|rg 3 rfl<|oB hs7 fun x21 hx21 hs7=>oB hs7 fun x22 hx22 hs7=>A0 (B5m (rows:=List.map cI []) rfl rfl (F4 (fun _=>rfl) _)) rfl<|A0 (C4 rfl) rfl<|A0 (C2 rfl rfl rfl) rfl<|A80 (A54 (f:=cI) rfl rfl rfl rfl A3v (fun _=>rfl) hx21) rfl<|qm rfl<|A0 (K8 (rows:=List.map cI [(-1)]) rfl rfl (F4 (fun _=>rfl) _)) rfl<|A80 (B84 (f:=cI) rfl rfl rfl rfl A3v (fun _=>rfl) hx22) rfl<|A0 (C4 rfl) rfl<|F2 (D0 (ds:=(B1 (RoPlan.mk s7.2.Lit x22))) rfl rfl rfl rfl (B9 rfl) rfl) rfl<|en (ra6 rfl rfl rfl rfl rfl rfl)<|r0<|qm rfl<|A0 (E1 rfl rfl) rfl<|qm rfl<|en (ra6 rfl rfl rfl rfl rfl rfl) ?_
     cases hs7
     exact lnT () rfl (su6 rfl rfl rfl rfl rfl rfl)
    ·refine C1<|rg 3 rfl<|oB hs7 fun x23 hx23 hs7=>oB hs7 fun x24 hx24 hs7=>A0 (B5m (rows:=List.map cI []) rfl rfl (F4 (fun _=>rfl) _)) rfl<|A0 (C4 rfl) rfl<|A0 (C2 rfl rfl rfl) rfl<|A80 (A54 (f:=cI) rfl rfl rfl rfl A3v (fun _=>rfl) hx23) rfl<|qm rfl<|A0 (K8 (rows:=List.map cI [(w64 (x11 - 1))]) rfl rfl (F4 (fun _=>rfl) _)) rfl<|A80 (B84 (f:=cI) rfl rfl rfl rfl A3v (fun _=>rfl) hx24) rfl<|A0 (C4 rfl) rfl<|F2 (D0 (ds:=(B1 (RoPlan.mk s7.2.Lit x24))) rfl rfl rfl rfl (B9 rfl) rfl) rfl<|en (ra6 rfl rfl rfl rfl rfl rfl)<|r0<|qm rfl<|A0 (E1 rfl rfl) rfl<|qm rfl<|en (ra6 rfl rfl rfl rfl rfl rfl) ?_
     cases hs7
     exact lnT () rfl (su6 rfl rfl rfl rfl rfl rfl)
   ·refine F0 ?_
    obtain rfl:=os hs7
    exact lx rfl px (su2 rfl rfl)
  ·rintro e s' H' - ⟨rfl,rfl,rfl⟩
   refine s0<|A0 (C0 rfl rfl rfl) rfl<|F2 (D0 (ds:=(B1 o25)) rfl rfl rfl rfl (B9 rfl) rfl) rfl<|es (ra1 rfl)<|C5 ?_
   obtain rfl:=os h
   exact retq trivial (F8 (E9 (ds:=B1 o25) rfl rfl rfl rfl) B6) (A4 (I0 rfl) B5) (A2 (G5 rfl) B2)
def A0m (a0:RoHouse):Option Bool :=
 (X5 a0).bind fun x1 =>
 some (x1.2.2 == 0)
theorem A2w {c:Sc} {H:A6} {a0:RoHouse} {r:Bool} (h:A0m a0 = some r) :
  E7 tab c H (.fn (.func 43) [] []) [(.agg (A3 a0))] [.b r]:= by
 unfold A0m at h
 refine cE rfl rfl<|sg 0 rfl<|A0 (E8 (cs:=A3 a0) rfl rfl rfl) rfl<|qm rfl<|es (ra1 rfl)<|s0<|oB h fun x1 hx1 h=>A0 (C0 rfl rfl rfl) rfl<|B4 (rs:=[.i x1.1,.i x1.2.1,.i x1.2.2]) rfl rfl (A1 (D1 rfl) B7) ((A1e hx1).frz)<|qm rfl<|A0 (A7 rfl rfl) rfl<|A0 (A7 rfl rfl) rfl<|A0 (A7 rfl rfl) rfl<|qm rfl<|qm rfl<|qm rfl<|es (ra1 rfl)<|s0<|qm rfl<|A0 (F5 rfl rfl) rfl<|qm rfl<|es (ra1 rfl)<|C5 ?_
 obtain rfl:=os h
 exact retq trivial (A9 rfl B6) (A4 rfl B5) (A2 A5 B2)
end Rm
end
section
namespace Rm
open Go Am
def N8 (l:List Int):Prop:=l.length < 9223372036854775808∧∀ x ∈ l,0≤x∧x < 256
theorem A9b {a b:Int} (ha:0≤a) (hb:0 < b):∃r,B7f a b = some r∧0≤r∧r < b:= by
 unfold B7f
 rw [if_neg (by omega)]
 exact ⟨a.tmod b,rfl,Int.tmod_nonneg _ ha,Int.tmod_lt_of_pos _ hb⟩
theorem B87 {l:List Int} (h:N8 l) (n:Nat):∃r,A0x l (n:Int) = some r∧0≤r∧r < 256:= by
 have h1:=h.1
 unfold A0x
 by_cases c:l.length = 0
 ·rw [if_pos (by rw [c]; rfl)]; exact ⟨0,rfl,by omega,by omega⟩
 ·rw [if_neg (by rw [beq_iff_eq]; omega)]
  obtain ⟨r,h1,h2,h3⟩:=A9b (a:=(n:Int)) (b:=(l.length:Int)) (by omega) (by omega)
  rw [h1]
  simp only [Option.bind_some]
  rw [show r = ((r.toNat:Nat):Int) by omega,F3 (show r.toNat < l.length by omega)]
  have hb:=h.2 _ (G2 (show r.toNat < l.length by omega))
  simp only [Option.bind_some]
  rw [E0 (by omega)]
  exact ⟨_,rfl,hb.1,hb.2⟩
theorem C1w (h:RoHouse):A0m h = some ((check h).2.2 == 0):= by
 unfold A0m
 rw [S4]; rfl
theorem C37 {h:RoHouse} (ok:HOk h) {b:Int × Int→Option ((Int × Int) ⊕ Int)} (hb:∀s,b s = if (decide (s.2 < h.Stoves)) = true then some (.inl ((w64 (2 * s.1)),(w64 (s.2 + 1)))) else some (.inr s.1)):loop b (1,0) = some ((2 ^ h.Stoves.toNat:Nat):Int):= by
 have e:=C7r ok
 unfold A00 at e
 have hbe:b = A01 h.Stoves:= by
  funext s
  rw [hb]; rfl
 rw [hbe]
 cases hl:loop (A01 h.Stoves) (1,0) with
 | none=>rw [hl] at e; cases e
 | some r=>rw [hl] at e; exact e
theorem A3c (l:List Int) (v:Int) (j:Nat):(l++[v])[j]! = if j < l.length then l[j]! else if j = l.length then v else default:= by
 by_cases c:j < l.length
 ·rw [if_pos c,getElem!_pos (l++[v]) j (by rw [List.length_append]; omega),getElem!_pos l j c,List.getElem_append_left c]
 ·rw [if_neg c]
  by_cases c2:j = l.length
  ·subst c2
   rw [if_pos rfl,getElem!_pos (l++[v]) l.length (by rw [List.length_append]; simp),List.getElem_append_right (Nat.le_refl _)]
   simp
  ·rw [if_neg c2,getElem!_neg (l++[v]) j (by rw [List.length_append]; simp; omega)]
theorem B6i {l:List Int} {v:Int} {j:Nat} (hj:j < l.length):R0 (l++[v]) j = R0 l j:= by
 unfold R0
 rw [A3c,if_pos hj,List.take_append_of_le_length (by omega)]
theorem B6h (l:List Int) (v:Int):R0 (l++[v]) l.length = (v != -1 && l.any (· == v)):= by
 unfold R0
 rw [A3c,if_neg (Nat.lt_irrefl _),if_pos rfl,List.take_left' rfl]
theorem B2w (l:List Int):dup l = false↔∀ i,i < l.length→R0 l i = false:= by
 unfold dup
 constructor
 ·intro h i hi
  cases hf:first (fun i=>if R0 l i then some () else none) l.length with
  | some u=>rw [hf] at h; cases h
  | none =>
   have:=K5.mp hf i hi
   cases ht:R0 l i with
   | false=>rfl
   | true=>rw [ht] at this; exact absurd this (by simp)
 ·intro h
  rw [K5.mpr fun i hi=>by rw [h i hi]; rfl]; rfl
structure AnyOk (h:RoHouse) (safe:Bool) (p:RoPlan):Prop where
 pv:PV h p.At
 lit:∃l:Nat,p.Lit = l∧l < 2 ^ h.Stoves.toNat
 dup:dup p.At = false
 safe:safe = true→A39 h p.Lit.toNat p.At = true
theorem D75 {h:RoHouse} (ok:HOk h) {x:List Int} (hx:N8 x) (safe:Bool):∃p,A7s h x safe = some p∧AnyOk h safe p:= by
 have h5:=ok.figures
 have hp:=ok.places
 have hpw:=A5l ok
 unfold A7s
 rw [C37 ok (b:=B0u h) (fun _=>rfl)]
 simp only [Option.bind_some]
 obtain ⟨r,e1,r0,r1⟩:=B87 hx 0
 have e1:A0x x 0 = some r:=e1
 rw [e1]
 simp only [Option.bind_some]
 obtain ⟨l,e2,l0,l1⟩:=A9b (a:=r) (b:=((2 ^ h.Stoves.toNat:Nat):Int)) r0 (by omega)
 rw [e2]
 simp only [Option.bind_some]
 have hl16:l.toNat < 16:= by omega
 obtain ⟨p,h1,h2⟩:=B98 (b:=A5b h x safe) (fun i s=>s.1 = (i:Int)∧s.2.Lit = l∧s.2.At.length = i∧(∀ j,j < i→-1≤s.2.At[j]!∧s.2.At[j]! < (h.Places.length:Int))∧(∀ j,j < i→R0 s.2.At j = false)∧(safe = true→∀ j,j < i→X1 h l.toNat s.2.At j = true)) h.Figures.length (AnyOk h safe) (by omega) (by
  rintro i ⟨n,⟨li,at_⟩⟩ hi ⟨h1,h2,h3,h4,h6,h7⟩
  simp only at h1 h2 h3 h4 h6 h7
  subst h1
  subst h2
  unfold A5b
  simp only []
  obtain ⟨r,e1,r0,r1⟩:=B87 hx (i + 1)
  rw [if_pos (by rw [decide_eq_true_eq]; omega),E0 (n:=(i:Int) + 1) (by omega),show ((i:Int) + 1) = ((i + 1:Nat):Int) by omega,e1]
  simp only [Option.bind_some]
  obtain ⟨z,e2,z0,z1⟩:=A9b (a:=r) (b:=(h.Places.length:Int) + 1) r0 (by omega)
  rw [E0 (n:=(h.Places.length:Int) + 1) (by omega),e2]
  simp only [Option.bind_some]
  rw [E0 (n:=z - 1) (by omega),C4y _ _ (by omega)]
  simp only [Option.bind_some]
  have step:∀v:Int,(-1≤v∧v < (h.Places.length:Int))→(v ≠ -1→at_.any (· == v) = false)→(safe = true→v ≠ -1→L6 (warm h v.toNat li.toNat) h.Figures[i]! = 1) →
    ∃ s',((app 8 ([]:List Int) at_).bind fun x21=>(app 8 x21 [v]).bind fun x22=>some (Sum.inl (((i + 1:Nat):Int),RoPlan.mk li x22):(Int × RoPlan) ⊕ RoPlan)) = some (.inl s')∧(s'.1 = ((i + 1:Nat):Int)∧s'.2.Lit = li∧s'.2.At.length = i + 1∧(∀ j,j < i + 1→-1≤s'.2.At[j]!∧s'.2.At[j]! < (h.Places.length:Int))∧(∀ j,j < i + 1→R0 s'.2.At j = false)∧(safe = true→∀ j,j < i + 1→X1 h li.toNat s'.2.At j = true)):= by
   intro v hv1 hv2 hv3
   rw [A50 (by omega) (by simp; omega)]
   simp only [Option.bind_some,List.nil_append]
   rw [A50 (by omega) (by simp; omega)]
   simp only [Option.bind_some]
   refine ⟨_,rfl,rfl,rfl,by simp [h3],fun j hj=>?_,fun j hj=>?_,fun hs j hj=>?_⟩
   ·simp only []
    rw [A3c]
    by_cases c:j < at_.length
    ·rw [if_pos c]; exact h4 j (by omega)
    ·rw [if_neg c,if_pos (by omega)]; exact hv1
   ·simp only []
    by_cases c:j < at_.length
    ·rw [B6i c]; exact h6 j (by omega)
    ·rw [show j = at_.length by omega,B6h]
     by_cases c2:v = -1
     ·rw [c2]; rfl
     ·rw [hv2 c2,Bool.and_false]
   ·simp only []
    unfold X1
    rw [A3c]
    by_cases c:j < at_.length
    ·rw [if_pos c]
     have:=h7 hs j (by omega)
     unfold X1 at this
     exact this
    ·rw [if_neg c,if_pos (by omega),show j = i by omega]
     by_cases c2:v = -1
     ·rw [c2]; rfl
     ·rw [hv3 hs c2]; simp
  cases hh:at_.any (· == z - 1) with
  | true =>
   simp only [if_true,Option.bind_some]
   exact step (-1) (by omega) (fun q=>absurd rfl q) (fun _ q=>absurd rfl q)
  | false =>
   simp only [Bool.false_eq_true,if_false,Option.bind_some]
   by_cases c:((z - 1 != -1) && safe) = true
   ·rw [if_pos c]
    rw [Bool.and_eq_true,bne_iff_ne] at c
    obtain ⟨q,hq⟩:∃q:Nat,z - 1 = q:=⟨(z - 1).toNat,by omega⟩
    rw [hq] at hh ⊢
    rw [F3 hi]
    simp only [Option.bind_some]
    have hb:=B0i ok (ok.figure _ (G2 hi)) (show q < h.Places.length by omega) hl16
    rw [show ((li.toNat:Nat):Int) = li by omega] at hb
    rw [hb]
    simp only [Option.bind_some]
    by_cases hf:L6 (warm h q li.toNat) h.Figures[i]! = 1
    ·rw [if_neg (by rw [hf]; decide)]
     exact step q (by omega) (fun _=>hh) (fun _ _=>by rw [Int.toNat_natCast]; exact hf)
    ·rw [if_pos (bne_iff_ne.mpr hf)]
     exact step (-1) (by omega) (fun q=>absurd rfl q) (fun _ q=>absurd rfl q)
   ·rw [if_neg c]
    simp only [Option.bind_some,Bool.false_eq_true,if_false]
    refine step (z - 1) (by omega) (fun _=>hh) (fun hs hv=>absurd ?_ c)
    rw [Bool.and_eq_true,bne_iff_ne]
    exact ⟨hv,hs⟩) (by
  rintro ⟨n,p⟩ ⟨h1,h2,h3,h4,h6,h7⟩
  simp only at h1 h2 h3 h4 h6 h7
  subst h1
  unfold A5b
  simp only []
  rw [if_neg (by simp)]
  refine ⟨p,rfl,⟨h3,fun i hi=>h4 i (by omega)⟩,⟨l.toNat,by omega,by omega⟩,(B2w _).mpr fun i hi=>h6 i (by omega),fun hs=>?_⟩
  unfold A39
  rw [List.all_eq_true]
  intro i hi
  rw [h2]
  exact h7 hs i (by have:=List.mem_range.mp hi; omega)) (0,RoPlan.mk l []) ⟨rfl,rfl,rfl,fun j hj=>absurd hj (Nat.not_lt_zero j),fun j hj=>absurd hj (Nat.not_lt_zero j),fun _ j hj=>absurd hj (Nat.not_lt_zero j)⟩
 rw [h1]
 exact ⟨p,rfl,h2⟩
theorem C5z {h:RoHouse} (e0:(check h).2.2 = 0) {safe:Bool} {p:RoPlan} (a:AnyOk h safe p):K2 h p = 0:= by
 obtain ⟨l,hl1,hl2⟩:=a.lit
 have hpv:=a.pv
 unfold K2
 rw [if_neg (by simp [e0]),L4.mpr (show 0≤p.Lit∧p.Lit≤((2 ^ h.Stoves.toNat:Nat):Int) - 1 by omega),if_neg (by decide),if_neg (by simp [hpv.len])]
 have o2:p.At.any (out (-1) ((h.Places.length:Int) - 1)) = false:= by
  rw [List.any_eq_false]
  intro x hx
  obtain ⟨i,hi,rfl⟩:=A6h hx
  have:=hpv.bd i hi
  rw [L4.mpr ⟨by omega,by omega⟩]; decide
 rw [o2,if_neg (by decide),a.dup,if_neg (by decide)]
theorem D04 {n:Int} (h:(Lit.int .u8 n).wf = true):0≤n∧n < 256:= by
 rw [Lit.wf,Bool.and_eq_true,decide_eq_true_eq,decide_eq_true_eq] at h
 have h1:IntKind.u8.min = 0:=rfl
 have h2:IntKind.u8.max = 255:=rfl
 omega
theorem D7x (r:List AV) (h:SatL [.int .u8] r):∃x:Int,r = [.lit (.int .u8 x)]∧(0≤x∧x < 256):= by
 simp only [SatL,Sat] at h
 obtain ⟨x1,q1,rfl,⟨n1,rfl,hw⟩,rfl⟩:=h
 exact ⟨n1,rfl,D04 hw⟩
theorem D8w (r:List AV) (h:SatL [.int .u8] r):∃x:Int,r = Z5 x∧(0≤x∧x < 256):=D7x r h
theorem D8x (r:List AV) (h:SatL [.seq 1 [.int .u8]] r):∃xs:List Int,r = [.seq 1 (xs.map Z5)]∧N8 xs:= by
 rw [SatL] at h; obtain ⟨x,q1,rfl,hx,hq⟩:=h
 rw [SatL] at hq; subst hq
 simp only [Sat] at hx
 obtain ⟨rows,rfl,hl,hr⟩:=hx
 obtain ⟨xs,rfl,hlen,hq⟩:=A61 D8w rows hr
 simp only [maxLen] at hl
 exact ⟨xs,rfl,by omega,hq⟩
end Rm
end
section
set_option maxRecDepth 100000
set_option maxHeartbeats 0
namespace Rm
open Go Am Go.Proofs.YtbheamjhjgoccaaDoor.Cd
end Rm
end
section
namespace Rm
open Go Am
section
variable {α σ ρ:Type}
def A6r (f:α→σ→Option (σ ⊕ ρ)):List α→σ→Option (σ ⊕ ρ)
 | [],s=>some (.inl s)
 | a :: l,s=>(f a s).bind fun x=>match x with
  | .inl s'=>A6r f l s'
  | .inr r=>some (.inr r)
theorem B0q (f:α→σ→Option (σ ⊕ ρ)) (m:List α):∀(l:List α) (s:σ),A6r f (l++m) s = (A6r f l s).bind fun x=>match x with
  | .inl s'=>A6r f m s'
  | .inr r=>some (.inr r)
 | [],s=>rfl
 | a :: l,s=>by
  show (f a s).bind _ = ((f a s).bind _).bind _
  cases f a s with
  | none=>rfl
  | some x=>cases x with
   | inl s'=>exact B0q f m l s'
   | inr r=>rfl
end
def Z7 (h:RoHouse) (l:Nat) (q:List Int) (p:Nat):Bool:=!(q.any (· == (p:Int))) && L6 (warm h p l) h.Figures[q.length]! == 1
def cand (h:RoHouse) (l:Nat) (q:List Int):List Int:=(((List.range h.Places.length).filter (Z7 h l q)).map fun (p:Nat)=>(p:Int))++[-1]
def DF (h:RoHouse) (l:Nat):Nat→List Int→List (List Int)
 | 0,q=>[q]
 | d + 1,q=>(cand h l q).flatMap fun v=>DF h l d (q++[v])
structure BG (h:RoHouse) (q:List Int):Prop where
 len:q.length≤h.Figures.length
 bd:∀i,i < q.length→-1≤q[i]!∧q[i]! < (h.Places.length:Int)
theorem B9g {h:RoHouse} {l:Nat} {q:List Int} {v:Int} (hv:v ∈ cand h l q):v = -1∨∃ p:Nat,v = p∧p < h.Places.length∧Z7 h l q p = true:= by
 unfold cand at hv
 rw [List.mem_append,List.mem_map] at hv
 rcases hv with ⟨p,hp,rfl⟩ | hv
 ·rw [List.mem_filter,List.mem_range] at hp
  exact .inr ⟨p,rfl,hp.1,hp.2⟩
 ·exact .inl (List.mem_singleton.mp hv)
theorem BG.snoc {h:RoHouse} {l:Nat} {q:List Int} (b:BG h q) (hq:q.length < h.Figures.length) {v:Int} (hv:v ∈ cand h l q):BG h (q++[v]):= by
 refine ⟨by rw [List.length_append]; simp; omega,fun i hi=>?_⟩
 rw [A3c]
 by_cases c:i < q.length
 ·rw [if_pos c]; exact b.bd i c
 ·rw [List.length_append,List.length_singleton] at hi
  rw [if_neg c,if_pos (by omega)]
  rcases B9g hv with rfl | ⟨p,rfl,hp,_⟩ <;> omega
theorem C77 {h:RoHouse} {l:Nat}:∀(d:Nat) (q p:List Int),p ∈ DF h l d q→p.length = q.length + d
 | 0,q,p,hp=>by rw [List.mem_singleton.mp hp]; rfl
 | d + 1,q,p,hp=>by
  unfold DF at hp
  rw [List.mem_flatMap] at hp
  obtain ⟨v,_,hp⟩:=hp
  rw [C77 d _ p hp,List.length_append,List.length_singleton]; omega
theorem C9p (p:List Int) {n:Nat} (h:n < p.length):p.take (n + 1) = p.take n++[p[n]!]:= by
 rw [List.take_add_one,List.getElem?_eq_getElem h,getElem!_pos p n h]; rfl
theorem B8s {h:RoHouse} {l:Nat}:∀(d:Nat) (q p:List Int),p ∈ DF h l d q→p.take q.length = q
 | 0,q,p,hp=>by rw [List.mem_singleton.mp hp,List.take_length]
 | d + 1,q,p,hp=>by
  unfold DF at hp
  rw [List.mem_flatMap] at hp
  obtain ⟨v,_,hp⟩:=hp
  have:=B8s d _ p hp
  rw [List.length_append,List.length_singleton] at this
  have h2:=congrArg (List.take q.length) this
  rw [List.take_take,Nat.min_eq_left (by omega),List.take_left' rfl] at h2
  exact h2
theorem B9i (h:RoHouse) (p:List Int) (k:Nat) {m:Nat}:∀n,n≤m→F9 h (p.take m) k n = F9 h p k n
 | 0,_=>rfl
 | n + 1,hn=>by
  rw [N3,N3,B9i h p k n (by omega)]
  congr 1
  unfold con plc
  rw [C7w p (show n < m by omega),List.length_take]
  by_cases c:n < p.length∧p[n]! ≠ -1∧bit (h.Places[p[n]!.toNat]!).Joists.toNat k = true
  ·rw [if_pos c,if_pos ⟨by have:=c.1; omega,c.2⟩]
  ·rw [if_neg c,if_neg (fun q=>c ⟨by have:=q.1; omega,q.2⟩)]
theorem D77 {h:RoHouse} (ok:HOk h) {p:List Int} (hl:p.length≤h.Figures.length) (k i:Nat):0≤con h p k i:= by
 unfold con
 by_cases c:i < p.length∧p[i]! ≠ -1∧bit (plc h p i).Joists.toNat k = true
 ·rw [if_pos c]
  have:=(ok.figure _ (G2 (show i < h.Figures.length by have:=c.1; omega))).weight
  omega
 ·rw [if_neg c]; omega
theorem B9h {h:RoHouse} (ok:HOk h) {p:List Int} (hl:p.length≤h.Figures.length) (k:Nat) {m:Nat}:∀{n:Nat},m≤n→F9 h p k m≤F9 h p k n
 | 0,hm=>by
  have:m = 0:= by omega
  subst this; omega
 | n + 1,hm=>by
  by_cases e:m = n + 1
  ·subst e; omega
  ·have ih:=B9h ok hl k (m:=m) (n:=n) (by omega)
   have:=D77 ok hl k n
   rw [N3]; omega
theorem C8n {h:RoHouse} (ok:HOk h) {p:List Int} (hl:p.length≤h.Figures.length) {m:Nat} (hm:m≤p.length) (hh:R7 h p = true):R7 h (p.take m) = true:= by
 unfold R7 at hh ⊢
 rw [List.all_eq_true] at hh ⊢
 intro k hk
 have h1:=hh k hk
 rw [decide_eq_true_eq] at h1 ⊢
 have h2:=B9i h p k (m:=m) m (Nat.le_refl _)
 have h3:=B9h ok hl k hm
 rw [List.length_take,Nat.min_eq_left hm]
 omega
theorem D2z {h:RoHouse} (ok:HOk h) {l:Nat} {d:Nat} {q:List Int} (hl:q.length + d≤h.Figures.length) (hh:R7 h q = false) {g:List Int→Bool} (hg:∀p,g p = true→R7 h p = true):(DF h l d q).filter g = []:= by
 rw [List.filter_eq_nil_iff]
 intro p hp hgp
 have h1:=C77 d q p hp
 have h2:=C8n ok (p:=p) (by omega) (m:=q.length) (by omega) (hg p hgp)
 rw [B8s d q p hp,hh] at h2
 cases h2
def pad (h:RoHouse) (q:List Int):List Int:=q++List.replicate (h.Figures.length - q.length) (-1)
theorem B28 {h:RoHouse} {q:List Int} (hq:q.length≤h.Figures.length):(pad h q).length = h.Figures.length:= by
 unfold pad
 rw [List.length_append,List.length_replicate]; omega
theorem C5b {h:RoHouse} {q:List Int} (hq:q.length≤h.Figures.length) {i:Nat} (hi:i < h.Figures.length):(pad h q)[i]! = if i < q.length then q[i]! else -1:= by
 have hl:=B28 hq
 rw [getElem!_pos (pad h q) i (by omega)]
 unfold pad
 by_cases c:i < q.length
 ·rw [if_pos c,List.getElem_append_left c,getElem!_pos q i c]
 ·rw [if_neg c,List.getElem_append_right (by omega),List.getElem_replicate]
theorem C6g {h:RoHouse} {q:List Int} (hq:q.length≤h.Figures.length) (i:Nat):e (pad h q) i = e q i:= by
 unfold e
 rw [B28 hq]
 by_cases c:i < h.Figures.length
 ·rw [if_pos c,C5b hq c]
  by_cases c2:i < q.length
  ·rw [if_pos c2,if_pos c2]
  ·rw [if_neg c2,if_neg c2]; rfl
 ·rw [if_neg c,if_neg (by omega)]
theorem D6c {h:RoHouse} {q:List Int} (hq:q.length≤h.Figures.length):enc (pad h q) = enc q:= by
 unfold enc
 rw [C6g hq,C6g hq,C6g hq,C6g hq,C6g hq]
theorem D9a {h:RoHouse} {q:List Int} (b:BG h q):PV h (pad h q):= by
 refine ⟨B28 b.len,fun i hi=>?_⟩
 rw [B28 b.len] at hi
 rw [C5b b.len hi]
 by_cases c:i < q.length
 ·rw [if_pos c]; exact b.bd i c
 ·rw [if_neg c]; omega
theorem D58 {h:RoHouse} {q:List Int} (hq:q.length≤h.Figures.length) (k i:Nat):con h (pad h q) k i = con h q k i:= by
 unfold con plc
 rw [B28 hq]
 by_cases c:i < h.Figures.length
 ·rw [C5b hq c]
  by_cases c2:i < q.length
  ·rw [if_pos c2]
   by_cases c3:q[i]! ≠ -1∧bit (h.Places[q[i]!.toNat]!).Joists.toNat k = true
   ·rw [if_pos ⟨c,c3⟩,if_pos ⟨c2,c3⟩]
   ·rw [if_neg (fun z=>c3 z.2),if_neg (fun z=>c3 z.2)]
  ·rw [if_neg c2,if_neg (fun z=>z.2.1 rfl),if_neg (fun z=>c2 z.1)]
 ·rw [if_neg (fun z=>c z.1),if_neg (fun z=>absurd z.1 (by omega))]
theorem C20 {h:RoHouse} {q:List Int} (hq:q.length≤h.Figures.length) (k:Nat):∀n,F9 h (pad h q) k n = F9 h q k n
 | 0=>rfl
 | n + 1=>by rw [N3,N3,C20 hq k n,D58 hq]
theorem D1p {h:RoHouse} {q:List Int} (hq:q.length≤h.Figures.length):R7 h (pad h q) = R7 h q:= by
 unfold R7
 congr 1
 funext k
 rw [B28 hq,C20 hq]
 have:=B35 h q k (h.Figures.length - q.length)
 rw [show q.length + (h.Figures.length - q.length) = h.Figures.length by omega] at this
 rw [this]
theorem C8q {h:RoHouse} (ok:HOk h) {q:List Int} (b:BG h q):M7 ⟨h⟩ (enc q) false = some (R7 h q):= by
 have:=B81 ok (D9a b) false
 rw [D6c b.len,D1p b.len] at this
 rw [this]
 cases R7 h q <;> rfl
theorem B40 (q:List Int) (v:Int):Ar5.set (enc q) (q.length:Int) (v + 1) = enc (q++[v]):= by
 have h1:=C94 (q++[v]) (i:=q.length) (by rw [List.length_append]; simp)
 rw [List.take_left' rfl,A3c,if_neg (Nat.lt_irrefl _),if_pos rfl] at h1
 rw [h1]
 congr 1
 rw [List.take_of_length_le (by rw [List.length_append]; simp)]
theorem D3s (q:List Int):enc (q++[-1]) = enc q:= by
 have hz:∀i,e (q++[-1]) i = e q i:= by
  intro i
  unfold e
  rw [List.length_append,List.length_singleton,A3c]
  by_cases c:i < q.length
  ·rw [if_pos (by omega),if_pos c,if_pos c]
  ·rw [if_neg c,if_neg c]
   by_cases c2:i = q.length
   ·rw [if_pos (by omega),if_pos c2]; rfl
   ·rw [if_neg (by omega)]
 unfold enc
 rw [hz,hz,hz,hz,hz]
theorem set_set (a:Ar5 Int) (i v w:Int):Ar5.set (Ar5.set a i v) i w = Ar5.set a i w:= by
 unfold Ar5.set
 simp only [Ar5.mk.injEq]
 refine ⟨?_,?_,?_,?_,?_⟩ <;> (split <;> rfl)
def B7k (u:Int) (q:List Int):Prop:=∃ n:Nat,u = n∧n < 32∧∀ p:Nat,p < 5→bit n p = q.any (· == (p:Int))
theorem D1f:∀l:Nat,l < 32→∀ s:Nat,s < 5→B3i .i64 (l:Int) (s:Int) = some ((l / 2 ^ s:Nat):Int):= by decide +kernel
theorem D1c:∀x:Nat,x < 32→(B4s (x:Int) 1 == 1) = (x % 2 == 1):= by decide +kernel
theorem shl5:∀n:Nat,n < 5→B3h .i64 1 (n:Int) = some ((2 ^ n:Nat):Int):= by decide +kernel
theorem D65:∀u:Nat,u < 32→∀ p:Nat,p < 5→orI (u:Int) ((2 ^ p:Nat):Int) = ((u ||| 2 ^ p:Nat):Int)∧(u ||| 2 ^ p) < 32:= by decide +kernel
theorem D8z:∀u:Nat,u < 32→∀ p:Nat,p < 5→∀ t:Nat,t < 5→bit (u ||| 2 ^ p) t = (bit u t || t == p):= by decide +kernel
theorem D2v {u:Int} {q:List Int} (hu:B7k u q) {p:Nat} (hp:p < 5):B7k (orI u ((2 ^ p:Nat):Int)) (q++[(p:Int)]):= by
 obtain ⟨n,rfl,hn,hb⟩:=hu
 obtain ⟨h1,h2⟩:=D65 n hn p hp
 refine ⟨_,h1,h2,fun t ht=>?_⟩
 rw [D8z n hn p hp t ht,hb t ht,List.any_append,List.any_cons,List.any_nil,Bool.or_false]
 congr 1
 rw [Bool.eq_iff_iff,beq_iff_eq,beq_iff_eq]
 omega
theorem D2u {u:Int} {q:List Int} (hu:B7k u q):B7k u (q++[-1]):= by
 obtain ⟨n,rfl,hn,hb⟩:=hu
 refine ⟨n,rfl,hn,fun t ht=>?_⟩
 rw [hb t ht,List.any_append,List.any_cons,List.any_nil,Bool.or_false]
 have:((-1:Int) == (t:Int)) = false:=beq_eq_false_iff_ne.mpr (by omega)
 rw [this,Bool.or_false]
def okB (h:RoHouse) (p:List Int):Bool:=R7 h p && A1s h p
section
variable {σ ρ:Type}
theorem B7e {h:RoHouse} (ok:HOk h) {l:Nat} (hl16:l < 16) (body:room_plan→σ→Option (σ ⊕ ρ)):∀(d:Nat) (q:List Int) (s:σ) (X:σ ⊕ ρ) (u:Int),q.length + d = h.Figures.length→BG h q→B7k u q →
  A6r (fun p s=>body ⟨(l:Int),enc p⟩ s) ((DF h l d q).filter (okB h)) s = some X→∀ k,d < k→∃ p',A8g ⟨h⟩ (l:Int) body k (q.length:Int) u (enc q) s = some (p',X)∧(X.isLeft = true→p' = enc q)
 | 0,q,s,X,u,hl,b,hu,hf,k,hk=>by
  obtain ⟨k,rfl⟩:∃m,k = m + 1:=⟨k - 1,by omega⟩
  refine ⟨enc q,?_,fun _=>rfl⟩
  unfold A8g
  rw [if_pos (show ((q.length:Int) == (List.length h.Figures:Int)) = true by rw [beq_iff_eq]; omega),B81 ok (p:=q) ⟨by omega,b.bd⟩ true]
  simp only [Option.bind_some,Bool.not_true,Bool.false_or]
  have e1:(R7 h q && A1s h q) = okB h q:=rfl
  rw [e1]
  unfold DF at hf
  cases ho:okB h q with
  | false =>
   rw [List.filter_cons,ho,if_neg (by decide)] at hf
   have hf:some (Sum.inl s) = some X:=hf
   rw [← Option.some.inj hf,if_neg (by decide)]
  | true =>
   rw [List.filter_cons,ho,if_pos rfl] at hf
   rw [if_pos rfl]
   have hf:(body ⟨(l:Int),enc q⟩ s).bind _ = some X:=hf
   cases hb:body ⟨(l:Int),enc q⟩ s with
   | none=>rw [hb] at hf; exact absurd hf (by simp)
   | some x =>
    rw [hb] at hf
    cases x with
    | inl s' =>
     have:some (Sum.inl s') = some X:=hf
     rw [← Option.some.inj this]; rfl
    | inr r =>
     have:some (Sum.inr r) = some X:=hf
     rw [← Option.some.inj this]; rfl
 | d + 1,q,s,X,u,hl,b,hu,hf,k,hk=>by
  obtain ⟨k,rfl⟩:∃m,k = m + 1:=⟨k - 1,by omega⟩
  have hp:=ok.places
  have hf5:=ok.figures
  have hq:q.length < h.Figures.length:= by omega
  have hlen:∀v:Int,((q++[v]).length:Int) = w64 ((q.length:Int) + 1):=fun v=>by
   rw [List.length_append,List.length_singleton,E0 (by omega)]; rfl
  have hidx:∀a:Ar5 Int,∃ z,idx (Ar5.l a) (q.length:Int) = some z:=fun a=>by
   refine ⟨_,F3 (l:=Ar5.l a) (i:=q.length) (show q.length < 5 by omega)⟩
  unfold A8g
  rw [if_neg (show ¬ ((q.length:Int) == (List.length h.Figures:Int)) = true by rw [beq_iff_eq]; omega)]
  have hf:A6r (fun p s=>body ⟨(l:Int),enc p⟩ s) (((((List.range h.Places.length).drop 0).filter (Z7 h l q)).map fun (p:Nat)=>(p:Int)).flatMap (fun v=>(DF h l d (q++[v])).filter (okB h))++(DF h l d (q++[-1])).filter (okB h)) s = some X:= by
   unfold DF cand at hf
   rw [List.filter_flatMap,List.flatMap_append,List.flatMap_cons,List.flatMap_nil,List.append_nil] at hf
   exact hf
  obtain ⟨o,ho,hJ⟩:=B65 (b:=B7d ⟨h⟩ (l:Int) (A8g ⟨h⟩ (l:Int) body k) (q.length:Int) u)
   (fun i x=>x.1 = (i:Int)∧(∀ y:Int,Ar5.set x.2.1 (q.length:Int) y = Ar5.set (enc q) (q.length:Int) y)∧A6r (fun p s=>body ⟨(l:Int),enc p⟩ s) (((((List.range h.Places.length).drop i).filter (Z7 h l q)).map fun (p:Nat)=>(p:Int)).flatMap (fun v=>(DF h l d (q++[v])).filter (okB h))++(DF h l d (q++[-1])).filter (okB h)) x.2.2 = some X)
   h.Places.length
   (fun o=>match o with | .inl (_,r)=>X = .inr r | .inr (p',s')=>(∀ y:Int,Ar5.set p' (q.length:Int) y = Ar5.set (enc q) (q.length:Int) y)∧A6r (fun p s=>body ⟨(l:Int),enc p⟩ s) ((DF h l d (q++[-1])).filter (okB h)) s' = some X)
   (by omega) (by
    rintro i ⟨n,p,s⟩ hi ⟨e1,e2,e3⟩
    simp only at e1 e2 e3
    subst e1
    obtain ⟨un,hun,hun2,hub⟩:=hu
    rw [List.drop_eq_getElem_cons (by rw [List.length_range]; exact hi),List.getElem_range,List.filter_cons] at e3
    unfold B7d
    simp only []
    rw [if_pos (show decide ((i:Int) < (List.length h.Places:Int)) = true by rw [decide_eq_true_eq]; omega),hun,D1f un hun2 i (by omega)]
    simp only [Option.bind_some]
    rw [D1c _ (Nat.lt_of_le_of_lt (Nat.div_le_self _ _) hun2)]
    have hbit:(un / 2 ^ i % 2 == 1) = q.any (· == (i:Int)):=hub i (by omega)
    rw [hbit]
    have hguard:(if q.any (· == (i:Int)) = true then some true else (O2 ⟨h⟩ (q.length:Int) (i:Int) (l:Int)).bind fun z=>some (z != 1)) = some (!Z7 h l q i):= by
     unfold Z7
     cases q.any (· == (i:Int))
     ·rw [if_neg (by decide),B8y ok hq hi hl16]
      simp only [Option.bind_some,Bool.not_false,Bool.true_and]; rfl
     ·rfl
    rw [hguard]
    simp only [Option.bind_some]
    rw [E0 (n:=(i:Int) + 1) (by omega)]
    cases hfr:Z7 h l q i with
    | false =>
     rw [hfr,if_neg (by decide)] at e3
     rw [Bool.not_false,if_pos rfl]
     exact .inl ⟨_,rfl,rfl,e2,e3⟩
    | true =>
     rw [hfr,if_pos rfl,List.map_cons,List.flatMap_cons,List.append_assoc,B0q] at e3
     rw [Bool.not_true,if_neg (by decide)]
     obtain ⟨z,hz⟩:=hidx p
     rw [hz]
     simp only [Option.bind_some]
     have hmem:((i:Nat):Int) ∈ cand h l q:= by
      unfold cand
      rw [List.mem_append,List.mem_map]
      exact .inl ⟨i,List.mem_filter.mpr ⟨List.mem_range.mpr hi,hfr⟩,rfl⟩
     have b2:=b.snoc hq hmem
     rw [e2,B40,C8q ok b2]
     simp only [Option.bind_some]
     cases hh:R7 h (q++[(i:Int)]) with
     | false =>
      rw [if_neg (by decide)]
      have hpr:(DF h l d (q++[(i:Int)])).filter (okB h) = []:=D2z ok (by rw [List.length_append,List.length_singleton]; omega) hh fun p hp=>by
       unfold okB at hp
       rw [Bool.and_eq_true] at hp
       exact hp.1
      rw [hpr] at e3
      exact .inl ⟨_,rfl,rfl,fun y=>by rw [← B40,set_set],e3⟩
     | true =>
      rw [if_pos rfl,shl5 i (by omega)]
      simp only [Option.bind_some]
      have hu2:=D2v (p:=i) ⟨un,rfl,hun2,hub⟩ (by omega)
      cases hx:A6r (fun p s=>body ⟨(l:Int),enc p⟩ s) ((DF h l d (q++[(i:Int)])).filter (okB h)) s with
      | none=>rw [hx] at e3; exact absurd e3 (by simp)
      | some x =>
       rw [hx] at e3
       obtain ⟨p1,hp1,hp2⟩:=B7e ok hl16 body d (q++[(i:Int)]) s x _ (by rw [List.length_append,List.length_singleton]; omega) b2 hu2 hx k (by omega)
       rw [hlen] at hp1
       rw [hp1]
       simp only [Option.bind_some]
       cases x with
       | inl s' =>
        have hp2:=hp2 rfl
        exact .inl ⟨_,rfl,rfl,fun y=>by rw [hp2,← B40,set_set],e3⟩
       | inr r =>
        have e3:some (Sum.inr r) = some X:=e3
        exact .inr ⟨_,rfl,(Option.some.inj e3).symm⟩) (by
    rintro ⟨n,p,s⟩ ⟨e1,e2,e3⟩
    simp only at e1 e2 e3
    subst e1
    rw [List.drop_of_length_le (by rw [List.length_range]; exact Nat.le_refl _)] at e3
    unfold B7d
    simp only []
    rw [if_neg (show ¬ decide (((h.Places.length:Nat):Int) < (List.length h.Places:Int)) = true by simp)]
    exact ⟨_,rfl,e2,e3⟩) (0,enc q,s) ⟨rfl,fun _=>rfl,hf⟩
  rw [ho]
  simp only [Option.bind_some]
  rcases o with ⟨p',r⟩ | ⟨p',s'⟩
  ·have hJ:X = .inr r:=hJ
   subst hJ
   exact ⟨p',rfl,fun z=>by cases z⟩
  ·obtain ⟨g1,g2⟩:=hJ
   obtain ⟨z,hz⟩:=hidx p'
   simp only []
   rw [hz]
   simp only [Option.bind_some]
   have g3:Ar5.set p' (q.length:Int) 0 = enc (q++[-1]):= by rw [g1,← B40]; rfl
   rw [g3]
   have b2:BG h (q++[-1]):=b.snoc (l:=l) hq (by unfold cand; rw [List.mem_append]; exact .inr (List.mem_singleton.mpr rfl))
   obtain ⟨p1,hp1,hp2⟩:=B7e ok hl16 body d (q++[-1]) s' X u (by rw [List.length_append,List.length_singleton]; omega) b2 (D2u hu) g2 k (by omega)
   rw [hlen] at hp1
   exact ⟨p1,hp1,fun hX=>by rw [hp2 hX,D3s]⟩
end
def Z0 (h:RoHouse) (l:Nat):List (Nat × List Int):=((DF h l h.Figures.length []).filter (okB h)).map fun p=>(l,p)
def N4 (h:RoHouse):List (Nat × List Int):=(List.range (2 ^ h.Stoves.toNat)).flatMap (Z0 h)
section
variable {α β σ ρ:Type}
theorem C28 (f:β→σ→Option (σ ⊕ ρ)) (g:α→β):∀(l:List α) (s:σ),A6r f (l.map g) s = A6r (fun a s=>f (g a) s) l s
 | [],_=>rfl
 | a :: l,s=>by
  show (f (g a) s).bind _ = (f (g a) s).bind _
  congr 1
  funext x
  cases x with
  | inl s'=>exact C28 f g l s'
  | inr r=>rfl
theorem C9r:B7k 0 []:=⟨0,rfl,by decide,by decide⟩
theorem C04 {h:RoHouse} (ok:HOk h) (body:room_plan→σ→Option (σ ⊕ ρ)) {s:σ} {X:σ ⊕ ρ} (hf:A6r (fun (x:Nat × List Int) s=>body ⟨(x.1:Int),enc x.2⟩ s) (N4 h) s = some X):A7m ⟨h⟩ σ ρ body s = some X:= by
 have hpw:=A5l ok
 have hf5:=ok.figures
 unfold A7m
 rw [show B3h .i64 1 (room_house.mk h).RoHouse.Stoves = some ((2 ^ h.Stoves.toNat:Nat):Int) from D7j ok]
 simp only [Option.bind_some]
 have hf:A6r (fun (x:Nat × List Int) s=>body ⟨(x.1:Int),enc x.2⟩ s) (((List.range (2 ^ h.Stoves.toNat)).drop 0).flatMap (Z0 h)) s = some X:=hf
 obtain ⟨o,ho,hJ⟩:=B65 (b:=C3o ⟨h⟩ ((2 ^ h.Stoves.toNat:Nat):Int) body)
  (fun i x=>x.1 = (i:Int)∧A6r (fun (x:Nat × List Int) s=>body ⟨(x.1:Int),enc x.2⟩ s) (((List.range (2 ^ h.Stoves.toNat)).drop i).flatMap (Z0 h)) x.2 = some X)
  (2 ^ h.Stoves.toNat) (fun o=>match o with | .inl r=>X = .inr r | .inr s'=>X = .inl s') (by omega) (by
   rintro i ⟨n,s⟩ hi ⟨e1,e2⟩
   simp only at e1 e2
   subst e1
   rw [List.drop_eq_getElem_cons (by rw [List.length_range]; exact hi),List.getElem_range,List.flatMap_cons,B0q] at e2
   unfold C3o
   simp only []
   rw [if_pos (by rw [decide_eq_true_eq]; omega)]
   cases hx:A6r (fun (x:Nat × List Int) s=>body ⟨(x.1:Int),enc x.2⟩ s) (Z0 h i) s with
   | none=>rw [hx] at e2; exact absurd e2 (by simp)
   | some x =>
    rw [hx] at e2
    unfold Z0 at hx
    rw [C28] at hx
    obtain ⟨p',hp',_⟩:=B7e ok (show i < 16 by omega) body h.Figures.length [] s x 0 (by simp) ⟨Nat.zero_le _,fun j hj=>absurd hj (Nat.not_lt_zero j)⟩ C9r hx 64 (by omega)
    have hp':A8g ⟨h⟩ (i:Int) body 64 0 0 ⟨0,0,0,0,0⟩ s = some (p',x):=hp'
    rw [hp']
    simp only [Option.bind_some]
    rw [E0 (by omega)]
    cases x with
    | inl s'=>exact .inl ⟨_,rfl,rfl,e2⟩
    | inr r =>
     have e2:some (Sum.inr r) = some X:=e2
     exact .inr ⟨_,rfl,(Option.some.inj e2).symm⟩) (by
   rintro ⟨n,s⟩ ⟨e1,e2⟩
   simp only at e1 e2
   subst e1
   rw [List.drop_of_length_le (by rw [List.length_range]; exact Nat.le_refl _)] at e2
   have e2:some (Sum.inl s) = some X:=e2
   unfold C3o
   simp only []
   rw [if_neg (by simp)]
   exact ⟨_,rfl,(Option.some.inj e2).symm⟩) (0,s) ⟨rfl,hf⟩
 rw [ho]
 simp only [Option.bind_some]
 cases o with
 | inl r =>
  have hJ:X = .inr r:=hJ
  rw [hJ]
 | inr s' =>
  have hJ:X = .inl s':=hJ
  rw [hJ]
end
theorem D3m (h:RoHouse) (l:Nat) (q:List Int):(cand h l q).length≤h.Places.length + 1:= by
 unfold cand
 rw [List.length_append,List.length_map,List.length_singleton]
 have:=List.length_filter_le (Z7 h l q) (List.range h.Places.length)
 rw [List.length_range] at this
 omega
theorem B45 {α β:Type} {f:α→List β} {b:Nat}:∀{l:List α},(∀ x ∈ l,(f x).length≤b)→(l.flatMap f).length≤l.length * b
 | [],_=>by simp
 | x :: l,h=>by
  have ih:=B45 (l:=l) fun y hy=>h y (List.mem_cons_of_mem _ hy)
  have:=h x (List.mem_cons_self ..)
  rw [List.flatMap_cons,List.length_append,List.length_cons,Nat.succ_mul]
  omega
theorem B8r {h:RoHouse} (ok:HOk h) (l:Nat):∀(d:Nat) (q:List Int),(DF h l d q).length≤6 ^ d
 | 0,q=>by unfold DF; simp
 | d + 1,q=>by
  unfold DF
  have h1:=B45 (l:=cand h l q) (f:=fun v=>DF h l d (q++[v])) (b:=6 ^ d) fun v _=>B8r ok l d _
  have h2:=D3m h l q
  have h3:=ok.places
  have h4:(cand h l q).length * 6 ^ d≤6 * 6 ^ d:=Nat.mul_le_mul_right _ (by omega)
  rw [Nat.pow_succ]
  omega
theorem D2x {h:RoHouse} {l:Nat} {P:List Int→Prop} (hP:∀q v,q.length < h.Figures.length→v ∈ cand h l q→P q→P (q++[v])):∀(d:Nat) (q p:List Int),q.length + d≤h.Figures.length→P q→p ∈ DF h l d q→P p
 | 0,q,p,_,hq,hp=>by rw [List.mem_singleton.mp hp]; exact hq
 | d + 1,q,p,hl,hq,hp=>by
  unfold DF at hp
  rw [List.mem_flatMap] at hp
  obtain ⟨v,hv,hp⟩:=hp
  exact D2x hP d (q++[v]) p (by rw [List.length_append,List.length_singleton]; omega) (hP q v (by omega) hv hq) hp
theorem C7n (h:RoHouse) (l:Nat) {q:List Int} {v:Int} {j:Nat} (hj:j < q.length):X1 h l (q++[v]) j = X1 h l q j:= by
 unfold X1
 rw [A3c,if_pos hj]
structure PG (h:RoHouse) (l:Nat) (p:List Int):Prop where
 bg:BG h p
 safe:∀i,i < p.length→X1 h l p i = true
 once:∀i,i < p.length→R0 p i = false
theorem PG.snoc {h:RoHouse} {l:Nat} {q:List Int} {v:Int} (hq:q.length < h.Figures.length) (hv:v ∈ cand h l q) (g:PG h l q):PG h l (q++[v]):= by
 refine ⟨g.bg.snoc hq hv,fun i hi=>?_,fun i hi=>?_⟩
 ·rw [List.length_append,List.length_singleton] at hi
  by_cases c:i < q.length
  ·rw [C7n h l c]; exact g.safe i c
  ·rw [show i = q.length by omega]
   unfold X1
   rw [A3c,if_neg (Nat.lt_irrefl _),if_pos rfl]
   rcases B9g hv with rfl | ⟨p,rfl,_,hf⟩
   ·rfl
   ·unfold Z7 at hf
    rw [Bool.and_eq_true] at hf
    rw [Int.toNat_natCast,hf.2,Bool.or_true]
 ·rw [List.length_append,List.length_singleton] at hi
  by_cases c:i < q.length
  ·rw [B6i c]; exact g.once i c
  ·rw [show i = q.length by omega,B6h]
   rcases B9g hv with rfl | ⟨p,rfl,_,hf⟩
   ·rfl
   ·unfold Z7 at hf
    rw [Bool.and_eq_true,Bool.not_eq_true'] at hf
    rw [hf.1,Bool.and_false]
theorem C2p {h:RoHouse} {l:Nat} {p:List Int} (hp:p ∈ DF h l h.Figures.length []):PG h l p∧PV h p:= by
 have h1:PG h l p:=D2x (P:=PG h l) (fun q v hq hv g=>g.snoc hq hv) _ [] p (by simp) ⟨⟨Nat.zero_le _,fun j hj=>absurd hj (Nat.not_lt_zero j)⟩,fun j hj=>absurd hj (Nat.not_lt_zero j),fun j hj=>absurd hj (Nat.not_lt_zero j)⟩ hp
 have h2:=C77 _ _ _ hp
 exact ⟨h1,by rw [h2]; simp,h1.bg.bd⟩
def mkP (x:Nat × List Int):RoPlan:=RoPlan.mk (x.1:Int) x.2
theorem B5z {h:RoHouse} (ok:HOk h) (l:Nat):(Z0 h l).length≤7776:= by
 have h5:=ok.figures
 unfold Z0
 rw [List.length_map]
 have h1:=List.length_filter_le (okB h) (DF h l h.Figures.length [])
 have h2:=B8r ok l h.Figures.length []
 have h3:6 ^ h.Figures.length≤6 ^ 5:=Nat.pow_le_pow_right (by decide) h5
 omega
section
variable {α σ ρ:Type}
theorem B9v {f:α→σ→Option (σ ⊕ ρ)} (g:σ→α→σ):∀(l:List α) (s:σ),(∀ a ∈ l,∀ s,f a s = some (.inl (g s a)))→A6r f l s = some (.inl (l.foldl g s))
 | [],s,_=>rfl
 | a :: l,s,h=>by
  show (f a s).bind _ = _
  rw [h a (List.mem_cons_self ..) s]
  exact B9v g l (g s a) fun b hb=>h b (List.mem_cons_of_mem _ hb)
end
theorem B4r {h:RoHouse} {x:Nat × List Int} (hx:x ∈ N4 h):x.1 < 2 ^ h.Stoves.toNat∧x.2 ∈ DF h x.1 h.Figures.length []∧okB h x.2 = true:= by
 unfold N4 at hx
 rw [List.mem_flatMap] at hx
 obtain ⟨l,hl,hx⟩:=hx
 unfold Z0 at hx
 rw [List.mem_map] at hx
 obtain ⟨p,hp,rfl⟩:=hx
 rw [List.mem_filter] at hp
 exact ⟨List.mem_range.mp hl,hp.1,hp.2⟩
theorem A1v {h:RoHouse} {x:Nat × List Int} (hx:x ∈ N4 h):PV h x.2:=(C2p (B4r hx).2.1).2
theorem B6m {h:RoHouse} (ok:HOk h):(N4 h).length≤62208:= by
 have hpw:=A5l ok
 have:=B45 (l:=List.range (2 ^ h.Stoves.toNat)) (f:=Z0 h) (b:=7776) fun x _=>B5z ok x
 rw [List.length_range] at this
 have h2:2 ^ h.Stoves.toNat * 7776≤8 * 7776:=Nat.mul_le_mul_right _ hpw.2
 unfold N4
 omega
def better1 (h:RoHouse) (b x:Nat × List Int):Nat × List Int:=if worth h x.2 > worth h b.2 then x else b
def T0 (h:RoHouse) (x:Nat × List Int) (l:List (Nat × List Int)):Nat × List Int:=l.foldl (better1 h) x
theorem A7u (h:RoHouse):∀(l:List (Nat × List Int)) (x:Nat × List Int),T0 h x l = x∨T0 h x l ∈ l
 | [],x=>.inl rfl
 | y :: l,x=>by
  show T0 h (better1 h x y) l = x∨_
  rcases A7u h l (better1 h x y) with e | e
  ·unfold better1 at e
   split at e
   ·refine .inr ?_
    show T0 h (better1 h x y) l ∈ y :: l
    unfold better1
    rw [if_pos (by assumption),e]; exact List.mem_cons_self ..
   ·refine .inl ?_
    unfold better1
    rw [if_neg (by assumption),e]
  ·exact .inr (List.mem_cons_of_mem _ e)
def stB (h:RoHouse) (x:Nat × List Int):Int × room_plan:=(worth h x.2,⟨(x.1:Int),enc x.2⟩)
def goB (h:RoHouse) (s:Int × room_plan) (x:Nat × List Int):Int × room_plan:=if worth h x.2 > s.1 then stB h x else s
theorem D32 (h:RoHouse):∀(l:List (Nat × List Int)) (x:Nat × List Int),l.foldl (goB h) (stB h x) = stB h (T0 h x l)
 | [],_=>rfl
 | y :: l,x=>by
  show l.foldl (goB h) (goB h (stB h x) y) = stB h (T0 h (better1 h x y) l)
  have e:goB h (stB h x) y = stB h (better1 h x y):= by
   unfold goB better1 stB
   split <;> rfl
  rw [e,D32 h l]
theorem D1a {h:RoHouse} (ok:HOk h):A7m ⟨h⟩ (Int × room_plan) Unit (A3o h) ((-1),(room_plan.mk 0 (Ar5.mk 0 0 0 0 0))) = some (.inl ((N4 h).foldl (goB h) (-1,⟨0,⟨0,0,0,0,0⟩⟩))):= by
 apply C04 ok
 apply B9v
 intro x hx s
 show A3o h ⟨(x.1:Int),enc x.2⟩ s = _
 unfold A3o
 rw [C71 ok (A1v hx)]
 simp only [Option.bind_some]
 unfold goB
 by_cases c:worth h x.2 > s.1
 ·rw [if_pos (by rw [decide_eq_true_eq]; exact c),if_pos c]; rfl
 ·rw [if_neg (by rw [decide_eq_true_eq]; exact c),if_neg c]
def A1w (h:RoHouse):RoPlan × Int × Int :=
 if (check h).2.2 != 0 then (⟨0,[]⟩,0,(check h).2.2) else
 match N4 h with
 | []=>(⟨0,[]⟩,0,9)
 | x :: l=>(mkP (T0 h x l),worth h (T0 h x l).2,0)
theorem D6b (p:List Int) (h5:p.length≤5):cpy (List.replicate p.length (0:Int)) (Ar5.l (enc p)) = p.map (· + 1):= by
 have hl:(Ar5.l (enc p)).length = 5:=rfl
 unfold cpy
 rw [List.length_replicate,hl,Nat.min_eq_right h5,List.drop_of_length_le (by rw [List.length_replicate]; exact Nat.le_refl _),List.append_nil]
 apply List.ext_getElem?
 intro i
 by_cases c:i < p.length
 ·have hi5:i < 5:= by omega
  have h1:=B14 (A82 p i hi5)
  rw [Int.toNat_natCast] at h1
  rw [List.getElem?_take_of_lt c,h1,List.getElem?_map,List.getElem?_eq_getElem c]
  unfold e
  rw [if_pos c,getElem!_pos p i c]; rfl
 ·rw [List.getElem?_eq_none (by rw [List.length_take]; omega),List.getElem?_eq_none (by rw [List.length_map]; omega)]
theorem B8q {h:RoHouse} (hb:NB h):X9 h = some (A1w h):= by
 unfold X9 A1w
 rw [U1 h hb]
 simp only [Option.bind_some]
 by_cases e0:(check h).2.2 = 0
 ·have ok:=R5 e0
  have h5:=ok.figures
  have hp5:=ok.places
  rw [if_neg (by simp [e0]),if_neg (by simp [e0]),D1a ok]
  simp only [Option.bind_some]
  cases hA:N4 h with
  | nil=>rfl
  | cons x l =>
   have hpv:∀y,y ∈ x :: l→PV h y.2:=fun y hy=>A1v (by rw [hA]; exact hy)
   have hx:=A8u ok (hpv x (List.mem_cons_self ..)) x.2.length
   have e1:(x :: l).foldl (goB h) (-1,⟨0,⟨0,0,0,0,0⟩⟩) = stB h (T0 h x l):= by
    show l.foldl (goB h) (goB h (-1,⟨0,⟨0,0,0,0,0⟩⟩) x) = _
    have:goB h (-1,⟨0,⟨0,0,0,0,0⟩⟩) x = stB h x:= by
     unfold goB
     rw [if_pos]
     show A3q h x.2 x.2.length > -1
     omega
    rw [this,D32]
   rw [e1]
   have hm:T0 h x l ∈ x :: l:= by
    rcases A7u h l x with e | e
    ·rw [e]; exact List.mem_cons_self ..
    ·exact List.mem_cons_of_mem _ e
   have hp:=hpv _ hm
   show _ = some (mkP (T0 h x l),worth h (T0 h x l).2,0)
   generalize T0 h x l = b at hp ⊢
   have hw:=A8u ok hp b.2.length
   have hlen:=hp.len
   unfold stB
   simp only []
   rw [if_neg (by rw [decide_eq_true_eq]; show ¬ A3q h b.2 b.2.length < 0; omega)]
   have hmk:C3r 8 (List.length h.Figures:Int) (0:Int) = some (List.replicate b.2.length 0):= by
    unfold C3r
    rw [if_pos (by omega),Int.toNat_natCast,hlen]
   rw [hmk]
   simp only [Option.bind_some]
   have hc:=D6b b.2 (by omega)
   have l1:loop (A5u (worth h b.2,⟨(b.1:Int),enc b.2⟩) (List.replicate b.2.length 0)) (0,b.2.map (· + 1)) = some b.2:= by
    have hmm:(b.2.map (· + 1)).map (· - 1) = b.2:= by
     rw [List.map_map]
     have:((fun x:Int=>x - 1)∘fun x=>x + 1) = id:= by funext x; simp only [Function.comp,id]; omega
     rw [this,List.map_id]
    refine D4g (fun x:Int=>x - 1) (b.2.map (· + 1)) (by rw [List.length_map]; omega) (fun i m hi hm1 hm2=>?_) ?_
    ·rw [List.length_map] at hi
     have hbd:=hp.bd i hi
     have hg:(b.2.map (· + 1))[i]! = b.2[i]! + 1:= by
      rw [getElem!_pos (b.2.map (· + 1)) i (by rw [List.length_map]; exact hi),List.getElem_map,getElem!_pos b.2 i hi]
     rw [hg] at hm2 ⊢
     unfold A5u
     simp only []
     rw [hc,List.length_map,if_pos (by rw [decide_eq_true_eq]; omega),B92 hm2]
     simp only [Option.bind_some]
     rw [E0 (n:=(i:Int) + 1) (by omega),E0 (by omega)]; rfl
    ·unfold A5u
     simp only []
     rw [hc,List.length_map,if_neg (by simp),hmm]
   rw [hc,l1]; rfl
 ·rw [if_pos (bne_iff_ne.mpr e0),if_pos (bne_iff_ne.mpr e0)]
def D0l (l:List (Nat × List Int)) (m:Nat→Int) (i:Nat):Int:=l.foldl (fun m x=>A5i m (e x.2 i)) (m i)
def a5 (m:Nat→Int):Ar5 Int:=⟨m 0,m 1,m 2,m 3,m 4⟩
theorem D25 (m:Nat→Int):∀i:Nat,i < 5→idx (Ar5.l (a5 m)) (i:Int) = some (m i)
 | 0,_=>rfl
 | 1,_=>rfl
 | 2,_=>rfl
 | 3,_=>rfl
 | 4,_=>rfl
 | n + 5,h=>by omega
theorem D74 (m:Nat→Int) (k:Nat) (v:Int):Ar5.set (a5 m) (k:Int) v = a5 (fun j=>if j = k then v else m j):= by
 have comp:∀j:Nat,(if (k:Int) = (j:Int) then v else m j) = (if j = k then v else m j):= by
  intro j
  by_cases h:j = k
  ·subst h; rw [if_pos rfl,if_pos rfl]
  ·rw [if_neg (by omega),if_neg h]
 have q:=congr (congr (congr (congr (congrArg Ar5.mk (comp 0)) (comp 1)) (comp 2)) (comp 3)) (comp 4)
 exact q
theorem D24 {f g:Nat→Int} (h:∀k,k < 5→f k = g k):a5 f = a5 g:= by
 unfold a5
 rw [h 0 (by omega),h 1 (by omega),h 2 (by omega),h 3 (by omega),h 4 (by omega)]
theorem D4l (l:Int) (p:List Int) (m:Nat→Int):loop (A02 ⟨l,enc p⟩) (0,a5 m) = some (a5 fun i=>A5i (m i) (e p i)):= by
 have l1:=I2 (b:=A02 ⟨l,enc p⟩) (fun n=>((n:Int),a5 fun i=>if i < n then A5i (m i) (e p i) else m i)) 5 (r:=a5 fun i=>A5i (m i) (e p i)) (by omega) (fun n hn=>by
  unfold A02
  simp only []
  rw [if_pos (by rw [decide_eq_true_eq]; omega),A82 p n hn,D25 _ n hn,if_neg (Nat.lt_irrefl n)]
  simp only [Option.bind_some]
  rw [E0 (n:=(n:Int) + 1) (by omega),D74]
  congr 3
  apply D24
  intro k hk
  by_cases c:k = n
  ·subst c; rw [if_pos rfl,if_pos (by omega)]
  ·rw [if_neg c]
   by_cases c2:k < n
   ·rw [if_pos c2,if_pos (by omega)]
   ·rw [if_neg c2,if_neg (by omega)]) (by
  unfold A02
  simp only []
  rw [if_neg (show ¬ decide (((5:Nat):Int) < 5) = true by rw [decide_eq_true_eq]; omega)]
  rfl)
 have e0:(fun (i:Nat)=>if i < 0 then A5i (m i) (e p i) else m i) = m:= by
  funext i; rw [if_neg (Nat.not_lt_zero i)]
 have l1:loop (A02 ⟨l,enc p⟩) (0,a5 fun i=>if i < 0 then A5i (m i) (e p i) else m i) = _:=l1
 rw [e0] at l1
 exact l1
theorem C0e:∀(l:List (Nat × List Int)) (n:Int) (m:Nat→Int),0≤n→n + l.length < 9223372036854775807 →
  A6r (fun (x:Nat × List Int) s=>U2 ⟨(x.1:Int),enc x.2⟩ s) l (n,a5 m) = some (.inl (n + l.length,a5 (D0l l m)))
 | [],n,m,_,_=>by
  show some (Sum.inl (n,a5 m)) = _
  rw [List.length_nil]
  have:D0l [] m = m:=rfl
  rw [this]; simp
 | x :: l,n,m,h0,h1=>by
  rw [List.length_cons] at h1 ⊢
  have hst:U2 ⟨(x.1:Int),enc x.2⟩ (n,a5 m) = some (.inl (n + 1,a5 fun i=>A5i (m i) (e x.2 i))):= by
   unfold U2
   simp only []
   rw [D4l]
   simp only [Option.bind_some]
   rw [E0 (by omega)]
  show (U2 ⟨(x.1:Int),enc x.2⟩ (n,a5 m)).bind _ = _
  rw [hst]
  simp only [Option.bind_some]
  rw [C0e l (n + 1) _ (by omega) (by omega)]
  have:n + 1 + (l.length:Int) = n + ((l.length + 1:Nat):Int):= by omega
  rw [this]; rfl
theorem C0c (i:Nat):∀(l:List (Nat × List Int)) (m:Int),0≤m→(∀ x ∈ l,0≤e x.2 i)→((l.foldl (fun m x=>A5i m (e x.2 i)) m = 0)↔(m = 0∧∀ x ∈ l,e x.2 i = 0))∧0≤l.foldl (fun m x=>A5i m (e x.2 i)) m
 | [],m,h0,_=>⟨by simp,h0⟩
 | x :: l,m,h0,h=>by
  have hx:=h x (List.mem_cons_self ..)
  have hm:0≤A5i m (e x.2 i):= by unfold A5i; split <;> omega
  obtain ⟨h1,h2⟩:=C0c i l (A5i m (e x.2 i)) hm fun y hy=>h y (List.mem_cons_of_mem _ hy)
  refine ⟨h1.trans ?_,h2⟩
  have hz:A5i m (e x.2 i) = 0↔m = 0∧e x.2 i = 0:= by unfold A5i; split <;> omega
  rw [hz]
  constructor
  ·rintro ⟨⟨g1,g2⟩,g3⟩
   refine ⟨g1,fun y hy=>?_⟩
   rcases List.mem_cons.mp hy with rfl | hy
   ·exact g2
   ·exact g3 y hy
  ·rintro ⟨g1,g2⟩
   exact ⟨⟨g1,g2 x (List.mem_cons_self ..)⟩,fun y hy=>g2 y (List.mem_cons_of_mem _ hy)⟩
def Q7 (h:RoHouse) (i:Nat):Bool:=(N4 h).all fun x=>x.2[i]! == -1
def A2m (h:RoHouse):List Int:=((List.range h.Figures.length).filter (Q7 h)).map fun (i:Nat)=>(i:Int)
def A6i (h:RoHouse):List Int × Int :=
 if (check h).2.2 != 0 then ([],(check h).2.2) else if (N4 h).length = 0 then ([],9) else (A2m h,0)
theorem C0f {h:RoHouse} (ok:HOk h) {b:Int × List Int→Option ((Int × List Int) ⊕ List Int)}
  (hb:∀(i:Nat) (r:List Int),i < h.Figures.length→r.length≤i→b ((i:Int),r) = some (.inl (((i + 1:Nat):Int),r++if Q7 h i = true then [(i:Int)] else [])))
  (he:∀r,b ((h.Figures.length:Int),r) = some (.inr r)):loop b (0,[]) = some (A2m h):= by
 have h5:=ok.figures
 have hl:∀i,(((List.range i).filter (Q7 h)).map fun (i:Nat)=>(i:Int)).length≤i:=fun i=>by
  rw [List.length_map]
  have:=List.length_filter_le (Q7 h) (List.range i)
  rwa [List.length_range] at this
 exact I2 (b:=b) (fun i=>((i:Int),((List.range i).filter (Q7 h)).map fun (i:Nat)=>(i:Int))) h.Figures.length (by omega) (fun i hi=>by
  rw [hb i _ hi (hl i),List.range_succ,List.filter_append,List.map_append,List.filter_cons,List.filter_nil]
  cases Q7 h i <;> rfl) (he _)
theorem C5o {h:RoHouse} (hb:NB h):A18 h = some (A6i h):= by
 unfold A18 A6i
 rw [U1 h hb]
 simp only [Option.bind_some]
 by_cases e0:(check h).2.2 = 0
 ·have ok:=R5 e0
  have h5:=ok.figures
  have hp5:=ok.places
  have hsz:=B6m ok
  have hf:=C0e (N4 h) 0 (fun _=>0) (by omega) (by omega)
  have hit:=C04 ok U2 hf
  have hit:A7m ⟨h⟩ (Int × Ar5 Int) Unit U2 (0,Ar5.mk 0 0 0 0 0) = _:=hit
  rw [if_neg (by simp [e0]),if_neg (by simp [e0]),hit,Int.zero_add]
  simp only [Option.bind_some]
  by_cases c:(N4 h).length = 0
  ·rw [if_pos c,if_pos (by rw [beq_iff_eq]; omega)]
  ·rw [if_neg c,if_neg (by rw [beq_iff_eq]; omega)]
   rw [C0f ok (b:=A37 h (((N4 h).length:Int),a5 (D0l (N4 h) fun _=>0))) (fun i r hi hr=>by
    unfold A37
    simp only []
    rw [if_pos (by rw [decide_eq_true_eq]; omega),D25 _ i (by omega)]
    simp only [Option.bind_some]
    rw [E0 (n:=(i:Int) + 1) (by omega)]
    have hnn:∀x ∈ N4 h,0≤e x.2 i:=fun x hx=>by
     have pv:=A1v hx
     unfold e
     split
     ·have:=pv.bd i (by assumption)
      omega
     ·omega
    have hz:=(C0c i (N4 h) 0 (by omega) hnn).1
    have hiff:D0l (N4 h) (fun _=>0) i = 0↔Q7 h i = true:= by
     show (N4 h).foldl _ (0:Int) = 0↔_
     rw [hz]
     unfold Q7
     rw [List.all_eq_true]
     constructor
     ·intro q x hx
      have:=q.2 x hx
      have pv:=A1v hx
      unfold e at this
      rw [if_pos (show i < x.2.length by rw [pv.len]; exact hi)] at this
      rw [beq_iff_eq]; omega
     ·intro q
      refine ⟨rfl,fun x hx=>?_⟩
      have:=q x hx
      rw [beq_iff_eq] at this
      have pv:=A1v hx
      unfold e
      rw [if_pos (show i < x.2.length by rw [pv.len]; exact hi),this]; rfl
    cases hn:Q7 h i with
    | true =>
     rw [if_pos (by rw [beq_iff_eq]; exact hiff.mpr hn),A50 (by omega) (by simp only [List.length_singleton]; omega),if_pos rfl]; rfl
    | false =>
     rw [if_neg (by rw [beq_iff_eq]; intro q; rw [hiff.mp q] at hn; cases hn),if_neg (by decide),List.append_nil]; rfl) (fun r=>by
    unfold A37
    simp only []
    rw [if_neg (by simp)])]
   rfl
 ·rw [if_pos (bne_iff_ne.mpr e0),if_pos (bne_iff_ne.mpr e0)]
end Rm
end
section
set_option maxRecDepth 100000
set_option maxHeartbeats 0
namespace Rm
open Go Am Go.Proofs.YtbheamjhjgoccaaDoor.Cd
end Rm
end
section
namespace Rm
open Go Am
theorem B33 {h:RoHouse} (e0:(check h).2.2 = 0):(N4 h = []∧A1w h = (⟨0,[]⟩,0,9))∨∃ b,b ∈ N4 h∧A1w h = (mkP b,worth h b.2,0):= by
 unfold A1w
 rw [if_neg (by simp [e0])]
 cases hA:N4 h with
 | nil=>exact .inl ⟨rfl,rfl⟩
 | cons x l =>
  right
  refine ⟨T0 h x l,?_,rfl⟩
  rcases A7u h l x with e | e
  ·rw [e]; exact List.mem_cons_self ..
  ·exact List.mem_cons_of_mem _ e
theorem D2y {h:RoHouse} {l:Nat}:∀(d:Nat) (q p:List Int),p.length = q.length + d→p.take q.length = q→(∀ i,q.length≤i→i < p.length→p[i]! ∈ cand h l (p.take i))→p ∈ DF h l d q
 | 0,q,p,hl,ht,_=>by
  unfold DF
  rw [List.take_of_length_le (by omega)] at ht
  rw [ht]; exact List.mem_singleton.mpr rfl
 | d + 1,q,p,hl,ht,hc=>by
  unfold DF
  rw [List.mem_flatMap]
  have h1:=hc q.length (Nat.le_refl _) (by omega)
  rw [ht] at h1
  refine ⟨p[q.length]!,h1,D2y d _ p (by rw [List.length_append,List.length_singleton]; omega) ?_ fun i hi hp=>hc i (by rw [List.length_append,List.length_singleton] at hi; omega) hp⟩
  rw [List.length_append,List.length_singleton,C9p p (by omega),ht]
theorem D55 {h:RoHouse} {l:Nat} {p:List Int} (pv:PV h p) (hd:dup p = false) {i:Nat} (hi:i < p.length) (hs:X1 h l p i = true):p[i]! ∈ cand h l (p.take i):= by
 unfold cand
 rw [List.mem_append]
 by_cases c:p[i]! = -1
 ·right; rw [c]; exact List.mem_singleton.mpr rfl
 ·left
  obtain ⟨q,hq1,hq2,_⟩:=shown pv hi c
  rw [hq1,List.mem_map]
  refine ⟨q,?_,rfl⟩
  rw [List.mem_filter,List.mem_range]
  refine ⟨hq2,?_⟩
  have ht:=(B2w p).mp hd i hi
  unfold R0 at ht
  unfold X1 at hs
  have hb:(p[i]! == -1) = false:=beq_eq_false_iff_ne.mpr c
  rw [bne,hb,Bool.not_false,Bool.true_and] at ht
  rw [hb,Bool.false_or,hq1,Int.toNat_natCast] at hs
  unfold Z7
  rw [List.length_take,Nat.min_eq_left (by omega),hs,← hq1,ht]; rfl
theorem B8u {h:RoHouse} {l:Nat} {p:List Int} (pv:PV h p) (hl:l < 2 ^ h.Stoves.toNat) (hd:dup p = false) (ha:Q2 h l p = true):(l,p) ∈ N4 h:= by
 unfold Q2 at ha
 rw [Bool.and_eq_true] at ha
 unfold N4
 rw [List.mem_flatMap]
 refine ⟨l,List.mem_range.mpr hl,?_⟩
 unfold Z0
 rw [List.mem_map]
 refine ⟨p,?_,rfl⟩
 rw [List.mem_filter]
 refine ⟨D2y _ _ _ (by rw [pv.len]; simp) rfl fun i _ hi=>D55 pv hd hi ?_,ha.2⟩
 have:=ha.1
 unfold A39 at this
 rw [List.all_eq_true] at this
 exact this i (List.mem_range.mpr hi)
theorem B0f {f:Nat→Int} {n:Nat} (h:∀i,i < n→f i = 0):wrong f n = none:= by
 unfold wrong
 rw [K5]
 intro i hi
 rw [h i hi]; rfl
theorem B77 {lo hi:Int} {g:Span} (h:lo≤g.Lo∧g.Lo≤g.Hi∧g.Hi≤hi):J8 lo hi g = 0:= by
 unfold J8
 rw [L4.mpr ⟨h.1,by omega⟩,L4.mpr ⟨by omega,h.2.2⟩,if_neg (by decide),if_neg (by omega)]
theorem C0g {hi:Int} {l:List Int} (h:∀x ∈ l,0≤x∧x≤hi) {i:Nat} (c:i < l.length):V3 hi l i = 0:= by
 unfold V3
 rw [L4.mpr (h _ (G2 c))]; rfl
theorem C5c {h:RoHouse} {p:RoPlace} (o:PlOk h p):A3j h p = 0:= by
 unfold A3j
 rw [if_neg (by simp [o.len]),B0f (fun j hj=>B77 (o.warms _ (G2 hj))),L4.mpr o.joists]; rfl
theorem C8i {f:RoFigure} (o:FiOk f):A7g f = 0:= by
 unfold A7g
 have b:=o.bears
 rw [L4.mpr o.cls,L4.mpr o.weight,L4.mpr ⟨b.1,by omega⟩,L4.mpr ⟨by omega,b.2.2⟩,L4.mpr o.worth,if_neg (by decide),if_neg (by omega)]
structure NmOk (l:List ByteArray):Prop where
 each:∀s ∈ l,A68 s = true
 two:l.Pairwise fun a b=>eqS a b = false
theorem D3u (a b:ByteArray):eqS a b = eqS b a:= by
 unfold eqS
 rw [Bool.eq_iff_iff,beq_iff_eq,beq_iff_eq]
 exact eq_comm
theorem B0x {s:ByteArray} {l:List ByteArray}:A09 s l = 0↔A68 s = true∧∀ y ∈ l,eqS y s = false:= by
 unfold A09
 cases A68 s with
 | false=>simp
 | true =>
  rw [if_pos rfl]
  cases hl:l.any (fun y=>eqS y s) with
  | true =>
   rw [List.any_eq_true] at hl
   obtain ⟨y,h1,h2⟩:=hl
   refine ⟨fun q=>absurd q (by decide),fun q=>?_⟩
   rw [q.2 y h1] at h2; cases h2
  | false =>
   rw [List.any_eq_false] at hl
   refine ⟨fun _=>⟨rfl,fun y hy=>by have:=hl y hy; simpa using this⟩,fun _=>rfl⟩
theorem D4n (l:List ByteArray):(∀ i,i < l.length→A09 l[i]! (l.take i) = 0)↔NmOk l:= by
 constructor
 ·intro h
  refine ⟨fun s hs=>?_,?_⟩
  ·obtain ⟨i,hi,rfl⟩:=A6h hs
   exact (B0x.mp (h i hi)).1
  ·rw [List.pairwise_iff_getElem]
   intro i j hi hj hij
   have:=(B0x.mp (h j hj)).2 l[i] (by
    rw [List.mem_take_iff_getElem]
    exact ⟨i,by omega,rfl⟩)
   rwa [getElem!_pos l j hj] at this
 ·intro h i hi
  refine B0x.mpr ⟨h.each _ (G2 hi),fun y hy=>?_⟩
  rw [List.mem_take_iff_getElem] at hy
  obtain ⟨j,hj,rfl⟩:=hy
  have:=List.pairwise_iff_getElem.mp h.two j i (by omega) hi (by omega)
  rwa [getElem!_pos l i hi]
theorem C8w {α:Type} [Inhabited α] (k:α→ByteArray) (l:List α):(∀ i,i < l.length→A09 (k l[i]!) ((l.take i).map k) = 0)↔NmOk (l.map k):= by
 rw [← D4n,List.length_map]
 refine forall_congr' fun i=>forall_congr' fun hi=>?_
 rw [List.map_take,getElem!_pos (l.map k) i (by rw [List.length_map]; exact hi),List.getElem_map,getElem!_pos l i hi]
theorem B6o (h:RoHouse):(check h).2.2 = 0↔HOk h∧NmOk (h.Places.map (·.Name))∧NmOk (h.Figures.map (·.Name)):= by
 constructor
 ·intro e
  refine ⟨R5 e,?_,?_⟩
  ·rw [← C8w]
   intro i hi
   unfold check at e
   by_cases h1:J8 (-100) 100 h.Weather = 0
   ·rw [if_neg (by simp [h1])] at e
    cases h2:out 0 3 h.Stoves with
    | true=>rw [h2,if_pos rfl] at e; exact absurd e (show ¬ ((7:Int) = 0) by decide)
    | false =>
    rw [h2,if_neg (by decide)] at e
    by_cases h3:h.Holds.length > 4
    ·rw [if_pos h3] at e; exact absurd e (by decide)
    rw [if_neg h3] at e
    cases g1:wrong (V3 2000 h.Holds) h.Holds.length with
    | some x =>
     rw [g1] at e
     have:=Y9 g1
     have e:x.2 = 0:=e
     rw [e] at this; exact absurd this (by decide)
    | none =>
    rw [g1] at e
    simp only [] at e
    by_cases h4:h.Places.length > 5
    ·rw [if_pos h4] at e; exact absurd e (by decide)
    rw [if_neg h4] at e
    cases g2:wrong (P3 h) h.Places.length with
    | some x =>
     rw [g2] at e
     have:=Y9 g2
     have e:x.2 = 0:=e
     rw [e] at this; exact absurd this (by decide)
    | none =>
     have:=A4x g2 i hi
     unfold P3 at this
     by_cases c:A7v h i = 0
     ·exact c
     ·rw [if_neg (by simp [c])] at this; exact absurd this c
   ·rw [if_pos (bne_iff_ne.mpr h1)] at e
    exact absurd e h1
  ·rw [← C8w]
   intro i hi
   unfold check at e
   by_cases h1:J8 (-100) 100 h.Weather = 0
   ·rw [if_neg (by simp [h1])] at e
    cases h2:out 0 3 h.Stoves with
    | true=>rw [h2,if_pos rfl] at e; exact absurd e (show ¬ ((7:Int) = 0) by decide)
    | false =>
    rw [h2,if_neg (by decide)] at e
    by_cases h3:h.Holds.length > 4
    ·rw [if_pos h3] at e; exact absurd e (by decide)
    rw [if_neg h3] at e
    cases g1:wrong (V3 2000 h.Holds) h.Holds.length with
    | some x =>
     rw [g1] at e
     have:=Y9 g1
     have e:x.2 = 0:=e
     rw [e] at this; exact absurd this (by decide)
    | none =>
    rw [g1] at e
    simp only [] at e
    by_cases h4:h.Places.length > 5
    ·rw [if_pos h4] at e; exact absurd e (by decide)
    rw [if_neg h4] at e
    cases g2:wrong (P3 h) h.Places.length with
    | some x =>
     rw [g2] at e
     have:=Y9 g2
     have e:x.2 = 0:=e
     rw [e] at this; exact absurd this (by decide)
    | none =>
    rw [g2] at e
    simp only [] at e
    by_cases h5:h.Figures.length > 5
    ·rw [if_pos h5] at e; exact absurd e (by decide)
    rw [if_neg h5] at e
    cases g3:wrong (A0g h) h.Figures.length with
    | some x =>
     rw [g3] at e
     have:=Y9 g3
     have e:x.2 = 0:=e
     rw [e] at this; exact absurd this (by decide)
    | none =>
     have:=A4x g3 i hi
     unfold A0g at this
     by_cases c:B2x h i = 0
     ·exact c
     ·rw [if_neg (by simp [c])] at this; exact absurd this c
   ·rw [if_pos (bne_iff_ne.mpr h1)] at e
    exact absurd e h1
 ·rintro ⟨ok,n1,n2⟩
  rw [← C8w] at n1 n2
  have f4:=ok.holds
  have f5:=ok.places
  have f6:=ok.figures
  have f7:=ok.bill
  unfold check
  rw [B77 ok.w,if_neg (by decide),L4.mpr ok.s,if_neg (by decide),if_neg (by omega),B0f fun i hi=>C0g ok.hold hi]
  simp only []
  rw [if_neg (by omega),B0f fun i hi=>by
   unfold P3
   have:A7v h i = 0:=n1 i hi
   rw [this,if_pos (by decide)]; exact C5c (ok.place _ (G2 hi))]
  simp only []
  rw [if_neg (by omega),B0f fun i hi=>by
   unfold A0g
   have:B2x h i = 0:=n2 i hi
   rw [this,if_pos (by decide)]; exact C8i (ok.figure _ (G2 hi))]
  simp only []
  rw [if_neg (by omega),B0f fun i hi=>C0g ok.class_ hi]
theorem NmOk.reverse {l:List ByteArray} (h:NmOk l):NmOk l.reverse :=
 ⟨fun s hs=>h.each s (List.mem_reverse.mp hs),by
  rw [List.pairwise_reverse]
  exact h.two.imp fun {a b} e=>by rw [D3u]; exact e⟩
def ltv (a b:Int):Bool:=b == -1 || (a != -1 && decide (a < b))
def B1r:List Int→List Int→Bool
 | a :: p,b :: q=>if a == b then B1r p q else ltv a b
 | _,_=>false
theorem C52:∀(q a b:List Int),B1r (q++a) (q++b) = B1r a b
 | [],_,_=>rfl
 | x :: q,a,b=>by
  show (if x == x then B1r (q++a) (q++b) else ltv x x) = _
  rw [if_pos (by simp),C52 q]
theorem C51:∀a:List Int,B1r a a = false
 | []=>rfl
 | x :: q=>by
  show (if x == x then B1r q q else ltv x x) = _
  rw [if_pos (by simp),C51 q]
theorem D4h {a b:Int} (h:ltv a b = true) (hn:a ≠ b):ltv b a = false:= by
 unfold ltv at h ⊢
 rw [Bool.or_eq_true,beq_iff_eq,Bool.and_eq_true,bne_iff_ne,decide_eq_true_eq] at h
 rw [Bool.or_eq_false_iff,beq_eq_false_iff_ne,Bool.and_eq_false_iff,decide_eq_false_iff_not]
 rcases h with h | h
 ·refine ⟨by omega,.inl ?_⟩
  rw [h]; rfl
 ·exact ⟨h.1,.inr (by omega)⟩
theorem C6b (h:RoHouse) (l:Nat) (q:List Int):(cand h l q).Pairwise fun a b=>a ≠ b∧ltv a b = true:= by
 unfold cand
 rw [List.pairwise_append]
 refine ⟨?_,List.pairwise_singleton _ _,fun a ha b hb=>?_⟩
 ·rw [List.pairwise_map]
  refine (List.pairwise_lt_range.filter _).imp fun {a b} hab=>⟨by omega,?_⟩
  unfold ltv
  rw [Bool.or_eq_true,Bool.and_eq_true,bne_iff_ne,decide_eq_true_eq]
  exact .inr ⟨by omega,by omega⟩
 ·rw [List.mem_singleton.mp hb]
  rw [List.mem_map] at ha
  obtain ⟨p,_,rfl⟩:=ha
  exact ⟨by omega,rfl⟩
theorem B8b {p q:List Int} (h:p.take q.length = q):∃s,p = q++s:=⟨p.drop q.length,by rw [← List.take_append_drop q.length p,h]; simp⟩
theorem C2q (h:RoHouse) (l:Nat):∀(d:Nat) (q:List Int),(DF h l d q).Pairwise fun a b=>B1r b a = false
 | 0,q=>List.pairwise_singleton _ _
 | d + 1,q=>by
  unfold DF
  rw [List.pairwise_flatMap]
  refine ⟨fun v _=>C2q h l d _,(C6b h l q).imp fun {v w} hvw x hx y hy=>?_⟩
  obtain ⟨s,rfl⟩:=B8b (B8s d _ x hx)
  obtain ⟨t,rfl⟩:=B8b (B8s d _ y hy)
  rw [List.append_assoc,List.append_assoc,C52]
  show (if w == v then B1r t s else ltv w v) = false
  rw [if_neg (by rw [beq_iff_eq]; exact fun e=>hvw.1 e.symm)]
  exact D4h hvw.2 hvw.1
def C4k (x y:Nat × List Int):Bool:=if x.1 != y.1 then decide (x.1 < y.1) else B1r x.2 y.2
theorem D3e (x:Nat × List Int):C4k x x = false:= by
 unfold C4k
 rw [if_neg (by simp),C51]
theorem C5x (h:RoHouse):(N4 h).Pairwise fun a b=>C4k b a = false:= by
 unfold N4
 rw [List.pairwise_flatMap]
 refine ⟨fun l _=>?_,List.pairwise_lt_range.imp fun {v w} hvw x hx y hy=>?_⟩
 ·unfold Z0
  rw [List.pairwise_map]
  refine ((C2q h l _ _).filter _).imp fun {a b} hab=>?_
  unfold C4k
  rw [if_neg (by simp)]; exact hab
 ·unfold Z0 at hx hy
  rw [List.mem_map] at hx hy
  obtain ⟨p,_,rfl⟩:=hx
  obtain ⟨q,_,rfl⟩:=hy
  unfold C4k
  rw [if_pos (by rw [bne_iff_ne]; show w ≠ v; omega),decide_eq_false_iff_not]
  show ¬ w < v
  omega
theorem C03 (h:RoHouse):∀(l:List (Nat × List Int)) (x:Nat × List Int),T0 h x l = x∨worth h (T0 h x l).2 > worth h x.2
 | [],x=>.inl rfl
 | y :: l,x=>by
  show T0 h (better1 h x y) l = x∨worth h (T0 h (better1 h x y) l).2 > _
  have ih:=C03 h l (better1 h x y)
  unfold better1 at ih ⊢
  by_cases c:worth h y.2 > worth h x.2
  ·rw [if_pos c] at ih ⊢
   right
   rcases ih with e | e
   ·rw [e]; exact c
   ·omega
  ·rw [if_neg c] at ih ⊢
   exact ih
theorem B04 (h:RoHouse) {R:Nat × List Int→Nat × List Int→Prop} (hr:∀a,R a a):∀(l:List (Nat × List Int)) (x:Nat × List Int),(x :: l).Pairwise R→∀ y ∈ x :: l,worth h y.2 < worth h (T0 h x l).2∨(worth h y.2 = worth h (T0 h x l).2∧R (T0 h x l) y)
 | [],x,_,y,hy=>by rw [List.mem_singleton.mp hy]; exact .inr ⟨rfl,hr _⟩
 | z :: l,x,hp,y,hy=>by
  rw [List.pairwise_cons] at hp
  have hp2:=List.pairwise_cons.mp hp.2
  show worth h y.2 < worth h (T0 h (better1 h x z) l).2∨(worth h y.2 = worth h (T0 h (better1 h x z) l).2∧R (T0 h (better1 h x z) l) y)
  have hs:=C03 h l (better1 h x z)
  by_cases c:worth h z.2 > worth h x.2
  ·have e:better1 h x z = z:= by unfold better1; rw [if_pos c]
   rw [e] at hs ⊢
   rcases List.mem_cons.mp hy with rfl | hy
   ·left
    rcases hs with e | e
    ·rw [e]; exact c
    ·omega
   ·exact B04 h hr l z hp.2 y hy
  ·have e:better1 h x z = x:= by unfold better1; rw [if_neg c]
   rw [e] at hs ⊢
   have hx:(x :: l).Pairwise R:=List.pairwise_cons.mpr ⟨fun w hw=>hp.1 w (List.mem_cons_of_mem _ hw),hp2.2⟩
   rcases List.mem_cons.mp hy with rfl | hy
   ·exact B04 h hr l y hx y (List.mem_cons_self ..)
   ·rcases List.mem_cons.mp hy with rfl | hy
    ·rcases hs with e | e
     ·rw [e]
      by_cases c2:worth h y.2 < worth h x.2
      ·exact .inl c2
      ·exact .inr ⟨by omega,hp.1 y (List.mem_cons_self ..)⟩
     ·left; omega
    ·exact B04 h hr l x hx y (List.mem_cons_of_mem _ hy)
theorem C53 {h:RoHouse} (e0:(check h).2.2 = 0) {y:Nat × List Int} (hy:y ∈ N4 h):∃b,b ∈ N4 h∧A1w h = (mkP b,worth h b.2,0)∧(worth h y.2 < worth h b.2∨(worth h y.2 = worth h b.2∧C4k y b = false)):= by
 unfold A1w
 rw [if_neg (by simp [e0])]
 have hs:=C5x h
 cases hA:N4 h with
 | nil=>rw [hA] at hy; cases hy
 | cons x l =>
  rw [hA] at hy hs
  refine ⟨T0 h x l,?_,rfl,B04 h (R:=fun a b=>C4k b a = false) D3e l x hs y hy⟩
  rcases A7u h l x with e | e
  ·rw [e]; exact List.mem_cons_self ..
  ·exact List.mem_cons_of_mem _ e
structure SameBut (h g:RoHouse):Prop where
 weather:g.Weather = h.Weather
 stoves:g.Stoves = h.Stoves
 holds:g.Holds = h.Holds
 places:g.Places = h.Places
 bill:g.Bill = h.Bill
 len:g.Figures.length = h.Figures.length
 fig:∀i,i < h.Figures.length→(g.Figures[i]!).Cracks = (h.Figures[i]!).Cracks∧(g.Figures[i]!).Slumps = (h.Figures[i]!).Slumps∧(g.Figures[i]!).Weight = (h.Figures[i]!).Weight∧(g.Figures[i]!).Class = (h.Figures[i]!).Class
theorem SameBut.fig' {h g:RoHouse} (s:SameBut h g) (i:Nat):(g.Figures[i]!).Cracks = (h.Figures[i]!).Cracks∧(g.Figures[i]!).Slumps = (h.Figures[i]!).Slumps∧(g.Figures[i]!).Weight = (h.Figures[i]!).Weight∧(g.Figures[i]!).Class = (h.Figures[i]!).Class:= by
 by_cases c:i < h.Figures.length
 ·exact s.fig i c
 ·have e1:g.Figures[i]! = default:= by rw [List.getElem!_eq_getElem?_getD,List.getElem?_eq_none (by have:=s.len; omega)]; rfl
  have e2:h.Figures[i]! = default:= by rw [List.getElem!_eq_getElem?_getD,List.getElem?_eq_none (by omega)]; rfl
  rw [e1,e2]; exact ⟨rfl,rfl,rfl,rfl⟩
theorem D2o {h g:RoHouse} (s:SameBut h g) (l:Nat) (q:List Int):Z7 g l q = Z7 h l q:= by
 funext p
 unfold Z7 L6 warm
 rw [s.weather,s.stoves,s.places,(s.fig' q.length).1,(s.fig' q.length).2.1]
theorem D2n {h g:RoHouse} (s:SameBut h g) (l:Nat) (q:List Int):cand g l q = cand h l q:= by
 unfold cand
 rw [D2o s,s.places]
theorem D00 {h g:RoHouse} (s:SameBut h g) (l:Nat):∀(d:Nat) (q:List Int),DF g l d q = DF h l d q
 | 0,_=>rfl
 | d + 1,q=>by
  unfold DF
  rw [D2n s]
  exact congrArg (fun f=>List.flatMap f _) (funext fun v=>D00 s l d _)
theorem C1k {h g:RoHouse} (s:SameBut h g) (p:List Int) (k:Nat):∀n,F9 g p k n = F9 h p k n
 | 0=>rfl
 | n + 1=>by
  rw [N3,N3,C1k s p k n]
  unfold con plc
  rw [s.places,(s.fig' n).2.2.1]
theorem C1l {h g:RoHouse} (s:SameBut h g) (p:List Int) (c:Int):∀n,K4 g p c n = K4 h p c n
 | 0=>rfl
 | n + 1=>by
  rw [A0s,A0s,C1l s p c n]
  unfold dear plc
  rw [s.places,(s.fig' n).2.2.2]
theorem D7i {h g:RoHouse} (s:SameBut h g) (p:List Int):okB g p = okB h p:= by
 unfold okB R7 A1s
 rw [s.holds,s.bill]
 simp only [C1k s,C1l s]
theorem D2m {h g:RoHouse} (s:SameBut h g):N4 g = N4 h:= by
 unfold N4 Z0
 rw [s.stoves,s.len]
 have:okB g = okB h:=funext (D7i s)
 rw [this]
 exact congrArg (fun f=>List.flatMap f _) (funext fun l=>by rw [D00 s])
def A24 (h:RoHouse):RoHouse:=⟨h.Weather,h.Stoves,h.Holds,h.Places,h.Figures.reverse,h.Bill⟩
theorem A5t {α:Type} [Inhabited α] (l:List α) {i:Nat} (hi:i < l.length):l.reverse[i]! = l[l.length - 1 - i]!:= by
 rw [getElem!_pos l.reverse i (by rw [List.length_reverse]; exact hi),List.getElem_reverse,getElem!_pos l (l.length - 1 - i) (by omega)]
def B3j (f:Nat→Int) (n:Nat):Int:=iter (fun i s=>s + f i) n 0
theorem B0e (f:Nat→Int) (n:Nat):B3j f (n + 1) = B3j f n + f n:=rfl
theorem A8q {f g:Nat→Int}:∀{n:Nat},(∀ i,i < n→f i = g i)→B3j f n = B3j g n
 | 0,_=>rfl
 | n + 1,h=>by rw [B0e,B0e,A8q fun i hi=>h i (by omega),h n (by omega)]
theorem C1r (f:Nat→Int):∀n,B3j f (n + 1) = f 0 + B3j (fun i=>f (i + 1)) n
 | 0=>by
  show (0:Int) + f 0 = f 0 + 0
  omega
 | n + 1=>by rw [B0e,C1r f n,B0e]; omega
theorem B6g:∀(n:Nat) (f:Nat→Int),B3j f n = B3j (fun i=>f (n - 1 - i)) n
 | 0,_=>rfl
 | n + 1,f=>by
  rw [B0e,C1r (fun i=>f (n + 1 - 1 - i)) n,B6g n f]
  have e:B3j (fun i=>f (n - 1 - i)) n = B3j (fun i=>f (n + 1 - 1 - (i + 1))) n:=A8q fun i hi=>by rw [show n - 1 - i = n + 1 - 1 - (i + 1) by omega]
  rw [e]
  show _ = f (n + 1 - 1 - 0) + _
  rw [show n + 1 - 1 - 0 = n by omega]; omega
section
variable {h:RoHouse} {p:List Int}
theorem D7f (pv:PV h p) (k:Nat) {i:Nat} (hi:i < p.length):con (A24 h) p.reverse k i = con h p k (p.length - 1 - i):= by
 unfold con plc
 have hl:=pv.len
 rw [List.length_reverse,A5t p hi]
 have e:(A24 h).Figures[i]! = h.Figures[p.length - 1 - i]!:= by
  show h.Figures.reverse[i]! = _
  rw [A5t h.Figures (by omega),hl]
 rw [e]
 by_cases c:p[p.length - 1 - i]! ≠ -1∧bit (h.Places[p[p.length - 1 - i]!.toNat]!).Joists.toNat k = true
 ·rw [if_pos ⟨hi,c⟩,if_pos ⟨by omega,c⟩]
 ·rw [if_neg (fun q=>c q.2),if_neg (fun q=>c q.2)]
theorem D2i (pv:PV h p) (k:Nat):F9 (A24 h) p.reverse k p.reverse.length = F9 h p k p.length:= by
 rw [List.length_reverse]
 show B3j (con (A24 h) p.reverse k) p.length = B3j (con h p k) p.length
 rw [B6g p.length (con h p k)]
 exact A8q fun i hi=>D7f pv k hi
theorem D5k (pv:PV h p) (c:Int) {i:Nat} (hi:i < p.length):dear (A24 h) p.reverse c i = dear h p c (p.length - 1 - i):= by
 unfold dear plc
 have hl:=pv.len
 rw [List.length_reverse,A5t p hi]
 have e:(A24 h).Figures[i]! = h.Figures[p.length - 1 - i]!:= by
  show h.Figures.reverse[i]! = _
  rw [A5t h.Figures (by omega),hl]
 rw [e]
 by_cases q:p[p.length - 1 - i]! ≠ -1∧(h.Places[p[p.length - 1 - i]!.toNat]!).Dear = true∧(h.Figures[p.length - 1 - i]!).Class = c
 ·rw [if_pos ⟨hi,q⟩,if_pos ⟨by omega,q⟩]
 ·rw [if_neg (fun z=>q z.2),if_neg (fun z=>q z.2)]
theorem D2k (pv:PV h p) (c:Int):K4 (A24 h) p.reverse c p.reverse.length = K4 h p c p.length:= by
 rw [List.length_reverse]
 show B3j (dear (A24 h) p.reverse c) p.length = B3j (dear h p c) p.length
 rw [B6g p.length (dear h p c)]
 exact A8q fun i hi=>D5k pv c hi
where
 rev_carry_all (pv:PV h p):((List.range (A24 h).Holds.length).all fun k=>decide (F9 (A24 h) p.reverse k p.reverse.length≤(A24 h).Holds[k]!)) = (List.range h.Holds.length).all fun k=>decide (F9 h p k p.length≤h.Holds[k]!):= by
  simp only [D2i pv]; rfl
 rev_there_all (pv:PV h p):((List.range 10).all fun c=>decide (A1b (A24 h).Bill (c:Int) (A24 h).Bill.length≤K4 (A24 h) p.reverse (c:Int) p.reverse.length)) = (List.range 10).all fun c=>decide (A1b h.Bill (c:Int) h.Bill.length≤K4 h p (c:Int) p.length):= by
  simp only [D2k pv]; rfl
end
end Rm
end
section
set_option maxRecDepth 100000
set_option maxHeartbeats 0
namespace Rm
open Go Am Go.Proofs.YtbheamjhjgoccaaDoor.Cd
def A0e (a0:RoPlan) (a1:RoPlan) (s2:Int):Option (Int ⊕ (Bool ⊕ Unit)) :=
 if ((decide (s2 < (List.length a0.At:Int))) && (decide (s2 < (List.length a1.At:Int)))) = true then
  (idx a0.At s2).bind fun x6 =>
  (idx a1.At s2).bind fun x7 =>
  if (x6 != x7) = true then
  (idx a1.At s2).bind fun x9 =>
  (if (x9 == (-1)) = true then
   some true
  else
   (idx a0.At s2).bind fun x11 =>
   (if (x11 != (-1)) = true then
   (idx a0.At s2).bind fun x13 =>
   (idx a1.At s2).bind fun x14 =>
   some (decide (x13 < x14))
   else
   some false).bind fun x15 =>
   some x15).bind fun x16 =>
  some (.inr (.inl x16))
  else
  some (.inl (w64 (s2 + 1)))
 else
  some (.inr (.inr ()))
def A3l (a0:RoPlan) (a1:RoPlan):Option Bool :=
 if (a0.Lit != a1.Lit) = true then
  some (decide (a0.Lit < a1.Lit))
 else
  (loop (A0e a0 a1) 0).bind fun (o17:(Bool ⊕ Unit)) =>
  match o17 with
  | (.inl vo17_0) =>
  some vo17_0
  | (.inr vo17_1) =>
  some false
theorem B8j {c:Sc} {H:A6} {a0:RoPlan} {a1:RoPlan} {r:Bool} (h:A3l a0 a1 = some r) :
  E7 tab c H (.fn (.func 53) [] []) [(.agg (B1 a0)),(.agg (B1 a1))] [.b r]:= by
 unfold A3l at h
 refine cE rfl rfl<|sg 0 rfl<|A0 (E8 (cs:=B1 a0) rfl rfl rfl) rfl<|A0 (E8 (cs:=B1 a1) rfl rfl rfl) rfl<|qm rfl<|es (ra2 rfl rfl)<|B8<|s0<|A0 (C4 rfl) rfl<|A0 (C2 rfl rfl rfl) rfl<|A0 (C4 rfl) rfl<|A0 (C2 rfl rfl rfl) rfl<|A0 (F7 rfl rfl) rfl<|es (ra3 rfl rfl rfl)<|wi h rfl (fun hc1 h=>?_) fun hc1 h=>?_
 ·refine s0<|A0 (C4 rfl) rfl<|A0 (C2 rfl rfl rfl) rfl<|A0 (C4 rfl) rfl<|A0 (C2 rfl rfl rfl) rfl<|A0 (G0 rfl rfl) rfl<|qm rfl<|es (ra1 rfl)<|C5 ?_
  obtain rfl:=os h
  exact retq trivial (A9 rfl B6) (A4 rfl B5) (A2 A5 B2)
 ·refine C1<|B8<|s0<|qm rfl<|es (ra3 rfl rfl rfl)<|C6<|oB h fun o17 ho17 h=>wl (fun s2=>[(2,(.ptr (H.length + 0) 0)),(3,(.ptr (H.length + 1) 0)),(5,.i s2)]) (fun (q3:Unit) s2=>[(.cells (B1 a0)),(.cells (B1 a1))]) 2 (fun r e s' H'=>(match r with | (.inl v)=>e = .ret∧RetQ H [.tmp 4] [.b v] e s' H' | (.inr v)=>PX 0 [] (H++[(.cells (B1 a0)),(.cells (B1 a1))]) e s' H':Prop)) () ho17 rfl rfl (fun _ _=>rfl) (fun _=>rfl) rfl (fun s2=>(bdc (D8 rfl) (bdc (D8 rfl) (bdc A5 bdn)))) (fun q3 s2 ys2 hs2=>?_) ?_
  ·unfold A0e at hs2
   refine B8<|s0<|qm rfl<|A0 (C4 rfl) rfl<|A0 (C2 rfl rfl rfl) rfl<|A0 (D9 (f:=cI) rfl) rfl<|A0 (G0 rfl rfl) rfl<|qm rfl<|gp 6 27 (.b ((decide (s2 < (List.length a0.At:Int))) && (decide (s2 < (List.length a1.At:Int))))) 21 rfl rfl (fun hg4=>?_) (fun hg4=>?_) ?_
   ·exact gT rfl hg4<|qm rfl<|gT rfl hg4<|A0 (C4 rfl) rfl<|gT rfl hg4<|A0 (C2 rfl rfl rfl) rfl<|gT rfl hg4<|A0 (D9 (f:=cI) rfl) rfl<|gT rfl hg4<|A0 (G0 rfl rfl) rfl<|A0 (C8 rfl hg4 rfl) rfl<|ge 6 (by rw [hg4]; rfl) rfl rfl
   ·exact nT rfl hg4 rfl<|nT rfl hg4 rfl<|nT rfl hg4 rfl<|nT rfl hg4 rfl<|nT rfl hg4 rfl<|A0 (C9 rfl hg4 rfl) rfl<|ge 6 (by rw [hg4]; rfl) rfl rfl
   refine es (ra4 rfl rfl rfl rfl)<|wi hs2 rfl (fun hc5 hs2=>?_) fun hc5 hs2=>?_
   ·refine C1<|B8<|C6<|s0<|oB hs2 fun x6 hx6 hs2=>oB hs2 fun x7 hx7 hs2=>A0 (C4 rfl) rfl<|A0 (C2 rfl rfl rfl) rfl<|qm rfl<|A0 (E3 (f:=cI) rfl rfl hx6) rfl<|A0 (E5 rfl rfl) rfl<|A0 (C4 rfl) rfl<|A0 (C2 rfl rfl rfl) rfl<|qm rfl<|A0 (E3 (f:=cI) rfl rfl hx7) rfl<|A0 (E5 rfl rfl) rfl<|A0 (F7 rfl rfl) rfl<|es (ra4 rfl rfl rfl rfl)<|wi hs2 rfl (fun hc8 hs2=>?_) fun hc8 hs2=>?_
    ·refine s0<|oB hs2 fun x9 hx9 hs2=>oB hs2 fun x16 hx16 hs2=>A0 (C4 rfl) rfl<|A0 (C2 rfl rfl rfl) rfl<|qm rfl<|A0 (E3 (f:=cI) rfl rfl hx9) rfl<|A0 (E5 rfl rfl) rfl<|A0 (F5 rfl rfl) rfl<|qm rfl<|gp 20 67 (.b x16) 47 rfl rfl (fun hg10=>?_) (fun hg10=>?_) ?_
     ·obtain rfl:=os (bt hx16 hg10)
      exact nF rfl hg10 rfl<|nF rfl hg10 rfl<|nF rfl hg10 rfl<|nF rfl hg10 rfl<|nF rfl hg10 rfl<|nF rfl hg10 rfl<|nF rfl hg10 rfl<|nX rfl rfl<|nX rfl rfl<|nX rfl rfl<|nX rfl rfl<|nX rfl rfl<|nX rfl rfl<|nX rfl rfl<|nX rfl rfl<|nX rfl rfl<|nX rfl rfl<|nX rfl rfl<|nF rfl hg10 rfl<|A0 (C8 rfl hg10 rfl) rfl<|ge 20 rfl rfl rfl
     ·refine oB (bf hx16 hg10) fun x11 hx11 hx16=>oB hx16 fun x15 hx15 hx16=>?_
      obtain rfl:=os hx16
      refine gF rfl hg10<|A0 (C4 rfl) rfl<|gF rfl hg10<|A0 (C2 rfl rfl rfl) rfl<|gF rfl hg10<|qm rfl<|gF rfl hg10<|A0 (E3 (f:=cI) rfl rfl hx11) rfl<|gF rfl hg10<|A0 (E5 rfl rfl) rfl<|gF rfl hg10<|A0 (F7 rfl rfl) rfl<|gF rfl hg10<|qm rfl<|gq 12 66 (.b x15) 54 rfl rfl (fun hg12=>?_) (fun hg12=>?_) ?_
      ·refine oB (bt hx15 hg12) fun x13 hx13 hx15=>oB hx15 fun x14 hx14 hx15=>?_
       obtain rfl:=os hx15
       exact gT rfl hg12<|A0 (C4 rfl) rfl<|gT rfl hg12<|A0 (C2 rfl rfl rfl) rfl<|gT rfl hg12<|qm rfl<|gT rfl hg12<|A0 (E3 (f:=cI) rfl rfl hx13) rfl<|gT rfl hg12<|A0 (E5 rfl rfl) rfl<|gT rfl hg12<|A0 (C4 rfl) rfl<|gT rfl hg12<|A0 (C2 rfl rfl rfl) rfl<|gT rfl hg12<|qm rfl<|gT rfl hg12<|A0 (E3 (f:=cI) rfl rfl hx14) rfl<|gT rfl hg12<|A0 (E5 rfl rfl) rfl<|gT rfl hg12<|A0 (G0 rfl rfl) rfl<|gF rfl hg10<|A0 (C8 rfl hg12 rfl) rfl<|ge 12 rfl rfl rfl
      ·obtain rfl:=os (bf hx15 hg12)
       exact nT rfl hg12 rfl<|nT rfl hg12 rfl<|nT rfl hg12 rfl<|nT rfl hg12 rfl<|nT rfl hg12 rfl<|nT rfl hg12 rfl<|nT rfl hg12 rfl<|nT rfl hg12 rfl<|nT rfl hg12 rfl<|nT rfl hg12 rfl<|nT rfl hg12 rfl<|gF rfl hg10<|A0 (C9 rfl hg12 rfl) rfl<|ge 12 rfl rfl rfl
      exact A0 (C9 rfl hg10 rfl) rfl<|ge 9 rfl rfl rfl
     refine qm rfl<|es (ra1 rfl)<|C5 ?_
     obtain rfl:=os hs2
     exact lx rfl (And.intro rfl (retq trivial (A9 rfl B6) (A4 rfl B5) (A2 A5 B2))) (Sub.refl _)
    ·refine C1<|r0<|qm rfl<|A0 (E1 rfl rfl) rfl<|qm rfl<|en (ra3 rfl rfl rfl) ?_
     cases hs2
     exact lnT () rfl (su3 rfl rfl rfl)
   ·refine F0 ?_
    obtain rfl:=os hs2
    exact lx rfl px (.nil _)
  ·rcases o17 with vo17_0 | vo17_1
   ·rintro e s' H' - ⟨rfl,hret⟩
    cases h
    exact hret
   ·rintro e s' H' - ⟨rfl,rfl,rfl⟩
    refine s0<|qm rfl<|es (ra1 rfl)<|C5 ?_
    obtain rfl:=os h
    exact retq trivial (A9 rfl B6) (A4 rfl B5) (A2 A5 B2)
def V0 (x2:((List Int) × Int)) (x10:RoPlan) (s31:Int):Option (Int ⊕ (Bool ⊕ Unit)) :=
 if (decide (s31 < (List.length x2.1:Int))) = true then
  (idx x2.1 s31).bind fun x34 =>
  (if (decide (x34 < 0)) = true then
  some true
  else
  (idx x2.1 s31).bind fun x36 =>
  some (decide (x36 ≥ (List.length x10.At:Int)))).bind fun x37 =>
  (if x37 = true then
  some true
  else
  (idx x2.1 s31).bind fun x39 =>
  (idx x10.At x39).bind fun x40 =>
  some (x40 != (-1))).bind fun x41 =>
  if x41 = true then
  some (.inr (.inl false))
  else
  some (.inl (w64 (s31 + 1)))
 else
  some (.inr (.inr ()))
def R9 (x46:Int) (s48:(Int × (List RoFigure))):Option ((Int × (List RoFigure)) ⊕ (List RoFigure)) :=
 if (decide (s48.1 < (List.length s48.2:Int))) = true then
  (idx s48.2 s48.1).bind fun x51 =>
  if (s48.1 == x46) = true then
  (idx (A62 s48.2 s48.1 (RoFigure.mk x51.Name x51.Class x51.Weight x51.Cracks x51.Slumps 0)) s48.1).bind fun x53 =>
  some (.inl ((w64 (s48.1 + 1)),(A62 (A62 s48.2 s48.1 (RoFigure.mk x51.Name x51.Class x51.Weight x51.Cracks x51.Slumps 0)) s48.1 (RoFigure.mk x53.Name x53.Class x53.Weight x53.Cracks x53.Slumps 1))))
  else
  some (.inl ((w64 (s48.1 + 1)),(A62 s48.2 s48.1 (RoFigure.mk x51.Name x51.Class x51.Weight x51.Cracks x51.Slumps 0))))
 else
  some (.inr s48.2)
def A5e (a0:RoHouse) (a1:(List Int)) (a2:Int):Option Bool :=
 (X9 a0).bind fun x1 =>
 (A18 a0).bind fun x2 =>
 (A0m a0).bind fun x3 =>
 if (!x3) = true then
  (if (((x1.2.2 != 0) && (x2.2 == x1.2.2)) && ((List.length x2.1:Int) == 0)) = true then
  (J3).bind fun x8 =>
  some x8
  else
  some false).bind fun x9 =>
  some x9
 else
  (A7s a0 a1 true).bind fun x10 =>
  (A29 a0 x10).bind fun x11 =>
  if (x1.2.2 != 0) = true then
  (if ((((x1.2.2 == 9) && (x2.2 == x1.2.2)) && (x11.2 == 9)) && ((List.length x2.1:Int) == 0)) = true then
   (J3).bind fun x17 =>
   some x17
  else
   some false).bind fun x18 =>
  some x18
  else
  if ((x2.2 != 0) || ((x11.2 != 0) && ((x11.2 != 9) || (x11.1 != 0)))) = true then
   some false
  else
   (if (x11.2 == 0) = true then
    (if (decide (x11.1 > x1.2.1)) = true then
    some true
    else
    (if (x11.1 == x1.2.1) = true then
     (A3l x10 x1.1).bind fun x27 =>
     some x27
    else
     some false).bind fun x28 =>
    some x28).bind fun x29 =>
    if x29 = true then
    some (.inl false)
    else
    (loop (V0 x2 x10) 0).bind fun (o43:(Bool ⊕ Unit)) =>
    match o43 with
    | (.inl vo43_0) =>
     some (.inl vo43_0)
    | (.inr vo43_1) =>
     some (.inr ())
   else
    some (.inr ())).bind fun (p23:(Bool ⊕ Unit)) =>
   match p23 with
   | (.inl vp23_0) =>
   some vp23_0
   | (.inr vp23_1) =>
   if ((List.length a0.Figures:Int) == 0) = true then
    (J3).bind fun x45 =>
    some x45
   else
    (B7f (w64 a2) (List.length a0.Figures:Int)).bind fun x46 =>
    (app 56 ([]:List RoFigure) a0.Figures).bind fun x47 =>
    (loop (R9 x46) (0,x47)).bind fun (o54:(List RoFigure)) =>
    (X9 (RoHouse.mk a0.Weather a0.Stoves a0.Holds a0.Places o54 a0.Bill)).bind fun x55 =>
    (if (x55.2.2 == 0) = true then
    (A3k x2.1 x46).bind fun x57 =>
    some ((x55.2.1 == 0) == x57)
    else
    some false).bind fun x58 =>
    (if x58 = true then
    (J3).bind fun x60 =>
    some x60
    else
    some false).bind fun x61 =>
    some x61
theorem B5p {c:Sc} {H:A6} (hscv:Z2 c H = true) {a0:RoHouse} {a1:(List Int)} {a2:Int} {r:Bool} (h:A5e a0 a1 a2 = some r) :
  E7 tab c H (.fn (.func 9) [] []) [(.agg (A3 a0)),(.seq 1 (List.map Z5 a1)),(.lit (.int .u8 a2))] [.b r]:= by
 unfold A5e at h
 refine cE rfl rfl<|sg 0 rfl<|A0 (E8 (cs:=A3 a0) rfl rfl rfl) rfl<|qm rfl<|es (ra3 rfl rfl rfl)<|sg 1 rfl<|oB h fun x1 hx1 h=>A0 (C0 rfl rfl rfl) rfl<|B4 (rs:=[(.agg (B1 x1.1)),.i x1.2.1,.i x1.2.2]) rfl rfl (A1 (D1 rfl) B7) (A3g (A45 hscv) hx1)<|qm rfl<|A0 (A7 rfl rfl) rfl<|A0 (A7 rfl rfl) rfl<|A0 (A7 rfl rfl) rfl<|A0 D5 rfl<|F2 (D0 (ds:=(B1 x1.1)) rfl rfl rfl rfl (B9 rfl) rfl) rfl<|qm rfl<|qm rfl<|es (ra6 rfl rfl rfl rfl rfl rfl)<|s0<|oB h fun x2 hx2 h=>A0 (C0 rfl rfl rfl) rfl<|B4 (rs:=[(.seq 1 (List.map cI x2.1)),.i x2.2]) rfl rfl (A1 (D1 rfl) B7) ((A6m (A45 hscv) hx2).frz)<|qm rfl<|A0 (A7 rfl rfl) rfl<|A0 (A7 rfl rfl) rfl<|qm rfl<|qm rfl<|es (ra8 rfl rfl rfl rfl rfl rfl rfl rfl)<|B8<|s0<|oB h fun x3 hx3 h=>A0 (C0 rfl rfl rfl) rfl<|B4 (rs:=[.b x3]) rfl rfl (A1 (D1 rfl) B7) ((A2w hx3).frz)<|A0 (Q5 rfl) rfl<|es (ra9 rfl rfl rfl rfl rfl rfl rfl rfl rfl)<|wi h rfl (fun hc4 h=>?_) fun hc4 h=>?_
 ·refine s0<|oB h fun x9 hx9 h=>qm rfl<|A0 (F7 rfl rfl) rfl<|qm rfl<|gp 4 42 (.b ((x1.2.2 != 0) && (x2.2 == x1.2.2))) 38 rfl rfl (fun hg5=>?_) (fun hg5=>?_) ?_
  ·exact gT rfl hg5<|qm rfl<|gT rfl hg5<|qm rfl<|gT rfl hg5<|A0 (F5 rfl rfl) rfl<|A0 (C8 rfl hg5 rfl) rfl<|ge 4 (by rw [hg5]; rfl) rfl rfl
  ·exact nT rfl hg5 rfl<|nT rfl hg5 rfl<|nT rfl hg5 rfl<|A0 (C9 rfl hg5 rfl) rfl<|ge 4 (by rw [hg5]; rfl) rfl rfl
  refine qm rfl<|gp 4 47 (.b (((x1.2.2 != 0) && (x2.2 == x1.2.2)) && ((List.length x2.1:Int) == 0))) 43 rfl rfl (fun hg6=>?_) (fun hg6=>?_) ?_
  ·exact gT rfl hg6<|qm rfl<|gT rfl hg6<|A0 (D9 (f:=cI) rfl) rfl<|gT rfl hg6<|A0 (F5 rfl rfl) rfl<|A0 (C8 rfl hg6 rfl) rfl<|ge 4 (by rw [hg6]; rfl) rfl rfl
  ·exact nT rfl hg6 rfl<|nT rfl hg6 rfl<|nT rfl hg6 rfl<|A0 (C9 rfl hg6 rfl) rfl<|ge 4 (by rw [hg6]; rfl) rfl rfl
  refine qm rfl<|gp 2 50 (.b x9) 48 rfl rfl (fun hg7=>?_) (fun hg7=>?_) ?_
  ·refine oB (bt hx9 hg7) fun x8 hx8 hx9=>?_
   obtain rfl:=os hx9
   exact gT rfl hg7<|B4 (rs:=[.b x8]) rfl rfl B7 ((K9 (A45 hscv) hx8).frz)<|A0 (C8 rfl hg7 rfl) rfl<|ge 2 rfl rfl rfl
  ·obtain rfl:=os (bf hx9 hg7)
   exact G7 (E6 rfl (by rw [hg7]; rfl)) rfl<|A0 (C9 rfl hg7 rfl) rfl<|ge 2 rfl rfl rfl
  refine qm rfl<|es (ra1 rfl)<|C5 ?_
  obtain rfl:=os h
  exact retq trivial (A9 rfl B6) (A4 rfl B5) (A2 A5 B2)
 ·refine C1<|sg 2 rfl<|oB h fun x10 hx10 h=>A0 (C0 rfl rfl rfl) rfl<|qm rfl<|B4 (rs:=[(.agg (B1 x10))]) rfl rfl (A1 (D1 rfl) (A1 rfl (A1 rfl B7))) ((B5o hx10).frz)<|A0 D5 rfl<|F2 (D0 (ds:=(B1 x10)) rfl rfl rfl rfl (B9 rfl) rfl) rfl<|es (ra8 rfl rfl rfl rfl rfl rfl rfl rfl)<|s0<|oB h fun x11 hx11 h=>A0 (C0 rfl rfl rfl) rfl<|A0 (C0 rfl rfl rfl) rfl<|B4 (rs:=[.i x11.1,.i x11.2]) rfl rfl (A1 (D1 rfl) (A1 (D1 rfl) B7)) ((A6n hx11).frz)<|qm rfl<|A0 (A7 rfl rfl) rfl<|A0 (A7 rfl rfl) rfl<|qm rfl<|qm rfl<|es (ra10 rfl rfl rfl rfl rfl rfl rfl rfl rfl rfl)<|B8<|s0<|qm rfl<|A0 (F7 rfl rfl) rfl<|es (ra11 rfl rfl rfl rfl rfl rfl rfl rfl rfl rfl rfl)<|wi h rfl (fun hc12 h=>?_) fun hc12 h=>?_
  ·refine s0<|oB h fun x18 hx18 h=>qm rfl<|A0 (F5 rfl rfl) rfl<|qm rfl<|gp 4 68 (.b ((x1.2.2 == 9) && (x2.2 == x1.2.2))) 64 rfl rfl (fun hg13=>?_) (fun hg13=>?_) ?_
   ·exact gT rfl hg13<|qm rfl<|gT rfl hg13<|qm rfl<|gT rfl hg13<|A0 (F5 rfl rfl) rfl<|A0 (C8 rfl hg13 rfl) rfl<|ge 4 (by rw [hg13]; rfl) rfl rfl
   ·exact nT rfl hg13 rfl<|nT rfl hg13 rfl<|nT rfl hg13 rfl<|A0 (C9 rfl hg13 rfl) rfl<|ge 4 (by rw [hg13]; rfl) rfl rfl
   refine qm rfl<|gp 3 72 (.b (((x1.2.2 == 9) && (x2.2 == x1.2.2)) && (x11.2 == 9))) 69 rfl rfl (fun hg14=>?_) (fun hg14=>?_) ?_
   ·exact gT rfl hg14<|qm rfl<|gT rfl hg14<|A0 (F5 rfl rfl) rfl<|A0 (C8 rfl hg14 rfl) rfl<|ge 3 (by rw [hg14]; rfl) rfl rfl
   ·exact nT rfl hg14 rfl<|nT rfl hg14 rfl<|A0 (C9 rfl hg14 rfl) rfl<|ge 3 (by rw [hg14]; rfl) rfl rfl
   refine qm rfl<|gp 4 77 (.b ((((x1.2.2 == 9) && (x2.2 == x1.2.2)) && (x11.2 == 9)) && ((List.length x2.1:Int) == 0))) 73 rfl rfl (fun hg15=>?_) (fun hg15=>?_) ?_
   ·exact gT rfl hg15<|qm rfl<|gT rfl hg15<|A0 (D9 (f:=cI) rfl) rfl<|gT rfl hg15<|A0 (F5 rfl rfl) rfl<|A0 (C8 rfl hg15 rfl) rfl<|ge 4 (by rw [hg15]; rfl) rfl rfl
   ·exact nT rfl hg15 rfl<|nT rfl hg15 rfl<|nT rfl hg15 rfl<|A0 (C9 rfl hg15 rfl) rfl<|ge 4 (by rw [hg15]; rfl) rfl rfl
   refine qm rfl<|gp 2 80 (.b x18) 78 rfl rfl (fun hg16=>?_) (fun hg16=>?_) ?_
   ·refine oB (bt hx18 hg16) fun x17 hx17 hx18=>?_
    obtain rfl:=os hx18
    exact gT rfl hg16<|B4 (rs:=[.b x17]) rfl rfl B7 ((K9 (A45 hscv) hx17).frz)<|A0 (C8 rfl hg16 rfl) rfl<|ge 2 rfl rfl rfl
   ·obtain rfl:=os (bf hx18 hg16)
    exact G7 (E6 rfl (by rw [hg16]; rfl)) rfl<|A0 (C9 rfl hg16 rfl) rfl<|ge 2 rfl rfl rfl
   refine qm rfl<|es (ra1 rfl)<|C5 ?_
   obtain rfl:=os h
   exact retq trivial (A9 rfl B6) (A4 rfl B5) (A2 A5 B2)
  ·refine C1<|B8<|s0<|qm rfl<|A0 (F7 rfl rfl) rfl<|qm rfl<|gp 11 94 (.b ((x2.2 != 0) || ((x11.2 != 0) && ((x11.2 != 9) || (x11.1 != 0))))) 83 rfl rfl (fun hg19=>?_) (fun hg19=>?_) ?_
   ·exact nF rfl hg19 rfl<|nF rfl hg19 rfl<|nF rfl hg19 rfl<|nX rfl rfl<|nX rfl rfl<|nX rfl rfl<|nX rfl rfl<|nX rfl rfl<|nX rfl rfl<|nF rfl hg19 rfl<|A0 (C8 rfl hg19 rfl) rfl<|ge 11 (by rw [hg19]; rfl) rfl rfl
   ·refine gF rfl hg19<|qm rfl<|gF rfl hg19<|A0 (F7 rfl rfl) rfl<|gF rfl hg19<|qm rfl<|gq 7 93 (.b ((x11.2 != 0) && ((x11.2 != 9) || (x11.1 != 0)))) 86 rfl rfl (fun hg20=>?_) (fun hg20=>?_) ?_
    ·refine gT rfl hg20<|qm rfl<|gT rfl hg20<|A0 (F7 rfl rfl) rfl<|gT rfl hg20<|qm rfl<|gq 3 92 (.b ((x11.2 != 9) || (x11.1 != 0))) 89 rfl rfl (fun hg21=>?_) (fun hg21=>?_) ?_
     ·exact nF rfl hg21 rfl<|nF rfl hg21 rfl<|gT rfl hg20<|A0 (C8 rfl hg21 rfl) rfl<|ge 3 (by rw [hg21]; rfl) rfl rfl
     ·exact gF rfl hg21<|qm rfl<|gF rfl hg21<|A0 (F7 rfl rfl) rfl<|gT rfl hg20<|A0 (C9 rfl hg21 rfl) rfl<|ge 3 (by rw [hg21]; rfl) rfl rfl
     exact gF rfl hg19<|A0 (C8 rfl hg20 rfl) rfl<|ge 5 (by rw [hg20]; rfl) rfl rfl
    ·exact nT rfl hg20 rfl<|nT rfl hg20 rfl<|nT rfl hg20 rfl<|nX rfl rfl<|nX rfl rfl<|nT rfl hg20 rfl<|gF rfl hg19<|A0 (C9 rfl hg20 rfl) rfl<|ge 7 (by rw [hg20]; rfl) rfl rfl
    exact A0 (C9 rfl hg19 rfl) rfl<|ge 5 (by rw [hg19]; rfl) rfl rfl
   refine es (ra9 rfl rfl rfl rfl rfl rfl rfl rfl rfl)<|wi h rfl (fun hc22 h=>?_) fun hc22 h=>?_
   ·refine s0<|qm rfl<|es (ra1 rfl)<|C5 ?_
    obtain rfl:=os h
    exact retq trivial (A9 rfl B6) (A4 rfl B5) (A2 A5 B2)
   ·refine C1<|B8<|s0<|qm rfl<|A0 (F5 rfl rfl) rfl<|es (ra8 rfl rfl rfl rfl rfl rfl rfl rfl)<|oB h fun p23 hp23 h=>A9q (Q1:=fun e s' H'=>(match p23 with | (.inl v)=>e = .ret∧RetQ H [.tmp 6] [.b v] e s' H' | (.inr v)=>e = .normal∧s' = [(2,(.lit (.int .u8 a2))),(3,(.ptr (H.length + 0) 0)),(10,(.seq 1 (List.map cI x2.1)))]∧H' = (H++[(.cells (A3 a0)),(.cells (B1 x1.1)),(.cells (B1 x10))]):Prop)) ?_ ?_
    ·refine wi hp23 rfl (fun hc24 hp23=>?_) fun hc24 hp23=>?_
     ·refine B8<|s0<|oB hp23 fun x29 hx29 hp23=>qm rfl<|qm rfl<|A0 (Z3 rfl rfl) rfl<|qm rfl<|gp 9 109 (.b x29) 100 rfl rfl (fun hg25=>?_) (fun hg25=>?_) ?_
      ·obtain rfl:=os (bt hx29 hg25)
       exact nF rfl hg25 rfl<|nF rfl hg25 rfl<|nF rfl hg25 rfl<|nF rfl hg25 rfl<|nX rfl rfl<|nX rfl rfl<|G7 (B4l rfl) rfl<|nF rfl hg25 rfl<|A0 (C8 rfl hg25 rfl) rfl<|ge 9 rfl rfl rfl
      ·refine oB (bf hx29 hg25) fun x28 hx28 hx29=>?_
       obtain rfl:=os hx29
       refine gF rfl hg25<|qm rfl<|gF rfl hg25<|qm rfl<|gF rfl hg25<|A0 (F5 rfl rfl) rfl<|gF rfl hg25<|qm rfl<|gq 4 108 (.b x28) 104 rfl rfl (fun hg26=>?_) (fun hg26=>?_) ?_
       ·refine oB (bt hx28 hg26) fun x27 hx27 hx28=>?_
        obtain rfl:=os hx28
        exact gT rfl hg26<|A0 (C0 rfl rfl rfl) rfl<|gT rfl hg26<|A0 (C0 rfl rfl rfl) rfl<|gT rfl hg26<|B4 (rs:=[.b x27]) rfl rfl (A1 (D1 rfl) (A1 (D1 rfl) B7)) ((B8j hx27).frz)<|gF rfl hg25<|A0 (C8 rfl hg26 rfl) rfl<|ge 4 rfl rfl rfl
       ·obtain rfl:=os (bf hx28 hg26)
        exact nT rfl hg26 rfl<|nT rfl hg26 rfl<|G7 (E6 rfl (by rw [hg26]; rfl)) rfl<|gF rfl hg25<|A0 (C9 rfl hg26 rfl) rfl<|ge 4 rfl rfl rfl
       exact A0 (C9 rfl hg25 rfl) rfl<|ge 6 rfl rfl rfl
      refine es (ra5 rfl rfl rfl rfl rfl)<|wi hp23 rfl (fun hc30 hp23=>?_) fun hc30 hp23=>?_
      ·refine s0<|qm rfl<|es (ra1 rfl)<|C5 ?_
       obtain rfl:=os hp23
       exact me (And.intro rfl (retq trivial (A9 rfl B6) (A4 rfl B5) (A2 A5 B2))) (Sub.refl _)
      ·refine C1<|s0<|qm rfl<|es (ra5 rfl rfl rfl rfl rfl)<|C6<|oB hp23 fun o43 ho43 hp23=>wl (fun s31=>[(2,(.lit (.int .u8 a2))),(3,(.ptr (H.length + 0) 0)),(10,(.seq 1 (List.map cI x2.1))),(12,(.ptr (H.length + 2) 0)),(15,.i s31)]) (fun (q32:Unit) s31=>[(.cells (A3 a0)),(.cells (B1 x1.1)),(.cells (B1 x10))]) 3 (fun r e s' H'=>(match r with | (.inl v)=>e = .ret∧RetQ H [.tmp 6] [.b v] e s' H' | (.inr v)=>PX 0 [(2,(.lit (.int .u8 a2))),(3,(.ptr (H.length + 0) 0)),(10,(.seq 1 (List.map cI x2.1)))] (H++[(.cells (A3 a0)),(.cells (B1 x1.1)),(.cells (B1 x10))]) e s' H':Prop)) () ho43 rfl rfl (fun _ _=>rfl) (fun _=>rfl) rfl (fun s31=>(bdc A5 (bdc (D8 rfl) (bdc G8 (bdc (D8 rfl) (bdc A5 bdn)))))) (fun q32 s31 ys31 hs31=>?_) ?_
       ·unfold V0 at hs31
        refine B8<|s0<|qm rfl<|qm rfl<|A0 (D9 (f:=cI) rfl) rfl<|A0 (G0 rfl rfl) rfl<|es (ra6 rfl rfl rfl rfl rfl rfl)<|wi hs31 rfl (fun hc33 hs31=>?_) fun hc33 hs31=>?_
        ·refine C1<|B8<|C6<|s0<|oB hs31 fun x34 hx34 hs31=>oB hs31 fun x37 hx37 hs31=>oB hs31 fun x41 hx41 hs31=>qm rfl<|qm rfl<|A0 (E3 (f:=cI) rfl rfl hx34) rfl<|A0 (E5 rfl rfl) rfl<|A0 (G0 rfl rfl) rfl<|qm rfl<|gp 9 130 (.b x37) 121 rfl rfl (fun hg35=>?_) (fun hg35=>?_) ?_
         ·obtain rfl:=os (bt hx37 hg35)
          exact nF rfl hg35 rfl<|nF rfl hg35 rfl<|nF rfl hg35 rfl<|nF rfl hg35 rfl<|nF rfl hg35 rfl<|nF rfl hg35 rfl<|nF rfl hg35 rfl<|nF rfl hg35 rfl<|A0 (C8 rfl hg35 rfl) rfl<|ge 9 rfl rfl rfl
         ·refine oB (bf hx37 hg35) fun x36 hx36 hx37=>?_
          obtain rfl:=os hx37
          exact gF rfl hg35<|qm rfl<|gF rfl hg35<|qm rfl<|gF rfl hg35<|A0 (E3 (f:=cI) rfl rfl hx36) rfl<|gF rfl hg35<|A0 (E5 rfl rfl) rfl<|gF rfl hg35<|A0 (C4 rfl) rfl<|gF rfl hg35<|A0 (C2 rfl rfl rfl) rfl<|gF rfl hg35<|A0 (D9 (f:=cI) rfl) rfl<|gF rfl hg35<|A0 (B1g rfl rfl) rfl<|A0 (C9 rfl hg35 rfl) rfl<|ge 9 rfl rfl rfl
         refine qm rfl<|gp 10 141 (.b x41) 131 rfl rfl (fun hg38=>?_) (fun hg38=>?_) ?_
         ·obtain rfl:=os (bt hx41 hg38)
          exact nF rfl hg38 rfl<|nF rfl hg38 rfl<|nF rfl hg38 rfl<|nF rfl hg38 rfl<|nF rfl hg38 rfl<|nF rfl hg38 rfl<|nF rfl hg38 rfl<|nF rfl hg38 rfl<|nF rfl hg38 rfl<|A0 (C8 rfl hg38 rfl) rfl<|ge 10 rfl rfl rfl
         ·refine oB (bf hx41 hg38) fun x39 hx39 hx41=>oB hx41 fun x40 hx40 hx41=>?_
          obtain rfl:=os hx41
          exact gF rfl hg38<|A0 (C4 rfl) rfl<|gF rfl hg38<|A0 (C2 rfl rfl rfl) rfl<|gF rfl hg38<|qm rfl<|gF rfl hg38<|qm rfl<|gF rfl hg38<|A0 (E3 (f:=cI) rfl rfl hx39) rfl<|gF rfl hg38<|A0 (E5 rfl rfl) rfl<|gF rfl hg38<|A0 (E3 (f:=cI) rfl rfl hx40) rfl<|gF rfl hg38<|A0 (E5 rfl rfl) rfl<|gF rfl hg38<|A0 (F7 rfl rfl) rfl<|A0 (C9 rfl hg38 rfl) rfl<|ge 10 rfl rfl rfl
         refine es (ra6 rfl rfl rfl rfl rfl rfl)<|wi hs31 rfl (fun hc42 hs31=>?_) fun hc42 hs31=>?_
         ·refine s0<|qm rfl<|es (ra1 rfl)<|C5 ?_
          obtain rfl:=os hs31
          exact lx rfl (And.intro rfl (retq trivial (A9 rfl B6) (A4 rfl B5) (A2 A5 B2))) (Sub.refl _)
         ·refine C1<|r0<|qm rfl<|A0 (E1 rfl rfl) rfl<|qm rfl<|en (ra5 rfl rfl rfl rfl rfl) ?_
          cases hs31
          exact lnT () rfl (su5 rfl rfl rfl rfl rfl)
        ·refine F0 ?_
         obtain rfl:=os hs31
         exact lx rfl px (su3 rfl rfl rfl)
       ·rcases o43 with vo43_0 | vo43_1
        ·rintro e s' H' - ⟨rfl,hret⟩
         cases hp23
         exact me (And.intro rfl hret) (Sub.refl _)
        ·rintro e s' H' - ⟨rfl,rfl,rfl⟩
         obtain rfl:=os hp23
         exact me (And.intro rfl (And.intro rfl rfl)) (su3 rfl rfl rfl)
     ·refine C1 ?_
      obtain rfl:=os hp23
      exact me (And.intro rfl (And.intro rfl rfl)) (su3 rfl rfl rfl)
    ·rcases p23 with vp23_0 | vp23_1
     ·rintro e s' H' ⟨rfl,hret⟩
      cases h
      exact hret
     ·rintro e s' H' ⟨rfl,rfl,rfl⟩
      refine B8<|s0<|A0 (C4 rfl) rfl<|A0 (C2 rfl rfl rfl) rfl<|A0 (D9 (f:=B3) rfl) rfl<|A0 (F5 rfl rfl) rfl<|es (ra4 rfl rfl rfl rfl)<|wi h rfl (fun hc44 h=>?_) fun hc44 h=>?_
      ·refine s0<|oB h fun x45 hx45 h=>B4 (rs:=[.b x45]) rfl rfl B7 ((K9 (A45 hscv) hx45).frz)<|qm rfl<|es (ra1 rfl)<|C5 ?_
       obtain rfl:=os h
       exact retq trivial (A9 rfl B6) (A4 rfl B5) (A2 A5 B2)
      ·refine C1<|s0<|oB h fun x46 hx46 h=>qm rfl<|A0 (A4p rfl) rfl<|A0 (C4 rfl) rfl<|A0 (C2 rfl rfl rfl) rfl<|A0 (D9 (f:=B3) rfl) rfl<|A0 (B7r rfl rfl hx46) rfl<|qm rfl<|es (ra3 rfl rfl rfl)<|sg 3 rfl<|A0 (C0 rfl rfl rfl) rfl<|A0 D4p rfl<|F2 (D0 (ds:=(A3 a0)) rfl rfl rfl rfl (B9 rfl) rfl) rfl<|es (ra4 rfl rfl rfl rfl)<|sg 5 rfl<|oB h fun x47 hx47 h=>A0 (B5m (rows:=List.map B3 []) rfl rfl (F4 (fun _=>rfl) _)) rfl<|A0 (C4 rfl) rfl<|A0 (C2 rfl rfl rfl) rfl<|A80 (A54 (f:=B3) rfl rfl rfl rfl A3v (fun _=>rfl) hx47) rfl<|A0 (C4 rfl) rfl<|F2 (D0 (ds:=[.i a0.Weather.Lo,.i a0.Weather.Hi,.i a0.Stoves,(.seq 1 (List.map cI a0.Holds)),(.seq 4 (List.map C3 a0.Places)),(.asl (H.length + 5) (List.length x47)),(.seq 1 (List.map cI a0.Bill))]) rfl rfl rfl rfl (A7i (Nat.le_add_right _ _)) rfl) rfl<|es (ra3 rfl rfl rfl)<|B8<|s0<|qm rfl<|es (ra4 rfl rfl rfl rfl)<|C6<|oB h fun o54 ho54 h=>wl (fun s48=>[(10,(.seq 1 (List.map cI x2.1))),(16,.i x46),(17,(.ptr (H.length + 4) 0)),(18,.i s48.1)]) (fun (q49:Unit) s48=>[(.cells (A3 a0)),(.cells (B1 x1.1)),(.cells (B1 x10)),(.arr 6 false (List.map B3 ([]:List RoFigure))),(.cells [.i a0.Weather.Lo,.i a0.Weather.Hi,.i a0.Stoves,(.seq 1 (List.map cI a0.Holds)),(.seq 4 (List.map C3 a0.Places)),(.asl (H.length + 5) (List.length s48.2)),(.seq 1 (List.map cI a0.Bill))]),(.arr 6 false (List.map B3 s48.2))]) 6 (fun r e s' H'=>PX 2 [(10,(.seq 1 (List.map cI x2.1))),(16,.i x46),(17,(.ptr (H.length + 4) 0))] (H++[(.cells (A3 a0)),(.cells (B1 x1.1)),(.cells (B1 x10)),(.arr 6 false (List.map B3 ([]:List RoFigure))),(.cells [.i a0.Weather.Lo,.i a0.Weather.Hi,.i a0.Stoves,(.seq 1 (List.map cI a0.Holds)),(.seq 4 (List.map C3 a0.Places)),(.asl (H.length + 5) (List.length r)),(.seq 1 (List.map cI a0.Bill))]),(.arr 6 false (List.map B3 r))]) e s' H') () ho54 rfl rfl (fun _ _=>rfl) (fun _=>rfl) rfl (fun s48=>(bdc G8 (bdc A5 (bdc (D8 rfl) (bdc A5 bdn))))) (fun q49 s48 ys48 hs48=>?_) ?_
       ·unfold R9 at hs48
        refine B8<|s0<|qm rfl<|A0 (C4 rfl) rfl<|A0 (C2 (x:=(.asl (H.length + 5) (List.length s48.2))) rfl rfl rfl) rfl<|A0 (D4u (f:=B3) rfl rfl rfl) rfl<|A0 (G0 rfl rfl) rfl<|es (ra5 rfl rfl rfl rfl rfl)<|wi hs48 rfl (fun hc50 hs48=>?_) fun hc50 hs48=>?_
        ·refine C1<|B8<|C6<|s0<|oB hs48 fun x51 hx51 hs48=>A0 (C4 rfl) rfl<|A0 (C2 (x:=(.asl (H.length + 5) (List.length s48.2))) rfl rfl rfl) rfl<|qm rfl<|A0 (C46 (f:=B3) rfl rfl rfl rfl hx51) rfl<|A0 (D7w rfl) rfl<|F2 (C0l (ds:=B3 (RoFigure.mk x51.Name x51.Class x51.Weight x51.Cracks x51.Slumps 0)) rfl rfl rfl rfl rfl (List.length_map _) (C5j hx51) rfl rfl) rfl ?_
         rw [C0a]
         rw [show List.length s48.2 = List.length (A62 s48.2 s48.1 (RoFigure.mk x51.Name x51.Class x51.Weight x51.Cracks x51.Slumps 0)) from (B2n _ _ _).symm]
         refine es (ra4 rfl rfl rfl rfl)<|s0<|qm rfl<|qm rfl<|A0 (F5 rfl rfl) rfl<|es (ra5 rfl rfl rfl rfl rfl)<|wi hs48 rfl (fun hc52 hs48=>?_) fun hc52 hs48=>?_
         ·refine r0<|oB hs48 fun x53 hx53 hs48=>A0 (C4 rfl) rfl<|A0 (C2 (x:=(.asl (H.length + 5) (List.length (A62 s48.2 s48.1 (RoFigure.mk x51.Name x51.Class x51.Weight x51.Cracks x51.Slumps 0))))) rfl rfl rfl) rfl<|qm rfl<|A0 (C46 (f:=B3) rfl rfl rfl rfl hx53) rfl<|A0 (D7w rfl) rfl<|F2 (C0l (ds:=B3 (RoFigure.mk x53.Name x53.Class x53.Weight x53.Cracks x53.Slumps 1)) rfl rfl rfl rfl rfl (List.length_map _) (C5j hx53) rfl rfl) rfl ?_
          rw [C0a]
          rw [show List.length (A62 s48.2 s48.1 (RoFigure.mk x51.Name x51.Class x51.Weight x51.Cracks x51.Slumps 0)) = List.length (A62 (A62 s48.2 s48.1 (RoFigure.mk x51.Name x51.Class x51.Weight x51.Cracks x51.Slumps 0)) s48.1 (RoFigure.mk x53.Name x53.Class x53.Weight x53.Cracks x53.Slumps 1)) from (B2n _ _ _).symm]
          refine en (ra4 rfl rfl rfl rfl)<|r0<|qm rfl<|A0 (E1 rfl rfl) rfl<|qm rfl<|en (ra4 rfl rfl rfl rfl) ?_
          cases hs48
          exact lnT () rfl (su4 rfl rfl rfl rfl)
         ·refine C1<|r0<|qm rfl<|A0 (E1 rfl rfl) rfl<|qm rfl<|en (ra4 rfl rfl rfl rfl) ?_
          cases hs48
          exact lnT () rfl (su4 rfl rfl rfl rfl)
        ·refine F0 ?_
         obtain rfl:=os hs48
         exact lx rfl px (su3 rfl rfl rfl)
       ·rintro e s' H' - ⟨rfl,rfl,rfl⟩
        refine sg 6 rfl<|oB h fun x55 hx55 h=>A0 (E9 (ds:=[.i a0.Weather.Lo,.i a0.Weather.Hi,.i a0.Stoves,(.seq 1 (List.map cI a0.Holds)),(.seq 4 (List.map C3 a0.Places)),(.asl (H.length + 5) (List.length o54)),(.seq 1 (List.map cI a0.Bill))]) rfl rfl rfl rfl) rfl<|B4 (rs:=[(.agg (B1 x55.1)),.i x55.2.1,.i x55.2.2]) rfl rfl (A1 (D6d (B0p rfl (B0p rfl (B0p rfl (B0p rfl (B0p rfl (B0p (D8b rfl (List.length_map _)) (B0p rfl D79)))))))) B7) (A3g (A45 hscv) hx55)<|qm rfl<|A0 (A7 rfl rfl) rfl<|A0 (A7 rfl rfl) rfl<|A0 (A7 rfl rfl) rfl<|A0 D5 rfl<|F2 (D0 (ds:=(B1 x55.1)) rfl rfl rfl rfl (B9 rfl) rfl) rfl<|qm rfl<|qm rfl<|es (ra4 rfl rfl rfl rfl)<|s0<|oB h fun x58 hx58 h=>oB h fun x61 hx61 h=>qm rfl<|A0 (F5 rfl rfl) rfl<|qm rfl<|gp 7 194 (.b x58) 187 rfl rfl (fun hg56=>?_) (fun hg56=>?_) ?_
        ·refine oB (bt hx58 hg56) fun x57 hx57 hx58=>?_
         obtain rfl:=os hx58
         exact gT rfl hg56<|qm rfl<|gT rfl hg56<|A0 (F5 rfl rfl) rfl<|gT rfl hg56<|qm rfl<|gT rfl hg56<|qm rfl<|gT rfl hg56<|B4 (rs:=[.b x57]) rfl rfl (A1 rfl (A1 rfl B7)) ((A7j hx57).frz)<|gT rfl hg56<|A0 (D8o rfl rfl) rfl<|A0 (C8 rfl hg56 rfl) rfl<|ge 7 rfl rfl rfl
        ·obtain rfl:=os (bf hx58 hg56)
         exact nT rfl hg56 rfl<|nT rfl hg56 rfl<|nT rfl hg56 rfl<|nT rfl hg56 rfl<|G7 (E6 rfl (by rw [hg56]; rfl)) rfl<|nT rfl hg56 rfl<|A0 (C9 rfl hg56 rfl) rfl<|ge 7 rfl rfl rfl
        refine qm rfl<|gp 2 197 (.b x61) 195 rfl rfl (fun hg59=>?_) (fun hg59=>?_) ?_
        ·refine oB (bt hx61 hg59) fun x60 hx60 hx61=>?_
         obtain rfl:=os hx61
         exact gT rfl hg59<|B4 (rs:=[.b x60]) rfl rfl B7 ((K9 (A45 hscv) hx60).frz)<|A0 (C8 rfl hg59 rfl) rfl<|ge 2 rfl rfl rfl
        ·obtain rfl:=os (bf hx61 hg59)
         exact G7 (E6 rfl (by rw [hg59]; rfl)) rfl<|A0 (C9 rfl hg59 rfl) rfl<|ge 2 rfl rfl rfl
        refine qm rfl<|es (ra1 rfl)<|C5 ?_
        obtain rfl:=os h
        exact retq trivial (A9 rfl B6) (A4 rfl B5) (A2 A5 B2)
end Rm
end
section
namespace Rm
open Go Am
theorem D52 {a b:Int} (e:a = b) (p q:List Int):B1r (a :: p) (b :: q) = B1r p q:= by
 show (if a == b then B1r p q else ltv a b) = _
 rw [e,if_pos (by simp)]
theorem D53 {a b:Int} (e:a ≠ b) (p q:List Int):B1r (a :: p) (b :: q) = ltv a b:= by
 show (if a == b then B1r p q else ltv a b) = _
 rw [if_neg (by rw [beq_iff_eq]; exact e)]
theorem D09 {h:RoHouse} {x y:Nat × List Int} (h5:h.Figures.length≤5) (px:PV h x.2) (py:PV h y.2):A3l (mkP x) (mkP y) = some (C4k x y):= by
 unfold A3l C4k
 show (if ((x.1:Int) != (y.1:Int)) = true then _ else _) = _
 by_cases c:x.1 = y.1
 ·rw [if_neg (by rw [bne_iff_ne]; omega),if_neg (by rw [bne_iff_ne]; omega)]
  have hl:=px.len
  have hl2:=py.len
  have key:∀n i,i + n = h.Figures.length→∀ k,n < k→B5i (A0e (mkP x) (mkP y)) k (i:Int) = some (if B1r (x.2.drop i) (y.2.drop i) = true then .inl true else if x.2.drop i = y.2.drop i then .inr () else .inl false):= by
   intro n
   induction n with
   | zero =>
    intro i hi k hk
    obtain ⟨k,rfl⟩:∃m,k = m + 1:=⟨k - 1,by omega⟩
    rw [Y2]
    unfold A0e
    rw [if_neg (by rw [Bool.and_eq_true,decide_eq_true_eq]; intro q; have:=q.1; have:(mkP x).At.length = x.2.length:=rfl; omega),List.drop_of_length_le (by omega),List.drop_of_length_le (by omega)]; rfl
   | succ n ih =>
    intro i hi k hk
    obtain ⟨k,rfl⟩:∃m,k = m + 1:=⟨k - 1,by omega⟩
    rw [Y2]
    unfold A0e
    have g1:idx (mkP x).At (i:Int) = some x.2[i]!:=F3 (show i < x.2.length by omega)
    have g2:idx (mkP y).At (i:Int) = some y.2[i]!:=F3 (show i < y.2.length by omega)
    rw [if_pos (by
     rw [Bool.and_eq_true,decide_eq_true_eq,decide_eq_true_eq]
     show (i:Int) < (x.2.length:Int)∧(i:Int) < (y.2.length:Int)
     omega),g1,g2]
    simp only [Option.bind_some]
    have d1:x.2.drop i = x.2[i]! :: x.2.drop (i + 1):= by rw [List.drop_eq_getElem_cons (by omega),getElem!_pos x.2 i (by omega)]
    have d2:y.2.drop i = y.2[i]! :: y.2.drop (i + 1):= by rw [List.drop_eq_getElem_cons (by omega),getElem!_pos y.2 i (by omega)]
    rw [d1,d2]
    by_cases e:x.2[i]! = y.2[i]!
    ·rw [if_neg (by rw [bne_iff_ne]; exact fun q=>q e),D52 e,e,E0 (by omega)]
     have:=ih (i + 1) (by omega) k (by omega)
     simp only [List.cons.injEq,true_and]
     exact this
    ·rw [if_pos (by rw [bne_iff_ne]; exact e),D53 e]
     unfold ltv
     by_cases c1:y.2[i]! = -1
     ·rw [if_pos (by rw [beq_iff_eq]; exact c1),c1]; rfl
     ·rw [if_neg (by rw [beq_iff_eq]; exact c1),beq_eq_false_iff_ne.mpr c1,Bool.false_or]
      by_cases c2:x.2[i]! = -1
      ·rw [if_neg (by rw [bne_iff_ne]; exact fun q=>q c2),c2]
       simp only [Option.bind_some,bne_self_eq_false,Bool.false_and,Bool.false_eq_true,if_false]
       rw [if_neg]
       intro q
       have:=List.cons.inj q
       exact e (by rw [c2]; exact this.1)
      ·rw [if_pos (by rw [bne_iff_ne]; exact c2)]
       simp only [Option.bind_some]
       rw [bne_iff_ne.mpr c2,Bool.true_and]
       by_cases c3:x.2[i]! < y.2[i]!
       ·rw [decide_eq_true c3,if_pos rfl]
       ·rw [decide_eq_false c3,if_neg (by decide),if_neg (fun q=>e (List.cons.inj q).1)]
  have:=key h.Figures.length 0 (by omega) 9223372036854775808 (by omega)
  have e:loop (A0e (mkP x) (mkP y)) 0 = some (if B1r x.2 y.2 = true then .inl true else if x.2 = y.2 then .inr () else .inl false):= by
   have z:(((0:Nat):Int)) = 0:=rfl
   rw [z,List.drop_zero,List.drop_zero] at this
   exact this
  rw [e]
  cases B1r x.2 y.2 with
  | true=>rfl
  | false=>by_cases q:x.2 = y.2 <;> simp [q]
 ·rw [if_pos (by rw [bne_iff_ne]; omega),if_pos (by rw [bne_iff_ne]; omega)]
  show some (decide ((x.1:Int) < (y.1:Int))) = _
  congr 1
  exact decide_eq_decide.mpr (by omega)
def B03 (h:RoHouse) (k:Nat):RoHouse:=⟨h.Weather,h.Stoves,h.Holds,h.Places,(List.range h.Figures.length).map fun i=>⟨(h.Figures[i]!).Name,(h.Figures[i]!).Class,(h.Figures[i]!).Weight,(h.Figures[i]!).Cracks,(h.Figures[i]!).Slumps,if i = k then 1 else 0⟩,h.Bill⟩
theorem B2c (h:RoHouse) (k:Nat) {i:Nat} (hi:i < h.Figures.length):(B03 h k).Figures[i]! = ⟨(h.Figures[i]!).Name,(h.Figures[i]!).Class,(h.Figures[i]!).Weight,(h.Figures[i]!).Cracks,(h.Figures[i]!).Slumps,if i = k then 1 else 0⟩:= by
 unfold B03
 rw [getElem!_pos _ i (by rw [List.length_map,List.length_range]; exact hi),List.getElem_map,List.getElem_range]
theorem A97 (h:RoHouse) (k:Nat):(B03 h k).Figures.length = h.Figures.length:= by
 unfold B03
 rw [List.length_map,List.length_range]
theorem D14 (h:RoHouse) (k:Nat):SameBut h (B03 h k):=⟨rfl,rfl,rfl,rfl,rfl,A97 h k,fun i hi=>by rw [B2c h k hi]; exact ⟨rfl,rfl,rfl,rfl⟩⟩
theorem C87 (h:RoHouse) (k:Nat):(B03 h k).Figures.map (·.Name) = h.Figures.map (·.Name):= by
 apply List.ext_getElem
 ·rw [List.length_map,List.length_map,A97]
 ·intro i h1 h2
  rw [List.length_map] at h2
  have:=B2c h k h2
  rw [getElem!_pos (B03 h k).Figures i (by rw [A97]; exact h2)] at this
  rw [List.getElem_map,List.getElem_map,this]
  show (h.Figures[i]!).Name = _
  rw [getElem!_pos h.Figures i h2]
theorem C86 {h:RoHouse} (e0:(check h).2.2 = 0) (k:Nat):(check (B03 h k)).2.2 = 0:= by
 have n:=(B6o h).mp e0
 have ok:=n.1
 refine (B6o _).mpr ⟨⟨ok.w,ok.s,ok.holds,ok.hold,ok.places,fun q hq=>⟨(ok.place q hq).len,(ok.place q hq).warms,(ok.place q hq).joists⟩,by rw [A97]; exact ok.figures,fun f hf=>?_,ok.bill,ok.class_⟩,n.2.1,by rw [C87]; exact n.2.2⟩
 obtain ⟨i,hi,rfl⟩:=A6h hf
 rw [A97] at hi
 rw [B2c h k hi]
 have o:=ok.figure _ (G2 hi)
 refine ⟨o.cls,o.weight,o.bears,?_⟩
 show 0≤(if i = k then (1:Int) else 0)∧(if i = k then (1:Int) else 0)≤100
 split <;> omega
theorem B4f {h:RoHouse} {p:List Int} (pv:PV h p) {k:Nat} (hk:k < h.Figures.length):worth (B03 h k) p = if p[k]! = -1 then 0 else 1:= by
 have hl:=pv.len
 have key:∀n,n≤h.Figures.length→A3q (B03 h k) p n = if k < n∧p[k]! ≠ -1 then 1 else 0:= by
  intro n
  induction n with
  | zero=>intro _; rw [if_neg (by omega)]; rfl
  | succ n ih =>
   intro hn
   rw [A5y,ih (by omega),B2c h k (by omega)]
   show _ + (if n < p.length∧p[n]! ≠ -1 then (if n = k then (1:Int) else 0) else 0) = _
   by_cases e:n = k
   ·subst e
    rw [if_pos rfl,if_neg (show ¬ (n < n∧p[n]! ≠ -1) by omega)]
    by_cases c:p[n]! = -1
    ·rw [if_neg (fun q=>q.2 c),if_neg (fun q=>q.2 c)]; rfl
    ·rw [if_pos ⟨by omega,c⟩,if_pos ⟨by omega,c⟩]; rfl
   ·rw [if_neg e,ite_self]
    by_cases c:k < n∧p[k]! ≠ -1
    ·rw [if_pos c,if_pos ⟨by omega,c.2⟩]; rfl
    ·rw [if_neg c,if_neg (fun q=>c ⟨by omega,q.2⟩)]; rfl
 unfold worth
 rw [hl,key _ (Nat.le_refl _)]
 by_cases c:p[k]! = -1
 ·rw [if_neg (fun q=>q.2 c),if_pos c]
 ·rw [if_pos ⟨hk,c⟩,if_neg c]
theorem D13 (h:RoHouse) (h5:h.Figures.length≤5) (k:Nat):loop (R9 (k:Int)) (0,h.Figures) = some (B03 h k).Figures:= by
 let g:Nat→RoFigure:=fun i=>⟨(h.Figures[i]!).Name,(h.Figures[i]!).Class,(h.Figures[i]!).Weight,(h.Figures[i]!).Cracks,(h.Figures[i]!).Slumps,if i = k then 1 else 0⟩
 have hlen:∀i,i≤h.Figures.length→((List.range i).map g++h.Figures.drop i).length = h.Figures.length:=fun i hi=>by
  rw [List.length_append,List.length_map,List.length_range,List.length_drop]; omega
 have l1:=I2 (b:=R9 (k:Int)) (fun i=>((i:Int),(List.range i).map g++h.Figures.drop i)) h.Figures.length (r:=(List.range h.Figures.length).map g) (by omega) (fun i hi=>by
  have hli:=hlen i (by omega)
  unfold R9
  simp only []
  have hget:((List.range i).map g++h.Figures.drop i)[i]? = some h.Figures[i]!:= by
   rw [List.getElem?_append_right (by rw [List.length_map,List.length_range]; omega),List.length_map,List.length_range,Nat.sub_self,List.getElem?_drop,Nat.add_zero,List.getElem?_eq_getElem hi,getElem!_pos h.Figures i hi]
  have hset:∀f:RoFigure,A62 ((List.range i).map g++h.Figures.drop i) (i:Int) f = (List.range i).map g++f :: h.Figures.drop (i + 1):=fun f=>by
   unfold A62
   rw [Int.toNat_natCast,List.set_append_right _ _ (by rw [List.length_map,List.length_range]; omega),List.length_map,List.length_range,Nat.sub_self,List.drop_eq_getElem_cons hi]; rfl
  have hnext:(List.range (i + 1)).map g++h.Figures.drop (i + 1) = (List.range i).map g++g i :: h.Figures.drop (i + 1):= by
   rw [List.range_succ,List.map_append,List.append_assoc]; rfl
  rw [if_pos (by rw [decide_eq_true_eq]; omega),B92 hget]
  simp only [Option.bind_some]
  rw [hset,E0 (by omega),hnext]
  by_cases c:i = k
  ·subst c
   rw [if_pos (by rw [beq_iff_eq]),B92 (m:=(List.range i).map g++_ :: h.Figures.drop (i + 1)) (i:=i) (x:=⟨(h.Figures[i]!).Name,(h.Figures[i]!).Class,(h.Figures[i]!).Weight,(h.Figures[i]!).Cracks,(h.Figures[i]!).Slumps,0⟩) (by
    rw [List.getElem?_append_right (by rw [List.length_map,List.length_range]; omega),List.length_map,List.length_range,Nat.sub_self]; rfl)]
   simp only [Option.bind_some]
   have hset2:∀f f':RoFigure,A62 ((List.range i).map g++f :: h.Figures.drop (i + 1)) (i:Int) f' = (List.range i).map g++f' :: h.Figures.drop (i + 1):=fun f f'=>by
    unfold A62
    rw [Int.toNat_natCast,List.set_append_right _ _ (by rw [List.length_map,List.length_range]; omega),List.length_map,List.length_range,Nat.sub_self]; rfl
   rw [hset2]
   have hg:g i = ⟨(h.Figures[i]!).Name,(h.Figures[i]!).Class,(h.Figures[i]!).Weight,(h.Figures[i]!).Cracks,(h.Figures[i]!).Slumps,1⟩:= by show (RoFigure.mk _ _ _ _ _ (if i = i then 1 else 0)) = _; rw [if_pos rfl]
   rw [hg]; rfl
  ·rw [if_neg (by rw [beq_iff_eq]; omega)]
   have hg:g i = ⟨(h.Figures[i]!).Name,(h.Figures[i]!).Class,(h.Figures[i]!).Weight,(h.Figures[i]!).Cracks,(h.Figures[i]!).Slumps,0⟩:= by show (RoFigure.mk _ _ _ _ _ (if i = k then 1 else 0)) = _; rw [if_neg c]
   rw [hg]; rfl) (by
  unfold R9
  simp only []
  rw [if_neg (by rw [hlen _ (Nat.le_refl _)]; simp),List.drop_length,List.append_nil])
 exact l1
theorem D4z {h:RoHouse} (e0:(check h).2.2 = 0) {k:Nat} (hk:k < h.Figures.length) (hne:N4 h ≠ []):∃w,(A1w (B03 h k)).2 = (w,0)∧(w == 0) = Q7 h k:= by
 have e1:=C86 e0 k
 have hA:N4 (B03 h k) = N4 h:=D2m (D14 h k)
 rcases B33 e1 with ⟨a1,_⟩ | ⟨b,hb,a2⟩
 ·rw [hA] at a1; exact absurd a1 hne
 ·refine ⟨worth (B03 h k) b.2,by rw [a2],?_⟩
  have hbh:=hb
  rw [hA] at hbh
  unfold Q7
  rw [Bool.eq_iff_iff,beq_iff_eq,List.all_eq_true,B4f (A1v hbh) hk]
  constructor
  ·intro q y hy
   have hbk:b.2[k]! = -1:= by
    by_cases c:b.2[k]! = -1
    ·exact c
    ·rw [if_neg c] at q; cases q
   obtain ⟨d,hd,d2,d3⟩:=C53 e1 (y:=y) (by rw [hA]; exact hy)
   have e2:worth (B03 h k) b.2 = worth (B03 h k) d.2:= by
    have:=a2.symm.trans d2
    exact congrArg (fun z=>z.2.1) this
   rw [B4f (A1v hbh) hk,if_pos hbk] at e2
   rw [B4f (A1v hy) hk,← e2] at d3
   rw [beq_iff_eq]
   by_cases c:y.2[k]! = -1
   ·exact c
   ·rw [if_neg c] at d3; omega
  ·intro q
   have:=q b hbh
   rw [beq_iff_eq] at this
   rw [if_pos this]
theorem D1x (h:RoHouse) {k:Nat} (hk:k < h.Figures.length):(A2m h).any (· == (k:Int)) = Q7 h k:= by
 unfold A2m
 rw [Bool.eq_iff_iff,List.any_eq_true]
 constructor
 ·rintro ⟨x,hx,hxe⟩
  rw [List.mem_map] at hx
  obtain ⟨i,hi,rfl⟩:=hx
  rw [beq_iff_eq] at hxe
  have:i = k:= by omega
  rw [← this]; exact (List.mem_filter.mp hi).2
 ·intro q
  exact ⟨(k:Int),List.mem_map.mpr ⟨k,List.mem_filter.mpr ⟨List.mem_range.mpr hk,q⟩,rfl⟩,by rw [beq_iff_eq]⟩
theorem C2j {h:RoHouse} (hb:NB h) {x:List Int} (hx:N8 x) {a:Int} (qa:0≤a∧a < 256):A5e h x a = some true:= by
 unfold A5e
 rw [B8q hb,C5o hb,C1w]
 simp only [Option.bind_some]
 by_cases e0:(check h).2.2 = 0
 ·have ok:=R5 e0
  have h5:=ok.figures
  have hp5:=ok.places
  have hpw:=A5l ok
  rw [if_neg (by simp [e0])]
  obtain ⟨p,p1,p2⟩:=D75 ok hx true
  obtain ⟨l,l1,l2⟩:=p2.lit
  have pc:=C5z e0 p2
  have pl:=p2.pv.len
  rw [p1]
  simp only [Option.bind_some]
  rw [C5r hb p (by omega)]
  simp only [Option.bind_some]
  have hs:A4k h p = if Q2 h l p.At then (worth h p.At,0) else (0,9):= by
   unfold A4k
   rw [if_pos pc,l1,Int.toNat_natCast]
  have hn1:A6i h = if (N4 h).length = 0 then ([],9) else (A2m h,0):= by unfold A6i; rw [if_neg (by simp [e0])]
  rcases B33 e0 with ⟨a1,a2⟩ | ⟨b,hbm,a2⟩
  ·have hna:Q2 h l p.At = false:= by
    cases hq:Q2 h l p.At with
    | false=>rfl
    | true =>
     have:=B8u p2.pv l2 p2.dup hq
     rw [a1] at this; cases this
   rw [a2,hs,hna,hn1,a1]
   simp only [List.length_nil,if_true,Bool.false_eq_true,if_false]
   rw [if_pos (by decide),if_pos (by decide),V6]; rfl
  ·have hne:N4 h ≠ []:=fun q=>by rw [q] at hbm; cases hbm
   have c1:(N4 h).length ≠ 0:=fun q=>hne (List.length_eq_zero_iff.mp q)
   rw [a2,hs,hn1,if_neg c1]
   simp only []
   rw [if_neg (by decide)]
   have hnl:(A2m h).length≤5:= by
    unfold A2m
    rw [List.length_map]
    have:=List.length_filter_le (Q7 h) (List.range h.Figures.length)
    rw [List.length_range] at this
    omega
   have tail:(if ((List.length h.Figures:Int) == 0) = true then
     (J3).bind fun x45 =>
     some x45
    else
     (B7f (w64 a) (List.length h.Figures:Int)).bind fun x46 =>
     (app 56 ([]:List RoFigure) h.Figures).bind fun x47 =>
     (loop (R9 x46) (0,x47)).bind fun (o54:(List RoFigure)) =>
     (X9 (RoHouse.mk h.Weather h.Stoves h.Holds h.Places o54 h.Bill)).bind fun x55 =>
     (if (x55.2.2 == 0) = true then
     (A3k (A2m h) x46).bind fun x57 =>
     some ((x55.2.1 == 0) == x57)
     else
     some false).bind fun x58 =>
     (if x58 = true then
     (J3).bind fun x60 =>
     some x60
     else
     some false).bind fun x61 =>
     some x61) = some true:= by
    by_cases z:h.Figures.length = 0
    ·rw [if_pos (by rw [beq_iff_eq]; omega),V6]; rfl
    ·obtain ⟨k,k1,k2,k3⟩:=A9b (a:=a) (b:=(h.Figures.length:Int)) qa.1 (by omega)
     obtain ⟨k',rfl⟩:∃k':Nat,k = k':=⟨k.toNat,by omega⟩
     have hk:k' < h.Figures.length:= by omega
     rw [if_neg (by rw [beq_iff_eq]; omega),E0 (by omega),k1]
     simp only [Option.bind_some]
     rw [A50 (by omega) (by simp; omega),List.nil_append]
     simp only [Option.bind_some]
     rw [D13 h h5]
     simp only [Option.bind_some]
     have hbo:NB (B03 h k'):=⟨hb.1,fun v hv=>by
      obtain ⟨i,hi,rfl⟩:=A6h hv
      rw [A97] at hi
      rw [B2c h k' hi]
      exact hb.2 h.Figures[i]! (G2 hi)⟩
     have hB:=B8q hbo
     have hB:X9 (RoHouse.mk h.Weather h.Stoves h.Holds h.Places (B03 h k').Figures h.Bill) = some (A1w (B03 h k')):=hB
     rw [hB]
     simp only [Option.bind_some]
     obtain ⟨w,w1,w2⟩:=D4z e0 hk hne
     rw [w1]
     simp only [beq_self_eq_true,if_true]
     rw [C4y _ _ (by omega),D1x h hk,w2]
     simp only [Option.bind_some,beq_self_eq_true,if_true]
     rw [V6]; rfl
   cases hq:Q2 h l p.At with
   | false =>
    simp only [Bool.false_eq_true,if_false]
    rw [if_neg (by decide),if_neg (by decide)]
    exact tail
   | true =>
    have hin:=B8u p2.pv l2 p2.dup hq
    obtain ⟨d,hd,d2,d3⟩:=C53 e0 hin
    have e2:b = d:= by
     have q:=a2.symm.trans d2
     have q1:=congrArg (fun z=>z.1) q
     simp only [mkP,RoPlan.mk.injEq] at q1
     exact Prod.ext (by omega) q1.2
    subst e2
    simp only [if_true]
    rw [if_neg (by simp),if_pos (by decide)]
    have hpm:p = mkP (l,p.At):= by
     unfold mkP
     rw [← l1]
    have hbef:=D09 h5 (x:=(l,p.At)) (y:=b) p2.pv (A1v hbm)
    rw [← hpm] at hbef
    have hcmp:((if (decide (worth h p.At > worth h b.2)) = true then some true else (if (worth h p.At == worth h b.2) = true then (A3l p (mkP b)).bind fun x27=>some x27 else some false).bind fun x28=>some x28):Option Bool) = some false:= by
     rcases d3 with d3 | ⟨d3,d4⟩
     ·simp only at d3
      rw [if_neg (by rw [decide_eq_true_eq]; omega),if_neg (by rw [beq_iff_eq]; omega)]; rfl
     ·simp only at d3
      rw [if_neg (by rw [decide_eq_true_eq]; omega),if_pos (by rw [beq_iff_eq]; exact d3),hbef,d4]; rfl
    rw [hcmp]
    simp only [Option.bind_some,Bool.false_eq_true,if_false]
    have hloop:loop (V0 (A2m h,0) p) 0 = some (.inr ()):=I2 (b:=V0 (A2m h,0) p) (fun i=>(i:Int)) (A2m h).length (r:=.inr ()) (by omega) (fun i hi=>by
     have hm:=G2 hi
     unfold A2m at hm
     rw [List.mem_map] at hm
     obtain ⟨j,hj,hje⟩:=hm
     rw [List.mem_filter,List.mem_range] at hj
     have hje:(A2m h)[i]! = (j:Int):=hje.symm
     have hnev:=hj.2
     unfold Q7 at hnev
     rw [List.all_eq_true] at hnev
     have hz:=hnev _ hin
     rw [beq_iff_eq] at hz
     simp only at hz
     unfold V0
     simp only []
     rw [if_pos (by rw [decide_eq_true_eq]; omega),F3 hi,hje]
     simp only [Option.bind_some]
     rw [if_neg (by rw [decide_eq_true_eq]; omega)]
     simp only [Option.bind_some]
     rw [if_neg (by rw [decide_eq_true_eq]; omega),F3 (by omega),hz]
     simp only [Option.bind_some,bne_self_eq_false,Bool.false_eq_true,if_false]
     rw [E0 (by omega)]; rfl) (by
     unfold V0
     simp only []
     rw [if_neg (by simp)])
    rw [hloop]
    simp only [Option.bind_some]
    exact tail
 ·have hbo:A1w h = (⟨0,[]⟩,0,(check h).2.2):= by unfold A1w; rw [if_pos (bne_iff_ne.mpr e0)]
  have hno:A6i h = ([],(check h).2.2):= by unfold A6i; rw [if_pos (bne_iff_ne.mpr e0)]
  rw [hbo,hno,if_pos (by simp [e0]),if_pos (by simp [e0]),V6]; rfl
end Rm
end
