/- Texts that the claim stands on, one behind another. -/
import Derived.Test.YtbheamjhjgoccaaDoorA7
set_option linter.unusedVariables false
set_option linter.unusedSimpArgs false
set_option linter.unnecessarySimpa false
section
set_option maxRecDepth 100000
set_option maxHeartbeats 0
namespace Rm
open Go Am Go.Proofs.YtbheamjhjgoccaaDoor.Cd
def A8s (a1:RoPlan) (s9:(Int × room_plan)):Option ((Int × room_plan) ⊕ (room_plan ⊕ Unit)) :=
 if (decide (s9.1 < (List.length a1.At:Int))) = true then
  (idx a1.At s9.1).bind fun x12 =>
  (if (x12 != (-1)) = true then
  (slc a1.At 0 s9.1).bind fun x14 =>
  (N3 x14 x12).bind fun x15 =>
  some x15
  else
  some false).bind fun x16 =>
  if x16 = true then
  some (.inr (.inr ()))
  else
  (idx (Ar5.l s9.2.at_) s9.1).bind fun x18 =>
  some (.inl ((w64 (s9.1 + 1)),(room_plan.mk s9.2.lit_ (Ar5.set s9.2.at_ s9.1 (w64 (x12 + 1))))))
 else
  some (.inr (.inl s9.2))
def A8t (a0:RoHouse) (vo19_0:room_plan) (s20:Int):Option (Int ⊕ (Unit ⊕ Unit)) :=
 if (decide (s20 < 5)) = true then
  (idx (Ar5.l vo19_0.at_) s20).bind fun x23 =>
  (if (decide (x23 > 0)) = true then
  (M8 (room_house.mk a0) s20 (w64 (x23 - 1)) vo19_0.lit_).bind fun x25 =>
  some (x25 != 1)
  else
  some false).bind fun x26 =>
  if x26 = true then
  some (.inr (.inr ()))
  else
  some (.inl (w64 (s20 + 1)))
 else
  some (.inr (.inl ()))
def A6d (a0:RoHouse) (a1:RoPlan):Option (Int × Int) :=
 (O4 a0).bind fun x1 =>
 if (x1.2.2 != 0) = true then
  some (0,x1.2.2)
 else
  (B1u .i64 1 a0.Stoves).bind fun x3 =>
  (F9 0 (w64 (x3 - 1)) [a1.Lit]).bind fun x4 =>
  if x4 = true then
  some (0,7)
  else
  if ((List.length a1.At:Int) != (List.length a0.Figures:Int)) = true then
   some (0,3)
  else
   (F9 (-1) (w64 ((List.length a0.Places:Int) - 1)) a1.At).bind fun x7 =>
   if x7 = true then
   some (0,4)
   else
   (loop (A8s a1) (0,(room_plan.mk a1.Lit (Ar5.mk 0 0 0 0 0)))).bind fun (o19:(room_plan ⊕ Unit)) =>
   match o19 with
   | (.inl vo19_0) =>
    (loop (A8t a0 vo19_0) 0).bind fun (o28:(Unit ⊕ Unit)) =>
    match o28 with
    | (.inl vo28_0) =>
    (T6 (room_house.mk a0) vo19_0.at_ true).bind fun x29 =>
    if (!x29) = true then
     some (0,9)
    else
     (A0n (room_house.mk a0) vo19_0.at_).bind fun x31 =>
     some (x31,0)
    | (.inr vo28_1) =>
    some (0,9)
   | (.inr vo19_1) =>
    some (0,5)
theorem A8k {c:Sc} {H:A4} {a0:RoHouse} {a1:RoPlan} {r:(Int × Int)} (h:A6d a0 a1 = some r) :
  E4 tab c H (.fn (.func 27) [] []) [(.agg (A7 a0)),(.agg (C1 a1))] [.i r.1,.i r.2]:= by
 unfold A6d at h
 refine cE rfl rfl<|sg 0 rfl<|A0 (F1 (cs:=A7 a0) rfl rfl rfl) rfl<|A0 (F1 (cs:=C1 a1) rfl rfl rfl) rfl<|qm rfl<|qm rfl<|es (ra2 rfl rfl)<|sg 2 rfl<|A0 (C5 rfl rfl rfl) rfl<|A0 (C5 rfl rfl rfl) rfl<|M3 (as2:=[(.agg (A7 a0)),(.agg (C1 a1))]) (H1:=(H++[(.cells (A7 a0)),(.cells (C1 a1)),.dead])) rfl rfl (A2 (D8 rfl) (A2 (D8 rfl) B9)) rfl rfl rfl (Q0 rfl)<|sg 3 rfl<|A0 (F1 (cs:=A7 a0) rfl rfl rfl) rfl<|A0 (F1 (cs:=C1 a1) rfl rfl rfl) rfl<|qm rfl<|A0 D5 rfl<|qm rfl<|es (ra3 rfl rfl rfl)<|sg 6 rfl<|A0 (C5 rfl rfl rfl) rfl<|A0 (C5 rfl rfl rfl) rfl<|M3 (as2:=[(.agg (A7 a0)),(.agg (C1 a1))]) (H1:=(H++[(.cells (A7 a0)),(.cells (C1 a1)),.dead,(.cells (A7 a0)),(.cells (C1 a1)),(.cells (A5 (room_plan.mk 0 (Ar5.mk 0 0 0 0 0)))),.dead])) rfl rfl (A2 (D8 rfl) (A2 (D8 rfl) B9)) rfl rfl rfl (Q0 rfl)<|sg 7 rfl<|A0 (F1 (cs:=A7 a0) rfl rfl rfl) rfl<|A0 (F1 (cs:=C1 a1) rfl rfl rfl) rfl<|qm rfl<|A0 D5 rfl<|qm rfl<|es (ra3 rfl rfl rfl)<|s0<|A0 (C5 rfl rfl rfl) rfl<|M3 (as2:=[(.agg (A7 a0))]) (H1:=(H++[(.cells (A7 a0)),(.cells (C1 a1)),.dead,(.cells (A7 a0)),(.cells (C1 a1)),(.cells (A5 (room_plan.mk 0 (Ar5.mk 0 0 0 0 0)))),.dead,(.cells (A7 a0)),(.cells (C1 a1)),(.cells (A5 (room_plan.mk 0 (Ar5.mk 0 0 0 0 0))))])) rfl rfl (A2 (D8 rfl) B9) rfl rfl rfl (Q0 rfl)<|sg 10 rfl<|A0 (F1 (cs:=A7 a0) rfl rfl rfl) rfl<|qm rfl<|qm rfl<|es (ra1 rfl)<|s0<|oB h fun x1 hx1 h=>A0 (C5 rfl rfl rfl) rfl<|B8 (rs:=[.i x1.1,.i x1.2.1,.i x1.2.2]) rfl rfl (A2 (D8 rfl) B9) ((N8 hx1).frz)<|qm rfl<|A0 (A8 rfl rfl) rfl<|A0 (A8 rfl rfl) rfl<|A0 (A8 rfl rfl) rfl<|qm rfl<|qm rfl<|qm rfl<|es (ra2 rfl rfl)<|sg 11 rfl<|A0 (C5 rfl rfl rfl) rfl<|A0 (F2 (cs:=[.b false,(.fn (.func 112) [] [])]) rfl rfl) rfl<|A0 (F2 (cs:=[.b true,(.fn (.func 113) [] [])]) rfl rfl) rfl<|A0 (A3c (rows:=[[.b false,(.fn (.func 112) [] [])],[.b true,(.fn (.func 113) [] [])]]) rfl rfl) rfl<|A0 (F2 (cs:=[.i a0.Weather.Lo,.i a0.Weather.Hi,.i a0.Stoves,(.seq 1 (List.map cI a0.Holds)),(.seq 4 (List.map B6 a0.Places)),(.seq 6 (List.map B2 a0.Figures)),(.seq 1 (List.map cI a0.Bill)),(.xseq 2 [[.b false,(.fn (.func 112) [] [])],[.b true,(.fn (.func 113) [] [])]])]) rfl rfl) rfl<|A0 (F1 (cs:=[.i a0.Weather.Lo,.i a0.Weather.Hi,.i a0.Stoves,(.seq 1 (List.map cI a0.Holds)),(.seq 4 (List.map B6 a0.Places)),(.seq 6 (List.map B2 a0.Figures)),(.seq 1 (List.map cI a0.Bill)),(.xseq 2 [[.b false,(.fn (.func 112) [] [])],[.b true,(.fn (.func 113) [] [])]])]) rfl rfl rfl) rfl<|qm rfl<|qm rfl<|qm rfl<|es (ra2 rfl rfl)<|C2 ?_
 refine InlQ.mk trivial ⟨_,_,_,[(.ptr (H.length + 11) 0),.i x1.2.2],_,(A9 rfl (A9 rfl B4)),(A3 rfl (A3 rfl B3)),(R1 (L2 (Q9 rfl)) (C6 rfl (C6 rfl H6))),?_⟩
 refine qm rfl<|A0 (A8 rfl rfl) rfl<|A0 (A8 rfl rfl) rfl<|qm rfl<|qm rfl<|es (ra5 rfl rfl rfl rfl rfl)<|C0<|D0<|s0<|qm rfl<|A0 (K4 rfl rfl) rfl<|qm rfl<|es (ra6 rfl rfl rfl rfl rfl rfl)<|wi h rfl (fun hc2 h=>?_) fun hc2 h=>?_
 ·refine s0<|A0 (C5 rfl rfl rfl) rfl<|qm rfl<|E5 (C4 (ds:=(A5 (room_plan.mk 0 (Ar5.mk 0 0 0 0 0)))) rfl rfl rfl rfl (B5 rfl) rfl) rfl<|qm rfl<|qm rfl<|es (ra3 rfl rfl rfl)<|C2<|InlQ.mk trivial ⟨_,_,_,[(.lit (.pointer none)),(.agg (A5 (room_plan.mk 0 (Ar5.mk 0 0 0 0 0)))),.i x1.2.2],_,(A9 rfl (E7 (E2 (ds:=A5 (room_plan.mk 0 (Ar5.mk 0 0 0 0 0))) rfl rfl rfl rfl) (A9 rfl B4))),(A3 rfl (A3 (H9 rfl) (A3 rfl B3))),(N7 (A1 A6 (A1 (F7 rfl) (A1 A6 B1))) (C6 rfl (C6 rfl (C6 rfl H6))) (F6 _ _ _)),?_⟩
  refine qm rfl<|A0 (A8 rfl rfl) rfl<|A0 (A8 rfl rfl) rfl<|A0 (A8 rfl rfl) rfl<|A0 D5 rfl<|qm rfl<|E5 (C4 (ds:=(A5 (room_plan.mk 0 (Ar5.mk 0 0 0 0 0)))) rfl rfl rfl rfl (B5 rfl) rfl) rfl<|qm rfl<|es (ra4 rfl rfl rfl rfl)<|C0<|s0<|qm rfl<|A0 (K4 rfl rfl) rfl<|es (ra5 rfl rfl rfl rfl rfl)<|J0 rfl hc2<|s0<|A0 (C5 rfl rfl rfl) rfl<|qm rfl<|E5 (C4 (ds:=(A5 (room_plan.mk 0 (Ar5.mk 0 0 0 0 0)))) rfl rfl rfl rfl (B5 rfl) rfl) rfl<|qm rfl<|qm rfl<|es (ra3 rfl rfl rfl)<|C2<|InlQ.mk trivial ⟨_,_,_,[(.lit (.pointer none)),(.agg (A5 (room_plan.mk 0 (Ar5.mk 0 0 0 0 0)))),.i x1.2.2],_,(A9 rfl (E7 (E2 (ds:=A5 (room_plan.mk 0 (Ar5.mk 0 0 0 0 0))) rfl rfl rfl rfl) (A9 rfl B4))),(A3 rfl (A3 (H9 rfl) (A3 rfl B3))),(N7 (A1 A6 (A1 (F7 rfl) (A1 A6 B1))) (C6 rfl (C6 rfl (C6 rfl H6))) (F6 _ _ _)),?_⟩
  refine qm rfl<|A0 (A8 rfl rfl) rfl<|A0 (A8 rfl rfl) rfl<|A0 (A8 rfl rfl) rfl<|A0 D5 rfl<|qm rfl<|E5 (C4 (ds:=(A5 (room_plan.mk 0 (Ar5.mk 0 0 0 0 0)))) rfl rfl rfl rfl (B5 rfl) rfl) rfl<|qm rfl<|es (ra3 rfl rfl rfl)<|C0<|s0<|qm rfl<|A0 (K4 rfl rfl) rfl<|es (ra4 rfl rfl rfl rfl)<|J0 rfl hc2<|s0<|qm rfl<|qm rfl<|qm rfl<|es (ra2 rfl rfl)<|C2 ?_
  obtain rfl:=os h
  exact retq trivial (A9 rfl (A9 rfl B4)) (A3 rfl (A3 rfl B3)) (A1 A6 (A1 A6 B1))
 ·refine s0<|oB h fun x3 hx3 h=>oB h fun x4 hx4 h=>A0 (C7 rfl) rfl<|A0 (C8 rfl rfl rfl) rfl<|A0 (A98 rfl rfl hx3) rfl<|A0 (X7 rfl rfl) rfl<|A0 (C7 rfl) rfl<|A0 (C8 rfl rfl rfl) rfl<|A0 (K7 (rows:=List.map cI [a1.Lit]) rfl rfl (E8 (fun _=>rfl) _)) rfl<|B8 (rs:=[.b x4]) rfl rfl (A2 rfl (A2 rfl (A2 rfl B9))) ((F8 hx4).frz)<|qm rfl<|es (ra5 rfl rfl rfl rfl rfl)<|wi h rfl (fun hc5 h=>?_) fun hc5 h=>?_
  ·refine s0<|A0 (C5 rfl rfl rfl) rfl<|qm rfl<|E5 (C4 (ds:=(A5 (room_plan.mk 0 (Ar5.mk 0 0 0 0 0)))) rfl rfl rfl rfl (B5 rfl) rfl) rfl<|qm rfl<|es (ra3 rfl rfl rfl)<|C2<|InlQ.mk trivial ⟨_,_,_,[(.lit (.pointer none)),(.agg (A5 (room_plan.mk 0 (Ar5.mk 0 0 0 0 0)))),.i 7],_,(A9 rfl (E7 (E2 (ds:=A5 (room_plan.mk 0 (Ar5.mk 0 0 0 0 0))) rfl rfl rfl rfl) (A9 rfl B4))),(A3 rfl (A3 (H9 rfl) (A3 rfl B3))),(N7 (A1 A6 (A1 (F7 rfl) (A1 A6 B1))) (C6 rfl (C6 rfl (C6 rfl H6))) (F6 _ _ _)),?_⟩
   refine qm rfl<|A0 (A8 rfl rfl) rfl<|A0 (A8 rfl rfl) rfl<|A0 (A8 rfl rfl) rfl<|A0 D5 rfl<|qm rfl<|E5 (C4 (ds:=(A5 (room_plan.mk 0 (Ar5.mk 0 0 0 0 0)))) rfl rfl rfl rfl (B5 rfl) rfl) rfl<|qm rfl<|es (ra4 rfl rfl rfl rfl)<|C0<|s0<|qm rfl<|A0 (F5 (v:=(.b true)) rfl rfl rfl) rfl<|es (ra5 rfl rfl rfl rfl rfl)<|J0 rfl rfl<|s0<|A0 (C5 rfl rfl rfl) rfl<|qm rfl<|E5 (C4 (ds:=(A5 (room_plan.mk 0 (Ar5.mk 0 0 0 0 0)))) rfl rfl rfl rfl (B5 rfl) rfl) rfl<|qm rfl<|qm rfl<|es (ra3 rfl rfl rfl)<|C2<|InlQ.mk trivial ⟨_,_,_,[(.lit (.pointer none)),(.agg (A5 (room_plan.mk 0 (Ar5.mk 0 0 0 0 0)))),.i 7],_,(A9 rfl (E7 (E2 (ds:=A5 (room_plan.mk 0 (Ar5.mk 0 0 0 0 0))) rfl rfl rfl rfl) (A9 rfl B4))),(A3 rfl (A3 (H9 rfl) (A3 rfl B3))),(N7 (A1 A6 (A1 (F7 rfl) (A1 A6 B1))) (C6 rfl (C6 rfl (C6 rfl H6))) (F6 _ _ _)),?_⟩
   refine qm rfl<|A0 (A8 rfl rfl) rfl<|A0 (A8 rfl rfl) rfl<|A0 (A8 rfl rfl) rfl<|A0 D5 rfl<|qm rfl<|E5 (C4 (ds:=(A5 (room_plan.mk 0 (Ar5.mk 0 0 0 0 0)))) rfl rfl rfl rfl (B5 rfl) rfl) rfl<|qm rfl<|es (ra3 rfl rfl rfl)<|C0<|s0<|qm rfl<|A0 (F5 (v:=(.b true)) rfl rfl rfl) rfl<|es (ra4 rfl rfl rfl rfl)<|J0 rfl rfl<|s0<|qm rfl<|qm rfl<|qm rfl<|es (ra2 rfl rfl)<|C2 ?_
   obtain rfl:=os h
   exact retq trivial (A9 rfl (A9 rfl B4)) (A3 rfl (A3 rfl B3)) (A1 A6 (A1 A6 B1))
  ·refine s0<|A0 (C7 rfl) rfl<|A0 (C8 rfl rfl rfl) rfl<|A0 (E3 (f:=cI) rfl) rfl<|A0 (C7 rfl) rfl<|A0 (C8 rfl rfl rfl) rfl<|A0 (E3 (f:=B2) rfl) rfl<|A0 (K4 rfl rfl) rfl<|qm rfl<|es (ra5 rfl rfl rfl rfl rfl)<|wi h rfl (fun hc6 h=>?_) fun hc6 h=>?_
   ·refine s0<|A0 (C5 rfl rfl rfl) rfl<|qm rfl<|E5 (C4 (ds:=(A5 (room_plan.mk 0 (Ar5.mk 0 0 0 0 0)))) rfl rfl rfl rfl (B5 rfl) rfl) rfl<|qm rfl<|es (ra3 rfl rfl rfl)<|C2<|InlQ.mk trivial ⟨_,_,_,[(.lit (.pointer none)),(.agg (A5 (room_plan.mk 0 (Ar5.mk 0 0 0 0 0)))),.i 3],_,(A9 rfl (E7 (E2 (ds:=A5 (room_plan.mk 0 (Ar5.mk 0 0 0 0 0))) rfl rfl rfl rfl) (A9 rfl B4))),(A3 rfl (A3 (H9 rfl) (A3 rfl B3))),(N7 (A1 A6 (A1 (F7 rfl) (A1 A6 B1))) (C6 rfl (C6 rfl (C6 rfl H6))) (F6 _ _ _)),?_⟩
    refine qm rfl<|A0 (A8 rfl rfl) rfl<|A0 (A8 rfl rfl) rfl<|A0 (A8 rfl rfl) rfl<|A0 D5 rfl<|qm rfl<|E5 (C4 (ds:=(A5 (room_plan.mk 0 (Ar5.mk 0 0 0 0 0)))) rfl rfl rfl rfl (B5 rfl) rfl) rfl<|qm rfl<|es (ra4 rfl rfl rfl rfl)<|C0<|s0<|qm rfl<|A0 (F5 (v:=(.b true)) rfl rfl rfl) rfl<|es (ra5 rfl rfl rfl rfl rfl)<|J0 rfl rfl<|s0<|A0 (C5 rfl rfl rfl) rfl<|qm rfl<|E5 (C4 (ds:=(A5 (room_plan.mk 0 (Ar5.mk 0 0 0 0 0)))) rfl rfl rfl rfl (B5 rfl) rfl) rfl<|qm rfl<|qm rfl<|es (ra3 rfl rfl rfl)<|C2<|InlQ.mk trivial ⟨_,_,_,[(.lit (.pointer none)),(.agg (A5 (room_plan.mk 0 (Ar5.mk 0 0 0 0 0)))),.i 3],_,(A9 rfl (E7 (E2 (ds:=A5 (room_plan.mk 0 (Ar5.mk 0 0 0 0 0))) rfl rfl rfl rfl) (A9 rfl B4))),(A3 rfl (A3 (H9 rfl) (A3 rfl B3))),(N7 (A1 A6 (A1 (F7 rfl) (A1 A6 B1))) (C6 rfl (C6 rfl (C6 rfl H6))) (F6 _ _ _)),?_⟩
    refine qm rfl<|A0 (A8 rfl rfl) rfl<|A0 (A8 rfl rfl) rfl<|A0 (A8 rfl rfl) rfl<|A0 D5 rfl<|qm rfl<|E5 (C4 (ds:=(A5 (room_plan.mk 0 (Ar5.mk 0 0 0 0 0)))) rfl rfl rfl rfl (B5 rfl) rfl) rfl<|qm rfl<|es (ra3 rfl rfl rfl)<|C0<|s0<|qm rfl<|A0 (F5 (v:=(.b true)) rfl rfl rfl) rfl<|es (ra4 rfl rfl rfl rfl)<|J0 rfl rfl<|s0<|qm rfl<|qm rfl<|qm rfl<|es (ra2 rfl rfl)<|C2 ?_
    obtain rfl:=os h
    exact retq trivial (A9 rfl (A9 rfl B4)) (A3 rfl (A3 rfl B3)) (A1 A6 (A1 A6 B1))
   ·refine s0<|oB h fun x7 hx7 h=>A0 (C7 rfl) rfl<|A0 (C8 rfl rfl rfl) rfl<|A0 (E3 (f:=B6) rfl) rfl<|A0 (X7 rfl rfl) rfl<|A0 (C7 rfl) rfl<|A0 (C8 rfl rfl rfl) rfl<|B8 (rs:=[.b x7]) rfl rfl (A2 rfl (A2 rfl (A2 rfl B9))) ((F8 hx7).frz)<|qm rfl<|es (ra4 rfl rfl rfl rfl)<|wi h rfl (fun hc8 h=>?_) fun hc8 h=>?_
    ·refine s0<|A0 (C5 rfl rfl rfl) rfl<|qm rfl<|E5 (C4 (ds:=(A5 (room_plan.mk 0 (Ar5.mk 0 0 0 0 0)))) rfl rfl rfl rfl (B5 rfl) rfl) rfl<|qm rfl<|es (ra3 rfl rfl rfl)<|C2<|InlQ.mk trivial ⟨_,_,_,[(.lit (.pointer none)),(.agg (A5 (room_plan.mk 0 (Ar5.mk 0 0 0 0 0)))),.i 4],_,(A9 rfl (E7 (E2 (ds:=A5 (room_plan.mk 0 (Ar5.mk 0 0 0 0 0))) rfl rfl rfl rfl) (A9 rfl B4))),(A3 rfl (A3 (H9 rfl) (A3 rfl B3))),(N7 (A1 A6 (A1 (F7 rfl) (A1 A6 B1))) (C6 rfl (C6 rfl (C6 rfl H6))) (F6 _ _ _)),?_⟩
     refine qm rfl<|A0 (A8 rfl rfl) rfl<|A0 (A8 rfl rfl) rfl<|A0 (A8 rfl rfl) rfl<|A0 D5 rfl<|qm rfl<|E5 (C4 (ds:=(A5 (room_plan.mk 0 (Ar5.mk 0 0 0 0 0)))) rfl rfl rfl rfl (B5 rfl) rfl) rfl<|qm rfl<|es (ra4 rfl rfl rfl rfl)<|C0<|s0<|qm rfl<|A0 (F5 (v:=(.b true)) rfl rfl rfl) rfl<|es (ra5 rfl rfl rfl rfl rfl)<|J0 rfl rfl<|s0<|A0 (C5 rfl rfl rfl) rfl<|qm rfl<|E5 (C4 (ds:=(A5 (room_plan.mk 0 (Ar5.mk 0 0 0 0 0)))) rfl rfl rfl rfl (B5 rfl) rfl) rfl<|qm rfl<|qm rfl<|es (ra3 rfl rfl rfl)<|C2<|InlQ.mk trivial ⟨_,_,_,[(.lit (.pointer none)),(.agg (A5 (room_plan.mk 0 (Ar5.mk 0 0 0 0 0)))),.i 4],_,(A9 rfl (E7 (E2 (ds:=A5 (room_plan.mk 0 (Ar5.mk 0 0 0 0 0))) rfl rfl rfl rfl) (A9 rfl B4))),(A3 rfl (A3 (H9 rfl) (A3 rfl B3))),(N7 (A1 A6 (A1 (F7 rfl) (A1 A6 B1))) (C6 rfl (C6 rfl (C6 rfl H6))) (F6 _ _ _)),?_⟩
     refine qm rfl<|A0 (A8 rfl rfl) rfl<|A0 (A8 rfl rfl) rfl<|A0 (A8 rfl rfl) rfl<|A0 D5 rfl<|qm rfl<|E5 (C4 (ds:=(A5 (room_plan.mk 0 (Ar5.mk 0 0 0 0 0)))) rfl rfl rfl rfl (B5 rfl) rfl) rfl<|qm rfl<|es (ra3 rfl rfl rfl)<|C0<|s0<|qm rfl<|A0 (F5 (v:=(.b true)) rfl rfl rfl) rfl<|es (ra4 rfl rfl rfl rfl)<|J0 rfl rfl<|s0<|qm rfl<|qm rfl<|qm rfl<|es (ra2 rfl rfl)<|C2 ?_
     obtain rfl:=os h
     exact retq trivial (A9 rfl (A9 rfl B4)) (A3 rfl (A3 rfl B3)) (A1 A6 (A1 A6 B1))
    ·refine C3<|s0<|A0 (C7 rfl) rfl<|A0 (C8 rfl rfl rfl) rfl<|A0 (C7 rfl) rfl<|E5 (C4 (ds:=(A5 (room_plan.mk a1.Lit (Ar5.mk 0 0 0 0 0)))) rfl rfl rfl rfl (B5 rfl) rfl) rfl<|es (ra3 rfl rfl rfl)<|C0<|s0<|A0 (C7 rfl) rfl<|A0 (C8 rfl rfl rfl) rfl<|A0 (E3 (f:=cI) rfl) rfl<|qm rfl<|es (ra6 rfl rfl rfl rfl rfl rfl)<|D0<|oB h fun o19 ho19 h=>wl (fun s9=>[(3,(.ptr (H.length + 8) 0)),(4,(.ptr (H.length + 11) 0)),(5,(.ptr (H.length + 9) 0)),(51,(.seq 1 (List.map cI a1.At))),(52,(.i (List.length a1.At:Int))),(53,.i s9.1)]) (fun (q10:Unit) s9=>[(.cells (A7 a0)),(.cells (C1 a1)),.dead,(.cells (A7 a0)),(.cells (C1 a1)),(.cells (A5 (room_plan.mk 0 (Ar5.mk 0 0 0 0 0)))),.dead,(.cells (A7 a0)),(.cells (C1 a1)),(.cells (A5 s9.2)),(.cells (A7 a0)),(.cells [.i a0.Weather.Lo,.i a0.Weather.Hi,.i a0.Stoves,(.seq 1 (List.map cI a0.Holds)),(.seq 4 (List.map B6 a0.Places)),(.seq 6 (List.map B2 a0.Figures)),(.seq 1 (List.map cI a0.Bill)),(.xseq 2 [[.b false,(.fn (.func 112) [] [])],[.b true,(.fn (.func 113) [] [])]])])]) 12 (fun r e s' H'=>(match r with | (.inl v)=>PX 1 [(4,(.ptr (H.length + 11) 0)),(5,(.ptr (H.length + 9) 0))] (H++[(.cells (A7 a0)),(.cells (C1 a1)),.dead,(.cells (A7 a0)),(.cells (C1 a1)),(.cells (A5 (room_plan.mk 0 (Ar5.mk 0 0 0 0 0)))),.dead,(.cells (A7 a0)),(.cells (C1 a1)),(.cells (A5 v)),(.cells (A7 a0)),(.cells [.i a0.Weather.Lo,.i a0.Weather.Hi,.i a0.Stoves,(.seq 1 (List.map cI a0.Holds)),(.seq 4 (List.map B6 a0.Places)),(.seq 6 (List.map B2 a0.Figures)),(.seq 1 (List.map cI a0.Bill)),(.xseq 2 [[.b false,(.fn (.func 112) [] [])],[.b true,(.fn (.func 113) [] [])]])])]) e s' H' | (.inr v)=>e = .ret∧s' = [(4,(.lit (.pointer none))),(5,(.ptr (H.length + 9) 0)),(6,.i 5)]∧H' = (H++[(.cells (A7 a0)),(.cells (C1 a1)),.dead,(.cells (A7 a0)),(.cells (C1 a1)),(.cells (A5 (room_plan.mk 0 (Ar5.mk 0 0 0 0 0)))),.dead,(.cells (A7 a0)),(.cells (C1 a1)),(.cells (A5 (room_plan.mk 0 (Ar5.mk 0 0 0 0 0)))),(.cells (A7 a0)),(.cells [.i a0.Weather.Lo,.i a0.Weather.Hi,.i a0.Stoves,(.seq 1 (List.map cI a0.Holds)),(.seq 4 (List.map B6 a0.Places)),(.seq 6 (List.map B2 a0.Figures)),(.seq 1 (List.map cI a0.Bill)),(.xseq 2 [[.b false,(.fn (.func 112) [] [])],[.b true,(.fn (.func 113) [] [])]])])]):Prop)) () ho19 rfl rfl (fun _ _=>rfl) (fun _=>rfl) rfl (fun s9=>(bdc (F0 rfl) (bdc (F0 rfl) (bdc (F0 rfl) (bdc M9 (bdc A6 (bdc A6 bdn))))))) (fun q10 s9 ys9 hs9=>?_) ?_
     ·unfold A8s at hs9
      refine s0<|A0 (J8 rfl rfl) rfl<|es (ra7 rfl rfl rfl rfl rfl rfl rfl)<|C0<|wi hs9 rfl (fun hc11 hs9=>?_) fun hc11 hs9=>?_
      ·refine C3<|C0<|D0<|s0<|oB hs9 fun x12 hx12 hs9=>qm rfl<|A0 (J6 (f:=cI) rfl rfl hx12) rfl<|A0 (L8 rfl rfl) rfl<|qm rfl<|qm rfl<|es (ra8 rfl rfl rfl rfl rfl rfl rfl rfl)<|C0<|s0<|oB hs9 fun x16 hx16 hs9=>qm rfl<|A0 (K4 rfl rfl) rfl<|qm rfl<|gp 7 67 (.b x16) 60 rfl rfl (fun hg13=>?_) (fun hg13=>?_) ?_
       ·refine oB (bt hx16 hg13) fun x14 hx14 hx16=>oB hx16 fun x15 hx15 hx16=>?_
        obtain rfl:=os hx16
        exact gT rfl hg13<|A0 (C7 rfl) rfl<|gT rfl hg13<|A0 (C8 rfl rfl rfl) rfl<|gT rfl hg13<|qm rfl<|gT rfl hg13<|A0 (A65 (f:=cI) rfl rfl rfl hx14) rfl<|gT rfl hg13<|qm rfl<|gT rfl hg13<|B8 (rs:=[.b x15]) rfl rfl (A2 rfl (A2 rfl B9)) ((S4 hx15).frz)<|A0 (D3 rfl hg13 rfl) rfl<|ge 7 rfl rfl rfl
       ·obtain rfl:=os (bf hx16 hg13)
        exact nT rfl hg13 rfl<|nT rfl hg13 rfl<|nT rfl hg13 rfl<|nT rfl hg13 rfl<|nT rfl hg13 rfl<|N1 (G2 rfl (by rw [hg13]; rfl)) rfl<|A0 (D4 rfl hg13 rfl) rfl<|ge 7 rfl rfl rfl
       refine es (ra9 rfl rfl rfl rfl rfl rfl rfl rfl rfl)<|wi hs9 rfl (fun hc17 hs9=>?_) fun hc17 hs9=>?_
       ·refine s0<|A0 (F2 (cs:=A5 (room_plan.mk 0 (Ar5.mk 0 0 0 0 0))) rfl rfl) rfl<|qm rfl<|E5 (C4 (ds:=(A5 (room_plan.mk 0 (Ar5.mk 0 0 0 0 0)))) rfl rfl rfl rfl (B5 rfl) rfl) rfl<|qm rfl<|es (ra3 rfl rfl rfl)<|C2 ?_
        obtain rfl:=os hs9
        exact lx rfl (And.intro rfl (And.intro rfl rfl)) (su3 rfl rfl rfl)
       ·refine C3<|r0<|oB hs9 fun x18 hx18 hs9=>qm rfl<|qm rfl<|A0 (F3 rfl rfl) rfl<|A0 (C7 rfl) rfl<|A0 (A0r (e:=Ar5.l s9.2.at_) rfl rfl rfl hx18) rfl<|E5 (A5g (f:=cI) (e:=Ar5.l s9.2.at_) (e2:=Ar5.l (Ar5.set s9.2.at_ s9.1 (w64 (x12 + 1)))) (z:=(w64 (x12 + 1))) (ds:=(A5 (room_plan.mk s9.2.lit_ (Ar5.set s9.2.at_ s9.1 (w64 (x12 + 1)))))) rfl rfl rfl rfl rfl rfl (fun _=>rfl) hx18 (Ar5.set_l hx18) rfl (B5 rfl)) rfl<|en (ra6 rfl rfl rfl rfl rfl rfl)<|r0<|A0 (F3 rfl rfl) rfl<|qm rfl<|en (ra6 rfl rfl rfl rfl rfl rfl) ?_
        cases hs9
        exact lnT () rfl (su6 rfl rfl rfl rfl rfl rfl)
      ·refine G9 ?_
       obtain rfl:=os hs9
       exact lx rfl px (su2 rfl rfl)
     ·rcases o19 with vo19_0 | vo19_1
      ·rintro e s' H' - ⟨rfl,rfl,rfl⟩
       refine s0<|qm rfl<|A0 (C5 rfl rfl rfl) rfl<|qm rfl<|E5 (C4 (ds:=(A5 vo19_0)) rfl rfl rfl rfl (B5 rfl) rfl) rfl<|qm rfl<|es (ra3 rfl rfl rfl)<|C2<|InlQ.mk trivial ⟨_,_,_,[(.ptr (H.length + 11) 0),(.agg (A5 vo19_0)),.i 0],_,(A9 rfl (E7 (E2 (ds:=A5 vo19_0) rfl rfl rfl rfl) (A9 rfl B4))),(A3 rfl (A3 (H9 rfl) (A3 rfl B3))),(R1 (L2 (Q9 rfl)) (C6 rfl (C6 rfl (C6 rfl H6)))),?_⟩
       refine qm rfl<|A0 (A8 rfl rfl) rfl<|A0 (A8 rfl rfl) rfl<|A0 (A8 rfl rfl) rfl<|A0 D5 rfl<|qm rfl<|E5 (C4 (ds:=(A5 vo19_0)) rfl rfl rfl rfl (B5 rfl) rfl) rfl<|qm rfl<|es (ra4 rfl rfl rfl rfl)<|C0<|s0<|qm rfl<|A0 (F5 (v:=(.b false)) rfl rfl rfl) rfl<|es (ra5 rfl rfl rfl rfl rfl)<|Y9 rfl rfl<|C3<|C0<|s0<|A0 (C7 rfl) rfl<|A0 (E2 (ds:=(K6 cI) vo19_0.at_) rfl rfl rfl rfl) rfl<|qm rfl<|es (ra5 rfl rfl rfl rfl rfl)<|D0<|oB h fun o28 ho28 h=>wl (fun s20=>[(5,(.ptr (H.length + 5) 0)),(7,(.ptr (H.length + 11) 0)),(8,(.ptr (H.length + 6) 0)),(24,(.agg ((K6 cI) vo19_0.at_))),(25,.i s20)]) (fun (q21:Unit) s20=>[(.cells (A7 a0)),(.cells (C1 a1)),.dead,(.cells (A7 a0)),(.cells (C1 a1)),(.cells (A5 (room_plan.mk 0 (Ar5.mk 0 0 0 0 0)))),(.cells (A5 vo19_0)),(.cells (A7 a0)),(.cells (C1 a1)),(.cells (A5 vo19_0)),(.cells (A7 a0)),(.cells [.i a0.Weather.Lo,.i a0.Weather.Hi,.i a0.Stoves,(.seq 1 (List.map cI a0.Holds)),(.seq 4 (List.map B6 a0.Places)),(.seq 6 (List.map B2 a0.Figures)),(.seq 1 (List.map cI a0.Bill)),(.xseq 2 [[.b false,(.fn (.func 112) [] [])],[.b true,(.fn (.func 113) [] [])]])])]) 12 (fun r e s' H'=>(match r with | (.inl v)=>PX 0 [(5,(.ptr (H.length + 5) 0)),(7,(.ptr (H.length + 11) 0)),(8,(.ptr (H.length + 6) 0))] (H++[(.cells (A7 a0)),(.cells (C1 a1)),.dead,(.cells (A7 a0)),(.cells (C1 a1)),(.cells (A5 (room_plan.mk 0 (Ar5.mk 0 0 0 0 0)))),(.cells (A5 vo19_0)),(.cells (A7 a0)),(.cells (C1 a1)),(.cells (A5 vo19_0)),(.cells (A7 a0)),(.cells [.i a0.Weather.Lo,.i a0.Weather.Hi,.i a0.Stoves,(.seq 1 (List.map cI a0.Holds)),(.seq 4 (List.map B6 a0.Places)),(.seq 6 (List.map B2 a0.Figures)),(.seq 1 (List.map cI a0.Bill)),(.xseq 2 [[.b false,(.fn (.func 112) [] [])],[.b true,(.fn (.func 113) [] [])]])])]) e s' H' | (.inr v)=>e = .ret∧s' = [(4,(.lit (.pointer none))),(5,(.ptr (H.length + 5) 0)),(6,.i 9)]∧H' = (H++[(.cells (A7 a0)),(.cells (C1 a1)),.dead,(.cells (A7 a0)),(.cells (C1 a1)),(.cells (A5 vo19_0)),(.cells (A5 vo19_0)),(.cells (A7 a0)),(.cells (C1 a1)),(.cells (A5 vo19_0)),(.cells (A7 a0)),(.cells [.i a0.Weather.Lo,.i a0.Weather.Hi,.i a0.Stoves,(.seq 1 (List.map cI a0.Holds)),(.seq 4 (List.map B6 a0.Places)),(.seq 6 (List.map B2 a0.Figures)),(.seq 1 (List.map cI a0.Bill)),(.xseq 2 [[.b false,(.fn (.func 112) [] [])],[.b true,(.fn (.func 113) [] [])]])])]):Prop)) () ho28 rfl rfl (fun _ _=>rfl) (fun _=>rfl) rfl (fun s20=>(bdc (F0 rfl) (bdc (F0 rfl) (bdc (F0 rfl) (bdc (F7 rfl) (bdc A6 bdn)))))) (fun q21 s20 ys20 hs20=>?_) ?_
       ·unfold A8t at hs20
        refine s0<|A0 (J8 rfl rfl) rfl<|es (ra6 rfl rfl rfl rfl rfl rfl)<|C0<|wi hs20 rfl (fun hc22 hs20=>?_) fun hc22 hs20=>?_
        ·refine C3<|C0<|D0<|s0<|oB hs20 fun x23 hx23 hs20=>qm rfl<|A0 (A2s (f:=cI) (g:=fun n=>(.i n)) (e:=Ar5.l vo19_0.at_) (fun _=>rfl) rfl rfl rfl rfl hx23) rfl<|qm rfl<|qm rfl<|es (ra7 rfl rfl rfl rfl rfl rfl rfl)<|s0<|oB hs20 fun x26 hx26 hs20=>qm rfl<|A0 (Z0 rfl rfl) rfl<|qm rfl<|gp 9 40 (.b x26) 31 rfl rfl (fun hg24=>?_) (fun hg24=>?_) ?_
         ·refine oB (bt hx26 hg24) fun x25 hx25 hx26=>?_
          obtain rfl:=os hx26
          exact gT rfl hg24<|qm rfl<|gT rfl hg24<|qm rfl<|gT rfl hg24<|qm rfl<|gT rfl hg24<|A0 (X7 rfl rfl) rfl<|gT rfl hg24<|A0 (C7 rfl) rfl<|gT rfl hg24<|A0 (C8 rfl rfl rfl) rfl<|gT rfl hg24<|B8 (rs:=[.i x25]) rfl rfl (A2 rfl (A2 rfl (A2 rfl (A2 rfl B9)))) ((S3 (D6 rfl) hx25).frz)<|gT rfl hg24<|A0 (K4 rfl rfl) rfl<|A0 (D3 rfl hg24 rfl) rfl<|ge 9 rfl rfl rfl
         ·obtain rfl:=os (bf hx26 hg24)
          exact nT rfl hg24 rfl<|nT rfl hg24 rfl<|nT rfl hg24 rfl<|nT rfl hg24 rfl<|nT rfl hg24 rfl<|nT rfl hg24 rfl<|N1 (G2 rfl (by rw [hg24]; rfl)) rfl<|nT rfl hg24 rfl<|A0 (D4 rfl hg24 rfl) rfl<|ge 9 rfl rfl rfl
         refine es (ra6 rfl rfl rfl rfl rfl rfl)<|wi hs20 rfl (fun hc27 hs20=>?_) fun hc27 hs20=>?_
         ·refine s0<|A0 (C5 rfl rfl rfl) rfl<|qm rfl<|E5 (C4 (ds:=(A5 vo19_0)) rfl rfl rfl rfl (B5 rfl) rfl) rfl<|qm rfl<|es (ra3 rfl rfl rfl)<|C2 ?_
          obtain rfl:=os hs20
          exact lx rfl (And.intro rfl (And.intro rfl rfl)) (su3 rfl rfl rfl)
         ·refine C3<|r0<|A0 (F3 rfl rfl) rfl<|qm rfl<|en (ra5 rfl rfl rfl rfl rfl) ?_
          cases hs20
          exact lnT () rfl (su5 rfl rfl rfl rfl rfl)
        ·refine G9 ?_
         obtain rfl:=os hs20
         exact lx rfl px (su3 rfl rfl rfl)
       ·rcases o28 with vo28_0 | vo28_1
        ·rintro e s' H' - ⟨rfl,rfl,rfl⟩
         refine C0<|s0<|oB h fun x29 hx29 h=>qm rfl<|A0 (C7 rfl) rfl<|A0 (E2 (ds:=(K6 cI) vo19_0.at_) rfl rfl rfl rfl) rfl<|B8 (rs:=[.b x29]) rfl rfl (A2 rfl (A2 (D8 rfl) (A2 rfl B9))) ((P1 (D6 rfl) hx29).frz)<|A0 (V0 rfl) rfl<|es (ra4 rfl rfl rfl rfl)<|wi h rfl (fun hc30 h=>?_) fun hc30 h=>?_
         ·refine s0<|A0 (C5 rfl rfl rfl) rfl<|qm rfl<|E5 (C4 (ds:=(A5 vo19_0)) rfl rfl rfl rfl (B5 rfl) rfl) rfl<|qm rfl<|es (ra3 rfl rfl rfl)<|C2<|InlQ.mk trivial ⟨_,_,_,[(.lit (.pointer none)),(.agg (A5 vo19_0)),.i 9],_,(A9 rfl (E7 (E2 (ds:=A5 vo19_0) rfl rfl rfl rfl) (A9 rfl B4))),(A3 rfl (A3 (H9 rfl) (A3 rfl B3))),(N7 (A1 A6 (A1 (F7 rfl) (A1 A6 B1))) (C6 rfl (C6 rfl (C6 rfl H6))) (F6 _ _ _)),?_⟩
          refine qm rfl<|A0 (A8 rfl rfl) rfl<|A0 (A8 rfl rfl) rfl<|A0 (A8 rfl rfl) rfl<|A0 D5 rfl<|qm rfl<|E5 (C4 (ds:=(A5 vo19_0)) rfl rfl rfl rfl (B5 rfl) rfl) rfl<|qm rfl<|es (ra3 rfl rfl rfl)<|C0<|s0<|qm rfl<|A0 (F5 (v:=(.b true)) rfl rfl rfl) rfl<|es (ra4 rfl rfl rfl rfl)<|J0 rfl rfl<|s0<|qm rfl<|qm rfl<|qm rfl<|es (ra2 rfl rfl)<|C2 ?_
          obtain rfl:=os h
          exact retq trivial (A9 rfl (A9 rfl B4)) (A3 rfl (A3 rfl B3)) (A1 A6 (A1 A6 B1))
         ·refine C3<|s0<|qm rfl<|A0 (C5 rfl rfl rfl) rfl<|qm rfl<|E5 (C4 (ds:=(A5 vo19_0)) rfl rfl rfl rfl (B5 rfl) rfl) rfl<|qm rfl<|es (ra3 rfl rfl rfl)<|C2<|InlQ.mk trivial ⟨_,_,_,[(.ptr (H.length + 11) 0),(.agg (A5 vo19_0)),.i 0],_,(A9 rfl (E7 (E2 (ds:=A5 vo19_0) rfl rfl rfl rfl) (A9 rfl B4))),(A3 rfl (A3 (H9 rfl) (A3 rfl B3))),(R1 (L2 (Q9 rfl)) (C6 rfl (C6 rfl (C6 rfl H6)))),?_⟩
          refine qm rfl<|A0 (A8 rfl rfl) rfl<|A0 (A8 rfl rfl) rfl<|A0 (A8 rfl rfl) rfl<|A0 D5 rfl<|qm rfl<|E5 (C4 (ds:=(A5 vo19_0)) rfl rfl rfl rfl (B5 rfl) rfl) rfl<|qm rfl<|es (ra3 rfl rfl rfl)<|C0<|s0<|qm rfl<|A0 (F5 (v:=(.b false)) rfl rfl rfl) rfl<|es (ra4 rfl rfl rfl rfl)<|Y9 rfl rfl<|C3<|s0<|oB h fun x31 hx31 h=>qm rfl<|A0 (C7 rfl) rfl<|A0 (E2 (ds:=(K6 cI) vo19_0.at_) rfl rfl rfl rfl) rfl<|B8 (rs:=[.i x31]) rfl rfl (A2 rfl (A2 (D8 rfl) B9)) ((A27 (D6 rfl) hx31).frz)<|qm rfl<|qm rfl<|es (ra2 rfl rfl)<|C2 ?_
          obtain rfl:=os h
          exact retq trivial (A9 rfl (A9 rfl B4)) (A3 rfl (A3 rfl B3)) (A1 A6 (A1 A6 B1))
        ·rintro e s' H' - ⟨rfl,rfl,rfl⟩
         refine InlQ.mk trivial ⟨_,_,_,[(.lit (.pointer none)),(.agg (A5 vo19_0)),.i 9],_,(A9 rfl (E7 (E2 (ds:=A5 vo19_0) rfl rfl rfl rfl) (A9 rfl B4))),(A3 rfl (A3 (H9 rfl) (A3 rfl B3))),(N7 (A1 A6 (A1 (F7 rfl) (A1 A6 B1))) (C6 rfl (C6 rfl (C6 rfl H6))) (F6 _ _ _)),?_⟩
         refine qm rfl<|A0 (A8 rfl rfl) rfl<|A0 (A8 rfl rfl) rfl<|A0 (A8 rfl rfl) rfl<|A0 D5 rfl<|qm rfl<|E5 (C4 (ds:=(A5 vo19_0)) rfl rfl rfl rfl (B5 rfl) rfl) rfl<|qm rfl<|es (ra3 rfl rfl rfl)<|C0<|s0<|qm rfl<|A0 (F5 (v:=(.b true)) rfl rfl rfl) rfl<|es (ra4 rfl rfl rfl rfl)<|J0 rfl rfl<|s0<|qm rfl<|qm rfl<|qm rfl<|es (ra2 rfl rfl)<|C2 ?_
         obtain rfl:=os h
         exact retq trivial (A9 rfl (A9 rfl B4)) (A3 rfl (A3 rfl B3)) (A1 A6 (A1 A6 B1))
      ·rintro e s' H' - ⟨rfl,rfl,rfl⟩
       refine InlQ.mk trivial ⟨_,_,_,[(.lit (.pointer none)),(.agg (A5 (room_plan.mk 0 (Ar5.mk 0 0 0 0 0)))),.i 5],_,(A9 rfl (E7 (E2 (ds:=A5 (room_plan.mk 0 (Ar5.mk 0 0 0 0 0))) rfl rfl rfl rfl) (A9 rfl B4))),(A3 rfl (A3 (H9 rfl) (A3 rfl B3))),(N7 (A1 A6 (A1 (F7 rfl) (A1 A6 B1))) (C6 rfl (C6 rfl (C6 rfl H6))) (F6 _ _ _)),?_⟩
       refine qm rfl<|A0 (A8 rfl rfl) rfl<|A0 (A8 rfl rfl) rfl<|A0 (A8 rfl rfl) rfl<|A0 D5 rfl<|qm rfl<|E5 (C4 (ds:=(A5 (room_plan.mk 0 (Ar5.mk 0 0 0 0 0)))) rfl rfl rfl rfl (B5 rfl) rfl) rfl<|qm rfl<|es (ra4 rfl rfl rfl rfl)<|C0<|s0<|qm rfl<|A0 (F5 (v:=(.b true)) rfl rfl rfl) rfl<|es (ra5 rfl rfl rfl rfl rfl)<|J0 rfl rfl<|s0<|A0 (C5 rfl rfl rfl) rfl<|qm rfl<|E5 (C4 (ds:=(A5 (room_plan.mk 0 (Ar5.mk 0 0 0 0 0)))) rfl rfl rfl rfl (B5 rfl) rfl) rfl<|qm rfl<|qm rfl<|es (ra3 rfl rfl rfl)<|C2<|InlQ.mk trivial ⟨_,_,_,[(.lit (.pointer none)),(.agg (A5 (room_plan.mk 0 (Ar5.mk 0 0 0 0 0)))),.i 5],_,(A9 rfl (E7 (E2 (ds:=A5 (room_plan.mk 0 (Ar5.mk 0 0 0 0 0))) rfl rfl rfl rfl) (A9 rfl B4))),(A3 rfl (A3 (H9 rfl) (A3 rfl B3))),(N7 (A1 A6 (A1 (F7 rfl) (A1 A6 B1))) (C6 rfl (C6 rfl (C6 rfl H6))) (F6 _ _ _)),?_⟩
       refine qm rfl<|A0 (A8 rfl rfl) rfl<|A0 (A8 rfl rfl) rfl<|A0 (A8 rfl rfl) rfl<|A0 D5 rfl<|qm rfl<|E5 (C4 (ds:=(A5 (room_plan.mk 0 (Ar5.mk 0 0 0 0 0)))) rfl rfl rfl rfl (B5 rfl) rfl) rfl<|qm rfl<|es (ra3 rfl rfl rfl)<|C0<|s0<|qm rfl<|A0 (F5 (v:=(.b true)) rfl rfl rfl) rfl<|es (ra4 rfl rfl rfl rfl)<|J0 rfl rfl<|s0<|qm rfl<|qm rfl<|qm rfl<|es (ra2 rfl rfl)<|C2 ?_
       obtain rfl:=os h
       exact retq trivial (A9 rfl (A9 rfl B4)) (A3 rfl (A3 rfl B3)) (A1 A6 (A1 A6 B1))
def A13  (x2:room_plan) (s3:Unit):Option (Unit ⊕ Unit) :=
 some (.inr ())
def A37 (a0:room_house):Option Bool :=
 (B0g a0 Unit Unit A13 ()).bind fun (o4:(Unit ⊕ Unit)) =>
 match o4 with
 | (.inl vo4_5) =>
  some false
 | (.inr vo4_6) =>
  some true
theorem B0e {c:Sc} {H:A4} (hscv:W3 c H = true) (hcl:clH H.length H = true) {a0:room_house} {b0:Nat} (hb0:hcells H b0 = some [.i a0.RoHouse.Weather.Lo,.i a0.RoHouse.Weather.Hi,.i a0.RoHouse.Stoves,(.seq 1 (List.map cI a0.RoHouse.Holds)),(.seq 4 (List.map B6 a0.RoHouse.Places)),(.seq 6 (List.map B2 a0.RoHouse.Figures)),(.seq 1 (List.map cI a0.RoHouse.Bill)),(.xseq 2 [[.b false,(.fn (.func 112) [] [])],[.b true,(.fn (.func 113) [] [])]])]) {r:Bool} (h:A37 a0 = some r) :
  E4 tab c H (.fn (.func 97) [] []) [.ptr b0 0] [.b r]:= by
 unfold A37 at h
 refine cE rfl rfl<|sg 0 rfl<|A0 D5 rfl<|es (ra2 rfl rfl)<|C0<|s0<|qm rfl<|M3 (as2:=[.ptr b0 0]) (H1:=(H++[(.cells (cB false))])) rfl rfl (A2 rfl B9) rfl rfl rfl (Q0 rfl)<|sg 1 rfl<|A0 (F1 (cs:=[.ptr b0 0]) rfl rfl rfl) rfl<|qm rfl<|es (ra1 rfl)<|s0<|A0 (A20 rfl rfl) rfl<|qm rfl<|es (ra1 rfl)<|C2<|InlQ.mk trivial ⟨_,_,_,[(.fn (.func 116) [] [(.ptr (H.length + 1) 0)])],_,(A9 rfl B4),(A3 rfl B3),(R1 (L2 (B3a (L2 (Q9 rfl)))) (C6 rfl H6)),?_⟩
 refine es (ra2 rfl rfl)<|D0<|oB h fun o4 ho4 h=>?_
 have hb0_lt:=A0j hb0
 refine B76 (σ:=Unit) (ρ:=Unit) (k:=2) (ea:=(fun (x2:room_plan)=>(.agg (A5 x2)))) (body:=A13) (pre:=fun H1=>hcells H1 (H.length + 1) = some [.ptr b0 0]∧hcells H1 b0 = some (B1d a0)) (B4j (t:=a0) (b1:=H.length + 1) (bt:=b0)) A7s [(2,(.ptr (H.length + 0) 0))] (fun s3=>[(.cells (cB false)),(.cells [.ptr b0 0])]) (fun (vo4_6:Unit)=>[(.cells (cB true)),(.cells [.ptr b0 0])]) (fun _=>.ret) ho4 (fun _=>rfl) rfl (fun S hS=>M7 (live:=[2]) rfl (by decide) (Sub.trans (su1 rfl) hS)) rfl (fun _=>rfl) (fun _=>rfl) hcl (by rw [Bool.and_eq_true,Bool.and_eq_true]; exact ⟨⟨by kernel_rfl,by kernel_rfl⟩,(by simp [clH,clS,AO.cl,AV.cl,clL,clM,clR,A0f,A5a,A75,A1q,K6,cI,cB,cS,H8,freeL,AV.free,freeR,Nat.blt,O0,A04,I3,Q6,G4,O6,I7,Q5,L7,T3,I4,M6,X8,A05] <;> omega)⟩) (fun _=>(by simp [clH,clS,AO.cl,AV.cl,clL,clM,clR,A0f,A5a,A75,A1q,K6,cI,cB,cS,H8,freeL,AV.free,freeR,Nat.blt,O0,A04,I3,Q6,G4,O6,I7,Q5,L7,T3,I4,M6,X8,A05] <;> omega)) (fun _=>(by simp [clH,clS,AO.cl,AV.cl,clL,clM,clR,A0f,A5a,A75,A1q,K6,cI,cB,cS,H8,freeL,AV.free,freeR,Nat.blt,O0,A04,I3,Q6,G4,O6,I7,Q5,L7,T3,I4,M6,X8,A05] <;> omega)) (fun _=>(by simp [clH,clS,AO.cl,AV.cl,clL,clM,clR,A0f,A5a,A75,A1q,K6,cI,cB,cS,H8,freeL,AV.free,freeR,Nat.blt,O0,A04,I3,Q6,G4,O6,I7,Q5,L7,T3,I4,M6,X8,A05] <;> omega)) ⟨fun _ _=>(And.intro (D6 rfl) (K5 hb0 _)),fun _ _=>(And.intro (D6 rfl) (K5 hb0 _))⟩ (B2t hscv) (fun c x2 s3 o hs3 y0_2 y1_2=>?_) ?_
 ·unfold A13 at hs3
  refine C3<|⟨_,rfl,rfl,rfl,?_⟩
  refine D0<|s0<|E5 (C4 (ds:=(cB true)) rfl rfl rfl rfl (B5 rfl) rfl) rfl<|es .n<|C2 ?_
  cases hs3
  exact ⟨_,rfl,rfl,rfl⟩
 ·rcases o4 with vo4_5 | vo4_6
  ·refine s0<|E5 (C4 (ds:=(cB false)) rfl rfl rfl rfl (B5 rfl) rfl) rfl<|es (ra1 rfl)<|C2 ?_
   obtain rfl:=os h
   exact retq trivial (E7 (C8 (x:=(.b false)) rfl rfl rfl) B4) (A3 rfl B3) (A1 A6 B1)
  ·obtain rfl:=os h
   exact retq trivial (E7 (C8 (x:=(.b true)) rfl rfl rfl) B4) (A3 rfl B3) (A1 A6 B1)
def T0 (a0:Int):Option Int :=
 if (a0 == 0) = true then
  some 64
 else
  (A9d .u64 (IntKind.u64.wrap ((L6 .u64 a0 (IntKind.u64.wrap (0 - a0))) * 285870213051353865)) 58).bind fun x2 =>
  (idx gl1 x2).bind fun x3 =>
  some (w64 x3)
theorem A22 {c:Sc} {H:A4} {a0:Int} {r:Int} (h:T0 a0 = some r) :
  E4 tab c H (.fn (.func 126) [] []) [(.lit (.int .u64 a0))] [.i r]:= by
 unfold T0 at h
 refine cE rfl rfl<|s0<|qm rfl<|es (ra1 rfl)<|C0<|s0<|qm rfl<|A0 (I0 rfl rfl) rfl<|es (ra2 rfl rfl)<|wi h rfl (fun hc1 h=>?_) fun hc1 h=>?_
 ·refine s0<|qm rfl<|es (ra1 rfl)<|C2 ?_
  obtain rfl:=os h
  exact retq trivial (A9 rfl B4) (A3 rfl B3) (A1 A6 B1)
 ·refine C3<|s0<|oB h fun x2 hx2 h=>oB h fun x3 hx3 h=>qm rfl<|qm rfl<|A0 (C61 rfl rfl) rfl<|A0 (F5 (v:=(.lit (.int .u64 (L6 .u64 a0 (IntKind.u64.wrap (0 - a0)))))) rfl rfl rfl) rfl<|A0 (F5 (v:=(.lit (.int .u64 (IntKind.u64.wrap ((L6 .u64 a0 (IntKind.u64.wrap (0 - a0))) * 285870213051353865))))) rfl rfl rfl) rfl<|A0 (A6n rfl rfl hx2) rfl<|A0 (C6s (e:=gl1) (g:=fun n=>(.lit (.int .u8 n))) rfl rfl rfl hx3) rfl<|A0 (C5c (g:=fun n=>(.lit (.int .u8 n))) rfl hx3) rfl<|A0 (A86 rfl) rfl<|qm rfl<|es (ra1 rfl)<|C2 ?_
  obtain rfl:=os h
  exact retq trivial (A9 rfl B4) (A3 rfl B3) (A1 A6 B1)
def V6 (a0:Int):Option Int :=
 (T0 a0).bind fun x1 =>
 some x1
theorem A3x {c:Sc} {H:A4} {a0:Int} {r:Int} (h:V6 a0 = some r) :
  E4 tab c H (.fn (.func 118) [] []) [(.lit (.int .u64 a0))] [.i r]:= by
 unfold V6 at h
 refine cE rfl rfl<|s0<|qm rfl<|es (ra1 rfl)<|C0<|Y9 rfl rfl<|C3<|s0<|oB h fun x1 hx1 h=>qm rfl<|B8 (rs:=[.i x1]) rfl rfl (A2 rfl B9) ((A22 hx1).frz)<|qm rfl<|es (ra1 rfl)<|C2 ?_
 obtain rfl:=os h
 exact retq trivial (A9 rfl B4) (A3 rfl B3) (A1 A6 B1)
def B0q  (s1:(Int × (List Int))):Option ((Int × (List Int)) ⊕ (List Int)) :=
 if (s1.1 != 0) = true then
  (V6 (IntKind.u64.wrap s1.1)).bind fun x4 =>
  (app 8 s1.2 [x4]).bind fun x5 =>
  some (.inl ((B0z s1.1 (w64 (s1.1 - 1))),x5))
 else
  some (.inr s1.2)
def B1s (a0:Int):Option (List Int) :=
 (loop B0q (a0,([]:List Int))).bind fun (o6:(List Int)) =>
 some o6
theorem B7z {c:Sc} {H:A4} {a0:Int} {r:(List Int)} (h:B1s a0 = some r) :
  E4 tab c H (.fn (.func 95) [] []) [.i a0] [(.fresh 1 (List.map cI r))]:= by
 unfold B1s at h
 refine cE rfl rfl<|sg 0 rfl<|A0 B6n rfl<|es (ra2 rfl rfl)<|C0<|D0<|oB h fun o6 ho6 h=>wl (fun s1=>[(0,.i s1.1),(2,(.asl (H.length + 0) (List.length s1.2)))]) (fun (q2:Unit) s1=>[(.arr 1 false (List.map cI s1.2))]) 1 (fun r e s' H'=>PX 0 [(2,(.asl (H.length + 0) (List.length r)))] (H++[(.arr 1 false (List.map cI r))]) e s' H') () ho6 rfl rfl (fun _ _=>rfl) (fun _=>rfl) rfl (fun s1=>(bdc A6 (bdc (B28 rfl) bdn))) (fun q2 s1 ys1 hs1=>?_) ?_
 ·unfold B0q at hs1
  refine C0<|s0<|qm rfl<|A0 (K4 rfl rfl) rfl<|es (ra3 rfl rfl rfl)<|wi hs1 rfl (fun hc3 hs1=>?_) fun hc3 hs1=>?_
  ·refine C3<|C0<|D0<|r0<|oB hs1 fun x4 hx4 hs1=>oB hs1 fun x5 hx5 hs1=>qm rfl<|qm rfl<|A0 (A86 rfl) rfl<|B8 (rs:=[.i x4]) rfl rfl (A2 rfl B9) ((A3x hx4).frz)<|A0 (K7 (rows:=List.map cI [x4]) rfl rfl (E8 (fun _=>rfl) _)) rfl<|B1l (B33 (f:=cI) rfl rfl rfl rfl B4p (fun _=>rfl) hx5) rfl<|qm rfl<|en (ra2 rfl rfl)<|r0<|qm rfl<|qm rfl<|A0 (X7 rfl rfl) rfl<|A0 (F5 (v:=(.i (B0z s1.1 (w64 (s1.1 - 1))))) rfl rfl rfl) rfl<|qm rfl<|en (ra2 rfl rfl) ?_
   cases hs1
   exact lnT () rfl (su2 rfl rfl)
  ·refine G9 ?_
   obtain rfl:=os hs1
   exact lx rfl px (su1 rfl)
 ·rintro e s' H' - ⟨rfl,rfl,rfl⟩
  refine s0<|qm rfl<|qm rfl<|es (ra1 rfl)<|C2 ?_
  obtain rfl:=os h
  exact retq trivial (A9 rfl B4) (A3 (B70 rfl (List.length_map _)) B3) (A1 A9m B1)
def A2j (a0:Int):Option Bool :=
 some (a0 != a0)
theorem A5h {c:Sc} {H:A4} {a0:Int} {r:Bool} (h:A2j a0 = some r) :
  E4 tab c H (.fn (.func 127) [] []) [.i a0] [.b r]:= by
 unfold A2j at h
 refine cE rfl rfl<|s0<|qm rfl<|es (ra1 rfl)<|s0<|qm rfl<|qm rfl<|A0 (K4 rfl rfl) rfl<|qm rfl<|es (ra1 rfl)<|C2 ?_
 obtain rfl:=os h
 exact retq trivial (A9 rfl B4) (A3 rfl B3) (A1 A6 B1)
def A2y (a0:Int) (a1:Int):Option Int :=
 (A2j a0).bind fun x1 =>
 (A2j a1).bind fun x2 =>
 if x1 = true then
  if x2 = true then
  some 0
  else
  some (-1)
 else
  if x2 = true then
  some 1
  else
  if (decide (a0 < a1)) = true then
   some (-1)
  else
   if (decide (a0 > a1)) = true then
   some 1
   else
   some 0
theorem A87 {c:Sc} {H:A4} {a0:Int} {a1:Int} {r:Int} (h:A2y a0 a1 = some r) :
  E4 tab c H (.fn (.func 119) [] []) [.i a0,.i a1] [.i r]:= by
 unfold A2y at h
 refine cE rfl rfl<|s0<|qm rfl<|es (ra2 rfl rfl)<|s0<|oB h fun x1 hx1 h=>qm rfl<|B8 (rs:=[.b x1]) rfl rfl (A2 rfl B9) ((A5h hx1).frz)<|qm rfl<|es (ra3 rfl rfl rfl)<|s0<|oB h fun x2 hx2 h=>qm rfl<|B8 (rs:=[.b x2]) rfl rfl (A2 rfl B9) ((A5h hx2).frz)<|qm rfl<|es (ra4 rfl rfl rfl rfl)<|C0<|s0<|qm rfl<|es (ra4 rfl rfl rfl rfl)<|wi h rfl (fun hc3 h=>?_) fun hc3 h=>?_
 ·refine C0<|s0<|qm rfl<|es (ra1 rfl)<|wi h rfl (fun hc4 h=>?_) fun hc4 h=>?_
  ·refine s0<|qm rfl<|es (ra1 rfl)<|C2 ?_
   obtain rfl:=os h
   exact retq trivial (A9 rfl B4) (A3 rfl B3) (A1 A6 B1)
  ·refine C3<|s0<|qm rfl<|es (ra1 rfl)<|C2 ?_
   obtain rfl:=os h
   exact retq trivial (A9 rfl B4) (A3 rfl B3) (A1 A6 B1)
 ·refine C3<|C0<|s0<|qm rfl<|es (ra3 rfl rfl rfl)<|wi h rfl (fun hc5 h=>?_) fun hc5 h=>?_
  ·refine s0<|qm rfl<|es (ra1 rfl)<|C2 ?_
   obtain rfl:=os h
   exact retq trivial (A9 rfl B4) (A3 rfl B3) (A1 A6 B1)
  ·refine C3<|C0<|s0<|qm rfl<|qm rfl<|A0 (J8 rfl rfl) rfl<|es (ra3 rfl rfl rfl)<|wi h rfl (fun hc6 h=>?_) fun hc6 h=>?_
   ·refine s0<|qm rfl<|es (ra1 rfl)<|C2 ?_
    obtain rfl:=os h
    exact retq trivial (A9 rfl B4) (A3 rfl B3) (A1 A6 B1)
   ·refine C3<|C0<|s0<|qm rfl<|qm rfl<|A0 (Z0 rfl rfl) rfl<|es (ra1 rfl)<|wi h rfl (fun hc7 h=>?_) fun hc7 h=>?_
    ·refine s0<|qm rfl<|es (ra1 rfl)<|C2 ?_
     obtain rfl:=os h
     exact retq trivial (A9 rfl B4) (A3 rfl B3) (A1 A6 B1)
    ·refine C3<|s0<|qm rfl<|es (ra1 rfl)<|C2 ?_
     obtain rfl:=os h
     exact retq trivial (A9 rfl B4) (A3 rfl B3) (A1 A6 B1)
def A0p (a0:(List Int)) (a1:(List Int)) (s1:Int):Option (Int ⊕ (Int ⊕ Unit)) :=
 if (decide (s1 < (List.length a0:Int))) = true then
  (idx a0 s1).bind fun x4 =>
  if (decide (s1 ≥ (List.length a1:Int))) = true then
  some (.inr (.inl 1))
  else
  (idx a1 s1).bind fun x6 =>
  (A2y x4 x6).bind fun x7 =>
  if (x7 != 0) = true then
   some (.inr (.inl x7))
  else
   some (.inl (w64 (s1 + 1)))
 else
  some (.inr (.inr ()))
def X5 (a0:(List Int)) (a1:(List Int)):Option Int :=
 (loop (A0p a0 a1) 0).bind fun (o9:(Int ⊕ Unit)) =>
 match o9 with
 | (.inl vo9_0) =>
  some vo9_0
 | (.inr vo9_1) =>
  if (decide ((List.length a0:Int) < (List.length a1:Int))) = true then
  some (-1)
  else
  some 0
theorem A4i {c:Sc} {H:A4} {a0:(List Int)} {a1:(List Int)} {r:Int} (h:X5 a0 a1 = some r) :
  E4 tab c H (.fn (.func 96) [] []) [(.seq 1 (List.map cI a0)),(.seq 1 (List.map cI a1))] [.i r]:= by
 unfold X5 at h
 refine cE rfl rfl<|s0<|qm rfl<|es (ra2 rfl rfl)<|C0<|s0<|qm rfl<|A0 (E3 (f:=cI) rfl) rfl<|qm rfl<|es (ra5 rfl rfl rfl rfl rfl)<|D0<|oB h fun o9 ho9 h=>wl (fun s1=>[(0,(.seq 1 (List.map cI a0))),(1,(.seq 1 (List.map cI a1))),(9,(.seq 1 (List.map cI a0))),(10,(.i (List.length a0:Int))),(11,.i s1)]) (fun (q2:Unit) s1=>[]) 0 (fun r e s' H'=>(match r with | (.inl v)=>e = .ret∧RetQ H [.tmp 4] [.i v] e s' H' | (.inr v)=>PX 0 [(0,(.seq 1 (List.map cI a0))),(1,(.seq 1 (List.map cI a1)))] (H++[]) e s' H':Prop)) () ho9 rfl rfl (fun _ _=>rfl) (fun _=>rfl) rfl (fun s1=>(bdc M9 (bdc M9 (bdc M9 (bdc A6 (bdc A6 bdn)))))) (fun q2 s1 ys1 hs1=>?_) ?_
 ·unfold A0p at hs1
  refine s0<|A0 (J8 rfl rfl) rfl<|es (ra6 rfl rfl rfl rfl rfl rfl)<|C0<|wi hs1 rfl (fun hc3 hs1=>?_) fun hc3 hs1=>?_
  ·refine C3<|C0<|D0<|s0<|oB hs1 fun x4 hx4 hs1=>qm rfl<|A0 (J6 (f:=cI) rfl rfl hx4) rfl<|A0 (L8 rfl rfl) rfl<|qm rfl<|qm rfl<|es (ra7 rfl rfl rfl rfl rfl rfl rfl)<|C0<|s0<|qm rfl<|qm rfl<|A0 (E3 (f:=cI) rfl) rfl<|A0 (A78 rfl rfl) rfl<|es (ra8 rfl rfl rfl rfl rfl rfl rfl rfl)<|wi hs1 rfl (fun hc5 hs1=>?_) fun hc5 hs1=>?_
   ·refine s0<|qm rfl<|es (ra1 rfl)<|C2 ?_
    obtain rfl:=os hs1
    exact lx rfl (And.intro rfl (retq trivial (A9 rfl B4) (A3 rfl B3) (A1 A6 B1))) (Sub.refl _)
   ·refine C3<|s0<|oB hs1 fun x6 hx6 hs1=>qm rfl<|qm rfl<|A0 (J6 (f:=cI) rfl rfl hx6) rfl<|A0 (L8 rfl rfl) rfl<|qm rfl<|es (ra7 rfl rfl rfl rfl rfl rfl rfl)<|s0<|oB hs1 fun x7 hx7 hs1=>qm rfl<|qm rfl<|B8 (rs:=[.i x7]) rfl rfl (A2 rfl (A2 rfl B9)) ((A87 hx7).frz)<|qm rfl<|es (ra6 rfl rfl rfl rfl rfl rfl)<|s0<|qm rfl<|A0 (K4 rfl rfl) rfl<|es (ra7 rfl rfl rfl rfl rfl rfl rfl)<|wi hs1 rfl (fun hc8 hs1=>?_) fun hc8 hs1=>?_
    ·refine s0<|qm rfl<|qm rfl<|es (ra1 rfl)<|C2 ?_
     obtain rfl:=os hs1
     exact lx rfl (And.intro rfl (retq trivial (A9 rfl B4) (A3 rfl B3) (A1 A6 B1))) (Sub.refl _)
    ·refine C3<|r0<|A0 (F3 rfl rfl) rfl<|qm rfl<|en (ra5 rfl rfl rfl rfl rfl) ?_
     cases hs1
     exact lnT () rfl (su5 rfl rfl rfl rfl rfl)
  ·refine G9 ?_
   obtain rfl:=os hs1
   exact lx rfl px (su2 rfl rfl)
 ·rcases o9 with vo9_0 | vo9_1
  ·rintro e s' H' - ⟨rfl,hret⟩
   cases h
   exact hret
  ·rintro e s' H' - ⟨rfl,rfl,rfl⟩
   refine C0<|s0<|qm rfl<|A0 (E3 (f:=cI) rfl) rfl<|qm rfl<|A0 (E3 (f:=cI) rfl) rfl<|A0 (J8 rfl rfl) rfl<|es (ra1 rfl)<|wi h rfl (fun hc10 h=>?_) fun hc10 h=>?_
   ·refine s0<|qm rfl<|es (ra1 rfl)<|C2 ?_
    obtain rfl:=os h
    exact retq trivial (A9 rfl B4) (A3 rfl B3) (A1 A6 B1)
   ·refine C3<|s0<|qm rfl<|es (ra1 rfl)<|C2 ?_
    obtain rfl:=os h
    exact retq trivial (A9 rfl B4) (A3 rfl B3) (A1 A6 B1)
end Rm
end
section
set_option maxRecDepth 100000
namespace Rm
open Go Am Go.Proofs.YtbheamjhjgoccaaDoor.Cd
def B91 (t:RoHouse) (b:List Int):RoHouse:=⟨t.Weather,t.Stoves,t.Holds,t.Places,t.Figures,b⟩
def A7d (a0:RoHouse) (set:Int) (s:Int × List Int):Option ((Int × List Int) ⊕ List Int) :=
 if (decide (s.1 < (List.length a0.Bill:Int))) = true then
  (idx a0.Bill s.1).bind fun n =>
  (A9d .i64 set s.1).bind fun q =>
  if (B0z q 1 == 0) = true then
   (app 8 s.2 [n]).bind fun b =>
   some (.inl (w64 (s.1 + 1),b))
  else some (.inl (w64 (s.1 + 1),s.2))
 else some (.inr s.2)
def A43 (l breaks:List Int) (found:Bool):Option Bool :=
 if found = true then
  if (decide ((l.length:Int) > (breaks.length:Int))) = true then some true
  else if ((l.length:Int) == (breaks.length:Int)) = true then
   (X5 l breaks).bind fun z=>some (decide (z > 0))
  else some false
 else some false
def A35 (a0:RoHouse) (n:Int) (s:Int × Bool × List Int):Option ((Int × Bool × List Int) ⊕ List Int) :=
 if (decide (s.1 < n)) = true then
  (B1s s.1).bind fun l =>
  (A43 l s.2.2 s.2.1).bind fun skip =>
  if skip = true then some (.inl (w64 (s.1 + 1),s.2.1,s.2.2))
  else
   (loop (A7d a0 s.1) (0,[])).bind fun b =>
   (A37 ⟨B91 a0 b⟩).bind fun k =>
   if k = true then some (.inl (w64 (s.1 + 1),true,l))
   else some (.inl (w64 (s.1 + 1),s.2.1,s.2.2))
 else some (.inr s.2.2)
def A2v (a0:RoHouse):Option (List Int × Int) :=
 (O4 a0).bind fun x1 =>
 if (x1.2.2 != 0) = true then some (([]:List Int),x1.2.2)
 else
  (B1u .i64 1 (List.length a0.Bill:Int)).bind fun n =>
  (loop (A35 a0 n) (0,false,([]:List Int))).bind fun o =>
  some (o,0)
def A6r (t:RoHouse) (v:AV):List AV:=[.i t.Weather.Lo,.i t.Weather.Hi,.i t.Stoves,(.seq 1 (List.map cI t.Holds)),(.seq 4 (List.map B6 t.Places)),(.seq 6 (List.map B2 t.Figures)),v,.xseq 2 [[.b false,(.fn (.func 112) [] [])],[.b true,(.fn (.func 113) [] [])]]]
def arB (p:Bool) (r:List Int):AO:=.arr 1 p (r.map cI)
def tlB (g:List (List Int)):List AO:=g.map (arB true)
def lB (t:RoHouse) (v:AV) (g:List AO):List AO:=.cells (A7 t) :: .cells (A7 t) :: .cells (A6r t v) :: g
section
variable {T:Tab} {s:B7} {H0 H:A4} {l:List AO} {c:Sc} {n0 N:Nat} {hc:List (Option (List Nat))} {ops:List AOper} {R:B7→A4→Prop}
theorem gU {d:Nat} {op:AOp} {t:Nat} {w:Bool} {hid:List Nat} {hida:List (Nat × List Nat)} {inc src:Nat} (hw:wanted s (some (t,w)) = some false) (hwr:writes op = true) (k:K2 T c n0 ops ((d,.tup []) :: s) H (none :: hc) R) :
  K2 T c n0 (⟨some d,op,some (t,w),hid,hida,inc,src⟩ :: ops) s H hc R:=N1 hw hwr k
theorem gV {d:Nat} {op:AOp} {t:Nat} {w:Bool} {hid:List Nat} {hida:List (Nat × List Nat)} {inc src:Nat} (hw:wanted s (some (t,w)) = some false) (hwr:writes op = false) (k:K2 T c n0 ops ((d,.tup []) :: s) H hc R) :
  K2 T c n0 (⟨some d,op,some (t,w),hid,hida,inc,src⟩ :: ops) s H hc R:=C2l hw hwr k
theorem fvc {H1 H2:A4} {v v':AV} {l l':List AV} (h:frv H v = some (v',H1)) (k:U3 H1 l = some (l',H2)):U3 H (v :: l) = some (v' :: l',H2):= by simp only [U3,h,k]
end
theorem C4f {N:Nat}:∀g:List (List Int),clH N (tlB g) = true
 | []=>rfl
 | r :: g=>by
  have ih:=C4f (N:=N) g
  unfold tlB clH at ih ⊢
  rw [List.map_cons,List.all_cons,ih,Bool.and_true]
  unfold arB
  simp only [AO.cl]
  exact A0f (fun x=>rfl) r
theorem C9p {N:Nat} (t:RoHouse) (b:List Int) (g:List (List Int)):clH N (lB t (.seq 1 (b.map cI)) (tlB g)) = true:= by
 have h:=C4f (N:=N) g
 unfold lB clH at h ⊢
 simp only [List.all_cons,h,Bool.and_true]
 simp [AO.cl,clL_free _ (I7 t),A6r,clL,AV.cl,clR,H8,cI,freeL,AV.free,I3,G4]
theorem B2n {c:Sc} {H:A4} (hscv:W3 c H = true) (hcl:clH H.length H = true) {a0:RoHouse} {r:((List Int) × Int)} (h:A2v a0 = some r) :
  E4 tab c H (.fn (.func 36) [] []) [(.agg (A7 a0))] [(.seq 1 (List.map cI r.1)),.i r.2]:= by
 unfold A2v at h
 refine cE rfl rfl<|sg 0 rfl<|A0 (F1 (cs:=A7 a0) rfl rfl rfl) rfl<|qm rfl<|qm rfl<|es (ra2 rfl rfl)<|s0<|A0 (C5 rfl rfl rfl) rfl<|M3 (as2:=[(.agg (A7 a0))]) (H1:=(H++[(.cells (A7 a0))])) rfl rfl (A2 (D8 rfl) B9) rfl rfl rfl (Q0 rfl)<|sg 1 rfl<|A0 (F1 (cs:=A7 a0) rfl rfl rfl) rfl<|qm rfl<|qm rfl<|es (ra1 rfl)<|s0<|oB h fun x1 hx1 h=>A0 (C5 rfl rfl rfl) rfl<|B8 (rs:=[.i x1.1,.i x1.2.1,.i x1.2.2]) rfl rfl (A2 (D8 rfl) B9) ((N8 hx1).frz)<|qm rfl<|A0 (A8 rfl rfl) rfl<|A0 (A8 rfl rfl) rfl<|A0 (A8 rfl rfl) rfl<|qm rfl<|qm rfl<|qm rfl<|es (ra2 rfl rfl)<|sg 2 rfl<|A0 (C5 rfl rfl rfl) rfl<|A0 (F2 (cs:=[.b false,(.fn (.func 112) [] [])]) rfl rfl) rfl<|A0 (F2 (cs:=[.b true,(.fn (.func 113) [] [])]) rfl rfl) rfl<|A0 (A3c (rows:=[[.b false,(.fn (.func 112) [] [])],[.b true,(.fn (.func 113) [] [])]]) rfl rfl) rfl<|A0 (F2 (cs:=A6r a0 (.seq 1 (List.map cI a0.Bill))) rfl rfl) rfl<|A0 (F1 (cs:=A6r a0 (.seq 1 (List.map cI a0.Bill))) rfl rfl rfl) rfl<|qm rfl<|qm rfl<|qm rfl<|es (ra2 rfl rfl)<|C2<|InlQ.mk trivial ⟨_,_,_,[(.ptr (H.length + 2) 0),.i x1.2.2],_,(A9 rfl (A9 rfl B4)),(A3 rfl (A3 rfl B3)),(R1 (L2 (Q9 rfl)) (C6 rfl (C6 rfl H6))),?_⟩
 refine qm rfl<|A0 (A8 rfl rfl) rfl<|A0 (A8 rfl rfl) rfl<|qm rfl<|qm rfl<|es (ra4 rfl rfl rfl rfl)<|C0<|s0<|qm rfl<|A0 (K4 rfl rfl) rfl<|es (ra5 rfl rfl rfl rfl rfl)<|wi h rfl (fun hc2 h=>?_) fun hc2 h=>?_
 ·refine s0<|qm rfl<|qm rfl<|qm rfl<|es (ra2 rfl rfl)<|C2 ?_
  obtain rfl:=os h
  exact retq trivial (A9 rfl (A9 rfl B4)) (A3 rfl (A3 rfl B3)) (A1 M9 (A1 A6 B1))
 refine oB h fun n hn h=>oB h fun o ho h=>?_
 refine C3<|s0<|qm rfl<|es (ra4 rfl rfl rfl rfl)<|C0<|s0<|A0 (C7 rfl) rfl<|A0 (C8 rfl rfl rfl) rfl<|A0 (E3 (f:=cI) rfl) rfl<|A0 (A98 rfl rfl hn) rfl<|qm rfl<|es (ra6 rfl rfl rfl rfl rfl rfl)<|D0 ?_
 refine A3o (C56 (γ:=List Int × List (List Int)) (live:=[1,2,4,5,21,22]) (body:=A35 a0 n) (fun x=>[(1,.ptr (H.length + 0) 0),(2,.seq 1 (x.2.2.map cI)),(4,.ptr (H.length + 2) 0),(5,.b x.2.1),(21,.i n),(22,.i x.1)]) (fun g x=>H++lB a0 (.seq 1 (g.1.map cI)) (tlB g.2))
  (fun r e s' H'=>e = .exit 0∧s' = [(2,.seq 1 (r.map cI))]∧∃ l',H' = H++l') (fun _=>rfl) (by decide) ?_ ho (a0.Bill,[])) ?_
 ·intro g x o' hb
  unfold A35 at hb
  refine s0<|A0 (J8 rfl rfl) rfl<|es (ra7 rfl rfl rfl rfl rfl rfl rfl)<|C0<|wi hb rfl (fun hc hb=>?_) fun hc hb=>?_
  ·refine oB hb fun l hl hb=>oB hb fun skip hsk hb=>?_
   refine C3<|C0<|D0<|s0<|qm rfl<|qm rfl<|es (ra7 rfl rfl rfl rfl rfl rfl rfl)<|s0<|qm rfl<|B8 (rs:=[.seq 1 (l.map cI)]) rfl rfl (A2 rfl B9) ((B7z hl).frz)<|qm rfl<|es (ra8 rfl rfl rfl rfl rfl rfl rfl rfl)<|C0<|s0<|qm rfl<|qm rfl ?_
   refine gp 19 47 (.b skip) 28 rfl rfl (fun hg1=>?_) (fun hg1=>?_) ?_
   ·unfold A43 at hsk
    rw [if_pos hg1] at hsk
    refine gT rfl hg1<|qm rfl<|gT rfl hg1<|A0 (E3 (f:=cI) rfl) rfl<|gT rfl hg1<|qm rfl<|gT rfl hg1<|A0 (E3 (f:=cI) rfl) rfl<|gT rfl hg1<|A0 (Z0 rfl rfl) rfl<|gT rfl hg1<|qm rfl ?_
    cases h2:decide ((l.length:Int) > (x.2.2.length:Int)) with
    | true =>
     rw [if_pos h2] at hsk
     cases hsk
     exact nF rfl rfl rfl<|nF rfl rfl rfl<|nF rfl rfl rfl<|nF rfl rfl rfl<|nF rfl rfl rfl<|nF rfl rfl rfl<|gV rfl rfl<|gV rfl rfl<|gU rfl rfl<|gV rfl rfl<|nF rfl rfl rfl<|gT rfl hg1<|A0 (D3 rfl rfl rfl) rfl<|A0 (D3 rfl hg1 rfl) rfl<|ge 19 rfl rfl rfl
    | false =>
     rw [if_neg (by rw [h2]; decide)] at hsk
     refine gF rfl rfl<|qm rfl<|gF rfl rfl<|A0 (E3 (f:=cI) rfl) rfl<|gF rfl rfl<|qm rfl<|gF rfl rfl<|A0 (E3 (f:=cI) rfl) rfl<|gF rfl rfl<|A0 (I0 rfl rfl) rfl<|gF rfl rfl<|qm rfl ?_
     cases h3:((l.length:Int) == (x.2.2.length:Int)) with
     | true =>
      rw [if_pos h3] at hsk
      refine oB hsk fun z hz hsk=>?_
      cases hsk
      exact gT rfl rfl<|qm rfl<|gT rfl rfl<|qm rfl<|gT rfl rfl<|B8 (rs:=[.i z]) rfl rfl (A2 rfl (A2 rfl B9)) ((A4i hz).frz)<|gT rfl rfl<|A0 (Z0 rfl rfl) rfl<|gF rfl rfl<|A0 (D3 rfl rfl rfl) rfl<|gT rfl hg1<|A0 (D4 rfl rfl rfl) rfl<|A0 (D3 rfl hg1 rfl) rfl<|ge 19 rfl rfl rfl
     | false =>
      rw [if_neg (by rw [h3]; decide)] at hsk
      cases hsk
      exact nT rfl rfl rfl<|nT rfl rfl rfl<|gN rfl rfl rfl<|nT rfl rfl rfl<|gF rfl rfl<|A0 (D4 rfl rfl rfl) rfl<|gT rfl hg1<|A0 (D4 rfl rfl rfl) rfl<|A0 (D3 rfl hg1 rfl) rfl<|ge 19 rfl rfl rfl
   ·unfold A43 at hsk
    rw [if_neg (by rw [hg1]; decide)] at hsk
    cases hsk
    exact nT rfl hg1 rfl<|nT rfl hg1 rfl<|nT rfl hg1 rfl<|nT rfl hg1 rfl<|nT rfl hg1 rfl<|nT rfl hg1 rfl<|gV rfl rfl<|gV rfl rfl<|gV rfl rfl<|gV rfl rfl<|gV rfl rfl<|gV rfl rfl<|gV rfl rfl<|gV rfl rfl<|gU rfl rfl<|gV rfl rfl<|gV rfl rfl<|nT rfl hg1 rfl<|A0 (D4 rfl hg1 rfl) rfl<|ge 19 rfl rfl rfl
   refine es (ra9 rfl rfl rfl rfl rfl rfl rfl rfl rfl)<|wi hb rfl (fun hc2 hb=>?_) fun hc2 hb=>?_
   ·refine G9<|r0<|A0 (F3 rfl rfl) rfl<|qm rfl<|en (ra6 rfl rfl rfl rfl rfl rfl) ?_
    cases hb
    exact ⟨rfl,su6 rfl rfl rfl rfl rfl rfl,g,rfl⟩
   refine oB hb fun b hb2 hb=>oB hb fun k hk hb=>?_
   refine C3<|sg ((tlB g.2).length + 3) rfl<|qm rfl<|A0 (O2 rfl rfl) rfl<|A0 (C7 rfl) rfl<|A0 (C7 rfl) rfl<|E5 (C5g (cs:=A6r a0 (.seq 1 (g.1.map cI))) (ds:=A6r a0 (.asl (H.length + ((tlB g.2).length + 3 + 0)) 0)) rfl rfl rfl (A4p (Nat.le_add_right _ _)) rfl) rfl<|es (ra8 rfl rfl rfl rfl rfl rfl rfl rfl) ?_
   have e1:((lB a0 (.seq 1 (g.1.map cI)) (tlB g.2)++List.replicate 1 AO.dead).set ((tlB g.2).length + 3 + 0) (.arr 1 false [])).set 2 (.cells (A6r a0 (.asl (H.length + ((tlB g.2).length + 3 + 0)) 0))) = lB a0 (.asl (H.length + ((tlB g.2).length + 3)) 0) (tlB g.2++[arB false []]):= by
    show (AO.cells _ :: AO.cells _ :: AO.cells _ :: ((tlB g.2++[AO.dead]).set (tlB g.2).length (.arr 1 false []))) = _
    rw [B83 _ _ _ rfl]; rfl
   rw [e1]
   have hlN:∀v q,(lB a0 v (tlB g.2++[q])).length = (tlB g.2).length + 4:=fun v q=>by simp [lB]
   have hget:∀v q,(lB a0 v (tlB g.2++[q]))[(tlB g.2).length + 3]? = some q:=fun v q=>C4x (tlB g.2) q rfl
   have hset:∀v q q',(lB a0 v (tlB g.2++[q])).set ((tlB g.2).length + 3) q' = lB a0 v (tlB g.2++[q']):=fun v q q'=>by
    show (AO.cells _ :: AO.cells _ :: AO.cells _ :: ((tlB g.2++[q]).set (tlB g.2).length q')) = _
    rw [B83 _ _ _ rfl]; rfl
   refine C0<|s0<|A0 (C7 rfl) rfl<|A0 (C8 rfl rfl rfl) rfl<|A0 (E3 (f:=cI) rfl) rfl<|qm rfl<|es (ra11 rfl rfl rfl rfl rfl rfl rfl rfl rfl rfl rfl)<|D0<|wl (fun y=>[(1,.ptr (H.length + 0) 0),(2,.seq 1 (x.2.2.map cI)),(4,.ptr (H.length + 2) 0),(5,.b x.2.1),(6,.i x.1),(7,.seq 1 (l.map cI)),(21,.i n),(22,.i x.1),(53,.seq 1 (a0.Bill.map cI)),(54,.i (List.length a0.Bill:Int)),(55,.i y.1)]) (fun (q2:Unit) y=>lB a0 (.asl (H.length + ((tlB g.2).length + 3)) y.2.length) (tlB g.2++[arB false y.2])) ((tlB g.2).length + 4) (fun r e s' H'=>PX 2 [(1,.ptr (H.length + 0) 0),(2,.seq 1 (x.2.2.map cI)),(4,.ptr (H.length + 2) 0),(5,.b x.2.1),(7,.seq 1 (l.map cI)),(21,.i n),(22,.i x.1)] (H++lB a0 (.asl (H.length + ((tlB g.2).length + 3)) r.length) (tlB g.2++[arB false r])) e s' H') () hb2 rfl rfl (fun _ _=>hlN _ _) (fun _=>rfl) rfl (fun y=>(bdc (F0 rfl) (bdc M9 (bdc (F0 rfl) (bdc A6 (bdc A6 (bdc M9 (bdc A6 (bdc A6 (bdc M9 (bdc A6 (bdc A6 bdn)))))))))))) (fun q2 y o' hy=>?_) ?_
   ·unfold A7d at hy
    refine s0<|A0 (J8 rfl rfl) rfl<|es (ra12 rfl rfl rfl rfl rfl rfl rfl rfl rfl rfl rfl rfl)<|C0<|wi hy rfl (fun hc3 hy=>?_) fun hc3 hy=>?_
    ·refine oB hy fun z hz hy=>oB hy fun q hq hy=>?_
     refine C3<|C0<|D0<|s0<|qm rfl<|A0 (J6 (f:=cI) rfl rfl hz) rfl<|A0 (L8 rfl rfl) rfl<|qm rfl<|qm rfl<|es (ra13 rfl rfl rfl rfl rfl rfl rfl rfl rfl rfl rfl rfl rfl)<|s0<|qm rfl<|qm rfl<|A0 (A6n rfl rfl hq) rfl<|A0 (F5 (v:=(.i (B0z q 1))) rfl rfl rfl) rfl<|A0 (I0 rfl rfl) rfl<|es (ra13 rfl rfl rfl rfl rfl rfl rfl rfl rfl rfl rfl rfl rfl)<|wi hy rfl (fun hc4 hy=>?_) fun hc4 hy=>?_
     ·refine oB hy fun w hw hy=>?_
      refine r0<|qm rfl<|qm rfl<|A0 (O2 rfl rfl) rfl<|A0 (C7 rfl) rfl<|A0 (C7 rfl) rfl<|A0 (C8 rfl rfl rfl) rfl<|qm rfl<|A0 (K7 (rows:=[[.i z]]) rfl rfl rfl) rfl<|B1l (B33 (f:=cI) (d:=y.2) (m:=[z]) rfl rfl (hget _ _) rfl B4p (fun _=>rfl) hw) rfl<|A0 (O2 rfl rfl) rfl<|A0 (C7 rfl) rfl<|A0 (C7 rfl) rfl ?_
      rw [hset]
      refine E5 (C4 (ds:=A6r a0 (.asl (H.length + ((tlB g.2).length + 3)) w.length)) rfl rfl rfl rfl (C65 ?_ ?_) rfl) rfl<|en (ra11 rfl rfl rfl rfl rfl rfl rfl rfl rfl rfl rfl)<|r0<|A0 (F3 rfl rfl) rfl<|qm rfl<|en (ra11 rfl rfl rfl rfl rfl rfl rfl rfl rfl rfl rfl) ?_
      ·simp only [AV.bd]; exact Nat.ble_eq_true_of_le (by omega)
      ·exact D0d (Nat.le_add_right _ _) (C8e hscv)
      cases hy
      exact lnT () (List.take_of_length_le (Nat.le_of_eq (hlN _ _))) (su11 rfl rfl rfl rfl rfl rfl rfl rfl rfl rfl rfl)
     ·refine C3<|r0<|A0 (F3 rfl rfl) rfl<|qm rfl<|en (ra11 rfl rfl rfl rfl rfl rfl rfl rfl rfl rfl rfl) ?_
      cases hy
      exact lnT () (List.take_of_length_le (Nat.le_of_eq (hlN _ _))) (su11 rfl rfl rfl rfl rfl rfl rfl rfl rfl rfl rfl)
    ·refine G9 ?_
     obtain rfl:=os hy
     exact lx rfl px (su7 rfl rfl rfl rfl rfl rfl rfl)
   rintro e s' H' - ⟨rfl,rfl,rfl⟩
   have hfz:U3 (H++lB a0 (.asl (H.length + ((tlB g.2).length + 3)) b.length) (tlB g.2++[arB false b])) (A6r a0 (.asl (H.length + ((tlB g.2).length + 3)) b.length)) = some (A6r a0 (.seq 1 (b.map cI)),H++lB a0 (.asl (H.length + ((tlB g.2).length + 3)) b.length) (tlB g.2++[arB true b])):= by
    have h1:frv (H++lB a0 (.asl (H.length + ((tlB g.2).length + 3)) b.length) (tlB g.2++[arB false b])) (.asl (H.length + ((tlB g.2).length + 3)) b.length) = some (.seq 1 (b.map cI),H++lB a0 (.asl (H.length + ((tlB g.2).length + 3)) b.length) (tlB g.2++[arB true b])):= by
     have:=B3h (H0:=H) (l:=lB a0 (.asl (H.length + ((tlB g.2).length + 3)) b.length) (tlB g.2++[arB false b])) (hget _ (arB false b)) (List.length_map (cI))
     rw [hset] at this
     exact this
    exact fvc rfl<|fvc rfl<|fvc rfl<|fvc rfl<|fvc rfl<|fvc rfl<|fvc h1<|fvc rfl rfl
   have e2:(lB a0 (.asl (H.length + ((tlB g.2).length + 3)) b.length) (tlB g.2++[arB true b])).set 2 (.cells (A6r a0 (.seq 1 (b.map cI)))) = lB a0 (.seq 1 (b.map cI)) (tlB (g.2++[b])):= by
    show (AO.cells _ :: AO.cells _ :: AO.cells _ :: (tlB g.2++[arB true b])) = _
    unfold lB tlB
    rw [List.map_append]; rfl
   refine C0<|D0p (C7d rfl rfl hfz rfl) ?_
   rw [e2]
   have hcan:E4 tab ⟨H.length,c.cur :: c.outer⟩ (H++lB a0 (.seq 1 (b.map cI)) (tlB (g.2++[b]))) (.fn (.func 97) [] []) [.ptr (H.length + 2) 0] [.b k]:=B0e (a0:=⟨B91 a0 b⟩) (b0:=H.length + 2) (B2t hscv) (C6a hcl (C9p a0 b _)) (D6 (l:=lB a0 (.seq 1 (b.map cI)) (tlB (g.2++[b]))) rfl) hk
   refine r0<|qm rfl<|B8 (rs:=[.b k]) rfl rfl (A2 rfl B9) (hcan.frz)<|es (ra8 rfl rfl rfl rfl rfl rfl rfl rfl) ?_
   cases k with
   | true =>
    refine J0 rfl rfl<|r0<|qm rfl<|qm rfl<|qm rfl<|en (ra6 rfl rfl rfl rfl rfl rfl)<|r0<|A0 (F3 rfl rfl) rfl<|qm rfl<|en (ra6 rfl rfl rfl rfl rfl rfl) ?_
    cases hb
    exact ⟨rfl,su6 rfl rfl rfl rfl rfl rfl,(b,g.2++[b]),rfl⟩
   | false =>
    refine Y9 rfl rfl<|C3<|r0<|A0 (F3 rfl rfl) rfl<|qm rfl<|en (ra6 rfl rfl rfl rfl rfl rfl) ?_
    cases hb
    exact ⟨rfl,su6 rfl rfl rfl rfl rfl rfl,(b,g.2++[b]),rfl⟩
  ·refine G9 ?_
   cases hb
   exact ⟨rfl,_,su1 rfl,rfl,rfl,_,rfl⟩
 ·intro e s' H' q
  obtain ⟨_,rfl,rfl,l',rfl⟩:=q
  cases h
  refine s0<|qm rfl<|qm rfl<|qm rfl<|es (ra2 rfl rfl)<|C2 ?_
  exact retq trivial (A9 rfl (A9 rfl B4)) (A3 rfl (A3 rfl B3)) (A1 M9 (A1 A6 B1))
theorem A68 {c:Sc} {H:A4} (hscv:W3 c H = true) {a0:RoHouse} {r:((List Int) × Int)} (h:A2v a0 = some r) :
  E4 tab c H (.fn (.func 36) [] []) [(.agg (A7 a0))] [(.seq 1 (List.map cI r.1)),.i r.2]:=A6t A7s (B2n (c:=⟨0,[]⟩) (H:=[]) rfl rfl h) (by simp [freeL,AV.free,I7]) (by simp [freeL,AV.free,H8,cI]) hscv
end Rm
end
section
set_option maxRecDepth 100000
set_option maxHeartbeats 0
namespace Rm
open Go Am Go.Proofs.YtbheamjhjgoccaaDoor.Cd
def A2q :Option Bool :=
 (Z2 [3]).bind fun x1 =>
 (Z2 ([]:List Int)).bind fun x2 =>
 (A0c x1 1 1).bind fun x3 =>
 (A1l x1 0 1 1).bind fun x4 =>
 (A1l x1 2 1 1).bind fun x5 =>
 (A5o x1).bind fun x6 =>
 (Z3 1 [1,(-1),2]).bind fun x7 =>
 (A6d x1 x7).bind fun x8 =>
 (Z3 1 [1,0,2]).bind fun x9 =>
 (A9b x1 x9).bind fun x10 =>
 (Z2 [1,3]).bind fun x11 =>
 (A2v x11).bind fun x12 =>
 (A36 x1).bind fun x13 =>
 (A36 x2).bind fun x14 =>
 (A6c x1 0).bind fun x15 =>
 (A4t x1 x6.1).bind fun x16 =>
 (if (((((((((((x3.2 == 0) && (x4.2 == 0)) && (x5.2 == 0)) && (x6.2.2 == 0)) && (x8.2 == 9)) && (x10.2 == 0)) && (x12.2 == 0)) && (x13.2 == 0)) && (x14.2 == 0)) && (x15.2 == 0)) && (x16.2.2 == 0)) = true then
  (S0 45 70).bind fun x28 =>
  some ((x3.1.Lo == x28.Lo) && ((x3.1.Hi == x28.Hi) && true))
 else
  some false).bind fun x29 =>
 (if ((x29 && (x4.1 == 1)) && (x5.1 == 0)) = true then
  (Z3 1 [(-1),0,2]).bind fun x33 =>
  (A6a x6.1 x33).bind fun x34 =>
  some x34
 else
  some false).bind fun x35 =>
 (if (x35 && (x6.2.1 == 12)) = true then
  (A2e x10.1 [350,320]).bind fun x38 =>
  some x38
 else
  some false).bind fun x39 =>
 (if x39 = true then
  (A2e x12.1 [0]).bind fun x41 =>
  some x41
 else
  some false).bind fun x42 =>
 (if x42 = true then
  (A2e x13.1 [0]).bind fun x44 =>
  some x44
 else
  some false).bind fun x45 =>
 some ((((x45 && ((List.length x14.1:Int) == 0)) && (x15.1 == 1)) && (x16.1 == 1)) && (x16.2.1 == 0))
theorem A66 {c:Sc} {H:A4} (hscv:W3 c H = true)  {r:Bool} (h:A2q  = some r) :
  E4 tab c H (.fn (.func 23) [] []) [] [.b r]:= by
 unfold A2q at h
 refine cE rfl rfl<|s0<|qm rfl<|es .n<|sg 0 rfl<|oB h fun x1 hx1 h=>oB h fun x2 hx2 h=>A0 (K7 (rows:=List.map cI [3]) rfl rfl (E8 (fun _=>rfl) _)) rfl<|B8 (rs:=[(.agg (A7 x1))]) rfl rfl (A2 rfl B9) ((Z4 hx1).frz)<|B8 (rs:=[(.agg (A7 x2))]) rfl rfl (A2 rfl B9) ((Z4 hx2).frz)<|A0 D5 rfl<|A0 D5 rfl<|E5 (C4 (ds:=(A7 x1)) rfl rfl rfl rfl (B5 rfl) rfl) rfl<|E5 (C4 (ds:=(A7 x2)) rfl rfl rfl rfl (B5 rfl) rfl) rfl<|es (ra2 rfl rfl)<|sg 2 rfl<|oB h fun x3 hx3 h=>A0 (C5 rfl rfl rfl) rfl<|B8 (rs:=[(.agg (D2 x3.1)),.i x3.2]) rfl rfl (A2 (D8 rfl) (A2 rfl (A2 rfl B9))) ((A3z hx3).frz)<|qm rfl<|A0 (A8 rfl rfl) rfl<|A0 (A8 rfl rfl) rfl<|A0 D5 rfl<|E5 (C4 (ds:=(D2 x3.1)) rfl rfl rfl rfl (B5 rfl) rfl) rfl<|qm rfl<|es (ra4 rfl rfl rfl rfl)<|s0<|oB h fun x4 hx4 h=>A0 (C5 rfl rfl rfl) rfl<|B8 (rs:=[.i x4.1,.i x4.2]) rfl rfl (A2 (D8 rfl) (A2 rfl (A2 rfl (A2 rfl B9)))) ((A3d hx4).frz)<|qm rfl<|A0 (A8 rfl rfl) rfl<|A0 (A8 rfl rfl) rfl<|qm rfl<|qm rfl<|es (ra6 rfl rfl rfl rfl rfl rfl)<|s0<|oB h fun x5 hx5 h=>A0 (C5 rfl rfl rfl) rfl<|B8 (rs:=[.i x5.1,.i x5.2]) rfl rfl (A2 (D8 rfl) (A2 rfl (A2 rfl (A2 rfl B9)))) ((A3d hx5).frz)<|qm rfl<|A0 (A8 rfl rfl) rfl<|A0 (A8 rfl rfl) rfl<|qm rfl<|qm rfl<|es (ra8 rfl rfl rfl rfl rfl rfl rfl rfl)<|sg 3 rfl<|oB h fun x6 hx6 h=>A0 (C5 rfl rfl rfl) rfl<|B8 (rs:=[(.agg (C1 x6.1)),.i x6.2.1,.i x6.2.2]) rfl rfl (A2 (D8 rfl) B9) (B0a (B2t hscv) hx6)<|qm rfl<|A0 (A8 rfl rfl) rfl<|A0 (A8 rfl rfl) rfl<|A0 (A8 rfl rfl) rfl<|A0 D5 rfl<|E5 (C4 (ds:=(C1 x6.1)) rfl rfl rfl rfl (B5 rfl) rfl) rfl<|qm rfl<|qm rfl<|es (ra11 rfl rfl rfl rfl rfl rfl rfl rfl rfl rfl rfl)<|s0<|oB h fun x7 hx7 h=>?_
 refine oB h fun x8 hx8 h=>A0 (C5 rfl rfl rfl) rfl<|A0 (K7 (rows:=List.map cI [1,(-1),2]) rfl rfl (E8 (fun _=>rfl) _)) rfl<|A1x (rs:=[(.agg (C1 x7))]) rfl rfl (O3 rfl (O3 rfl A31)) (A2 rfl (A2 rfl B9)) ((Y1 hx7).frz)<|B8 (rs:=[.i x8.1,.i x8.2]) rfl rfl (A2 (D8 rfl) (A2 (D8 rfl) B9)) ((A8k hx8).frz)<|qm rfl<|A0 (A8 rfl rfl) rfl<|A0 (A8 rfl rfl) rfl<|qm rfl<|qm rfl<|es (ra12 rfl rfl rfl rfl rfl rfl rfl rfl rfl rfl rfl rfl)<|s0<|oB h fun x9 hx9 h=>oB h fun x10 hx10 h=>A0 (C5 rfl rfl rfl) rfl<|A0 (K7 (rows:=List.map cI [1,0,2]) rfl rfl (E8 (fun _=>rfl) _)) rfl<|A1x (rs:=[(.agg (C1 x9))]) rfl rfl (O3 rfl (O3 rfl A31)) (A2 rfl (A2 rfl B9)) ((Y1 hx9).frz)<|B8 (rs:=[(.seq 1 (List.map cI x10.1)),.i x10.2]) rfl rfl (A2 (D8 rfl) (A2 (D8 rfl) B9)) ((B5k hx10).frz)<|qm rfl<|A0 (A8 rfl rfl) rfl<|A0 (A8 rfl rfl) rfl<|qm rfl<|qm rfl<|es (ra14 rfl rfl rfl rfl rfl rfl rfl rfl rfl rfl rfl rfl rfl rfl)<|s0<|oB h fun x11 hx11 h=>oB h fun x12 hx12 h=>A0 (K7 (rows:=List.map cI [1,3]) rfl rfl (E8 (fun _=>rfl) _)) rfl<|B8 (rs:=[(.agg (A7 x11))]) rfl rfl (A2 rfl B9) ((Z4 hx11).frz)<|B8 (rs:=[(.seq 1 (List.map cI x12.1)),.i x12.2]) rfl rfl (A2 (D8 rfl) B9) ((A68 (B2t hscv) hx12).frz)<|qm rfl<|A0 (A8 rfl rfl) rfl<|A0 (A8 rfl rfl) rfl<|qm rfl<|qm rfl<|es (.k rfl (.k rfl (.k rfl (.k rfl (.k rfl (.k rfl (.k rfl (.k rfl (.k rfl (.k rfl (.k rfl (.k rfl (.k rfl (.k rfl (.k rfl (.k rfl .n))))))))))))))))<|s0<|oB h fun x13 hx13 h=>A0 (C5 rfl rfl rfl) rfl<|B8 (rs:=[(.seq 1 (List.map cI x13.1)),.i x13.2]) rfl rfl (A2 (D8 rfl) B9) ((A8j (B2t hscv) hx13).frz)<|qm rfl<|A0 (A8 rfl rfl) rfl<|A0 (A8 rfl rfl) rfl<|qm rfl<|qm rfl<|es (.k rfl (.k rfl (.k rfl (.k rfl (.k rfl (.k rfl (.k rfl (.k rfl (.k rfl (.k rfl (.k rfl (.k rfl (.k rfl (.k rfl (.k rfl (.k rfl (.k rfl (.k rfl .n))))))))))))))))))<|s0<|oB h fun x14 hx14 h=>A0 (C5 rfl rfl rfl) rfl<|B8 (rs:=[(.seq 1 (List.map cI x14.1)),.i x14.2]) rfl rfl (A2 (D8 rfl) B9) ((A8j (B2t hscv) hx14).frz)<|qm rfl<|A0 (A8 rfl rfl) rfl<|A0 (A8 rfl rfl) rfl<|qm rfl<|qm rfl<|es (.k rfl (.k rfl (.k rfl (.k rfl (.k rfl (.k rfl (.k rfl (.k rfl (.k rfl (.k rfl (.k rfl (.k rfl (.k rfl (.k rfl (.k rfl (.k rfl (.k rfl (.k rfl (.k rfl .n)))))))))))))))))))<|s0<|oB h fun x15 hx15 h=>A0 (C5 rfl rfl rfl) rfl<|B8 (rs:=[.i x15.1,.i x15.2]) rfl rfl (A2 (D8 rfl) (A2 rfl B9)) ((A8i hx15).frz)<|qm rfl ?_
 refine A0 (A8 rfl rfl) rfl<|A0 (A8 rfl rfl) rfl<|qm rfl<|qm rfl<|es (.k rfl (.k rfl (.k rfl (.k rfl (.k rfl (.k rfl (.k rfl (.k rfl (.k rfl (.k rfl (.k rfl (.k rfl (.k rfl (.k rfl (.k rfl (.k rfl (.k rfl (.k rfl (.k rfl (.k rfl (.k rfl .n)))))))))))))))))))))<|s0<|oB h fun x16 hx16 h=>A0 (C5 rfl rfl rfl) rfl<|A0 (C5 rfl rfl rfl) rfl<|B8 (rs:=[.i x16.1,.i x16.2.1,.i x16.2.2]) rfl rfl (A2 (D8 rfl) (A2 (D8 rfl) B9)) ((A69 hx16).frz)<|qm rfl<|A0 (A8 rfl rfl) rfl<|A0 (A8 rfl rfl) rfl<|A0 (A8 rfl rfl) rfl<|qm rfl<|qm rfl<|qm rfl<|es (.k rfl (.k rfl (.k rfl (.k rfl (.k rfl (.k rfl (.k rfl (.k rfl (.k rfl (.k rfl (.k rfl (.k rfl (.k rfl (.k rfl (.k rfl (.k rfl (.k rfl (.k rfl (.k rfl (.k rfl (.k rfl (.k rfl (.k rfl .n)))))))))))))))))))))))<|s0<|oB h fun x29 hx29 h=>oB h fun x35 hx35 h=>oB h fun x39 hx39 h=>oB h fun x42 hx42 h=>oB h fun x45 hx45 h=>qm rfl<|A0 (I0 rfl rfl) rfl<|qm rfl<|gp 3 98 (.b ((x3.2 == 0) && (x4.2 == 0))) 95 rfl rfl (fun hg17=>?_) (fun hg17=>?_) ?_
 ·exact gT rfl hg17<|qm rfl<|gT rfl hg17<|A0 (I0 rfl rfl) rfl<|A0 (D3 rfl hg17 rfl) rfl<|ge 3 (by rw [hg17]; rfl) rfl rfl
 ·exact nT rfl hg17 rfl<|nT rfl hg17 rfl<|A0 (D4 rfl hg17 rfl) rfl<|ge 3 (by rw [hg17]; rfl) rfl rfl
 refine qm rfl<|gp 3 102 (.b (((x3.2 == 0) && (x4.2 == 0)) && (x5.2 == 0))) 99 rfl rfl (fun hg18=>?_) (fun hg18=>?_) ?_
 ·exact gT rfl hg18<|qm rfl<|gT rfl hg18<|A0 (I0 rfl rfl) rfl<|A0 (D3 rfl hg18 rfl) rfl<|ge 3 (by rw [hg18]; rfl) rfl rfl
 ·exact nT rfl hg18 rfl<|nT rfl hg18 rfl<|A0 (D4 rfl hg18 rfl) rfl<|ge 3 (by rw [hg18]; rfl) rfl rfl
 refine qm rfl<|gp 3 106 (.b ((((x3.2 == 0) && (x4.2 == 0)) && (x5.2 == 0)) && (x6.2.2 == 0))) 103 rfl rfl (fun hg19=>?_) (fun hg19=>?_) ?_
 ·exact gT rfl hg19<|qm rfl<|gT rfl hg19<|A0 (I0 rfl rfl) rfl<|A0 (D3 rfl hg19 rfl) rfl<|ge 3 (by rw [hg19]; rfl) rfl rfl
 ·exact nT rfl hg19 rfl<|nT rfl hg19 rfl<|A0 (D4 rfl hg19 rfl) rfl<|ge 3 (by rw [hg19]; rfl) rfl rfl
 refine qm rfl<|gp 3 110 (.b (((((x3.2 == 0) && (x4.2 == 0)) && (x5.2 == 0)) && (x6.2.2 == 0)) && (x8.2 == 9))) 107 rfl rfl (fun hg20=>?_) (fun hg20=>?_) ?_
 ·exact gT rfl hg20<|qm rfl<|gT rfl hg20<|A0 (I0 rfl rfl) rfl<|A0 (D3 rfl hg20 rfl) rfl<|ge 3 (by rw [hg20]; rfl) rfl rfl
 ·exact nT rfl hg20 rfl<|nT rfl hg20 rfl<|A0 (D4 rfl hg20 rfl) rfl<|ge 3 (by rw [hg20]; rfl) rfl rfl
 refine qm rfl<|gp 3 114 (.b ((((((x3.2 == 0) && (x4.2 == 0)) && (x5.2 == 0)) && (x6.2.2 == 0)) && (x8.2 == 9)) && (x10.2 == 0))) 111 rfl rfl (fun hg21=>?_) (fun hg21=>?_) ?_
 ·exact gT rfl hg21<|qm rfl<|gT rfl hg21<|A0 (I0 rfl rfl) rfl<|A0 (D3 rfl hg21 rfl) rfl<|ge 3 (by rw [hg21]; rfl) rfl rfl
 ·exact nT rfl hg21 rfl<|nT rfl hg21 rfl<|A0 (D4 rfl hg21 rfl) rfl<|ge 3 (by rw [hg21]; rfl) rfl rfl
 refine qm rfl<|gp 3 118 (.b (((((((x3.2 == 0) && (x4.2 == 0)) && (x5.2 == 0)) && (x6.2.2 == 0)) && (x8.2 == 9)) && (x10.2 == 0)) && (x12.2 == 0))) 115 rfl rfl (fun hg22=>?_) (fun hg22=>?_) ?_
 ·exact gT rfl hg22<|qm rfl<|gT rfl hg22<|A0 (I0 rfl rfl) rfl<|A0 (D3 rfl hg22 rfl) rfl<|ge 3 (by rw [hg22]; rfl) rfl rfl
 ·exact nT rfl hg22 rfl<|nT rfl hg22 rfl<|A0 (D4 rfl hg22 rfl) rfl<|ge 3 (by rw [hg22]; rfl) rfl rfl
 refine qm rfl<|gp 3 122 (.b ((((((((x3.2 == 0) && (x4.2 == 0)) && (x5.2 == 0)) && (x6.2.2 == 0)) && (x8.2 == 9)) && (x10.2 == 0)) && (x12.2 == 0)) && (x13.2 == 0))) 119 rfl rfl (fun hg23=>?_) (fun hg23=>?_) ?_
 ·exact gT rfl hg23<|qm rfl<|gT rfl hg23<|A0 (I0 rfl rfl) rfl<|A0 (D3 rfl hg23 rfl) rfl<|ge 3 (by rw [hg23]; rfl) rfl rfl
 ·exact nT rfl hg23 rfl<|nT rfl hg23 rfl<|A0 (D4 rfl hg23 rfl) rfl<|ge 3 (by rw [hg23]; rfl) rfl rfl
 refine qm rfl<|gp 3 126 (.b (((((((((x3.2 == 0) && (x4.2 == 0)) && (x5.2 == 0)) && (x6.2.2 == 0)) && (x8.2 == 9)) && (x10.2 == 0)) && (x12.2 == 0)) && (x13.2 == 0)) && (x14.2 == 0))) 123 rfl rfl (fun hg24=>?_) (fun hg24=>?_) ?_
 ·exact gT rfl hg24<|qm rfl<|gT rfl hg24<|A0 (I0 rfl rfl) rfl<|A0 (D3 rfl hg24 rfl) rfl<|ge 3 (by rw [hg24]; rfl) rfl rfl
 ·exact nT rfl hg24 rfl<|nT rfl hg24 rfl<|A0 (D4 rfl hg24 rfl) rfl<|ge 3 (by rw [hg24]; rfl) rfl rfl
 refine qm rfl<|gp 3 130 (.b ((((((((((x3.2 == 0) && (x4.2 == 0)) && (x5.2 == 0)) && (x6.2.2 == 0)) && (x8.2 == 9)) && (x10.2 == 0)) && (x12.2 == 0)) && (x13.2 == 0)) && (x14.2 == 0)) && (x15.2 == 0))) 127 rfl rfl (fun hg25=>?_) (fun hg25=>?_) ?_
 ·exact gT rfl hg25<|qm rfl<|gT rfl hg25<|A0 (I0 rfl rfl) rfl<|A0 (D3 rfl hg25 rfl) rfl<|ge 3 (by rw [hg25]; rfl) rfl rfl
 ·exact nT rfl hg25 rfl<|nT rfl hg25 rfl<|A0 (D4 rfl hg25 rfl) rfl<|ge 3 (by rw [hg25]; rfl) rfl rfl
 refine qm rfl<|gp 3 134 (.b (((((((((((x3.2 == 0) && (x4.2 == 0)) && (x5.2 == 0)) && (x6.2.2 == 0)) && (x8.2 == 9)) && (x10.2 == 0)) && (x12.2 == 0)) && (x13.2 == 0)) && (x14.2 == 0)) && (x15.2 == 0)) && (x16.2.2 == 0))) 131 rfl rfl (fun hg26=>?_) (fun hg26=>?_) ?_
 ·exact gT rfl hg26<|qm rfl<|gT rfl hg26<|A0 (I0 rfl rfl) rfl<|A0 (D3 rfl hg26 rfl) rfl<|ge 3 (by rw [hg26]; rfl) rfl rfl
 ·exact nT rfl hg26 rfl<|nT rfl hg26 rfl<|A0 (D4 rfl hg26 rfl) rfl<|ge 3 (by rw [hg26]; rfl) rfl rfl
 refine qm rfl<|gp 4 139 (.b x29) 135 rfl rfl (fun hg27=>?_) (fun hg27=>?_) ?_
 ·refine oB (bt hx29 hg27) fun x28 hx28 hx29=>?_
  obtain rfl:=os hx29
  exact gT rfl hg27<|A0 (C5 rfl rfl rfl) rfl<|gT rfl hg27<|A1x (rs:=[(.agg (D2 x28))]) rfl rfl (O3 rfl (O3 rfl A31)) (A2 rfl (A2 rfl B9)) ((P4 hx28).frz)<|gT rfl hg27<|A0 (B7u (a:=D2 x3.1) (b:=D2 x28) rfl rfl rfl rfl (Y6 (Y6 A9s))) rfl<|A0 (D3 rfl hg27 rfl) rfl<|ge 4 rfl rfl rfl
 ·obtain rfl:=os (bf hx29 hg27)
  exact nT rfl hg27 rfl<|nT rfl hg27 rfl<|nT rfl hg27 rfl<|A0 (D4 rfl hg27 rfl) rfl<|ge 4 rfl rfl rfl
 refine qm rfl<|gp 3 143 (.b (x29 && (x4.1 == 1))) 140 rfl rfl (fun hg30=>?_) (fun hg30=>?_) ?_
 ·exact gT rfl hg30<|qm rfl<|gT rfl hg30<|A0 (I0 rfl rfl) rfl<|A0 (D3 rfl hg30 rfl) rfl<|ge 3 (by rw [hg30]; rfl) rfl rfl
 ·exact nT rfl hg30 rfl<|nT rfl hg30 rfl<|A0 (D4 rfl hg30 rfl) rfl<|ge 3 (by rw [hg30]; rfl) rfl rfl
 refine qm rfl<|gp 3 147 (.b ((x29 && (x4.1 == 1)) && (x5.1 == 0))) 144 rfl rfl (fun hg31=>?_) (fun hg31=>?_) ?_
 ·exact gT rfl hg31<|qm rfl<|gT rfl hg31<|A0 (I0 rfl rfl) rfl<|A0 (D3 rfl hg31 rfl) rfl<|ge 3 (by rw [hg31]; rfl) rfl rfl
 ·exact nT rfl hg31 rfl<|nT rfl hg31 rfl<|A0 (D4 rfl hg31 rfl) rfl<|ge 3 (by rw [hg31]; rfl) rfl rfl
 refine qm rfl<|gp 5 153 (.b x35) 148 rfl rfl (fun hg32=>?_) (fun hg32=>?_) ?_
 ·refine oB (bt hx35 hg32) fun x33 hx33 hx35=>oB hx35 fun x34 hx34 hx35=>?_
  obtain rfl:=os hx35
  exact gT rfl hg32<|A0 (C5 rfl rfl rfl) rfl<|gT rfl hg32<|A0 (K7 (rows:=List.map cI [(-1),0,2]) rfl rfl (E8 (fun _=>rfl) _)) rfl<|gT rfl hg32<|A1x (rs:=[(.agg (C1 x33))]) rfl rfl (O3 rfl (O3 rfl A31)) (A2 rfl (A2 rfl B9)) ((Y1 hx33).frz)<|gT rfl hg32<|B8 (rs:=[.b x34]) rfl rfl (A2 (D8 rfl) (A2 (D8 rfl) B9)) ((A8f hx34).frz)<|A0 (D3 rfl hg32 rfl) rfl<|ge 5 rfl rfl rfl
 ·obtain rfl:=os (bf hx35 hg32)
  exact nT rfl hg32 rfl<|nT rfl hg32 rfl<|nT rfl hg32 rfl<|N1 (G2 rfl (by rw [hg32]; rfl)) rfl<|A0 (D4 rfl hg32 rfl) rfl<|ge 5 rfl rfl rfl
 refine qm rfl<|gp 3 157 (.b (x35 && (x6.2.1 == 12))) 154 rfl rfl (fun hg36=>?_) (fun hg36=>?_) ?_
 ·exact gT rfl hg36<|qm rfl<|gT rfl hg36<|A0 (I0 rfl rfl) rfl<|A0 (D3 rfl hg36 rfl) rfl<|ge 3 (by rw [hg36]; rfl) rfl rfl
 ·exact nT rfl hg36 rfl<|nT rfl hg36 rfl<|A0 (D4 rfl hg36 rfl) rfl<|ge 3 (by rw [hg36]; rfl) rfl rfl
 refine qm rfl<|gp 4 162 (.b x39) 158 rfl rfl (fun hg37=>?_) (fun hg37=>?_) ?_
 ·refine oB (bt hx39 hg37) fun x38 hx38 hx39=>?_
  obtain rfl:=os hx39
  exact gT rfl hg37<|qm rfl<|gT rfl hg37<|A0 (K7 (rows:=List.map cI [350,320]) rfl rfl (E8 (fun _=>rfl) _)) rfl<|gT rfl hg37<|B8 (rs:=[.b x38]) rfl rfl (A2 rfl (A2 rfl B9)) ((A2m hx38).frz)<|A0 (D3 rfl hg37 rfl) rfl<|ge 4 rfl rfl rfl
 ·obtain rfl:=os (bf hx39 hg37)
  exact nT rfl hg37 rfl<|nT rfl hg37 rfl<|N1 (G2 rfl (by rw [hg37]; rfl)) rfl<|A0 (D4 rfl hg37 rfl) rfl<|ge 4 rfl rfl rfl
 refine qm rfl<|gp 4 167 (.b x42) 163 rfl rfl (fun hg40=>?_) (fun hg40=>?_) ?_
 ·refine oB (bt hx42 hg40) fun x41 hx41 hx42=>?_
  obtain rfl:=os hx42
  exact gT rfl hg40<|qm rfl<|gT rfl hg40<|A0 (K7 (rows:=List.map cI [0]) rfl rfl (E8 (fun _=>rfl) _)) rfl<|gT rfl hg40<|B8 (rs:=[.b x41]) rfl rfl (A2 rfl (A2 rfl B9)) ((A2m hx41).frz)<|A0 (D3 rfl hg40 rfl) rfl<|ge 4 rfl rfl rfl
 ·obtain rfl:=os (bf hx42 hg40)
  exact nT rfl hg40 rfl<|nT rfl hg40 rfl<|N1 (G2 rfl (by rw [hg40]; rfl)) rfl<|A0 (D4 rfl hg40 rfl) rfl<|ge 4 rfl rfl rfl
 refine qm rfl<|gp 4 172 (.b x45) 168 rfl rfl (fun hg43=>?_) (fun hg43=>?_) ?_
 ·refine oB (bt hx45 hg43) fun x44 hx44 hx45=>?_
  obtain rfl:=os hx45
  exact gT rfl hg43<|qm rfl<|gT rfl hg43<|A0 (K7 (rows:=List.map cI [0]) rfl rfl (E8 (fun _=>rfl) _)) rfl<|gT rfl hg43<|B8 (rs:=[.b x44]) rfl rfl (A2 rfl (A2 rfl B9)) ((A2m hx44).frz)<|A0 (D3 rfl hg43 rfl) rfl<|ge 4 rfl rfl rfl
 ·obtain rfl:=os (bf hx45 hg43)
  exact nT rfl hg43 rfl<|nT rfl hg43 rfl<|N1 (G2 rfl (by rw [hg43]; rfl)) rfl<|A0 (D4 rfl hg43 rfl) rfl<|ge 4 rfl rfl rfl
 refine qm rfl<|gp 4 177 (.b (x45 && ((List.length x14.1:Int) == 0))) 173 rfl rfl (fun hg46=>?_) (fun hg46=>?_) ?_
 ·exact gT rfl hg46<|qm rfl<|gT rfl hg46<|A0 (E3 (f:=cI) rfl) rfl<|gT rfl hg46<|A0 (I0 rfl rfl) rfl<|A0 (D3 rfl hg46 rfl) rfl<|ge 4 (by rw [hg46]; rfl) rfl rfl
 ·exact nT rfl hg46 rfl<|nT rfl hg46 rfl<|nT rfl hg46 rfl<|A0 (D4 rfl hg46 rfl) rfl<|ge 4 (by rw [hg46]; rfl) rfl rfl
 refine qm rfl<|gp 3 181 (.b ((x45 && ((List.length x14.1:Int) == 0)) && (x15.1 == 1))) 178 rfl rfl (fun hg47=>?_) (fun hg47=>?_) ?_
 ·exact gT rfl hg47<|qm rfl<|gT rfl hg47<|A0 (I0 rfl rfl) rfl<|A0 (D3 rfl hg47 rfl) rfl<|ge 3 (by rw [hg47]; rfl) rfl rfl
 ·exact nT rfl hg47 rfl<|nT rfl hg47 rfl<|A0 (D4 rfl hg47 rfl) rfl<|ge 3 (by rw [hg47]; rfl) rfl rfl
 refine qm rfl<|gp 3 185 (.b (((x45 && ((List.length x14.1:Int) == 0)) && (x15.1 == 1)) && (x16.1 == 1))) 182 rfl rfl (fun hg48=>?_) (fun hg48=>?_) ?_
 ·exact gT rfl hg48<|qm rfl<|gT rfl hg48<|A0 (I0 rfl rfl) rfl<|A0 (D3 rfl hg48 rfl) rfl<|ge 3 (by rw [hg48]; rfl) rfl rfl
 ·exact nT rfl hg48 rfl<|nT rfl hg48 rfl<|A0 (D4 rfl hg48 rfl) rfl<|ge 3 (by rw [hg48]; rfl) rfl rfl
 refine qm rfl<|gp 3 189 (.b ((((x45 && ((List.length x14.1:Int) == 0)) && (x15.1 == 1)) && (x16.1 == 1)) && (x16.2.1 == 0))) 186 rfl rfl (fun hg49=>?_) (fun hg49=>?_) ?_
 ·exact gT rfl hg49<|qm rfl<|gT rfl hg49<|A0 (I0 rfl rfl) rfl<|A0 (D3 rfl hg49 rfl) rfl<|ge 3 (by rw [hg49]; rfl) rfl rfl
 ·exact nT rfl hg49 rfl<|nT rfl hg49 rfl<|A0 (D4 rfl hg49 rfl) rfl<|ge 3 (by rw [hg49]; rfl) rfl rfl
 refine qm rfl<|es (ra1 rfl)<|C2 ?_
 obtain rfl:=os h
 exact retq trivial (A9 rfl B4) (A3 rfl B3) (A1 A6 B1)
end Rm
end
section
set_option maxRecDepth 100000
set_option maxHeartbeats 0
namespace Rm
open Go Am
theorem B99:A2q = some true:= by decide +kernel
end Rm
end
section
set_option maxRecDepth 100000
set_option maxHeartbeats 0
namespace Rm
open Go Am Go.Proofs.YtbheamjhjgoccaaDoor.Cd
def A06 (a0:RoHouse) (a1:(Ar2 Int)) (a2:Int):Option Bool :=
 (O4 a0).bind fun x1 =>
 (Z7 a0).bind fun x2 =>
 if (((x1.1 != x2.1) || (x1.2.1 != x2.2.1)) || (x1.2.2 != x2.2.2)) = true then
  some false
 else
  (idx (Ar2.l a1) 1).bind fun x6 =>
  (A0c a0 x6 a2).bind fun x7 =>
  (idx (Ar2.l a1) 1).bind fun x8 =>
  (A0l a0 x8 a2).bind fun x9 =>
  if ((!((x7.1.Lo == x9.1.Lo) && ((x7.1.Hi == x9.1.Hi) && true))) || (x7.2 != x9.2)) = true then
  some false
  else
  (idx (Ar2.l a1) 0).bind fun x12 =>
  (idx (Ar2.l a1) 1).bind fun x13 =>
  (A1l a0 x12 x13 a2).bind fun x14 =>
  (idx (Ar2.l a1) 0).bind fun x15 =>
  (idx (Ar2.l a1) 1).bind fun x16 =>
  (A2f a0 x15 x16 a2).bind fun x17 =>
  (if ((x14.1 == x17.1) && (x14.2 == x17.2)) = true then
   (A2q).bind fun x20 =>
   some x20
  else
   some false).bind fun x21 =>
  some x21
theorem A88 {c:Sc} {H:A4} (hscv:W3 c H = true) {a0:RoHouse} {a1:(Ar2 Int)} {a2:Int} {r:Bool} (h:A06 a0 a1 a2 = some r) :
  E4 tab c H (.fn (.func 3) [] []) [(.agg (A7 a0)),(.agg ((A5a cI) a1)),.i a2] [.b r]:= by
 unfold A06 at h
 refine cE rfl rfl<|sg 0 rfl<|A0 (F1 (cs:=A7 a0) rfl rfl rfl) rfl<|A0 (F1 (cs:=(A5a cI) a1) rfl rfl rfl) rfl<|qm rfl<|es (ra3 rfl rfl rfl)<|s0<|oB h fun x1 hx1 h=>A0 (C5 rfl rfl rfl) rfl<|B8 (rs:=[.i x1.1,.i x1.2.1,.i x1.2.2]) rfl rfl (A2 (D8 rfl) B9) ((N8 hx1).frz)<|qm rfl<|A0 (A8 rfl rfl) rfl<|A0 (A8 rfl rfl) rfl<|A0 (A8 rfl rfl) rfl<|qm rfl<|qm rfl<|qm rfl<|es (ra6 rfl rfl rfl rfl rfl rfl)<|s0<|oB h fun x2 hx2 h=>A0 (C5 rfl rfl rfl) rfl<|B8 (rs:=[.i x2.1,.i x2.2.1,.i x2.2.2]) rfl rfl (A2 (D8 rfl) B9) ((A3y hx2).frz)<|qm rfl<|A0 (A8 rfl rfl) rfl<|A0 (A8 rfl rfl) rfl<|A0 (A8 rfl rfl) rfl<|qm rfl<|qm rfl<|qm rfl<|es (ra9 rfl rfl rfl rfl rfl rfl rfl rfl rfl)<|C0<|s0<|qm rfl<|qm rfl<|A0 (K4 rfl rfl) rfl<|qm rfl<|gp 4 34 (.b ((x1.1 != x2.1) || (x1.2.1 != x2.2.1))) 30 rfl rfl (fun hg3=>?_) (fun hg3=>?_) ?_
 ·exact nF rfl hg3 rfl<|nF rfl hg3 rfl<|nF rfl hg3 rfl<|A0 (D3 rfl hg3 rfl) rfl<|ge 4 (by rw [hg3]; rfl) rfl rfl
 ·exact gF rfl hg3<|qm rfl<|gF rfl hg3<|qm rfl<|gF rfl hg3<|A0 (K4 rfl rfl) rfl<|A0 (D4 rfl hg3 rfl) rfl<|ge 4 (by rw [hg3]; rfl) rfl rfl
 refine qm rfl<|gp 4 39 (.b (((x1.1 != x2.1) || (x1.2.1 != x2.2.1)) || (x1.2.2 != x2.2.2))) 35 rfl rfl (fun hg4=>?_) (fun hg4=>?_) ?_
 ·exact nF rfl hg4 rfl<|nF rfl hg4 rfl<|nF rfl hg4 rfl<|A0 (D3 rfl hg4 rfl) rfl<|ge 4 (by rw [hg4]; rfl) rfl rfl
 ·exact gF rfl hg4<|qm rfl<|gF rfl hg4<|qm rfl<|gF rfl hg4<|A0 (K4 rfl rfl) rfl<|A0 (D4 rfl hg4 rfl) rfl<|ge 4 (by rw [hg4]; rfl) rfl rfl
 refine es (ra4 rfl rfl rfl rfl)<|wi h rfl (fun hc5 h=>?_) fun hc5 h=>?_
 ·refine s0<|qm rfl<|es (ra1 rfl)<|C2 ?_
  obtain rfl:=os h
  exact retq trivial (A9 rfl B4) (A3 rfl B3) (A1 A6 B1)
 ·refine C3<|sg 2 rfl<|oB h fun x6 hx6 h=>oB h fun x7 hx7 h=>A0 (C5 rfl rfl rfl) rfl<|A0 (A0r (e:=Ar2.l a1) rfl rfl rfl hx6) rfl<|A0 (A1v (f:=cI) (g:=fun n=>(.i n)) (e:=Ar2.l a1) (fun _=>rfl) rfl (D6 rfl) rfl hx6) rfl<|qm rfl<|B8 (rs:=[(.agg (D2 x7.1)),.i x7.2]) rfl rfl (A2 (D8 rfl) (A2 rfl (A2 rfl B9))) ((A3z hx7).frz)<|qm rfl<|A0 (A8 rfl rfl) rfl<|A0 (A8 rfl rfl) rfl<|A0 D5 rfl<|E5 (C4 (ds:=(D2 x7.1)) rfl rfl rfl rfl (B5 rfl) rfl) rfl<|qm rfl<|es (ra5 rfl rfl rfl rfl rfl)<|sg 3 rfl<|oB h fun x8 hx8 h=>oB h fun x9 hx9 h=>A0 (C5 rfl rfl rfl) rfl<|A0 (A0r (e:=Ar2.l a1) rfl rfl rfl hx8) rfl<|A0 (A1v (f:=cI) (g:=fun n=>(.i n)) (e:=Ar2.l a1) (fun _=>rfl) rfl (D6 rfl) rfl hx8) rfl<|qm rfl<|B8 (rs:=[(.agg (D2 x9.1)),.i x9.2]) rfl rfl (A2 (D8 rfl) (A2 rfl (A2 rfl B9))) ((B2o hx9).frz)<|qm rfl<|A0 (A8 rfl rfl) rfl<|A0 (A8 rfl rfl) rfl<|A0 D5 rfl<|E5 (C4 (ds:=(D2 x9.1)) rfl rfl rfl rfl (B5 rfl) rfl) rfl<|qm rfl<|es (ra7 rfl rfl rfl rfl rfl rfl rfl)<|C0<|s0<|A0 (C5 rfl rfl rfl) rfl<|A0 (C5 rfl rfl rfl) rfl<|A0 (C79 (a:=D2 x7.1) (b:=D2 x9.1) rfl rfl rfl rfl (Y6 (Y6 A9s))) rfl<|qm rfl<|gp 4 63 (.b ((!((x7.1.Lo == x9.1.Lo) && ((x7.1.Hi == x9.1.Hi) && true))) || (x7.2 != x9.2))) 59 rfl rfl (fun hg10=>?_) (fun hg10=>?_) ?_
  ·exact nF rfl hg10 rfl<|nF rfl hg10 rfl<|nF rfl hg10 rfl<|A0 (D3 rfl hg10 rfl) rfl<|ge 4 (by rw [hg10]; rfl) rfl rfl
  ·exact gF rfl hg10<|qm rfl<|gF rfl hg10<|qm rfl<|gF rfl hg10<|A0 (K4 rfl rfl) rfl<|A0 (D4 rfl hg10 rfl) rfl<|ge 4 (by rw [hg10]; rfl) rfl rfl
  refine es (ra4 rfl rfl rfl rfl)<|wi h rfl (fun hc11 h=>?_) fun hc11 h=>?_
  ·refine s0<|qm rfl<|es (ra1 rfl)<|C2 ?_
   obtain rfl:=os h
   exact retq trivial (A9 rfl B4) (A3 rfl B3) (A1 A6 B1)
  ·refine C3<|s0<|oB h fun x12 hx12 h=>oB h fun x13 hx13 h=>oB h fun x14 hx14 h=>A0 (C5 rfl rfl rfl) rfl<|A0 (A0r (e:=Ar2.l a1) rfl rfl rfl hx12) rfl<|A0 (A1v (f:=cI) (g:=fun n=>(.i n)) (e:=Ar2.l a1) (fun _=>rfl) rfl (D6 rfl) rfl hx12) rfl<|A0 (A0r (e:=Ar2.l a1) rfl rfl rfl hx13) rfl<|A0 (A1v (f:=cI) (g:=fun n=>(.i n)) (e:=Ar2.l a1) (fun _=>rfl) rfl (D6 rfl) rfl hx13) rfl<|qm rfl<|B8 (rs:=[.i x14.1,.i x14.2]) rfl rfl (A2 (D8 rfl) (A2 rfl (A2 rfl (A2 rfl B9)))) ((A3d hx14).frz)<|qm rfl<|A0 (A8 rfl rfl) rfl<|A0 (A8 rfl rfl) rfl<|qm rfl<|qm rfl<|es (ra5 rfl rfl rfl rfl rfl)<|s0<|oB h fun x15 hx15 h=>oB h fun x16 hx16 h=>oB h fun x17 hx17 h=>A0 (C5 rfl rfl rfl) rfl<|A0 (A0r (e:=Ar2.l a1) rfl rfl rfl hx15) rfl<|A0 (A1v (f:=cI) (g:=fun n=>(.i n)) (e:=Ar2.l a1) (fun _=>rfl) rfl (D6 rfl) rfl hx15) rfl<|A0 (A0r (e:=Ar2.l a1) rfl rfl rfl hx16) rfl<|A0 (A1v (f:=cI) (g:=fun n=>(.i n)) (e:=Ar2.l a1) (fun _=>rfl) rfl (D6 rfl) rfl hx16) rfl<|qm rfl<|B8 (rs:=[.i x17.1,.i x17.2]) rfl rfl (A2 (D8 rfl) (A2 rfl (A2 rfl (A2 rfl B9)))) ((B5j hx17).frz)<|qm rfl<|A0 (A8 rfl rfl) rfl<|A0 (A8 rfl rfl) rfl<|qm rfl<|qm rfl<|es (ra4 rfl rfl rfl rfl)<|s0<|oB h fun x21 hx21 h=>qm rfl<|qm rfl<|A0 (I0 rfl rfl) rfl<|qm rfl<|gp 4 91 (.b ((x14.1 == x17.1) && (x14.2 == x17.2))) 87 rfl rfl (fun hg18=>?_) (fun hg18=>?_) ?_
   ·exact gT rfl hg18<|qm rfl<|gT rfl hg18<|qm rfl<|gT rfl hg18<|A0 (I0 rfl rfl) rfl<|A0 (D3 rfl hg18 rfl) rfl<|ge 4 (by rw [hg18]; rfl) rfl rfl
   ·exact nT rfl hg18 rfl<|nT rfl hg18 rfl<|nT rfl hg18 rfl<|A0 (D4 rfl hg18 rfl) rfl<|ge 4 (by rw [hg18]; rfl) rfl rfl
   refine qm rfl<|gp 2 94 (.b x21) 92 rfl rfl (fun hg19=>?_) (fun hg19=>?_) ?_
   ·refine oB (bt hx21 hg19) fun x20 hx20 hx21=>?_
    obtain rfl:=os hx21
    exact gT rfl hg19<|B8 (rs:=[.b x20]) rfl rfl B9 ((A66 (B2t hscv) hx20).frz)<|A0 (D3 rfl hg19 rfl) rfl<|ge 2 rfl rfl rfl
   ·obtain rfl:=os (bf hx21 hg19)
    exact N1 (G2 rfl (by rw [hg19]; rfl)) rfl<|A0 (D4 rfl hg19 rfl) rfl<|ge 2 rfl rfl rfl
   refine qm rfl<|es (ra1 rfl)<|C2 ?_
   obtain rfl:=os h
   exact retq trivial (A9 rfl B4) (A3 rfl B3) (A1 A6 B1)
end Rm
end
section
namespace Rm
open Go Am
def B3i (w:Span) (f:RoFigure):Int:=if f.Cracks≤w.Lo∧w.Hi≤f.Slumps then 1 else if f.Cracks > w.Hi∨w.Lo > f.Slumps then 2 else 0
theorem C6d {h:RoHouse} (ok:HOk h) {f p l:Nat} (hf:f < h.Figures.length) (hp:p < h.Places.length) (hl:l < 16):M8 ⟨h⟩ (f:Int) (p:Int) (l:Int) = some (B3i (warm h p l) h.Figures[f]!):= by
 have b:=C2s ok hp l
 have g:=(ok.figure _ (A0g hf)).bears
 unfold M8
 rw [B65 ok hp hl,Y8 hf]
 simp only [Option.bind_some]
 generalize warm h p l = w at b ⊢
 generalize h.Figures[f]! = r at g ⊢
 unfold B3i A84 B30
 by_cases c1:r.Cracks≤w.Lo
 ·by_cases c2:w.Hi≤r.Slumps
  ·simp [c1,c2,show ¬ (r.Cracks > w.Lo) by omega,show ¬ (r.Slumps < w.Hi) by omega]
  ·by_cases c3:w.Lo > r.Slumps
   ·simp [c2,c3,show ¬ (r.Cracks > w.Lo) by omega,show (r.Slumps < w.Hi) by omega,show ¬ (r.Slumps = w.Hi) by omega]
   ·simp [c2,c3,show ¬ (r.Cracks > w.Lo) by omega,show (r.Slumps < w.Hi) by omega,show ¬ (r.Slumps = w.Hi) by omega,show ¬ (r.Cracks > w.Hi) by omega]
 ·by_cases c2:w.Hi≤r.Slumps
  ·by_cases c3:r.Cracks > w.Hi
   ·simp [c1,c3,show (r.Cracks > w.Lo) by omega,show ¬ (r.Slumps < w.Hi) by omega,show ¬ (r.Cracks = w.Lo) by omega]
   ·simp [c1,c3,show (r.Cracks > w.Lo) by omega,show ¬ (r.Slumps < w.Hi) by omega,show ¬ (r.Cracks = w.Lo) by omega,show ¬ (w.Lo > r.Slumps) by omega]
  ·have h1:¬ (r.Cracks > r.Slumps):= by omega
   simp [c1,h1,show (r.Cracks > w.Lo) by omega,show (r.Slumps < w.Hi) by omega,show ¬ (r.Cracks = w.Lo) by omega,show ¬ (w.Lo > r.Slumps) by omega,show ¬ (r.Cracks > w.Hi) by omega]
def A5x (lo c s:Int) (i:Nat):Int:=max 0 (min (lo + i) (s + 1) - max lo c)
theorem C2w {h:RoHouse} {f:RoFigure} {p l:Int} {w:Span} (hw:A1g h p l = some w) (b:-1000≤w.Lo∧w.Lo≤w.Hi∧w.Hi≤1000) (g:-1000≤f.Cracks∧f.Cracks≤f.Slumps∧f.Slumps≤1000):Y2 h f p l = some (B3i w f):= by
 unfold Y2
 rw [hw]
 simp only [Option.bind_some]
 have l1:=A3v (b:=R8 f w) (fun i=>(A5x w.Lo f.Cracks f.Slumps i,(i:Int),w.Lo + i)) (w.Hi - w.Lo + 1).toNat (r:=(A5x w.Lo f.Cracks f.Slumps (w.Hi - w.Lo + 1).toNat,((w.Hi - w.Lo + 1).toNat:Int))) (by omega) (fun i hi=>by
  unfold R8
  simp only []
  have hc:0≤A5x w.Lo f.Cracks f.Slumps i∧A5x w.Lo f.Cracks f.Slumps i≤3000:= by unfold A5x; omega
  rw [if_pos (by rw [decide_eq_true_eq]; omega),within5]
  simp only [Option.bind_some]
  rw [S6 (n:=(i:Int) + 1) (by omega),S6 (n:=w.Lo + i + 1) (by omega),S6 (n:=A5x w.Lo f.Cracks f.Slumps i + 1) (by omega)]
  have e2:w.Lo + (i:Int) + 1 = w.Lo + ((i + 1:Nat):Int):= by omega
  rw [e2]
  cases ho:out f.Cracks f.Slumps (w.Lo + i) with
  | true =>
   have:¬ (f.Cracks≤w.Lo + i∧w.Lo + i≤f.Slumps):=fun h=>by rw [X1.mpr h] at ho; cases ho
   have e1:A5x w.Lo f.Cracks f.Slumps (i + 1) = A5x w.Lo f.Cracks f.Slumps i:= by unfold A5x; omega
   rw [e1]; rfl
  | false =>
   have:=X1.mp ho
   have e1:A5x w.Lo f.Cracks f.Slumps (i + 1) = A5x w.Lo f.Cracks f.Slumps i + 1:= by unfold A5x; omega
   rw [e1]; rfl) (by
  unfold R8
  simp only []
  rw [if_neg (by rw [decide_eq_true_eq]; omega)])
 have l0:(A5x w.Lo f.Cracks f.Slumps 0,((0:Nat):Int),w.Lo + ((0:Nat):Int)) = (0,0,w.Lo):= by
  have:A5x w.Lo f.Cracks f.Slumps 0 = 0:= by unfold A5x; omega
  rw [this,Int.natCast_zero,Int.add_zero]
 have l1:loop (R8 f w) (A5x w.Lo f.Cracks f.Slumps 0,((0:Nat):Int),w.Lo + ((0:Nat):Int)) = some (A5x w.Lo f.Cracks f.Slumps (w.Hi - w.Lo + 1).toNat,((w.Hi - w.Lo + 1).toNat:Int)):=l1
 rw [l0] at l1
 rw [l1]
 simp only [Option.bind_some]
 unfold B3i
 have hc:A5x w.Lo f.Cracks f.Slumps (w.Hi - w.Lo + 1).toNat = max 0 (min (w.Hi + 1) (f.Slumps + 1) - max w.Lo f.Cracks):= by
  unfold A5x
  congr 3
  omega
 rw [hc]
 by_cases c1:f.Cracks≤w.Lo∧w.Hi≤f.Slumps
 ·rw [if_pos c1,if_pos (by rw [beq_iff_eq]; omega)]
 ·rw [if_neg c1,if_neg (by rw [beq_iff_eq]; omega)]
  by_cases c2:f.Cracks > w.Hi∨w.Lo > f.Slumps
  ·rw [if_pos c2,if_pos (by rw [beq_iff_eq]; omega)]
  ·rw [if_neg c2,if_neg (by rw [beq_iff_eq]; omega)]
theorem C0a {h:RoHouse} (ok:HOk h) {f:RoFigure} (hf:FiOk f) {p l:Nat} (hp:p < h.Places.length) (hl:l < 16):Y2 h f (p:Int) (l:Int) = some (B3i (warm h p l) f):= by
 have b:=C2s ok hp l
 have g:=hf.bears
 exact C2w (B2c ok hp hl) (by omega) (by omega)
theorem C05 {h:RoHouse} (ok:HOk h):1≤2 ^ h.Stoves.toNat∧2 ^ h.Stoves.toNat≤8:= by
 have:=ok.s
 exact ⟨Nat.pow_pos (by decide),Nat.le_trans (Nat.pow_le_pow_right (by decide) (show h.Stoves.toNat≤3 by omega)) (by decide)⟩
theorem D2m {h:RoHouse} (ok:HOk h):B1u .i64 1 h.Stoves = some ((2 ^ h.Stoves.toNat:Nat):Int):= by
 have:=ok.s
 have e:=shl1 h.Stoves.toNat (by omega)
 rwa [Int.toNat_of_nonneg ok.s.1] at e
theorem D0n {h:RoHouse} (ok:HOk h):A1h h.Stoves = some ((2 ^ h.Stoves.toNat:Nat):Int):= by
 have:=ok.s
 have e:=C2p h.Stoves.toNat (by omega)
 rwa [Int.toNat_of_nonneg ok.s.1] at e
def A4j (h:RoHouse) (p l:Int):Int:=if out 0 ((h.Places.length:Int) - 1) p then 4 else if out 0 (((2 ^ h.Stoves.toNat:Nat):Int) - 1) l then 7 else 0
theorem B8f {h:RoHouse} (ok:HOk h) (p l:Int):R9 ⟨h⟩ p l = some (A4j h p l):= by
 have hp:=ok.places
 have hs:=C05 ok
 unfold R9 A4j
 rw [S6 (by simp only []; omega),beyond1]
 simp only [Option.bind_some]
 cases out 0 ((h.Places.length:Int) - 1) p
 ·rw [D2m ok]
  simp only [Option.bind_some]
  rw [S6 (by omega),beyond1]
  cases out 0 (((2 ^ h.Stoves.toNat:Nat):Int) - 1) l <;> rfl
 ·rfl
theorem B27 {h:RoHouse} (ok:HOk h) {p l:Int} (e:A4j h p l = 0):∃p' l':Nat,p = p'∧l = l'∧p' < h.Places.length∧l' < 16:= by
 have hs:=C05 ok
 unfold A4j at e
 cases h1:out 0 ((h.Places.length:Int) - 1) p with
 | true=>rw [h1,if_pos rfl] at e; exact absurd e (by decide)
 | false =>
 cases h2:out 0 (((2 ^ h.Stoves.toNat:Nat):Int) - 1) l with
 | true=>rw [h1,h2,if_neg (by decide),if_pos rfl] at e; exact absurd e (by decide)
 | false =>
 have b1:=X1.mp h1
 have b2:=X1.mp h2
 exact ⟨p.toNat,l.toNat,by omega,by omega,by omega,by omega⟩
theorem B0l {h:RoHouse} (ok:HOk h) (e0:(check h).2.2 = 0) (f p l:Int):W4 h f p l = some (if out 0 (max 0 ((h.Figures.length:Int) - 1)) f then 4 else A4j h p l):= by
 have hp:=ok.places
 have hf:=ok.figures
 have hs:=C05 ok
 have em:∀a:Int,A84 0 a = max 0 a:=fun a=>by unfold A84; omega
 unfold W4 A4j
 rw [Z8]
 simp only [Option.bind_some,e0]
 rw [S6 (n:=(h.Figures.length:Int) - 1) (by omega),em,within5,within5,S6 (by omega)]
 rw [D0n ok]
 simp only [Option.bind_some]
 rw [S6 (by omega),within5]
 cases out 0 (max 0 ((h.Figures.length:Int) - 1)) f <;> cases out 0 ((h.Places.length:Int) - 1) p <;> cases out 0 (((2 ^ h.Stoves.toNat:Nat):Int) - 1) l <;> rfl
theorem C1n (h:RoHouse) (hb:NB h) (p l:Int):A0c h p l = A0l h p l∧∃ x,A0l h p l = some x:= by
 unfold A0c A0l
 rw [A44 h hb]
 simp only [Option.bind_some]
 by_cases e0:(check h).2.2 = 0
 ·have ok:=B8m e0
  rw [B0l ok e0,if_pos (by simp [e0]),B8f ok]
  have:out 0 (max 0 ((h.Figures.length:Int) - 1)) 0 = false:=X1.mpr ⟨by omega,by omega⟩
  rw [this]
  simp only [Option.bind_some,Bool.false_eq_true,if_false]
  by_cases ea:A4j h p l = 0
  ·obtain ⟨p',l',rfl,rfl,hp,hl⟩:=B27 ok ea
   rw [ea,B65 ok hp hl,B2c ok hp hl]
   exact ⟨rfl,_,rfl⟩
  ·rw [if_pos (bne_iff_ne.mpr ea),if_pos (bne_iff_ne.mpr ea)]
   exact ⟨rfl,_,rfl⟩
 ·rw [if_neg (by simp [e0])]
  unfold W4
  rw [Z8]
  simp only [Option.bind_some]
  have e1:((check h).2.2 == 0) = false:=beq_eq_false_iff_ne.mpr e0
  rw [e1]
  simp only [Bool.false_eq_true,if_false,Option.bind_some,e1]
  rw [if_pos (bne_iff_ne.mpr e0),if_pos (bne_iff_ne.mpr e0)]
  exact ⟨rfl,_,rfl⟩
theorem C4k (h:RoHouse) (hb:NB h) (f p l:Int):A1l h f p l = A2f h f p l∧∃ x,A2f h f p l = some x:= by
 unfold A1l A2f
 rw [A44 h hb]
 simp only [Option.bind_some]
 by_cases e0:(check h).2.2 = 0
 ·have ok:=B8m e0
  have hf:=ok.figures
  rw [B0l ok e0,Z8,if_neg (by simp [e0]),S6 (by omega),beyond1]
  simp only [Option.bind_some,e0]
  by_cases hz:h.Figures.length = 0
  ·have o1:out 0 ((h.Figures.length:Int) - 1) f = true:= by
    cases ho:out 0 ((h.Figures.length:Int) - 1) f with
    | true=>rfl
    | false=>have:=X1.mp ho; omega
   rw [o1,hz]
   exact ⟨rfl,_,rfl⟩
  ·have e3:((h.Figures.length:Int) == 0) = false:=beq_eq_false_iff_ne.mpr (by omega)
   have e4:max 0 ((h.Figures.length:Int) - 1) = (h.Figures.length:Int) - 1:= by omega
   rw [e3,e4]
   cases ho:out 0 ((h.Figures.length:Int) - 1) f with
   | true=>exact ⟨rfl,_,rfl⟩
   | false =>
    have bf:=X1.mp ho
    rw [B8f ok]
    simp only [Option.bind_some,Bool.false_eq_true,if_false,Bool.and_false]
    by_cases ea:A4j h p l = 0
    ·obtain ⟨p',l',rfl,rfl,hp,hl⟩:=B27 ok ea
     obtain ⟨f',rfl⟩:∃f':Nat,f = f':=⟨f.toNat,by omega⟩
     have hf':f' < h.Figures.length:= by omega
     rw [ea,C6d ok hf' hp hl,Y8 hf']
     simp only [Option.bind_some]
     rw [C0a ok (ok.figure _ (A0g hf')) hp hl]
     exact ⟨rfl,_,rfl⟩
    ·rw [if_pos (bne_iff_ne.mpr ea),if_pos (bne_iff_ne.mpr ea)]
     exact ⟨rfl,_,rfl⟩
 ·rw [if_pos (bne_iff_ne.mpr e0)]
  unfold W4
  rw [Z8]
  simp only [Option.bind_some]
  have e1:((check h).2.2 == 0) = false:=beq_eq_false_iff_ne.mpr e0
  rw [e1]
  simp only [Bool.false_eq_true,if_false,Option.bind_some,e1,Bool.false_and]
  rw [if_pos (bne_iff_ne.mpr e0)]
  exact ⟨rfl,_,rfl⟩
theorem B4v {h:RoHouse} (hb:NB h) {x:Ar2 Int} (_:True) {lit:Int} (_:True):A06 h x lit = some true:= by
 unfold A06
 rw [A44 h hb,Z8]
 simp only [Option.bind_some,bne_self_eq_false,Bool.or_self,Bool.false_eq_true,if_false]
 have i1:idx (Ar2.l x) 1 = some x.x1:=rfl
 have i0:idx (Ar2.l x) 0 = some x.x0:=rfl
 rw [i1,i0]
 simp only [Option.bind_some]
 obtain ⟨e1,y1,e2⟩:=C1n h hb x.x1 lit
 obtain ⟨e3,y2,e4⟩:=C4k h hb x.x0 x.x1 lit
 rw [e1,e2,e3,e4]
 simp only [Option.bind_some,beq_self_eq_true,Bool.and_self,Bool.not_true,bne_self_eq_false,Bool.or_self,Bool.false_eq_true,if_false,if_true]
 rw [B99]; rfl
end Rm
end
