/- Texts that the claim stands on, one behind another. -/
import Derived.Test.YtbheamjhjgoccaaDoorA7
set_option linter.unusedVariables false
set_option linter.unusedSimpArgs false
set_option linter.unnecessarySimpa false
section
set_option maxRecDepth 100000
set_option maxHeartbeats 0
namespace Rm
open Go Am Go.Proofs.YtbheamjhjgoccaaDoor.Cd
def B16 (a1:RoPlan) (s9:(Int × room_plan)):Option ((Int × room_plan) ⊕ (room_plan ⊕ Unit)) :=
 if (decide (s9.1 < (List.length a1.At:Int))) = true then
  (idx a1.At s9.1).bind fun x12 =>
  (if (x12 != (-1)) = true then
  (slc a1.At 0 s9.1).bind fun x14 =>
  (L2 x14 x12).bind fun x15 =>
  some x15
  else
  some false).bind fun x16 =>
  if x16 = true then
  some (.inr (.inr ()))
  else
  (idx (Ar5.l s9.2.at_) s9.1).bind fun x18 =>
  some (.inl ((w64 (s9.1 + 1)),(room_plan.mk s9.2.lit_ (Ar5.set s9.2.at_ s9.1 (w64 (x12 + 1))))))
 else
  some (.inr (.inl s9.2))
def A0e (a0:RoHouse) (vo19_0:room_plan) (s20:Int):Option (Int ⊕ (Unit ⊕ Unit)) :=
 if (decide (s20 < 5)) = true then
  (idx (Ar5.l vo19_0.at_) s20).bind fun x23 =>
  (if (decide (x23 > 0)) = true then
  (P1 (room_house.mk a0) s20 (w64 (x23 - 1)) vo19_0.lit_).bind fun x25 =>
  some (x25 != 1)
  else
  some false).bind fun x26 =>
  if x26 = true then
  some (.inr (.inr ()))
  else
  some (.inl (w64 (s20 + 1)))
 else
  some (.inr (.inl ()))
def X3 (a0:RoHouse) (a1:RoPlan):Option (Int × Int) :=
 (P2 a0).bind fun x1 =>
 if (x1.2.2 != 0) = true then
  some (0,x1.2.2)
 else
  (B4n .i64 1 a0.Stoves).bind fun x3 =>
  (G3 0 (w64 (x3 - 1)) [a1.Lit]).bind fun x4 =>
  if x4 = true then
  some (0,7)
  else
  if ((List.length a1.At:Int) != (List.length a0.Figures:Int)) = true then
   some (0,3)
  else
   (G3 (-1) (w64 ((List.length a0.Places:Int) - 1)) a1.At).bind fun x7 =>
   if x7 = true then
   some (0,4)
   else
   (loop (B16 a1) (0,(room_plan.mk a1.Lit (Ar5.mk 0 0 0 0 0)))).bind fun (o19:(room_plan ⊕ Unit)) =>
   match o19 with
   | (.inl vo19_0) =>
    (loop (A0e a0 vo19_0) 0).bind fun (o28:(Unit ⊕ Unit)) =>
    match o28 with
    | (.inl vo28_0) =>
    (N3 (room_house.mk a0) vo19_0.at_ true).bind fun x29 =>
    if (!x29) = true then
     some (0,9)
    else
     (T1 (room_house.mk a0) vo19_0.at_).bind fun x31 =>
     some (x31,0)
    | (.inr vo28_1) =>
    some (0,9)
   | (.inr vo19_1) =>
    some (0,5)
theorem A1m {c:Sc} {H:A6} {a0:RoHouse} {a1:RoPlan} {r:(Int × Int)} (h:X3 a0 a1 = some r) :
  E6 tab c H (.fn (.func 27) [] []) [(.agg (A3 a0)),(.agg (B4 a1))] [.i r.1,.i r.2]:= by
 unfold X3 at h
 refine cE rfl rfl<|sg 0 rfl<|A0 (E9 (cs:=A3 a0) rfl rfl rfl) rfl<|A0 (E9 (cs:=B4 a1) rfl rfl rfl) rfl<|qm rfl<|qm rfl<|es (ra2 rfl rfl)<|sg 2 rfl<|A0 (C0 rfl rfl rfl) rfl<|A0 (C0 rfl rfl rfl) rfl<|O4 (as2:=[(.agg (A3 a0)),(.agg (B4 a1))]) (H1:=(H++[(.cells (A3 a0)),(.cells (B4 a1)),.dead])) rfl rfl (A1 (D1 rfl) (A1 (D1 rfl) B7)) rfl rfl rfl (T9 rfl)<|sg 3 rfl<|A0 (E9 (cs:=A3 a0) rfl rfl rfl) rfl<|A0 (E9 (cs:=B4 a1) rfl rfl rfl) rfl<|qm rfl<|A0 D5 rfl<|qm rfl<|es (ra3 rfl rfl rfl)<|sg 6 rfl<|A0 (C0 rfl rfl rfl) rfl<|A0 (C0 rfl rfl rfl) rfl<|O4 (as2:=[(.agg (A3 a0)),(.agg (B4 a1))]) (H1:=(H++[(.cells (A3 a0)),(.cells (B4 a1)),.dead,(.cells (A3 a0)),(.cells (B4 a1)),(.cells (A7 (room_plan.mk 0 (Ar5.mk 0 0 0 0 0)))),.dead])) rfl rfl (A1 (D1 rfl) (A1 (D1 rfl) B7)) rfl rfl rfl (T9 rfl)<|sg 7 rfl<|A0 (E9 (cs:=A3 a0) rfl rfl rfl) rfl<|A0 (E9 (cs:=B4 a1) rfl rfl rfl) rfl<|qm rfl<|A0 D5 rfl<|qm rfl<|es (ra3 rfl rfl rfl)<|s0<|A0 (C0 rfl rfl rfl) rfl<|O4 (as2:=[(.agg (A3 a0))]) (H1:=(H++[(.cells (A3 a0)),(.cells (B4 a1)),.dead,(.cells (A3 a0)),(.cells (B4 a1)),(.cells (A7 (room_plan.mk 0 (Ar5.mk 0 0 0 0 0)))),.dead,(.cells (A3 a0)),(.cells (B4 a1)),(.cells (A7 (room_plan.mk 0 (Ar5.mk 0 0 0 0 0))))])) rfl rfl (A1 (D1 rfl) B7) rfl rfl rfl (T9 rfl)<|sg 10 rfl<|A0 (E9 (cs:=A3 a0) rfl rfl rfl) rfl<|qm rfl<|qm rfl<|es (ra1 rfl)<|s0<|oB h fun x1 hx1 h=>A0 (C0 rfl rfl rfl) rfl<|B3 (rs:=[.i x1.1,.i x1.2.1,.i x1.2.2]) rfl rfl (A1 (D1 rfl) B7) ((Q0 hx1).frz)<|qm rfl<|A0 (A8 rfl rfl) rfl<|A0 (A8 rfl rfl) rfl<|A0 (A8 rfl rfl) rfl<|qm rfl<|qm rfl<|qm rfl<|es (ra2 rfl rfl)<|sg 11 rfl<|A0 (C0 rfl rfl rfl) rfl<|A0 (F9 (cs:=[.b false,(.fn (.func 112) [] [])]) rfl rfl) rfl<|A0 (F9 (cs:=[.b true,(.fn (.func 113) [] [])]) rfl rfl) rfl<|A0 (A5w (rows:=[[.b false,(.fn (.func 112) [] [])],[.b true,(.fn (.func 113) [] [])]]) rfl rfl) rfl<|A0 (F9 (cs:=[.i a0.Weather.Lo,.i a0.Weather.Hi,.i a0.Stoves,(.seq 1 (List.map cI a0.Holds)),(.seq 4 (List.map C2 a0.Places)),(.seq 6 (List.map B2 a0.Figures)),(.seq 1 (List.map cI a0.Bill)),(.xseq 2 [[.b false,(.fn (.func 112) [] [])],[.b true,(.fn (.func 113) [] [])]])]) rfl rfl) rfl<|A0 (E9 (cs:=[.i a0.Weather.Lo,.i a0.Weather.Hi,.i a0.Stoves,(.seq 1 (List.map cI a0.Holds)),(.seq 4 (List.map C2 a0.Places)),(.seq 6 (List.map B2 a0.Figures)),(.seq 1 (List.map cI a0.Bill)),(.xseq 2 [[.b false,(.fn (.func 112) [] [])],[.b true,(.fn (.func 113) [] [])]])]) rfl rfl rfl) rfl<|qm rfl<|qm rfl<|qm rfl<|es (ra2 rfl rfl)<|C4 ?_
 refine InlQ.mk trivial ⟨_,_,_,[(.ptr (H.length + 11) 0),.i x1.2.2],_,(A9 rfl (A9 rfl B6)),(A4 rfl (A4 rfl B5)),(V3 (M7 (V1 rfl)) (D3 rfl (D3 rfl I9))),?_⟩
 refine qm rfl<|A0 (A8 rfl rfl) rfl<|A0 (A8 rfl rfl) rfl<|qm rfl<|qm rfl<|es (ra5 rfl rfl rfl rfl rfl)<|B8<|C7<|s0<|qm rfl<|A0 (G2 rfl rfl) rfl<|qm rfl<|es (ra6 rfl rfl rfl rfl rfl rfl)<|wi h rfl (fun hc2 h=>?_) fun hc2 h=>?_
 ·refine s0<|A0 (C0 rfl rfl rfl) rfl<|qm rfl<|F2 (C8 (ds:=(A7 (room_plan.mk 0 (Ar5.mk 0 0 0 0 0)))) rfl rfl rfl rfl (B9 rfl) rfl) rfl<|qm rfl<|qm rfl<|es (ra3 rfl rfl rfl)<|C4<|InlQ.mk trivial ⟨_,_,_,[(.lit (.pointer none)),(.agg (A7 (room_plan.mk 0 (Ar5.mk 0 0 0 0 0)))),.i x1.2.2],_,(A9 rfl (F7 (E7 (ds:=A7 (room_plan.mk 0 (Ar5.mk 0 0 0 0 0))) rfl rfl rfl rfl) (A9 rfl B6))),(A4 rfl (A4 (I7 rfl) (A4 rfl B5))),(P8 (A2 A5 (A2 (G6 rfl) (A2 A5 B1))) (D3 rfl (D3 rfl (D3 rfl I9))) (H6 _ _ _)),?_⟩
  refine qm rfl<|A0 (A8 rfl rfl) rfl<|A0 (A8 rfl rfl) rfl<|A0 (A8 rfl rfl) rfl<|A0 D5 rfl<|qm rfl<|F2 (C8 (ds:=(A7 (room_plan.mk 0 (Ar5.mk 0 0 0 0 0)))) rfl rfl rfl rfl (B9 rfl) rfl) rfl<|qm rfl<|es (ra4 rfl rfl rfl rfl)<|B8<|s0<|qm rfl<|A0 (G2 rfl rfl) rfl<|es (ra5 rfl rfl rfl rfl rfl)<|K2 rfl hc2<|s0<|A0 (C0 rfl rfl rfl) rfl<|qm rfl<|F2 (C8 (ds:=(A7 (room_plan.mk 0 (Ar5.mk 0 0 0 0 0)))) rfl rfl rfl rfl (B9 rfl) rfl) rfl<|qm rfl<|qm rfl<|es (ra3 rfl rfl rfl)<|C4<|InlQ.mk trivial ⟨_,_,_,[(.lit (.pointer none)),(.agg (A7 (room_plan.mk 0 (Ar5.mk 0 0 0 0 0)))),.i x1.2.2],_,(A9 rfl (F7 (E7 (ds:=A7 (room_plan.mk 0 (Ar5.mk 0 0 0 0 0))) rfl rfl rfl rfl) (A9 rfl B6))),(A4 rfl (A4 (I7 rfl) (A4 rfl B5))),(P8 (A2 A5 (A2 (G6 rfl) (A2 A5 B1))) (D3 rfl (D3 rfl (D3 rfl I9))) (H6 _ _ _)),?_⟩
  refine qm rfl<|A0 (A8 rfl rfl) rfl<|A0 (A8 rfl rfl) rfl<|A0 (A8 rfl rfl) rfl<|A0 D5 rfl<|qm rfl<|F2 (C8 (ds:=(A7 (room_plan.mk 0 (Ar5.mk 0 0 0 0 0)))) rfl rfl rfl rfl (B9 rfl) rfl) rfl<|qm rfl<|es (ra3 rfl rfl rfl)<|B8<|s0<|qm rfl<|A0 (G2 rfl rfl) rfl<|es (ra4 rfl rfl rfl rfl)<|K2 rfl hc2<|s0<|qm rfl<|qm rfl<|qm rfl<|es (ra2 rfl rfl)<|C4 ?_
  obtain rfl:=os h
  exact retq trivial (A9 rfl (A9 rfl B6)) (A4 rfl (A4 rfl B5)) (A2 A5 (A2 A5 B1))
 ·refine s0<|oB h fun x3 hx3 h=>oB h fun x4 hx4 h=>A0 (C5 rfl) rfl<|A0 (C3 rfl rfl rfl) rfl<|A0 (B3t rfl rfl hx3) rfl<|A0 (W0 rfl rfl) rfl<|A0 (C5 rfl) rfl<|A0 (C3 rfl rfl rfl) rfl<|A0 (L4 (rows:=List.map cI [a1.Lit]) rfl rfl (F5 (fun _=>rfl) _)) rfl<|B3 (rs:=[.b x4]) rfl rfl (A1 rfl (A1 rfl (A1 rfl B7))) ((H8 hx4).frz)<|qm rfl<|es (ra5 rfl rfl rfl rfl rfl)<|wi h rfl (fun hc5 h=>?_) fun hc5 h=>?_
  ·refine s0<|A0 (C0 rfl rfl rfl) rfl<|qm rfl<|F2 (C8 (ds:=(A7 (room_plan.mk 0 (Ar5.mk 0 0 0 0 0)))) rfl rfl rfl rfl (B9 rfl) rfl) rfl<|qm rfl<|es (ra3 rfl rfl rfl)<|C4<|InlQ.mk trivial ⟨_,_,_,[(.lit (.pointer none)),(.agg (A7 (room_plan.mk 0 (Ar5.mk 0 0 0 0 0)))),.i 7],_,(A9 rfl (F7 (E7 (ds:=A7 (room_plan.mk 0 (Ar5.mk 0 0 0 0 0))) rfl rfl rfl rfl) (A9 rfl B6))),(A4 rfl (A4 (I7 rfl) (A4 rfl B5))),(P8 (A2 A5 (A2 (G6 rfl) (A2 A5 B1))) (D3 rfl (D3 rfl (D3 rfl I9))) (H6 _ _ _)),?_⟩
   refine qm rfl<|A0 (A8 rfl rfl) rfl<|A0 (A8 rfl rfl) rfl<|A0 (A8 rfl rfl) rfl<|A0 D5 rfl<|qm rfl<|F2 (C8 (ds:=(A7 (room_plan.mk 0 (Ar5.mk 0 0 0 0 0)))) rfl rfl rfl rfl (B9 rfl) rfl) rfl<|qm rfl<|es (ra4 rfl rfl rfl rfl)<|B8<|s0<|qm rfl<|A0 (G9 (v:=(.b true)) rfl rfl rfl) rfl<|es (ra5 rfl rfl rfl rfl rfl)<|K2 rfl rfl<|s0<|A0 (C0 rfl rfl rfl) rfl<|qm rfl<|F2 (C8 (ds:=(A7 (room_plan.mk 0 (Ar5.mk 0 0 0 0 0)))) rfl rfl rfl rfl (B9 rfl) rfl) rfl<|qm rfl<|qm rfl<|es (ra3 rfl rfl rfl)<|C4<|InlQ.mk trivial ⟨_,_,_,[(.lit (.pointer none)),(.agg (A7 (room_plan.mk 0 (Ar5.mk 0 0 0 0 0)))),.i 7],_,(A9 rfl (F7 (E7 (ds:=A7 (room_plan.mk 0 (Ar5.mk 0 0 0 0 0))) rfl rfl rfl rfl) (A9 rfl B6))),(A4 rfl (A4 (I7 rfl) (A4 rfl B5))),(P8 (A2 A5 (A2 (G6 rfl) (A2 A5 B1))) (D3 rfl (D3 rfl (D3 rfl I9))) (H6 _ _ _)),?_⟩
   refine qm rfl<|A0 (A8 rfl rfl) rfl<|A0 (A8 rfl rfl) rfl<|A0 (A8 rfl rfl) rfl<|A0 D5 rfl<|qm rfl<|F2 (C8 (ds:=(A7 (room_plan.mk 0 (Ar5.mk 0 0 0 0 0)))) rfl rfl rfl rfl (B9 rfl) rfl) rfl<|qm rfl<|es (ra3 rfl rfl rfl)<|B8<|s0<|qm rfl<|A0 (G9 (v:=(.b true)) rfl rfl rfl) rfl<|es (ra4 rfl rfl rfl rfl)<|K2 rfl rfl<|s0<|qm rfl<|qm rfl<|qm rfl<|es (ra2 rfl rfl)<|C4 ?_
   obtain rfl:=os h
   exact retq trivial (A9 rfl (A9 rfl B6)) (A4 rfl (A4 rfl B5)) (A2 A5 (A2 A5 B1))
  ·refine s0<|A0 (C5 rfl) rfl<|A0 (C3 rfl rfl rfl) rfl<|A0 (E0 (f:=cI) rfl) rfl<|A0 (C5 rfl) rfl<|A0 (C3 rfl rfl rfl) rfl<|A0 (E0 (f:=B2) rfl) rfl<|A0 (G2 rfl rfl) rfl<|qm rfl<|es (ra5 rfl rfl rfl rfl rfl)<|wi h rfl (fun hc6 h=>?_) fun hc6 h=>?_
   ·refine s0<|A0 (C0 rfl rfl rfl) rfl<|qm rfl<|F2 (C8 (ds:=(A7 (room_plan.mk 0 (Ar5.mk 0 0 0 0 0)))) rfl rfl rfl rfl (B9 rfl) rfl) rfl<|qm rfl<|es (ra3 rfl rfl rfl)<|C4<|InlQ.mk trivial ⟨_,_,_,[(.lit (.pointer none)),(.agg (A7 (room_plan.mk 0 (Ar5.mk 0 0 0 0 0)))),.i 3],_,(A9 rfl (F7 (E7 (ds:=A7 (room_plan.mk 0 (Ar5.mk 0 0 0 0 0))) rfl rfl rfl rfl) (A9 rfl B6))),(A4 rfl (A4 (I7 rfl) (A4 rfl B5))),(P8 (A2 A5 (A2 (G6 rfl) (A2 A5 B1))) (D3 rfl (D3 rfl (D3 rfl I9))) (H6 _ _ _)),?_⟩
    refine qm rfl<|A0 (A8 rfl rfl) rfl<|A0 (A8 rfl rfl) rfl<|A0 (A8 rfl rfl) rfl<|A0 D5 rfl<|qm rfl<|F2 (C8 (ds:=(A7 (room_plan.mk 0 (Ar5.mk 0 0 0 0 0)))) rfl rfl rfl rfl (B9 rfl) rfl) rfl<|qm rfl<|es (ra4 rfl rfl rfl rfl)<|B8<|s0<|qm rfl<|A0 (G9 (v:=(.b true)) rfl rfl rfl) rfl<|es (ra5 rfl rfl rfl rfl rfl)<|K2 rfl rfl<|s0<|A0 (C0 rfl rfl rfl) rfl<|qm rfl<|F2 (C8 (ds:=(A7 (room_plan.mk 0 (Ar5.mk 0 0 0 0 0)))) rfl rfl rfl rfl (B9 rfl) rfl) rfl<|qm rfl<|qm rfl<|es (ra3 rfl rfl rfl)<|C4<|InlQ.mk trivial ⟨_,_,_,[(.lit (.pointer none)),(.agg (A7 (room_plan.mk 0 (Ar5.mk 0 0 0 0 0)))),.i 3],_,(A9 rfl (F7 (E7 (ds:=A7 (room_plan.mk 0 (Ar5.mk 0 0 0 0 0))) rfl rfl rfl rfl) (A9 rfl B6))),(A4 rfl (A4 (I7 rfl) (A4 rfl B5))),(P8 (A2 A5 (A2 (G6 rfl) (A2 A5 B1))) (D3 rfl (D3 rfl (D3 rfl I9))) (H6 _ _ _)),?_⟩
    refine qm rfl<|A0 (A8 rfl rfl) rfl<|A0 (A8 rfl rfl) rfl<|A0 (A8 rfl rfl) rfl<|A0 D5 rfl<|qm rfl<|F2 (C8 (ds:=(A7 (room_plan.mk 0 (Ar5.mk 0 0 0 0 0)))) rfl rfl rfl rfl (B9 rfl) rfl) rfl<|qm rfl<|es (ra3 rfl rfl rfl)<|B8<|s0<|qm rfl<|A0 (G9 (v:=(.b true)) rfl rfl rfl) rfl<|es (ra4 rfl rfl rfl rfl)<|K2 rfl rfl<|s0<|qm rfl<|qm rfl<|qm rfl<|es (ra2 rfl rfl)<|C4 ?_
    obtain rfl:=os h
    exact retq trivial (A9 rfl (A9 rfl B6)) (A4 rfl (A4 rfl B5)) (A2 A5 (A2 A5 B1))
   ·refine s0<|oB h fun x7 hx7 h=>A0 (C5 rfl) rfl<|A0 (C3 rfl rfl rfl) rfl<|A0 (E0 (f:=C2) rfl) rfl<|A0 (W0 rfl rfl) rfl<|A0 (C5 rfl) rfl<|A0 (C3 rfl rfl rfl) rfl<|B3 (rs:=[.b x7]) rfl rfl (A1 rfl (A1 rfl (A1 rfl B7))) ((H8 hx7).frz)<|qm rfl<|es (ra4 rfl rfl rfl rfl)<|wi h rfl (fun hc8 h=>?_) fun hc8 h=>?_
    ·refine s0<|A0 (C0 rfl rfl rfl) rfl<|qm rfl<|F2 (C8 (ds:=(A7 (room_plan.mk 0 (Ar5.mk 0 0 0 0 0)))) rfl rfl rfl rfl (B9 rfl) rfl) rfl<|qm rfl<|es (ra3 rfl rfl rfl)<|C4<|InlQ.mk trivial ⟨_,_,_,[(.lit (.pointer none)),(.agg (A7 (room_plan.mk 0 (Ar5.mk 0 0 0 0 0)))),.i 4],_,(A9 rfl (F7 (E7 (ds:=A7 (room_plan.mk 0 (Ar5.mk 0 0 0 0 0))) rfl rfl rfl rfl) (A9 rfl B6))),(A4 rfl (A4 (I7 rfl) (A4 rfl B5))),(P8 (A2 A5 (A2 (G6 rfl) (A2 A5 B1))) (D3 rfl (D3 rfl (D3 rfl I9))) (H6 _ _ _)),?_⟩
     refine qm rfl<|A0 (A8 rfl rfl) rfl<|A0 (A8 rfl rfl) rfl<|A0 (A8 rfl rfl) rfl<|A0 D5 rfl<|qm rfl<|F2 (C8 (ds:=(A7 (room_plan.mk 0 (Ar5.mk 0 0 0 0 0)))) rfl rfl rfl rfl (B9 rfl) rfl) rfl<|qm rfl<|es (ra4 rfl rfl rfl rfl)<|B8<|s0<|qm rfl<|A0 (G9 (v:=(.b true)) rfl rfl rfl) rfl<|es (ra5 rfl rfl rfl rfl rfl)<|K2 rfl rfl<|s0<|A0 (C0 rfl rfl rfl) rfl<|qm rfl<|F2 (C8 (ds:=(A7 (room_plan.mk 0 (Ar5.mk 0 0 0 0 0)))) rfl rfl rfl rfl (B9 rfl) rfl) rfl<|qm rfl<|qm rfl<|es (ra3 rfl rfl rfl)<|C4<|InlQ.mk trivial ⟨_,_,_,[(.lit (.pointer none)),(.agg (A7 (room_plan.mk 0 (Ar5.mk 0 0 0 0 0)))),.i 4],_,(A9 rfl (F7 (E7 (ds:=A7 (room_plan.mk 0 (Ar5.mk 0 0 0 0 0))) rfl rfl rfl rfl) (A9 rfl B6))),(A4 rfl (A4 (I7 rfl) (A4 rfl B5))),(P8 (A2 A5 (A2 (G6 rfl) (A2 A5 B1))) (D3 rfl (D3 rfl (D3 rfl I9))) (H6 _ _ _)),?_⟩
     refine qm rfl<|A0 (A8 rfl rfl) rfl<|A0 (A8 rfl rfl) rfl<|A0 (A8 rfl rfl) rfl<|A0 D5 rfl<|qm rfl<|F2 (C8 (ds:=(A7 (room_plan.mk 0 (Ar5.mk 0 0 0 0 0)))) rfl rfl rfl rfl (B9 rfl) rfl) rfl<|qm rfl<|es (ra3 rfl rfl rfl)<|B8<|s0<|qm rfl<|A0 (G9 (v:=(.b true)) rfl rfl rfl) rfl<|es (ra4 rfl rfl rfl rfl)<|K2 rfl rfl<|s0<|qm rfl<|qm rfl<|qm rfl<|es (ra2 rfl rfl)<|C4 ?_
     obtain rfl:=os h
     exact retq trivial (A9 rfl (A9 rfl B6)) (A4 rfl (A4 rfl B5)) (A2 A5 (A2 A5 B1))
    ·refine C1<|s0<|A0 (C5 rfl) rfl<|A0 (C3 rfl rfl rfl) rfl<|A0 (C5 rfl) rfl<|F2 (C8 (ds:=(A7 (room_plan.mk a1.Lit (Ar5.mk 0 0 0 0 0)))) rfl rfl rfl rfl (B9 rfl) rfl) rfl<|es (ra3 rfl rfl rfl)<|B8<|s0<|A0 (C5 rfl) rfl<|A0 (C3 rfl rfl rfl) rfl<|A0 (E0 (f:=cI) rfl) rfl<|qm rfl<|es (ra6 rfl rfl rfl rfl rfl rfl)<|C7<|oB h fun o19 ho19 h=>wl (fun s9=>[(3,(.ptr (H.length + 8) 0)),(4,(.ptr (H.length + 11) 0)),(5,(.ptr (H.length + 9) 0)),(51,(.seq 1 (List.map cI a1.At))),(52,(.i (List.length a1.At:Int))),(53,.i s9.1)]) (fun (q10:Unit) s9=>[(.cells (A3 a0)),(.cells (B4 a1)),.dead,(.cells (A3 a0)),(.cells (B4 a1)),(.cells (A7 (room_plan.mk 0 (Ar5.mk 0 0 0 0 0)))),.dead,(.cells (A3 a0)),(.cells (B4 a1)),(.cells (A7 s9.2)),(.cells (A3 a0)),(.cells [.i a0.Weather.Lo,.i a0.Weather.Hi,.i a0.Stoves,(.seq 1 (List.map cI a0.Holds)),(.seq 4 (List.map C2 a0.Places)),(.seq 6 (List.map B2 a0.Figures)),(.seq 1 (List.map cI a0.Bill)),(.xseq 2 [[.b false,(.fn (.func 112) [] [])],[.b true,(.fn (.func 113) [] [])]])])]) 12 (fun r e s' H'=>(match r with | (.inl v)=>PX 1 [(4,(.ptr (H.length + 11) 0)),(5,(.ptr (H.length + 9) 0))] (H++[(.cells (A3 a0)),(.cells (B4 a1)),.dead,(.cells (A3 a0)),(.cells (B4 a1)),(.cells (A7 (room_plan.mk 0 (Ar5.mk 0 0 0 0 0)))),.dead,(.cells (A3 a0)),(.cells (B4 a1)),(.cells (A7 v)),(.cells (A3 a0)),(.cells [.i a0.Weather.Lo,.i a0.Weather.Hi,.i a0.Stoves,(.seq 1 (List.map cI a0.Holds)),(.seq 4 (List.map C2 a0.Places)),(.seq 6 (List.map B2 a0.Figures)),(.seq 1 (List.map cI a0.Bill)),(.xseq 2 [[.b false,(.fn (.func 112) [] [])],[.b true,(.fn (.func 113) [] [])]])])]) e s' H' | (.inr v)=>e = .ret∧s' = [(4,(.lit (.pointer none))),(5,(.ptr (H.length + 9) 0)),(6,.i 5)]∧H' = (H++[(.cells (A3 a0)),(.cells (B4 a1)),.dead,(.cells (A3 a0)),(.cells (B4 a1)),(.cells (A7 (room_plan.mk 0 (Ar5.mk 0 0 0 0 0)))),.dead,(.cells (A3 a0)),(.cells (B4 a1)),(.cells (A7 (room_plan.mk 0 (Ar5.mk 0 0 0 0 0)))),(.cells (A3 a0)),(.cells [.i a0.Weather.Lo,.i a0.Weather.Hi,.i a0.Stoves,(.seq 1 (List.map cI a0.Holds)),(.seq 4 (List.map C2 a0.Places)),(.seq 6 (List.map B2 a0.Figures)),(.seq 1 (List.map cI a0.Bill)),(.xseq 2 [[.b false,(.fn (.func 112) [] [])],[.b true,(.fn (.func 113) [] [])]])])]):Prop)) () ho19 rfl rfl (fun _ _=>rfl) (fun _=>rfl) rfl (fun s9=>(bdc (D8 rfl) (bdc (D8 rfl) (bdc (D8 rfl) (bdc L3 (bdc A5 (bdc A5 bdn))))))) (fun q10 s9 ys9 hs9=>?_) ?_
     ·unfold B16 at hs9
      refine s0<|A0 (G1 rfl rfl) rfl<|es (ra7 rfl rfl rfl rfl rfl rfl rfl)<|B8<|wi hs9 rfl (fun hc11 hs9=>?_) fun hc11 hs9=>?_
      ·refine C1<|B8<|C7<|s0<|oB hs9 fun x12 hx12 hs9=>qm rfl<|A0 (F0 (f:=cI) rfl rfl hx12) rfl<|A0 (F3 rfl rfl) rfl<|qm rfl<|qm rfl<|es (ra8 rfl rfl rfl rfl rfl rfl rfl rfl)<|B8<|s0<|oB hs9 fun x16 hx16 hs9=>qm rfl<|A0 (G2 rfl rfl) rfl<|qm rfl<|gp 7 67 (.b x16) 60 rfl rfl (fun hg13=>?_) (fun hg13=>?_) ?_
       ·refine oB (bt hx16 hg13) fun x14 hx14 hx16=>oB hx16 fun x15 hx15 hx16=>?_
        obtain rfl:=os hx16
        exact gT rfl hg13<|A0 (C5 rfl) rfl<|gT rfl hg13<|A0 (C3 rfl rfl rfl) rfl<|gT rfl hg13<|qm rfl<|gT rfl hg13<|A0 (A8d (f:=cI) rfl rfl rfl hx14) rfl<|gT rfl hg13<|qm rfl<|gT rfl hg13<|B3 (rs:=[.b x15]) rfl rfl (A1 rfl (A1 rfl B7)) ((W9 hx15).frz)<|A0 (C9 rfl hg13 rfl) rfl<|ge 7 rfl rfl rfl
       ·obtain rfl:=os (bf hx16 hg13)
        exact nT rfl hg13 rfl<|nT rfl hg13 rfl<|nT rfl hg13 rfl<|nT rfl hg13 rfl<|nT rfl hg13 rfl<|G7 (E2 rfl (by rw [hg13]; rfl)) rfl<|A0 (D0 rfl hg13 rfl) rfl<|ge 7 rfl rfl rfl
       refine es (ra9 rfl rfl rfl rfl rfl rfl rfl rfl rfl)<|wi hs9 rfl (fun hc17 hs9=>?_) fun hc17 hs9=>?_
       ·refine s0<|A0 (F9 (cs:=A7 (room_plan.mk 0 (Ar5.mk 0 0 0 0 0))) rfl rfl) rfl<|qm rfl<|F2 (C8 (ds:=(A7 (room_plan.mk 0 (Ar5.mk 0 0 0 0 0)))) rfl rfl rfl rfl (B9 rfl) rfl) rfl<|qm rfl<|es (ra3 rfl rfl rfl)<|C4 ?_
        obtain rfl:=os hs9
        exact lx rfl (And.intro rfl (And.intro rfl rfl)) (su3 rfl rfl rfl)
       ·refine C1<|r0<|oB hs9 fun x18 hx18 hs9=>qm rfl<|qm rfl<|A0 (E3 rfl rfl) rfl<|A0 (C5 rfl) rfl<|A0 (A2s (e:=Ar5.l s9.2.at_) rfl rfl rfl hx18) rfl<|F2 (A8e (f:=cI) (e:=Ar5.l s9.2.at_) (e2:=Ar5.l (Ar5.set s9.2.at_ s9.1 (w64 (x12 + 1)))) (z:=(w64 (x12 + 1))) (ds:=(A7 (room_plan.mk s9.2.lit_ (Ar5.set s9.2.at_ s9.1 (w64 (x12 + 1)))))) rfl rfl rfl rfl rfl rfl (fun _=>rfl) hx18 (Ar5.set_l hx18) rfl (B9 rfl)) rfl<|en (ra6 rfl rfl rfl rfl rfl rfl)<|r0<|A0 (E3 rfl rfl) rfl<|qm rfl<|en (ra6 rfl rfl rfl rfl rfl rfl) ?_
        cases hs9
        exact lnT () rfl (su6 rfl rfl rfl rfl rfl rfl)
      ·refine F1 ?_
       obtain rfl:=os hs9
       exact lx rfl px (su2 rfl rfl)
     ·rcases o19 with vo19_0 | vo19_1
      ·rintro e s' H' - ⟨rfl,rfl,rfl⟩
       refine s0<|qm rfl<|A0 (C0 rfl rfl rfl) rfl<|qm rfl<|F2 (C8 (ds:=(A7 vo19_0)) rfl rfl rfl rfl (B9 rfl) rfl) rfl<|qm rfl<|es (ra3 rfl rfl rfl)<|C4<|InlQ.mk trivial ⟨_,_,_,[(.ptr (H.length + 11) 0),(.agg (A7 vo19_0)),.i 0],_,(A9 rfl (F7 (E7 (ds:=A7 vo19_0) rfl rfl rfl rfl) (A9 rfl B6))),(A4 rfl (A4 (I7 rfl) (A4 rfl B5))),(V3 (M7 (V1 rfl)) (D3 rfl (D3 rfl (D3 rfl I9)))),?_⟩
       refine qm rfl<|A0 (A8 rfl rfl) rfl<|A0 (A8 rfl rfl) rfl<|A0 (A8 rfl rfl) rfl<|A0 D5 rfl<|qm rfl<|F2 (C8 (ds:=(A7 vo19_0)) rfl rfl rfl rfl (B9 rfl) rfl) rfl<|qm rfl<|es (ra4 rfl rfl rfl rfl)<|B8<|s0<|qm rfl<|A0 (G9 (v:=(.b false)) rfl rfl rfl) rfl<|es (ra5 rfl rfl rfl rfl rfl)<|A1x rfl rfl<|C1<|B8<|s0<|A0 (C5 rfl) rfl<|A0 (E7 (ds:=(M4 cI) vo19_0.at_) rfl rfl rfl rfl) rfl<|qm rfl<|es (ra5 rfl rfl rfl rfl rfl)<|C7<|oB h fun o28 ho28 h=>wl (fun s20=>[(5,(.ptr (H.length + 5) 0)),(7,(.ptr (H.length + 11) 0)),(8,(.ptr (H.length + 6) 0)),(24,(.agg ((M4 cI) vo19_0.at_))),(25,.i s20)]) (fun (q21:Unit) s20=>[(.cells (A3 a0)),(.cells (B4 a1)),.dead,(.cells (A3 a0)),(.cells (B4 a1)),(.cells (A7 (room_plan.mk 0 (Ar5.mk 0 0 0 0 0)))),(.cells (A7 vo19_0)),(.cells (A3 a0)),(.cells (B4 a1)),(.cells (A7 vo19_0)),(.cells (A3 a0)),(.cells [.i a0.Weather.Lo,.i a0.Weather.Hi,.i a0.Stoves,(.seq 1 (List.map cI a0.Holds)),(.seq 4 (List.map C2 a0.Places)),(.seq 6 (List.map B2 a0.Figures)),(.seq 1 (List.map cI a0.Bill)),(.xseq 2 [[.b false,(.fn (.func 112) [] [])],[.b true,(.fn (.func 113) [] [])]])])]) 12 (fun r e s' H'=>(match r with | (.inl v)=>PX 0 [(5,(.ptr (H.length + 5) 0)),(7,(.ptr (H.length + 11) 0)),(8,(.ptr (H.length + 6) 0))] (H++[(.cells (A3 a0)),(.cells (B4 a1)),.dead,(.cells (A3 a0)),(.cells (B4 a1)),(.cells (A7 (room_plan.mk 0 (Ar5.mk 0 0 0 0 0)))),(.cells (A7 vo19_0)),(.cells (A3 a0)),(.cells (B4 a1)),(.cells (A7 vo19_0)),(.cells (A3 a0)),(.cells [.i a0.Weather.Lo,.i a0.Weather.Hi,.i a0.Stoves,(.seq 1 (List.map cI a0.Holds)),(.seq 4 (List.map C2 a0.Places)),(.seq 6 (List.map B2 a0.Figures)),(.seq 1 (List.map cI a0.Bill)),(.xseq 2 [[.b false,(.fn (.func 112) [] [])],[.b true,(.fn (.func 113) [] [])]])])]) e s' H' | (.inr v)=>e = .ret∧s' = [(4,(.lit (.pointer none))),(5,(.ptr (H.length + 5) 0)),(6,.i 9)]∧H' = (H++[(.cells (A3 a0)),(.cells (B4 a1)),.dead,(.cells (A3 a0)),(.cells (B4 a1)),(.cells (A7 vo19_0)),(.cells (A7 vo19_0)),(.cells (A3 a0)),(.cells (B4 a1)),(.cells (A7 vo19_0)),(.cells (A3 a0)),(.cells [.i a0.Weather.Lo,.i a0.Weather.Hi,.i a0.Stoves,(.seq 1 (List.map cI a0.Holds)),(.seq 4 (List.map C2 a0.Places)),(.seq 6 (List.map B2 a0.Figures)),(.seq 1 (List.map cI a0.Bill)),(.xseq 2 [[.b false,(.fn (.func 112) [] [])],[.b true,(.fn (.func 113) [] [])]])])]):Prop)) () ho28 rfl rfl (fun _ _=>rfl) (fun _=>rfl) rfl (fun s20=>(bdc (D8 rfl) (bdc (D8 rfl) (bdc (D8 rfl) (bdc (G6 rfl) (bdc A5 bdn)))))) (fun q21 s20 ys20 hs20=>?_) ?_
       ·unfold A0e at hs20
        refine s0<|A0 (G1 rfl rfl) rfl<|es (ra6 rfl rfl rfl rfl rfl rfl)<|B8<|wi hs20 rfl (fun hc22 hs20=>?_) fun hc22 hs20=>?_
        ·refine C1<|B8<|C7<|s0<|oB hs20 fun x23 hx23 hs20=>qm rfl<|A0 (A5d (f:=cI) (g:=fun n=>(.i n)) (e:=Ar5.l vo19_0.at_) (fun _=>rfl) rfl rfl rfl rfl hx23) rfl<|qm rfl<|qm rfl<|es (ra7 rfl rfl rfl rfl rfl rfl rfl)<|s0<|oB hs20 fun x26 hx26 hs20=>qm rfl<|A0 (A1f rfl rfl) rfl<|qm rfl<|gp 9 40 (.b x26) 31 rfl rfl (fun hg24=>?_) (fun hg24=>?_) ?_
         ·refine oB (bt hx26 hg24) fun x25 hx25 hx26=>?_
          obtain rfl:=os hx26
          exact gT rfl hg24<|qm rfl<|gT rfl hg24<|qm rfl<|gT rfl hg24<|qm rfl<|gT rfl hg24<|A0 (W0 rfl rfl) rfl<|gT rfl hg24<|A0 (C5 rfl) rfl<|gT rfl hg24<|A0 (C3 rfl rfl rfl) rfl<|gT rfl hg24<|B3 (rs:=[.i x25]) rfl rfl (A1 rfl (A1 rfl (A1 rfl (A1 rfl B7)))) ((W8 (D7 rfl) hx25).frz)<|gT rfl hg24<|A0 (G2 rfl rfl) rfl<|A0 (C9 rfl hg24 rfl) rfl<|ge 9 rfl rfl rfl
         ·obtain rfl:=os (bf hx26 hg24)
          exact nT rfl hg24 rfl<|nT rfl hg24 rfl<|nT rfl hg24 rfl<|nT rfl hg24 rfl<|nT rfl hg24 rfl<|nT rfl hg24 rfl<|G7 (E2 rfl (by rw [hg24]; rfl)) rfl<|nT rfl hg24 rfl<|A0 (D0 rfl hg24 rfl) rfl<|ge 9 rfl rfl rfl
         refine es (ra6 rfl rfl rfl rfl rfl rfl)<|wi hs20 rfl (fun hc27 hs20=>?_) fun hc27 hs20=>?_
         ·refine s0<|A0 (C0 rfl rfl rfl) rfl<|qm rfl<|F2 (C8 (ds:=(A7 vo19_0)) rfl rfl rfl rfl (B9 rfl) rfl) rfl<|qm rfl<|es (ra3 rfl rfl rfl)<|C4 ?_
          obtain rfl:=os hs20
          exact lx rfl (And.intro rfl (And.intro rfl rfl)) (su3 rfl rfl rfl)
         ·refine C1<|r0<|A0 (E3 rfl rfl) rfl<|qm rfl<|en (ra5 rfl rfl rfl rfl rfl) ?_
          cases hs20
          exact lnT () rfl (su5 rfl rfl rfl rfl rfl)
        ·refine F1 ?_
         obtain rfl:=os hs20
         exact lx rfl px (su3 rfl rfl rfl)
       ·rcases o28 with vo28_0 | vo28_1
        ·rintro e s' H' - ⟨rfl,rfl,rfl⟩
         refine B8<|s0<|oB h fun x29 hx29 h=>qm rfl<|A0 (C5 rfl) rfl<|A0 (E7 (ds:=(M4 cI) vo19_0.at_) rfl rfl rfl rfl) rfl<|B3 (rs:=[.b x29]) rfl rfl (A1 rfl (A1 (D1 rfl) (A1 rfl B7))) ((S8 (D7 rfl) hx29).frz)<|A0 (P9 rfl) rfl<|es (ra4 rfl rfl rfl rfl)<|wi h rfl (fun hc30 h=>?_) fun hc30 h=>?_
         ·refine s0<|A0 (C0 rfl rfl rfl) rfl<|qm rfl<|F2 (C8 (ds:=(A7 vo19_0)) rfl rfl rfl rfl (B9 rfl) rfl) rfl<|qm rfl<|es (ra3 rfl rfl rfl)<|C4<|InlQ.mk trivial ⟨_,_,_,[(.lit (.pointer none)),(.agg (A7 vo19_0)),.i 9],_,(A9 rfl (F7 (E7 (ds:=A7 vo19_0) rfl rfl rfl rfl) (A9 rfl B6))),(A4 rfl (A4 (I7 rfl) (A4 rfl B5))),(P8 (A2 A5 (A2 (G6 rfl) (A2 A5 B1))) (D3 rfl (D3 rfl (D3 rfl I9))) (H6 _ _ _)),?_⟩
          refine qm rfl<|A0 (A8 rfl rfl) rfl<|A0 (A8 rfl rfl) rfl<|A0 (A8 rfl rfl) rfl<|A0 D5 rfl<|qm rfl<|F2 (C8 (ds:=(A7 vo19_0)) rfl rfl rfl rfl (B9 rfl) rfl) rfl<|qm rfl<|es (ra3 rfl rfl rfl)<|B8<|s0<|qm rfl<|A0 (G9 (v:=(.b true)) rfl rfl rfl) rfl<|es (ra4 rfl rfl rfl rfl)<|K2 rfl rfl<|s0<|qm rfl<|qm rfl<|qm rfl<|es (ra2 rfl rfl)<|C4 ?_
          obtain rfl:=os h
          exact retq trivial (A9 rfl (A9 rfl B6)) (A4 rfl (A4 rfl B5)) (A2 A5 (A2 A5 B1))
         ·refine C1<|s0<|qm rfl<|A0 (C0 rfl rfl rfl) rfl<|qm rfl<|F2 (C8 (ds:=(A7 vo19_0)) rfl rfl rfl rfl (B9 rfl) rfl) rfl<|qm rfl<|es (ra3 rfl rfl rfl)<|C4<|InlQ.mk trivial ⟨_,_,_,[(.ptr (H.length + 11) 0),(.agg (A7 vo19_0)),.i 0],_,(A9 rfl (F7 (E7 (ds:=A7 vo19_0) rfl rfl rfl rfl) (A9 rfl B6))),(A4 rfl (A4 (I7 rfl) (A4 rfl B5))),(V3 (M7 (V1 rfl)) (D3 rfl (D3 rfl (D3 rfl I9)))),?_⟩
          refine qm rfl<|A0 (A8 rfl rfl) rfl<|A0 (A8 rfl rfl) rfl<|A0 (A8 rfl rfl) rfl<|A0 D5 rfl<|qm rfl<|F2 (C8 (ds:=(A7 vo19_0)) rfl rfl rfl rfl (B9 rfl) rfl) rfl<|qm rfl<|es (ra3 rfl rfl rfl)<|B8<|s0<|qm rfl<|A0 (G9 (v:=(.b false)) rfl rfl rfl) rfl<|es (ra4 rfl rfl rfl rfl)<|A1x rfl rfl<|C1<|s0<|oB h fun x31 hx31 h=>qm rfl<|A0 (C5 rfl) rfl<|A0 (E7 (ds:=(M4 cI) vo19_0.at_) rfl rfl rfl rfl) rfl<|B3 (rs:=[.i x31]) rfl rfl (A1 rfl (A1 (D1 rfl) B7)) ((A5u (D7 rfl) hx31).frz)<|qm rfl<|qm rfl<|es (ra2 rfl rfl)<|C4 ?_
          obtain rfl:=os h
          exact retq trivial (A9 rfl (A9 rfl B6)) (A4 rfl (A4 rfl B5)) (A2 A5 (A2 A5 B1))
        ·rintro e s' H' - ⟨rfl,rfl,rfl⟩
         refine InlQ.mk trivial ⟨_,_,_,[(.lit (.pointer none)),(.agg (A7 vo19_0)),.i 9],_,(A9 rfl (F7 (E7 (ds:=A7 vo19_0) rfl rfl rfl rfl) (A9 rfl B6))),(A4 rfl (A4 (I7 rfl) (A4 rfl B5))),(P8 (A2 A5 (A2 (G6 rfl) (A2 A5 B1))) (D3 rfl (D3 rfl (D3 rfl I9))) (H6 _ _ _)),?_⟩
         refine qm rfl<|A0 (A8 rfl rfl) rfl<|A0 (A8 rfl rfl) rfl<|A0 (A8 rfl rfl) rfl<|A0 D5 rfl<|qm rfl<|F2 (C8 (ds:=(A7 vo19_0)) rfl rfl rfl rfl (B9 rfl) rfl) rfl<|qm rfl<|es (ra3 rfl rfl rfl)<|B8<|s0<|qm rfl<|A0 (G9 (v:=(.b true)) rfl rfl rfl) rfl<|es (ra4 rfl rfl rfl rfl)<|K2 rfl rfl<|s0<|qm rfl<|qm rfl<|qm rfl<|es (ra2 rfl rfl)<|C4 ?_
         obtain rfl:=os h
         exact retq trivial (A9 rfl (A9 rfl B6)) (A4 rfl (A4 rfl B5)) (A2 A5 (A2 A5 B1))
      ·rintro e s' H' - ⟨rfl,rfl,rfl⟩
       refine InlQ.mk trivial ⟨_,_,_,[(.lit (.pointer none)),(.agg (A7 (room_plan.mk 0 (Ar5.mk 0 0 0 0 0)))),.i 5],_,(A9 rfl (F7 (E7 (ds:=A7 (room_plan.mk 0 (Ar5.mk 0 0 0 0 0))) rfl rfl rfl rfl) (A9 rfl B6))),(A4 rfl (A4 (I7 rfl) (A4 rfl B5))),(P8 (A2 A5 (A2 (G6 rfl) (A2 A5 B1))) (D3 rfl (D3 rfl (D3 rfl I9))) (H6 _ _ _)),?_⟩
       refine qm rfl<|A0 (A8 rfl rfl) rfl<|A0 (A8 rfl rfl) rfl<|A0 (A8 rfl rfl) rfl<|A0 D5 rfl<|qm rfl<|F2 (C8 (ds:=(A7 (room_plan.mk 0 (Ar5.mk 0 0 0 0 0)))) rfl rfl rfl rfl (B9 rfl) rfl) rfl<|qm rfl<|es (ra4 rfl rfl rfl rfl)<|B8<|s0<|qm rfl<|A0 (G9 (v:=(.b true)) rfl rfl rfl) rfl<|es (ra5 rfl rfl rfl rfl rfl)<|K2 rfl rfl<|s0<|A0 (C0 rfl rfl rfl) rfl<|qm rfl<|F2 (C8 (ds:=(A7 (room_plan.mk 0 (Ar5.mk 0 0 0 0 0)))) rfl rfl rfl rfl (B9 rfl) rfl) rfl<|qm rfl<|qm rfl<|es (ra3 rfl rfl rfl)<|C4<|InlQ.mk trivial ⟨_,_,_,[(.lit (.pointer none)),(.agg (A7 (room_plan.mk 0 (Ar5.mk 0 0 0 0 0)))),.i 5],_,(A9 rfl (F7 (E7 (ds:=A7 (room_plan.mk 0 (Ar5.mk 0 0 0 0 0))) rfl rfl rfl rfl) (A9 rfl B6))),(A4 rfl (A4 (I7 rfl) (A4 rfl B5))),(P8 (A2 A5 (A2 (G6 rfl) (A2 A5 B1))) (D3 rfl (D3 rfl (D3 rfl I9))) (H6 _ _ _)),?_⟩
       refine qm rfl<|A0 (A8 rfl rfl) rfl<|A0 (A8 rfl rfl) rfl<|A0 (A8 rfl rfl) rfl<|A0 D5 rfl<|qm rfl<|F2 (C8 (ds:=(A7 (room_plan.mk 0 (Ar5.mk 0 0 0 0 0)))) rfl rfl rfl rfl (B9 rfl) rfl) rfl<|qm rfl<|es (ra3 rfl rfl rfl)<|B8<|s0<|qm rfl<|A0 (G9 (v:=(.b true)) rfl rfl rfl) rfl<|es (ra4 rfl rfl rfl rfl)<|K2 rfl rfl<|s0<|qm rfl<|qm rfl<|qm rfl<|es (ra2 rfl rfl)<|C4 ?_
       obtain rfl:=os h
       exact retq trivial (A9 rfl (A9 rfl B6)) (A4 rfl (A4 rfl B5)) (A2 A5 (A2 A5 B1))
def A4m  (x2:room_plan) (s3:Unit):Option (Unit ⊕ Unit) :=
 some (.inr ())
def A6u (a0:room_house):Option Bool :=
 (B34 a0 Unit Unit A4m ()).bind fun (o4:(Unit ⊕ Unit)) =>
 match o4 with
 | (.inl vo4_5) =>
  some false
 | (.inr vo4_6) =>
  some true
theorem B31 {c:Sc} {H:A6} (hscv:Z2 c H = true) (hcl:clH H.length H = true) {a0:room_house} {b0:Nat} (hb0:hcells H b0 = some [.i a0.RoHouse.Weather.Lo,.i a0.RoHouse.Weather.Hi,.i a0.RoHouse.Stoves,(.seq 1 (List.map cI a0.RoHouse.Holds)),(.seq 4 (List.map C2 a0.RoHouse.Places)),(.seq 6 (List.map B2 a0.RoHouse.Figures)),(.seq 1 (List.map cI a0.RoHouse.Bill)),(.xseq 2 [[.b false,(.fn (.func 112) [] [])],[.b true,(.fn (.func 113) [] [])]])]) {r:Bool} (h:A6u a0 = some r) :
  E6 tab c H (.fn (.func 97) [] []) [.ptr b0 0] [.b r]:= by
 unfold A6u at h
 refine cE rfl rfl<|sg 0 rfl<|A0 D5 rfl<|es (ra2 rfl rfl)<|B8<|s0<|qm rfl<|O4 (as2:=[.ptr b0 0]) (H1:=(H++[(.cells (cB false))])) rfl rfl (A1 rfl B7) rfl rfl rfl (T9 rfl)<|sg 1 rfl<|A0 (E9 (cs:=[.ptr b0 0]) rfl rfl rfl) rfl<|qm rfl<|es (ra1 rfl)<|s0<|A0 (A5o rfl rfl) rfl<|qm rfl<|es (ra1 rfl)<|C4<|InlQ.mk trivial ⟨_,_,_,[(.fn (.func 116) [] [(.ptr (H.length + 1) 0)])],_,(A9 rfl B6),(A4 rfl B5),(V3 (M7 (B7k (M7 (V1 rfl)))) (D3 rfl I9)),?_⟩
 refine es (ra2 rfl rfl)<|C7<|oB h fun o4 ho4 h=>?_
 have hb0_lt:=A2k hb0
 refine C29 (σ:=Unit) (ρ:=Unit) (k:=2) (ea:=(fun (x2:room_plan)=>(.agg (A7 x2)))) (body:=A4m) (pre:=fun H1=>hcells H1 (H.length + 1) = some [.ptr b0 0]∧hcells H1 b0 = some (B5a a0)) (B8z (t:=a0) (b1:=H.length + 1) (bt:=b0)) B1b [(2,(.ptr (H.length + 0) 0))] (fun s3=>[(.cells (cB false)),(.cells [.ptr b0 0])]) (fun (vo4_6:Unit)=>[(.cells (cB true)),(.cells [.ptr b0 0])]) (fun _=>.ret) ho4 (fun _=>rfl) rfl (fun S hS=>P0 (live:=[2]) rfl (by decide) (Sub.trans (su1 rfl) hS)) rfl (fun _=>rfl) (fun _=>rfl) hcl (by rw [Bool.and_eq_true,Bool.and_eq_true]; exact ⟨⟨by kernel_rfl,by kernel_rfl⟩,(by simp [clH,clS,AO.cl,AV.cl,clL,clM,clR,A2g,A8w,A93,A34,M4,cI,cB,cS,J0,freeL,AV.free,freeR,Nat.blt,Q4,A29,J3,U4,I3,R2,K0,U3,N5,Y2,J5,O8,A1h,A3a] <;> omega)⟩) (fun _=>(by simp [clH,clS,AO.cl,AV.cl,clL,clM,clR,A2g,A8w,A93,A34,M4,cI,cB,cS,J0,freeL,AV.free,freeR,Nat.blt,Q4,A29,J3,U4,I3,R2,K0,U3,N5,Y2,J5,O8,A1h,A3a] <;> omega)) (fun _=>(by simp [clH,clS,AO.cl,AV.cl,clL,clM,clR,A2g,A8w,A93,A34,M4,cI,cB,cS,J0,freeL,AV.free,freeR,Nat.blt,Q4,A29,J3,U4,I3,R2,K0,U3,N5,Y2,J5,O8,A1h,A3a] <;> omega)) (fun _=>(by simp [clH,clS,AO.cl,AV.cl,clL,clM,clR,A2g,A8w,A93,A34,M4,cI,cB,cS,J0,freeL,AV.free,freeR,Nat.blt,Q4,A29,J3,U4,I3,R2,K0,U3,N5,Y2,J5,O8,A1h,A3a] <;> omega)) ⟨fun _ _=>(And.intro (D7 rfl) (M3 hb0 _)),fun _ _=>(And.intro (D7 rfl) (M3 hb0 _))⟩ (A6v hscv) (fun c x2 s3 o hs3 y0_2 y1_2=>?_) ?_
 ·unfold A4m at hs3
  refine C1<|⟨_,rfl,rfl,rfl,?_⟩
  refine C7<|s0<|F2 (C8 (ds:=(cB true)) rfl rfl rfl rfl (B9 rfl) rfl) rfl<|es .n<|C4 ?_
  cases hs3
  exact ⟨_,rfl,rfl,rfl⟩
 ·rcases o4 with vo4_5 | vo4_6
  ·refine s0<|F2 (C8 (ds:=(cB false)) rfl rfl rfl rfl (B9 rfl) rfl) rfl<|es (ra1 rfl)<|C4 ?_
   obtain rfl:=os h
   exact retq trivial (F7 (C3 (x:=(.b false)) rfl rfl rfl) B6) (A4 rfl B5) (A2 A5 B1)
  ·obtain rfl:=os h
   exact retq trivial (F7 (C3 (x:=(.b true)) rfl rfl rfl) B6) (A4 rfl B5) (A2 A5 B1)
def X9 (a0:Int):Option Int :=
 if (a0 == 0) = true then
  some 64
 else
  (B2w .u64 (IntKind.u64.wrap ((N4 .u64 a0 (IntKind.u64.wrap (0 - a0))) * 285870213051353865)) 58).bind fun x2 =>
  (idx gl1 x2).bind fun x3 =>
  some (w64 x3)
theorem A5q {c:Sc} {H:A6} {a0:Int} {r:Int} (h:X9 a0 = some r) :
  E6 tab c H (.fn (.func 126) [] []) [(.lit (.int .u64 a0))] [.i r]:= by
 unfold X9 at h
 refine cE rfl rfl<|s0<|qm rfl<|es (ra1 rfl)<|B8<|s0<|qm rfl<|A0 (F4 rfl rfl) rfl<|es (ra2 rfl rfl)<|wi h rfl (fun hc1 h=>?_) fun hc1 h=>?_
 ·refine s0<|qm rfl<|es (ra1 rfl)<|C4 ?_
  obtain rfl:=os h
  exact retq trivial (A9 rfl B6) (A4 rfl B5) (A2 A5 B1)
 ·refine C1<|s0<|oB h fun x2 hx2 h=>oB h fun x3 hx3 h=>qm rfl<|qm rfl<|A0 (D2r rfl rfl) rfl<|A0 (G9 (v:=(.lit (.int .u64 (N4 .u64 a0 (IntKind.u64.wrap (0 - a0)))))) rfl rfl rfl) rfl<|A0 (G9 (v:=(.lit (.int .u64 (IntKind.u64.wrap ((N4 .u64 a0 (IntKind.u64.wrap (0 - a0))) * 285870213051353865))))) rfl rfl rfl) rfl<|A0 (A9t rfl rfl hx2) rfl<|A0 (D2j (e:=gl1) (g:=fun n=>(.lit (.int .u8 n))) rfl rfl rfl hx3) rfl<|A0 (D0r (g:=fun n=>(.lit (.int .u8 n))) rfl hx3) rfl<|A0 (A7u rfl) rfl<|qm rfl<|es (ra1 rfl)<|C4 ?_
  obtain rfl:=os h
  exact retq trivial (A9 rfl B6) (A4 rfl B5) (A2 A5 B1)
def A0m (a0:Int):Option Int :=
 (X9 a0).bind fun x1 =>
 some x1
theorem A6k {c:Sc} {H:A6} {a0:Int} {r:Int} (h:A0m a0 = some r) :
  E6 tab c H (.fn (.func 118) [] []) [(.lit (.int .u64 a0))] [.i r]:= by
 unfold A0m at h
 refine cE rfl rfl<|s0<|qm rfl<|es (ra1 rfl)<|B8<|A1x rfl rfl<|C1<|s0<|oB h fun x1 hx1 h=>qm rfl<|B3 (rs:=[.i x1]) rfl rfl (A1 rfl B7) ((A5q hx1).frz)<|qm rfl<|es (ra1 rfl)<|C4 ?_
 obtain rfl:=os h
 exact retq trivial (A9 rfl B6) (A4 rfl B5) (A2 A5 B1)
def B4h  (s1:(Int × (List Int))):Option ((Int × (List Int)) ⊕ (List Int)) :=
 if (s1.1 != 0) = true then
  (A0m (IntKind.u64.wrap s1.1)).bind fun x4 =>
  (app 8 s1.2 [x4]).bind fun x5 =>
  some (.inl ((B4u s1.1 (w64 (s1.1 - 1))),x5))
 else
  some (.inr s1.2)
def B5r (a0:Int):Option (List Int) :=
 (loop B4h (a0,([]:List Int))).bind fun (o6:(List Int)) =>
 some o6
theorem C2w {c:Sc} {H:A6} {a0:Int} {r:(List Int)} (h:B5r a0 = some r) :
  E6 tab c H (.fn (.func 95) [] []) [.i a0] [(.fresh 1 (List.map cI r))]:= by
 unfold B5r at h
 refine cE rfl rfl<|sg 0 rfl<|A0 B8j rfl<|es (ra2 rfl rfl)<|B8<|C7<|oB h fun o6 ho6 h=>wl (fun s1=>[(0,.i s1.1),(2,(.asl (H.length + 0) (List.length s1.2)))]) (fun (q2:Unit) s1=>[(.arr 1 false (List.map cI s1.2))]) 1 (fun r e s' H'=>PX 0 [(2,(.asl (H.length + 0) (List.length r)))] (H++[(.arr 1 false (List.map cI r))]) e s' H') () ho6 rfl rfl (fun _ _=>rfl) (fun _=>rfl) rfl (fun s1=>(bdc A5 (bdc (B2a rfl) bdn))) (fun q2 s1 ys1 hs1=>?_) ?_
 ·unfold B4h at hs1
  refine B8<|s0<|qm rfl<|A0 (G2 rfl rfl) rfl<|es (ra3 rfl rfl rfl)<|wi hs1 rfl (fun hc3 hs1=>?_) fun hc3 hs1=>?_
  ·refine C1<|B8<|C7<|r0<|oB hs1 fun x4 hx4 hs1=>oB hs1 fun x5 hx5 hs1=>qm rfl<|qm rfl<|A0 (A7u rfl) rfl<|B3 (rs:=[.i x4]) rfl rfl (A1 rfl B7) ((A6k hx4).frz)<|A0 (L4 (rows:=List.map cI [x4]) rfl rfl (F5 (fun _=>rfl) _)) rfl<|A9x (B0h (f:=cI) rfl rfl rfl rfl A7y (fun _=>rfl) hx5) rfl<|qm rfl<|en (ra2 rfl rfl)<|r0<|qm rfl<|qm rfl<|A0 (W0 rfl rfl) rfl<|A0 (G9 (v:=(.i (B4u s1.1 (w64 (s1.1 - 1))))) rfl rfl rfl) rfl<|qm rfl<|en (ra2 rfl rfl) ?_
   cases hs1
   exact lnT () rfl (su2 rfl rfl)
  ·refine F1 ?_
   obtain rfl:=os hs1
   exact lx rfl px (su1 rfl)
 ·rintro e s' H' - ⟨rfl,rfl,rfl⟩
  refine s0<|qm rfl<|qm rfl<|es (ra1 rfl)<|C4 ?_
  obtain rfl:=os h
  exact retq trivial (A9 rfl B6) (A4 (B8x rfl (List.length_map _)) B5) (A2 A90 B1)
def A42 (a0:Int):Option Bool :=
 some (a0 != a0)
theorem A8f {c:Sc} {H:A6} {a0:Int} {r:Bool} (h:A42 a0 = some r) :
  E6 tab c H (.fn (.func 127) [] []) [.i a0] [.b r]:= by
 unfold A42 at h
 refine cE rfl rfl<|s0<|qm rfl<|es (ra1 rfl)<|s0<|qm rfl<|qm rfl<|A0 (G2 rfl rfl) rfl<|qm rfl<|es (ra1 rfl)<|C4 ?_
 obtain rfl:=os h
 exact retq trivial (A9 rfl B6) (A4 rfl B5) (A2 A5 B1)
def A5m (a0:Int) (a1:Int):Option Int :=
 (A42 a0).bind fun x1 =>
 (A42 a1).bind fun x2 =>
 if x1 = true then
  if x2 = true then
  some 0
  else
  some (-1)
 else
  if x2 = true then
  some 1
  else
  if (decide (a0 < a1)) = true then
   some (-1)
  else
   if (decide (a0 > a1)) = true then
   some 1
   else
   some 0
theorem B2p {c:Sc} {H:A6} {a0:Int} {a1:Int} {r:Int} (h:A5m a0 a1 = some r) :
  E6 tab c H (.fn (.func 119) [] []) [.i a0,.i a1] [.i r]:= by
 unfold A5m at h
 refine cE rfl rfl<|s0<|qm rfl<|es (ra2 rfl rfl)<|s0<|oB h fun x1 hx1 h=>qm rfl<|B3 (rs:=[.b x1]) rfl rfl (A1 rfl B7) ((A8f hx1).frz)<|qm rfl<|es (ra3 rfl rfl rfl)<|s0<|oB h fun x2 hx2 h=>qm rfl<|B3 (rs:=[.b x2]) rfl rfl (A1 rfl B7) ((A8f hx2).frz)<|qm rfl<|es (ra4 rfl rfl rfl rfl)<|B8<|s0<|qm rfl<|es (ra4 rfl rfl rfl rfl)<|wi h rfl (fun hc3 h=>?_) fun hc3 h=>?_
 ·refine B8<|s0<|qm rfl<|es (ra1 rfl)<|wi h rfl (fun hc4 h=>?_) fun hc4 h=>?_
  ·refine s0<|qm rfl<|es (ra1 rfl)<|C4 ?_
   obtain rfl:=os h
   exact retq trivial (A9 rfl B6) (A4 rfl B5) (A2 A5 B1)
  ·refine C1<|s0<|qm rfl<|es (ra1 rfl)<|C4 ?_
   obtain rfl:=os h
   exact retq trivial (A9 rfl B6) (A4 rfl B5) (A2 A5 B1)
 ·refine C1<|B8<|s0<|qm rfl<|es (ra3 rfl rfl rfl)<|wi h rfl (fun hc5 h=>?_) fun hc5 h=>?_
  ·refine s0<|qm rfl<|es (ra1 rfl)<|C4 ?_
   obtain rfl:=os h
   exact retq trivial (A9 rfl B6) (A4 rfl B5) (A2 A5 B1)
  ·refine C1<|B8<|s0<|qm rfl<|qm rfl<|A0 (G1 rfl rfl) rfl<|es (ra3 rfl rfl rfl)<|wi h rfl (fun hc6 h=>?_) fun hc6 h=>?_
   ·refine s0<|qm rfl<|es (ra1 rfl)<|C4 ?_
    obtain rfl:=os h
    exact retq trivial (A9 rfl B6) (A4 rfl B5) (A2 A5 B1)
   ·refine C1<|B8<|s0<|qm rfl<|qm rfl<|A0 (A1f rfl rfl) rfl<|es (ra1 rfl)<|wi h rfl (fun hc7 h=>?_) fun hc7 h=>?_
    ·refine s0<|qm rfl<|es (ra1 rfl)<|C4 ?_
     obtain rfl:=os h
     exact retq trivial (A9 rfl B6) (A4 rfl B5) (A2 A5 B1)
    ·refine C1<|s0<|qm rfl<|es (ra1 rfl)<|C4 ?_
     obtain rfl:=os h
     exact retq trivial (A9 rfl B6) (A4 rfl B5) (A2 A5 B1)
def A2q (a0:(List Int)) (a1:(List Int)) (s1:Int):Option (Int ⊕ (Int ⊕ Unit)) :=
 if (decide (s1 < (List.length a0:Int))) = true then
  (idx a0 s1).bind fun x4 =>
  if (decide (s1 ≥ (List.length a1:Int))) = true then
  some (.inr (.inl 1))
  else
  (idx a1 s1).bind fun x6 =>
  (A5m x4 x6).bind fun x7 =>
  if (x7 != 0) = true then
   some (.inr (.inl x7))
  else
   some (.inl (w64 (s1 + 1)))
 else
  some (.inr (.inr ()))
def A1d (a0:(List Int)) (a1:(List Int)):Option Int :=
 (loop (A2q a0 a1) 0).bind fun (o9:(Int ⊕ Unit)) =>
 match o9 with
 | (.inl vo9_0) =>
  some vo9_0
 | (.inr vo9_1) =>
  if (decide ((List.length a0:Int) < (List.length a1:Int))) = true then
  some (-1)
  else
  some 0
theorem A69 {c:Sc} {H:A6} {a0:(List Int)} {a1:(List Int)} {r:Int} (h:A1d a0 a1 = some r) :
  E6 tab c H (.fn (.func 96) [] []) [(.seq 1 (List.map cI a0)),(.seq 1 (List.map cI a1))] [.i r]:= by
 unfold A1d at h
 refine cE rfl rfl<|s0<|qm rfl<|es (ra2 rfl rfl)<|B8<|s0<|qm rfl<|A0 (E0 (f:=cI) rfl) rfl<|qm rfl<|es (ra5 rfl rfl rfl rfl rfl)<|C7<|oB h fun o9 ho9 h=>wl (fun s1=>[(0,(.seq 1 (List.map cI a0))),(1,(.seq 1 (List.map cI a1))),(9,(.seq 1 (List.map cI a0))),(10,(.i (List.length a0:Int))),(11,.i s1)]) (fun (q2:Unit) s1=>[]) 0 (fun r e s' H'=>(match r with | (.inl v)=>e = .ret∧RetQ H [.tmp 4] [.i v] e s' H' | (.inr v)=>PX 0 [(0,(.seq 1 (List.map cI a0))),(1,(.seq 1 (List.map cI a1)))] (H++[]) e s' H':Prop)) () ho9 rfl rfl (fun _ _=>rfl) (fun _=>rfl) rfl (fun s1=>(bdc L3 (bdc L3 (bdc L3 (bdc A5 (bdc A5 bdn)))))) (fun q2 s1 ys1 hs1=>?_) ?_
 ·unfold A2q at hs1
  refine s0<|A0 (G1 rfl rfl) rfl<|es (ra6 rfl rfl rfl rfl rfl rfl)<|B8<|wi hs1 rfl (fun hc3 hs1=>?_) fun hc3 hs1=>?_
  ·refine C1<|B8<|C7<|s0<|oB hs1 fun x4 hx4 hs1=>qm rfl<|A0 (F0 (f:=cI) rfl rfl hx4) rfl<|A0 (F3 rfl rfl) rfl<|qm rfl<|qm rfl<|es (ra7 rfl rfl rfl rfl rfl rfl rfl)<|B8<|s0<|qm rfl<|qm rfl<|A0 (E0 (f:=cI) rfl) rfl<|A0 (A74 rfl rfl) rfl<|es (ra8 rfl rfl rfl rfl rfl rfl rfl rfl)<|wi hs1 rfl (fun hc5 hs1=>?_) fun hc5 hs1=>?_
   ·refine s0<|qm rfl<|es (ra1 rfl)<|C4 ?_
    obtain rfl:=os hs1
    exact lx rfl (And.intro rfl (retq trivial (A9 rfl B6) (A4 rfl B5) (A2 A5 B1))) (Sub.refl _)
   ·refine C1<|s0<|oB hs1 fun x6 hx6 hs1=>qm rfl<|qm rfl<|A0 (F0 (f:=cI) rfl rfl hx6) rfl<|A0 (F3 rfl rfl) rfl<|qm rfl<|es (ra7 rfl rfl rfl rfl rfl rfl rfl)<|s0<|oB hs1 fun x7 hx7 hs1=>qm rfl<|qm rfl<|B3 (rs:=[.i x7]) rfl rfl (A1 rfl (A1 rfl B7)) ((B2p hx7).frz)<|qm rfl<|es (ra6 rfl rfl rfl rfl rfl rfl)<|s0<|qm rfl<|A0 (G2 rfl rfl) rfl<|es (ra7 rfl rfl rfl rfl rfl rfl rfl)<|wi hs1 rfl (fun hc8 hs1=>?_) fun hc8 hs1=>?_
    ·refine s0<|qm rfl<|qm rfl<|es (ra1 rfl)<|C4 ?_
     obtain rfl:=os hs1
     exact lx rfl (And.intro rfl (retq trivial (A9 rfl B6) (A4 rfl B5) (A2 A5 B1))) (Sub.refl _)
    ·refine C1<|r0<|A0 (E3 rfl rfl) rfl<|qm rfl<|en (ra5 rfl rfl rfl rfl rfl) ?_
     cases hs1
     exact lnT () rfl (su5 rfl rfl rfl rfl rfl)
  ·refine F1 ?_
   obtain rfl:=os hs1
   exact lx rfl px (su2 rfl rfl)
 ·rcases o9 with vo9_0 | vo9_1
  ·rintro e s' H' - ⟨rfl,hret⟩
   cases h
   exact hret
  ·rintro e s' H' - ⟨rfl,rfl,rfl⟩
   refine B8<|s0<|qm rfl<|A0 (E0 (f:=cI) rfl) rfl<|qm rfl<|A0 (E0 (f:=cI) rfl) rfl<|A0 (G1 rfl rfl) rfl<|es (ra1 rfl)<|wi h rfl (fun hc10 h=>?_) fun hc10 h=>?_
   ·refine s0<|qm rfl<|es (ra1 rfl)<|C4 ?_
    obtain rfl:=os h
    exact retq trivial (A9 rfl B6) (A4 rfl B5) (A2 A5 B1)
   ·refine C1<|s0<|qm rfl<|es (ra1 rfl)<|C4 ?_
    obtain rfl:=os h
    exact retq trivial (A9 rfl B6) (A4 rfl B5) (A2 A5 B1)
end Rm
end
section
set_option maxRecDepth 100000
namespace Rm
open Go Am Go.Proofs.YtbheamjhjgoccaaDoor.Cd
def C5c (t:RoHouse) (b:List Int):RoHouse:=⟨t.Weather,t.Stoves,t.Holds,t.Places,t.Figures,b⟩
def B0t (a0:RoHouse) (set:Int) (s:Int × List Int):Option ((Int × List Int) ⊕ List Int) :=
 if (decide (s.1 < (List.length a0.Bill:Int))) = true then
  (idx a0.Bill s.1).bind fun n =>
  (B2w .i64 set s.1).bind fun q =>
  if (B4u q 1 == 0) = true then
   (app 8 s.2 [n]).bind fun b =>
   some (.inl (w64 (s.1 + 1),b))
  else some (.inl (w64 (s.1 + 1),s.2))
 else some (.inr s.2)
def A7z (l breaks:List Int) (found:Bool):Option Bool :=
 if found = true then
  if (decide ((l.length:Int) > (breaks.length:Int))) = true then some true
  else if ((l.length:Int) == (breaks.length:Int)) = true then
   (A1d l breaks).bind fun z=>some (decide (z > 0))
  else some false
 else some false
def A6s (a0:RoHouse) (n:Int) (s:Int × Bool × List Int):Option ((Int × Bool × List Int) ⊕ List Int) :=
 if (decide (s.1 < n)) = true then
  (B5r s.1).bind fun l =>
  (A7z l s.2.2 s.2.1).bind fun skip =>
  if skip = true then some (.inl (w64 (s.1 + 1),s.2.1,s.2.2))
  else
   (loop (B0t a0 s.1) (0,[])).bind fun b =>
   (A6u ⟨C5c a0 b⟩).bind fun k =>
   if k = true then some (.inl (w64 (s.1 + 1),true,l))
   else some (.inl (w64 (s.1 + 1),s.2.1,s.2.2))
 else some (.inr s.2.2)
def A5i (a0:RoHouse):Option (List Int × Int) :=
 (P2 a0).bind fun x1 =>
 if (x1.2.2 != 0) = true then some (([]:List Int),x1.2.2)
 else
  (B4n .i64 1 (List.length a0.Bill:Int)).bind fun n =>
  (loop (A6s a0 n) (0,false,([]:List Int))).bind fun o =>
  some (o,0)
def A91 (t:RoHouse) (v:AV):List AV:=[.i t.Weather.Lo,.i t.Weather.Hi,.i t.Stoves,(.seq 1 (List.map cI t.Holds)),(.seq 4 (List.map C2 t.Places)),(.seq 6 (List.map B2 t.Figures)),v,.xseq 2 [[.b false,(.fn (.func 112) [] [])],[.b true,(.fn (.func 113) [] [])]]]
def arB (p:Bool) (r:List Int):AO:=.arr 1 p (r.map cI)
def tlB (g:List (List Int)):List AO:=g.map (arB true)
def lB (t:RoHouse) (v:AV) (g:List AO):List AO:=.cells (A3 t) :: .cells (A3 t) :: .cells (A91 t v) :: g
section
variable {T:Tab} {s:C6} {H0 H:A6} {l:List AO} {c:Sc} {n0 N:Nat} {hc:List (Option (List Nat))} {ops:List AOper} {R:C6→A6→Prop}
theorem gU {d:Nat} {op:AOp} {t:Nat} {w:Bool} {hid:List Nat} {hida:List (Nat × List Nat)} {inc src:Nat} (hw:wanted s (some (t,w)) = some false) (hwr:writes op = true) (k:L9 T c n0 ops ((d,.tup []) :: s) H (none :: hc) R) :
  L9 T c n0 (⟨some d,op,some (t,w),hid,hida,inc,src⟩ :: ops) s H hc R:=G7 hw hwr k
theorem gV {d:Nat} {op:AOp} {t:Nat} {w:Bool} {hid:List Nat} {hida:List (Nat × List Nat)} {inc src:Nat} (hw:wanted s (some (t,w)) = some false) (hwr:writes op = false) (k:L9 T c n0 ops ((d,.tup []) :: s) H hc R) :
  L9 T c n0 (⟨some d,op,some (t,w),hid,hida,inc,src⟩ :: ops) s H hc R:=C7s hw hwr k
theorem fvc {H1 H2:A6} {v v':AV} {l l':List AV} (h:frv H v = some (v',H1)) (k:Z6 H1 l = some (l',H2)):Z6 H (v :: l) = some (v' :: l',H2):= by simp only [Z6,h,k]
end
theorem C9r {N:Nat}:∀g:List (List Int),clH N (tlB g) = true
 | []=>rfl
 | r :: g=>by
  have ih:=C9r (N:=N) g
  unfold tlB clH at ih ⊢
  rw [List.map_cons,List.all_cons,ih,Bool.and_true]
  unfold arB
  simp only [AO.cl]
  exact A2g (fun x=>rfl) r
theorem D5h {N:Nat} (t:RoHouse) (b:List Int) (g:List (List Int)):clH N (lB t (.seq 1 (b.map cI)) (tlB g)) = true:= by
 have h:=C9r (N:=N) g
 unfold lB clH at h ⊢
 simp only [List.all_cons,h,Bool.and_true]
 simp [AO.cl,clL_free _ (K0 t),A91,clL,AV.cl,clR,J0,cI,freeL,AV.free,J3,I3]
theorem B6r {c:Sc} {H:A6} (hscv:Z2 c H = true) (hcl:clH H.length H = true) {a0:RoHouse} {r:((List Int) × Int)} (h:A5i a0 = some r) :
  E6 tab c H (.fn (.func 36) [] []) [(.agg (A3 a0))] [(.seq 1 (List.map cI r.1)),.i r.2]:= by
 unfold A5i at h
 refine cE rfl rfl<|sg 0 rfl<|A0 (E9 (cs:=A3 a0) rfl rfl rfl) rfl<|qm rfl<|qm rfl<|es (ra2 rfl rfl)<|s0<|A0 (C0 rfl rfl rfl) rfl<|O4 (as2:=[(.agg (A3 a0))]) (H1:=(H++[(.cells (A3 a0))])) rfl rfl (A1 (D1 rfl) B7) rfl rfl rfl (T9 rfl)<|sg 1 rfl<|A0 (E9 (cs:=A3 a0) rfl rfl rfl) rfl<|qm rfl<|qm rfl<|es (ra1 rfl)<|s0<|oB h fun x1 hx1 h=>A0 (C0 rfl rfl rfl) rfl<|B3 (rs:=[.i x1.1,.i x1.2.1,.i x1.2.2]) rfl rfl (A1 (D1 rfl) B7) ((Q0 hx1).frz)<|qm rfl<|A0 (A8 rfl rfl) rfl<|A0 (A8 rfl rfl) rfl<|A0 (A8 rfl rfl) rfl<|qm rfl<|qm rfl<|qm rfl<|es (ra2 rfl rfl)<|sg 2 rfl<|A0 (C0 rfl rfl rfl) rfl<|A0 (F9 (cs:=[.b false,(.fn (.func 112) [] [])]) rfl rfl) rfl<|A0 (F9 (cs:=[.b true,(.fn (.func 113) [] [])]) rfl rfl) rfl<|A0 (A5w (rows:=[[.b false,(.fn (.func 112) [] [])],[.b true,(.fn (.func 113) [] [])]]) rfl rfl) rfl<|A0 (F9 (cs:=A91 a0 (.seq 1 (List.map cI a0.Bill))) rfl rfl) rfl<|A0 (E9 (cs:=A91 a0 (.seq 1 (List.map cI a0.Bill))) rfl rfl rfl) rfl<|qm rfl<|qm rfl<|qm rfl<|es (ra2 rfl rfl)<|C4<|InlQ.mk trivial ⟨_,_,_,[(.ptr (H.length + 2) 0),.i x1.2.2],_,(A9 rfl (A9 rfl B6)),(A4 rfl (A4 rfl B5)),(V3 (M7 (V1 rfl)) (D3 rfl (D3 rfl I9))),?_⟩
 refine qm rfl<|A0 (A8 rfl rfl) rfl<|A0 (A8 rfl rfl) rfl<|qm rfl<|qm rfl<|es (ra4 rfl rfl rfl rfl)<|B8<|s0<|qm rfl<|A0 (G2 rfl rfl) rfl<|es (ra5 rfl rfl rfl rfl rfl)<|wi h rfl (fun hc2 h=>?_) fun hc2 h=>?_
 ·refine s0<|qm rfl<|qm rfl<|qm rfl<|es (ra2 rfl rfl)<|C4 ?_
  obtain rfl:=os h
  exact retq trivial (A9 rfl (A9 rfl B6)) (A4 rfl (A4 rfl B5)) (A2 L3 (A2 A5 B1))
 refine oB h fun n hn h=>oB h fun o ho h=>?_
 refine C1<|s0<|qm rfl<|es (ra4 rfl rfl rfl rfl)<|B8<|s0<|A0 (C5 rfl) rfl<|A0 (C3 rfl rfl rfl) rfl<|A0 (E0 (f:=cI) rfl) rfl<|A0 (B3t rfl rfl hn) rfl<|qm rfl<|es (ra6 rfl rfl rfl rfl rfl rfl)<|C7 ?_
 refine A6b (D1u (γ:=List Int × List (List Int)) (live:=[1,2,4,5,21,22]) (body:=A6s a0 n) (fun x=>[(1,.ptr (H.length + 0) 0),(2,.seq 1 (x.2.2.map cI)),(4,.ptr (H.length + 2) 0),(5,.b x.2.1),(21,.i n),(22,.i x.1)]) (fun g x=>H++lB a0 (.seq 1 (g.1.map cI)) (tlB g.2))
  (fun r e s' H'=>e = .exit 0∧s' = [(2,.seq 1 (r.map cI))]∧∃ l',H' = H++l') (fun _=>rfl) (by decide) ?_ ho (a0.Bill,[])) ?_
 ·intro g x o' hb
  unfold A6s at hb
  refine s0<|A0 (G1 rfl rfl) rfl<|es (ra7 rfl rfl rfl rfl rfl rfl rfl)<|B8<|wi hb rfl (fun hc hb=>?_) fun hc hb=>?_
  ·refine oB hb fun l hl hb=>oB hb fun skip hsk hb=>?_
   refine C1<|B8<|C7<|s0<|qm rfl<|qm rfl<|es (ra7 rfl rfl rfl rfl rfl rfl rfl)<|s0<|qm rfl<|B3 (rs:=[.seq 1 (l.map cI)]) rfl rfl (A1 rfl B7) ((C2w hl).frz)<|qm rfl<|es (ra8 rfl rfl rfl rfl rfl rfl rfl rfl)<|B8<|s0<|qm rfl<|qm rfl ?_
   refine gp 19 47 (.b skip) 28 rfl rfl (fun hg1=>?_) (fun hg1=>?_) ?_
   ·unfold A7z at hsk
    rw [if_pos hg1] at hsk
    refine gT rfl hg1<|qm rfl<|gT rfl hg1<|A0 (E0 (f:=cI) rfl) rfl<|gT rfl hg1<|qm rfl<|gT rfl hg1<|A0 (E0 (f:=cI) rfl) rfl<|gT rfl hg1<|A0 (A1f rfl rfl) rfl<|gT rfl hg1<|qm rfl ?_
    cases h2:decide ((l.length:Int) > (x.2.2.length:Int)) with
    | true =>
     rw [if_pos h2] at hsk
     cases hsk
     exact nF rfl rfl rfl<|nF rfl rfl rfl<|nF rfl rfl rfl<|nF rfl rfl rfl<|nF rfl rfl rfl<|nF rfl rfl rfl<|gV rfl rfl<|gV rfl rfl<|gU rfl rfl<|gV rfl rfl<|nF rfl rfl rfl<|gT rfl hg1<|A0 (C9 rfl rfl rfl) rfl<|A0 (C9 rfl hg1 rfl) rfl<|ge 19 rfl rfl rfl
    | false =>
     rw [if_neg (by rw [h2]; decide)] at hsk
     refine gF rfl rfl<|qm rfl<|gF rfl rfl<|A0 (E0 (f:=cI) rfl) rfl<|gF rfl rfl<|qm rfl<|gF rfl rfl<|A0 (E0 (f:=cI) rfl) rfl<|gF rfl rfl<|A0 (F4 rfl rfl) rfl<|gF rfl rfl<|qm rfl ?_
     cases h3:((l.length:Int) == (x.2.2.length:Int)) with
     | true =>
      rw [if_pos h3] at hsk
      refine oB hsk fun z hz hsk=>?_
      cases hsk
      exact gT rfl rfl<|qm rfl<|gT rfl rfl<|qm rfl<|gT rfl rfl<|B3 (rs:=[.i z]) rfl rfl (A1 rfl (A1 rfl B7)) ((A69 hz).frz)<|gT rfl rfl<|A0 (A1f rfl rfl) rfl<|gF rfl rfl<|A0 (C9 rfl rfl rfl) rfl<|gT rfl hg1<|A0 (D0 rfl rfl rfl) rfl<|A0 (C9 rfl hg1 rfl) rfl<|ge 19 rfl rfl rfl
     | false =>
      rw [if_neg (by rw [h3]; decide)] at hsk
      cases hsk
      exact nT rfl rfl rfl<|nT rfl rfl rfl<|gN rfl rfl rfl<|nT rfl rfl rfl<|gF rfl rfl<|A0 (D0 rfl rfl rfl) rfl<|gT rfl hg1<|A0 (D0 rfl rfl rfl) rfl<|A0 (C9 rfl hg1 rfl) rfl<|ge 19 rfl rfl rfl
   ·unfold A7z at hsk
    rw [if_neg (by rw [hg1]; decide)] at hsk
    cases hsk
    exact nT rfl hg1 rfl<|nT rfl hg1 rfl<|nT rfl hg1 rfl<|nT rfl hg1 rfl<|nT rfl hg1 rfl<|nT rfl hg1 rfl<|gV rfl rfl<|gV rfl rfl<|gV rfl rfl<|gV rfl rfl<|gV rfl rfl<|gV rfl rfl<|gV rfl rfl<|gV rfl rfl<|gU rfl rfl<|gV rfl rfl<|gV rfl rfl<|nT rfl hg1 rfl<|A0 (D0 rfl hg1 rfl) rfl<|ge 19 rfl rfl rfl
   refine es (ra9 rfl rfl rfl rfl rfl rfl rfl rfl rfl)<|wi hb rfl (fun hc2 hb=>?_) fun hc2 hb=>?_
   ·refine F1<|r0<|A0 (E3 rfl rfl) rfl<|qm rfl<|en (ra6 rfl rfl rfl rfl rfl rfl) ?_
    cases hb
    exact ⟨rfl,su6 rfl rfl rfl rfl rfl rfl,g,rfl⟩
   refine oB hb fun b hb2 hb=>oB hb fun k hk hb=>?_
   refine C1<|sg ((tlB g.2).length + 3) rfl<|qm rfl<|A0 (Q6 rfl rfl) rfl<|A0 (C5 rfl) rfl<|A0 (C5 rfl) rfl<|F2 (D0v (cs:=A91 a0 (.seq 1 (g.1.map cI))) (ds:=A91 a0 (.asl (H.length + ((tlB g.2).length + 3 + 0)) 0)) rfl rfl rfl (A7j (Nat.le_add_right _ _)) rfl) rfl<|es (ra8 rfl rfl rfl rfl rfl rfl rfl rfl) ?_
   have e1:((lB a0 (.seq 1 (g.1.map cI)) (tlB g.2)++List.replicate 1 AO.dead).set ((tlB g.2).length + 3 + 0) (.arr 1 false [])).set 2 (.cells (A91 a0 (.asl (H.length + ((tlB g.2).length + 3 + 0)) 0))) = lB a0 (.asl (H.length + ((tlB g.2).length + 3)) 0) (tlB g.2++[arB false []]):= by
    show (AO.cells _ :: AO.cells _ :: AO.cells _ :: ((tlB g.2++[AO.dead]).set (tlB g.2).length (.arr 1 false []))) = _
    rw [C37 _ _ _ rfl]; rfl
   rw [e1]
   have hlN:∀v q,(lB a0 v (tlB g.2++[q])).length = (tlB g.2).length + 4:=fun v q=>by simp [lB]
   have hget:∀v q,(lB a0 v (tlB g.2++[q]))[(tlB g.2).length + 3]? = some q:=fun v q=>D0b (tlB g.2) q rfl
   have hset:∀v q q',(lB a0 v (tlB g.2++[q])).set ((tlB g.2).length + 3) q' = lB a0 v (tlB g.2++[q']):=fun v q q'=>by
    show (AO.cells _ :: AO.cells _ :: AO.cells _ :: ((tlB g.2++[q]).set (tlB g.2).length q')) = _
    rw [C37 _ _ _ rfl]; rfl
   refine B8<|s0<|A0 (C5 rfl) rfl<|A0 (C3 rfl rfl rfl) rfl<|A0 (E0 (f:=cI) rfl) rfl<|qm rfl<|es (ra11 rfl rfl rfl rfl rfl rfl rfl rfl rfl rfl rfl)<|C7<|wl (fun y=>[(1,.ptr (H.length + 0) 0),(2,.seq 1 (x.2.2.map cI)),(4,.ptr (H.length + 2) 0),(5,.b x.2.1),(6,.i x.1),(7,.seq 1 (l.map cI)),(21,.i n),(22,.i x.1),(53,.seq 1 (a0.Bill.map cI)),(54,.i (List.length a0.Bill:Int)),(55,.i y.1)]) (fun (q2:Unit) y=>lB a0 (.asl (H.length + ((tlB g.2).length + 3)) y.2.length) (tlB g.2++[arB false y.2])) ((tlB g.2).length + 4) (fun r e s' H'=>PX 2 [(1,.ptr (H.length + 0) 0),(2,.seq 1 (x.2.2.map cI)),(4,.ptr (H.length + 2) 0),(5,.b x.2.1),(7,.seq 1 (l.map cI)),(21,.i n),(22,.i x.1)] (H++lB a0 (.asl (H.length + ((tlB g.2).length + 3)) r.length) (tlB g.2++[arB false r])) e s' H') () hb2 rfl rfl (fun _ _=>hlN _ _) (fun _=>rfl) rfl (fun y=>(bdc (D8 rfl) (bdc L3 (bdc (D8 rfl) (bdc A5 (bdc A5 (bdc L3 (bdc A5 (bdc A5 (bdc L3 (bdc A5 (bdc A5 bdn)))))))))))) (fun q2 y o' hy=>?_) ?_
   ·unfold B0t at hy
    refine s0<|A0 (G1 rfl rfl) rfl<|es (ra12 rfl rfl rfl rfl rfl rfl rfl rfl rfl rfl rfl rfl)<|B8<|wi hy rfl (fun hc3 hy=>?_) fun hc3 hy=>?_
    ·refine oB hy fun z hz hy=>oB hy fun q hq hy=>?_
     refine C1<|B8<|C7<|s0<|qm rfl<|A0 (F0 (f:=cI) rfl rfl hz) rfl<|A0 (F3 rfl rfl) rfl<|qm rfl<|qm rfl<|es (ra13 rfl rfl rfl rfl rfl rfl rfl rfl rfl rfl rfl rfl rfl)<|s0<|qm rfl<|qm rfl<|A0 (A9t rfl rfl hq) rfl<|A0 (G9 (v:=(.i (B4u q 1))) rfl rfl rfl) rfl<|A0 (F4 rfl rfl) rfl<|es (ra13 rfl rfl rfl rfl rfl rfl rfl rfl rfl rfl rfl rfl rfl)<|wi hy rfl (fun hc4 hy=>?_) fun hc4 hy=>?_
     ·refine oB hy fun w hw hy=>?_
      refine r0<|qm rfl<|qm rfl<|A0 (Q6 rfl rfl) rfl<|A0 (C5 rfl) rfl<|A0 (C5 rfl) rfl<|A0 (C3 rfl rfl rfl) rfl<|qm rfl<|A0 (L4 (rows:=[[.i z]]) rfl rfl rfl) rfl<|A9x (B0h (f:=cI) (d:=y.2) (m:=[z]) rfl rfl (hget _ _) rfl A7y (fun _=>rfl) hw) rfl<|A0 (Q6 rfl rfl) rfl<|A0 (C5 rfl) rfl<|A0 (C5 rfl) rfl ?_
      rw [hset]
      refine F2 (C8 (ds:=A91 a0 (.asl (H.length + ((tlB g.2).length + 3)) w.length)) rfl rfl rfl rfl (D2u ?_ ?_) rfl) rfl<|en (ra11 rfl rfl rfl rfl rfl rfl rfl rfl rfl rfl rfl)<|r0<|A0 (E3 rfl rfl) rfl<|qm rfl<|en (ra11 rfl rfl rfl rfl rfl rfl rfl rfl rfl rfl rfl) ?_
      ·simp only [AV.bd]; exact Nat.ble_eq_true_of_le (by omega)
      ·exact D57 (Nat.le_add_right _ _) (D36 hscv)
      cases hy
      exact lnT () (List.take_of_length_le (Nat.le_of_eq (hlN _ _))) (su11 rfl rfl rfl rfl rfl rfl rfl rfl rfl rfl rfl)
     ·refine C1<|r0<|A0 (E3 rfl rfl) rfl<|qm rfl<|en (ra11 rfl rfl rfl rfl rfl rfl rfl rfl rfl rfl rfl) ?_
      cases hy
      exact lnT () (List.take_of_length_le (Nat.le_of_eq (hlN _ _))) (su11 rfl rfl rfl rfl rfl rfl rfl rfl rfl rfl rfl)
    ·refine F1 ?_
     obtain rfl:=os hy
     exact lx rfl px (su7 rfl rfl rfl rfl rfl rfl rfl)
   rintro e s' H' - ⟨rfl,rfl,rfl⟩
   have hfz:Z6 (H++lB a0 (.asl (H.length + ((tlB g.2).length + 3)) b.length) (tlB g.2++[arB false b])) (A91 a0 (.asl (H.length + ((tlB g.2).length + 3)) b.length)) = some (A91 a0 (.seq 1 (b.map cI)),H++lB a0 (.asl (H.length + ((tlB g.2).length + 3)) b.length) (tlB g.2++[arB true b])):= by
    have h1:frv (H++lB a0 (.asl (H.length + ((tlB g.2).length + 3)) b.length) (tlB g.2++[arB false b])) (.asl (H.length + ((tlB g.2).length + 3)) b.length) = some (.seq 1 (b.map cI),H++lB a0 (.asl (H.length + ((tlB g.2).length + 3)) b.length) (tlB g.2++[arB true b])):= by
     have:=B7w (H0:=H) (l:=lB a0 (.asl (H.length + ((tlB g.2).length + 3)) b.length) (tlB g.2++[arB false b])) (hget _ (arB false b)) (List.length_map (cI))
     rw [hset] at this
     exact this
    exact fvc rfl<|fvc rfl<|fvc rfl<|fvc rfl<|fvc rfl<|fvc rfl<|fvc h1<|fvc rfl rfl
   have e2:(lB a0 (.asl (H.length + ((tlB g.2).length + 3)) b.length) (tlB g.2++[arB true b])).set 2 (.cells (A91 a0 (.seq 1 (b.map cI)))) = lB a0 (.seq 1 (b.map cI)) (tlB (g.2++[b])):= by
    show (AO.cells _ :: AO.cells _ :: AO.cells _ :: (tlB g.2++[arB true b])) = _
    unfold lB tlB
    rw [List.map_append]; rfl
   refine B8<|D6g (D22 rfl rfl hfz rfl) ?_
   rw [e2]
   have hcan:E6 tab ⟨H.length,c.cur :: c.outer⟩ (H++lB a0 (.seq 1 (b.map cI)) (tlB (g.2++[b]))) (.fn (.func 97) [] []) [.ptr (H.length + 2) 0] [.b k]:=B31 (a0:=⟨C5c a0 b⟩) (b0:=H.length + 2) (A6v hscv) (D10 hcl (D5h a0 b _)) (D7 (l:=lB a0 (.seq 1 (b.map cI)) (tlB (g.2++[b]))) rfl) hk
   refine r0<|qm rfl<|B3 (rs:=[.b k]) rfl rfl (A1 rfl B7) (hcan.frz)<|es (ra8 rfl rfl rfl rfl rfl rfl rfl rfl) ?_
   cases k with
   | true =>
    refine K2 rfl rfl<|r0<|qm rfl<|qm rfl<|qm rfl<|en (ra6 rfl rfl rfl rfl rfl rfl)<|r0<|A0 (E3 rfl rfl) rfl<|qm rfl<|en (ra6 rfl rfl rfl rfl rfl rfl) ?_
    cases hb
    exact ⟨rfl,su6 rfl rfl rfl rfl rfl rfl,(b,g.2++[b]),rfl⟩
   | false =>
    refine A1x rfl rfl<|C1<|r0<|A0 (E3 rfl rfl) rfl<|qm rfl<|en (ra6 rfl rfl rfl rfl rfl rfl) ?_
    cases hb
    exact ⟨rfl,su6 rfl rfl rfl rfl rfl rfl,(b,g.2++[b]),rfl⟩
  ·refine F1 ?_
   cases hb
   exact ⟨rfl,_,su1 rfl,rfl,rfl,_,rfl⟩
 ·intro e s' H' q
  obtain ⟨_,rfl,rfl,l',rfl⟩:=q
  cases h
  refine s0<|qm rfl<|qm rfl<|qm rfl<|es (ra2 rfl rfl)<|C4 ?_
  exact retq trivial (A9 rfl (A9 rfl B6)) (A4 rfl (A4 rfl B5)) (A2 L3 (A2 A5 B1))
theorem B0l {c:Sc} {H:A6} (hscv:Z2 c H = true) {a0:RoHouse} {r:((List Int) × Int)} (h:A5i a0 = some r) :
  E6 tab c H (.fn (.func 36) [] []) [(.agg (A3 a0))] [(.seq 1 (List.map cI r.1)),.i r.2]:=A94 B1b (B6r (c:=⟨0,[]⟩) (H:=[]) rfl rfl h) (by simp [freeL,AV.free,K0]) (by simp [freeL,AV.free,J0,cI]) hscv
end Rm
end
section
set_option maxRecDepth 100000
set_option maxHeartbeats 0
namespace Rm
open Go Am Go.Proofs.YtbheamjhjgoccaaDoor.Cd
def K6 :Option Bool :=
 (A1z [3]).bind fun x1 =>
 (A1z ([]:List Int)).bind fun x2 =>
 (A2d x1 1 1).bind fun x3 =>
 (A3z x1 0 1 1).bind fun x4 =>
 (A3z x1 2 1 1).bind fun x5 =>
 (A8l x1).bind fun x6 =>
 (A10 1 [1,(-1),2]).bind fun x7 =>
 (X3 x1 x7).bind fun x8 =>
 (A10 1 [1,0,2]).bind fun x9 =>
 (A2b x1 x9).bind fun x10 =>
 (A1z [1,3]).bind fun x11 =>
 (A5i x11).bind fun x12 =>
 (A6t x1).bind fun x13 =>
 (A6t x2).bind fun x14 =>
 (A2c x1 0).bind fun x15 =>
 (Z1 x1 x6.1).bind fun x16 =>
 (if (((((((((((x3.2 == 0) && (x4.2 == 0)) && (x5.2 == 0)) && (x6.2.2 == 0)) && (x8.2 == 9)) && (x10.2 == 0)) && (x12.2 == 0)) && (x13.2 == 0)) && (x14.2 == 0)) && (x15.2 == 0)) && (x16.2.2 == 0)) = true then
  (W7 45 70).bind fun x28 =>
  some ((x3.1.Lo == x28.Lo) && ((x3.1.Hi == x28.Hi) && true))
 else
  some false).bind fun x29 =>
 (if ((x29 && (x4.1 == 1)) && (x5.1 == 0)) = true then
  (A10 1 [(-1),0,2]).bind fun x33 =>
  (A9e x6.1 x33).bind fun x34 =>
  some x34
 else
  some false).bind fun x35 =>
 (if (x35 && (x6.2.1 == 12)) = true then
  (A0b x10.1 [350,320]).bind fun x38 =>
  some x38
 else
  some false).bind fun x39 =>
 (if x39 = true then
  (A0b x12.1 [0]).bind fun x41 =>
  some x41
 else
  some false).bind fun x42 =>
 (if x42 = true then
  (A0b x13.1 [0]).bind fun x44 =>
  some x44
 else
  some false).bind fun x45 =>
 some ((((x45 && ((List.length x14.1:Int) == 0)) && (x15.1 == 1)) && (x16.1 == 1)) && (x16.2.1 == 0))
theorem K8 {c:Sc} {H:A6} (hscv:Z2 c H = true)  {r:Bool} (h:K6  = some r) :
  E6 tab c H (.fn (.func 23) [] []) [] [.b r]:= by
 unfold K6 at h
 refine cE rfl rfl<|s0<|qm rfl<|es .n<|sg 0 rfl<|oB h fun x1 hx1 h=>oB h fun x2 hx2 h=>A0 (L4 (rows:=List.map cI [3]) rfl rfl (F5 (fun _=>rfl) _)) rfl<|B3 (rs:=[(.agg (A3 x1))]) rfl rfl (A1 rfl B7) ((A11 hx1).frz)<|B3 (rs:=[(.agg (A3 x2))]) rfl rfl (A1 rfl B7) ((A11 hx2).frz)<|A0 D5 rfl<|A0 D5 rfl<|F2 (C8 (ds:=(A3 x1)) rfl rfl rfl rfl (B9 rfl) rfl) rfl<|F2 (C8 (ds:=(A3 x2)) rfl rfl rfl rfl (B9 rfl) rfl) rfl<|es (ra2 rfl rfl)<|sg 2 rfl<|oB h fun x3 hx3 h=>A0 (C0 rfl rfl rfl) rfl<|B3 (rs:=[(.agg (D6 x3.1)),.i x3.2]) rfl rfl (A1 (D1 rfl) (A1 rfl (A1 rfl B7))) ((A6m hx3).frz)<|qm rfl<|A0 (A8 rfl rfl) rfl<|A0 (A8 rfl rfl) rfl<|A0 D5 rfl<|F2 (C8 (ds:=(D6 x3.1)) rfl rfl rfl rfl (B9 rfl) rfl) rfl<|qm rfl<|es (ra4 rfl rfl rfl rfl)<|s0<|oB h fun x4 hx4 h=>A0 (C0 rfl rfl rfl) rfl<|B3 (rs:=[.i x4.1,.i x4.2]) rfl rfl (A1 (D1 rfl) (A1 rfl (A1 rfl (A1 rfl B7)))) ((A5x hx4).frz)<|qm rfl<|A0 (A8 rfl rfl) rfl<|A0 (A8 rfl rfl) rfl<|qm rfl<|qm rfl<|es (ra6 rfl rfl rfl rfl rfl rfl)<|s0<|oB h fun x5 hx5 h=>A0 (C0 rfl rfl rfl) rfl<|B3 (rs:=[.i x5.1,.i x5.2]) rfl rfl (A1 (D1 rfl) (A1 rfl (A1 rfl (A1 rfl B7)))) ((A5x hx5).frz)<|qm rfl<|A0 (A8 rfl rfl) rfl<|A0 (A8 rfl rfl) rfl<|qm rfl<|qm rfl<|es (ra8 rfl rfl rfl rfl rfl rfl rfl rfl)<|sg 3 rfl<|oB h fun x6 hx6 h=>A0 (C0 rfl rfl rfl) rfl<|B3 (rs:=[(.agg (B4 x6.1)),.i x6.2.1,.i x6.2.2]) rfl rfl (A1 (D1 rfl) B7) (B3x (A6v hscv) hx6)<|qm rfl<|A0 (A8 rfl rfl) rfl<|A0 (A8 rfl rfl) rfl<|A0 (A8 rfl rfl) rfl<|A0 D5 rfl<|F2 (C8 (ds:=(B4 x6.1)) rfl rfl rfl rfl (B9 rfl) rfl) rfl<|qm rfl<|qm rfl<|es (ra11 rfl rfl rfl rfl rfl rfl rfl rfl rfl rfl rfl)<|s0<|oB h fun x7 hx7 h=>?_
 refine oB h fun x8 hx8 h=>A0 (C0 rfl rfl rfl) rfl<|A0 (L4 (rows:=List.map cI [1,(-1),2]) rfl rfl (F5 (fun _=>rfl) _)) rfl<|A15 (rs:=[(.agg (B4 x7))]) rfl rfl (M1 rfl (M1 rfl A3o)) (A1 rfl (A1 rfl B7)) ((A1l hx7).frz)<|B3 (rs:=[.i x8.1,.i x8.2]) rfl rfl (A1 (D1 rfl) (A1 (D1 rfl) B7)) ((A1m hx8).frz)<|qm rfl<|A0 (A8 rfl rfl) rfl<|A0 (A8 rfl rfl) rfl<|qm rfl<|qm rfl<|es (ra12 rfl rfl rfl rfl rfl rfl rfl rfl rfl rfl rfl rfl)<|s0<|oB h fun x9 hx9 h=>oB h fun x10 hx10 h=>A0 (C0 rfl rfl rfl) rfl<|A0 (L4 (rows:=List.map cI [1,0,2]) rfl rfl (F5 (fun _=>rfl) _)) rfl<|A15 (rs:=[(.agg (B4 x9))]) rfl rfl (M1 rfl (M1 rfl A3o)) (A1 rfl (A1 rfl B7)) ((A1l hx9).frz)<|B3 (rs:=[(.seq 1 (List.map cI x10.1)),.i x10.2]) rfl rfl (A1 (D1 rfl) (A1 (D1 rfl) B7)) ((A46 hx10).frz)<|qm rfl<|A0 (A8 rfl rfl) rfl<|A0 (A8 rfl rfl) rfl<|qm rfl<|qm rfl<|es (ra14 rfl rfl rfl rfl rfl rfl rfl rfl rfl rfl rfl rfl rfl rfl)<|s0<|oB h fun x11 hx11 h=>oB h fun x12 hx12 h=>A0 (L4 (rows:=List.map cI [1,3]) rfl rfl (F5 (fun _=>rfl) _)) rfl<|B3 (rs:=[(.agg (A3 x11))]) rfl rfl (A1 rfl B7) ((A11 hx11).frz)<|B3 (rs:=[(.seq 1 (List.map cI x12.1)),.i x12.2]) rfl rfl (A1 (D1 rfl) B7) ((B0l (A6v hscv) hx12).frz)<|qm rfl<|A0 (A8 rfl rfl) rfl<|A0 (A8 rfl rfl) rfl<|qm rfl<|qm rfl<|es (.k rfl (.k rfl (.k rfl (.k rfl (.k rfl (.k rfl (.k rfl (.k rfl (.k rfl (.k rfl (.k rfl (.k rfl (.k rfl (.k rfl (.k rfl (.k rfl .n))))))))))))))))<|s0<|oB h fun x13 hx13 h=>A0 (C0 rfl rfl rfl) rfl<|B3 (rs:=[(.seq 1 (List.map cI x13.1)),.i x13.2]) rfl rfl (A1 (D1 rfl) B7) ((B12 (A6v hscv) hx13).frz)<|qm rfl<|A0 (A8 rfl rfl) rfl<|A0 (A8 rfl rfl) rfl<|qm rfl<|qm rfl<|es (.k rfl (.k rfl (.k rfl (.k rfl (.k rfl (.k rfl (.k rfl (.k rfl (.k rfl (.k rfl (.k rfl (.k rfl (.k rfl (.k rfl (.k rfl (.k rfl (.k rfl (.k rfl .n))))))))))))))))))<|s0<|oB h fun x14 hx14 h=>A0 (C0 rfl rfl rfl) rfl<|B3 (rs:=[(.seq 1 (List.map cI x14.1)),.i x14.2]) rfl rfl (A1 (D1 rfl) B7) ((B12 (A6v hscv) hx14).frz)<|qm rfl<|A0 (A8 rfl rfl) rfl<|A0 (A8 rfl rfl) rfl<|qm rfl<|qm rfl<|es (.k rfl (.k rfl (.k rfl (.k rfl (.k rfl (.k rfl (.k rfl (.k rfl (.k rfl (.k rfl (.k rfl (.k rfl (.k rfl (.k rfl (.k rfl (.k rfl (.k rfl (.k rfl (.k rfl .n)))))))))))))))))))<|s0<|oB h fun x15 hx15 h=>A0 (C0 rfl rfl rfl) rfl<|B3 (rs:=[.i x15.1,.i x15.2]) rfl rfl (A1 (D1 rfl) (A1 rfl B7)) ((A47 hx15).frz)<|qm rfl ?_
 refine A0 (A8 rfl rfl) rfl<|A0 (A8 rfl rfl) rfl<|qm rfl<|qm rfl<|es (.k rfl (.k rfl (.k rfl (.k rfl (.k rfl (.k rfl (.k rfl (.k rfl (.k rfl (.k rfl (.k rfl (.k rfl (.k rfl (.k rfl (.k rfl (.k rfl (.k rfl (.k rfl (.k rfl (.k rfl (.k rfl .n)))))))))))))))))))))<|s0<|oB h fun x16 hx16 h=>A0 (C0 rfl rfl rfl) rfl<|A0 (C0 rfl rfl rfl) rfl<|B3 (rs:=[.i x16.1,.i x16.2.1,.i x16.2.2]) rfl rfl (A1 (D1 rfl) (A1 (D1 rfl) B7)) ((A13 hx16).frz)<|qm rfl<|A0 (A8 rfl rfl) rfl<|A0 (A8 rfl rfl) rfl<|A0 (A8 rfl rfl) rfl<|qm rfl<|qm rfl<|qm rfl<|es (.k rfl (.k rfl (.k rfl (.k rfl (.k rfl (.k rfl (.k rfl (.k rfl (.k rfl (.k rfl (.k rfl (.k rfl (.k rfl (.k rfl (.k rfl (.k rfl (.k rfl (.k rfl (.k rfl (.k rfl (.k rfl (.k rfl (.k rfl .n)))))))))))))))))))))))<|s0<|oB h fun x29 hx29 h=>oB h fun x35 hx35 h=>oB h fun x39 hx39 h=>oB h fun x42 hx42 h=>oB h fun x45 hx45 h=>qm rfl<|A0 (F4 rfl rfl) rfl<|qm rfl<|gp 3 98 (.b ((x3.2 == 0) && (x4.2 == 0))) 95 rfl rfl (fun hg17=>?_) (fun hg17=>?_) ?_
 ·exact gT rfl hg17<|qm rfl<|gT rfl hg17<|A0 (F4 rfl rfl) rfl<|A0 (C9 rfl hg17 rfl) rfl<|ge 3 (by rw [hg17]; rfl) rfl rfl
 ·exact nT rfl hg17 rfl<|nT rfl hg17 rfl<|A0 (D0 rfl hg17 rfl) rfl<|ge 3 (by rw [hg17]; rfl) rfl rfl
 refine qm rfl<|gp 3 102 (.b (((x3.2 == 0) && (x4.2 == 0)) && (x5.2 == 0))) 99 rfl rfl (fun hg18=>?_) (fun hg18=>?_) ?_
 ·exact gT rfl hg18<|qm rfl<|gT rfl hg18<|A0 (F4 rfl rfl) rfl<|A0 (C9 rfl hg18 rfl) rfl<|ge 3 (by rw [hg18]; rfl) rfl rfl
 ·exact nT rfl hg18 rfl<|nT rfl hg18 rfl<|A0 (D0 rfl hg18 rfl) rfl<|ge 3 (by rw [hg18]; rfl) rfl rfl
 refine qm rfl<|gp 3 106 (.b ((((x3.2 == 0) && (x4.2 == 0)) && (x5.2 == 0)) && (x6.2.2 == 0))) 103 rfl rfl (fun hg19=>?_) (fun hg19=>?_) ?_
 ·exact gT rfl hg19<|qm rfl<|gT rfl hg19<|A0 (F4 rfl rfl) rfl<|A0 (C9 rfl hg19 rfl) rfl<|ge 3 (by rw [hg19]; rfl) rfl rfl
 ·exact nT rfl hg19 rfl<|nT rfl hg19 rfl<|A0 (D0 rfl hg19 rfl) rfl<|ge 3 (by rw [hg19]; rfl) rfl rfl
 refine qm rfl<|gp 3 110 (.b (((((x3.2 == 0) && (x4.2 == 0)) && (x5.2 == 0)) && (x6.2.2 == 0)) && (x8.2 == 9))) 107 rfl rfl (fun hg20=>?_) (fun hg20=>?_) ?_
 ·exact gT rfl hg20<|qm rfl<|gT rfl hg20<|A0 (F4 rfl rfl) rfl<|A0 (C9 rfl hg20 rfl) rfl<|ge 3 (by rw [hg20]; rfl) rfl rfl
 ·exact nT rfl hg20 rfl<|nT rfl hg20 rfl<|A0 (D0 rfl hg20 rfl) rfl<|ge 3 (by rw [hg20]; rfl) rfl rfl
 refine qm rfl<|gp 3 114 (.b ((((((x3.2 == 0) && (x4.2 == 0)) && (x5.2 == 0)) && (x6.2.2 == 0)) && (x8.2 == 9)) && (x10.2 == 0))) 111 rfl rfl (fun hg21=>?_) (fun hg21=>?_) ?_
 ·exact gT rfl hg21<|qm rfl<|gT rfl hg21<|A0 (F4 rfl rfl) rfl<|A0 (C9 rfl hg21 rfl) rfl<|ge 3 (by rw [hg21]; rfl) rfl rfl
 ·exact nT rfl hg21 rfl<|nT rfl hg21 rfl<|A0 (D0 rfl hg21 rfl) rfl<|ge 3 (by rw [hg21]; rfl) rfl rfl
 refine qm rfl<|gp 3 118 (.b (((((((x3.2 == 0) && (x4.2 == 0)) && (x5.2 == 0)) && (x6.2.2 == 0)) && (x8.2 == 9)) && (x10.2 == 0)) && (x12.2 == 0))) 115 rfl rfl (fun hg22=>?_) (fun hg22=>?_) ?_
 ·exact gT rfl hg22<|qm rfl<|gT rfl hg22<|A0 (F4 rfl rfl) rfl<|A0 (C9 rfl hg22 rfl) rfl<|ge 3 (by rw [hg22]; rfl) rfl rfl
 ·exact nT rfl hg22 rfl<|nT rfl hg22 rfl<|A0 (D0 rfl hg22 rfl) rfl<|ge 3 (by rw [hg22]; rfl) rfl rfl
 refine qm rfl<|gp 3 122 (.b ((((((((x3.2 == 0) && (x4.2 == 0)) && (x5.2 == 0)) && (x6.2.2 == 0)) && (x8.2 == 9)) && (x10.2 == 0)) && (x12.2 == 0)) && (x13.2 == 0))) 119 rfl rfl (fun hg23=>?_) (fun hg23=>?_) ?_
 ·exact gT rfl hg23<|qm rfl<|gT rfl hg23<|A0 (F4 rfl rfl) rfl<|A0 (C9 rfl hg23 rfl) rfl<|ge 3 (by rw [hg23]; rfl) rfl rfl
 ·exact nT rfl hg23 rfl<|nT rfl hg23 rfl<|A0 (D0 rfl hg23 rfl) rfl<|ge 3 (by rw [hg23]; rfl) rfl rfl
 refine qm rfl<|gp 3 126 (.b (((((((((x3.2 == 0) && (x4.2 == 0)) && (x5.2 == 0)) && (x6.2.2 == 0)) && (x8.2 == 9)) && (x10.2 == 0)) && (x12.2 == 0)) && (x13.2 == 0)) && (x14.2 == 0))) 123 rfl rfl (fun hg24=>?_) (fun hg24=>?_) ?_
 ·exact gT rfl hg24<|qm rfl<|gT rfl hg24<|A0 (F4 rfl rfl) rfl<|A0 (C9 rfl hg24 rfl) rfl<|ge 3 (by rw [hg24]; rfl) rfl rfl
 ·exact nT rfl hg24 rfl<|nT rfl hg24 rfl<|A0 (D0 rfl hg24 rfl) rfl<|ge 3 (by rw [hg24]; rfl) rfl rfl
 refine qm rfl<|gp 3 130 (.b ((((((((((x3.2 == 0) && (x4.2 == 0)) && (x5.2 == 0)) && (x6.2.2 == 0)) && (x8.2 == 9)) && (x10.2 == 0)) && (x12.2 == 0)) && (x13.2 == 0)) && (x14.2 == 0)) && (x15.2 == 0))) 127 rfl rfl (fun hg25=>?_) (fun hg25=>?_) ?_
 ·exact gT rfl hg25<|qm rfl<|gT rfl hg25<|A0 (F4 rfl rfl) rfl<|A0 (C9 rfl hg25 rfl) rfl<|ge 3 (by rw [hg25]; rfl) rfl rfl
 ·exact nT rfl hg25 rfl<|nT rfl hg25 rfl<|A0 (D0 rfl hg25 rfl) rfl<|ge 3 (by rw [hg25]; rfl) rfl rfl
 refine qm rfl<|gp 3 134 (.b (((((((((((x3.2 == 0) && (x4.2 == 0)) && (x5.2 == 0)) && (x6.2.2 == 0)) && (x8.2 == 9)) && (x10.2 == 0)) && (x12.2 == 0)) && (x13.2 == 0)) && (x14.2 == 0)) && (x15.2 == 0)) && (x16.2.2 == 0))) 131 rfl rfl (fun hg26=>?_) (fun hg26=>?_) ?_
 ·exact gT rfl hg26<|qm rfl<|gT rfl hg26<|A0 (F4 rfl rfl) rfl<|A0 (C9 rfl hg26 rfl) rfl<|ge 3 (by rw [hg26]; rfl) rfl rfl
 ·exact nT rfl hg26 rfl<|nT rfl hg26 rfl<|A0 (D0 rfl hg26 rfl) rfl<|ge 3 (by rw [hg26]; rfl) rfl rfl
 refine qm rfl<|gp 4 139 (.b x29) 135 rfl rfl (fun hg27=>?_) (fun hg27=>?_) ?_
 ·refine oB (bt hx29 hg27) fun x28 hx28 hx29=>?_
  obtain rfl:=os hx29
  exact gT rfl hg27<|A0 (C0 rfl rfl rfl) rfl<|gT rfl hg27<|A15 (rs:=[(.agg (D6 x28))]) rfl rfl (M1 rfl (M1 rfl A3o)) (A1 rfl (A1 rfl B7)) ((T3 hx28).frz)<|gT rfl hg27<|A0 (C2r (a:=D6 x3.1) (b:=D6 x28) rfl rfl rfl rfl (A1v (A1v B3d))) rfl<|A0 (C9 rfl hg27 rfl) rfl<|ge 4 rfl rfl rfl
 ·obtain rfl:=os (bf hx29 hg27)
  exact nT rfl hg27 rfl<|nT rfl hg27 rfl<|nT rfl hg27 rfl<|A0 (D0 rfl hg27 rfl) rfl<|ge 4 rfl rfl rfl
 refine qm rfl<|gp 3 143 (.b (x29 && (x4.1 == 1))) 140 rfl rfl (fun hg30=>?_) (fun hg30=>?_) ?_
 ·exact gT rfl hg30<|qm rfl<|gT rfl hg30<|A0 (F4 rfl rfl) rfl<|A0 (C9 rfl hg30 rfl) rfl<|ge 3 (by rw [hg30]; rfl) rfl rfl
 ·exact nT rfl hg30 rfl<|nT rfl hg30 rfl<|A0 (D0 rfl hg30 rfl) rfl<|ge 3 (by rw [hg30]; rfl) rfl rfl
 refine qm rfl<|gp 3 147 (.b ((x29 && (x4.1 == 1)) && (x5.1 == 0))) 144 rfl rfl (fun hg31=>?_) (fun hg31=>?_) ?_
 ·exact gT rfl hg31<|qm rfl<|gT rfl hg31<|A0 (F4 rfl rfl) rfl<|A0 (C9 rfl hg31 rfl) rfl<|ge 3 (by rw [hg31]; rfl) rfl rfl
 ·exact nT rfl hg31 rfl<|nT rfl hg31 rfl<|A0 (D0 rfl hg31 rfl) rfl<|ge 3 (by rw [hg31]; rfl) rfl rfl
 refine qm rfl<|gp 5 153 (.b x35) 148 rfl rfl (fun hg32=>?_) (fun hg32=>?_) ?_
 ·refine oB (bt hx35 hg32) fun x33 hx33 hx35=>oB hx35 fun x34 hx34 hx35=>?_
  obtain rfl:=os hx35
  exact gT rfl hg32<|A0 (C0 rfl rfl rfl) rfl<|gT rfl hg32<|A0 (L4 (rows:=List.map cI [(-1),0,2]) rfl rfl (F5 (fun _=>rfl) _)) rfl<|gT rfl hg32<|A15 (rs:=[(.agg (B4 x33))]) rfl rfl (M1 rfl (M1 rfl A3o)) (A1 rfl (A1 rfl B7)) ((A1l hx33).frz)<|gT rfl hg32<|B3 (rs:=[.b x34]) rfl rfl (A1 (D1 rfl) (A1 (D1 rfl) B7)) ((B10 hx34).frz)<|A0 (C9 rfl hg32 rfl) rfl<|ge 5 rfl rfl rfl
 ·obtain rfl:=os (bf hx35 hg32)
  exact nT rfl hg32 rfl<|nT rfl hg32 rfl<|nT rfl hg32 rfl<|G7 (E2 rfl (by rw [hg32]; rfl)) rfl<|A0 (D0 rfl hg32 rfl) rfl<|ge 5 rfl rfl rfl
 refine qm rfl<|gp 3 157 (.b (x35 && (x6.2.1 == 12))) 154 rfl rfl (fun hg36=>?_) (fun hg36=>?_) ?_
 ·exact gT rfl hg36<|qm rfl<|gT rfl hg36<|A0 (F4 rfl rfl) rfl<|A0 (C9 rfl hg36 rfl) rfl<|ge 3 (by rw [hg36]; rfl) rfl rfl
 ·exact nT rfl hg36 rfl<|nT rfl hg36 rfl<|A0 (D0 rfl hg36 rfl) rfl<|ge 3 (by rw [hg36]; rfl) rfl rfl
 refine qm rfl<|gp 4 162 (.b x39) 158 rfl rfl (fun hg37=>?_) (fun hg37=>?_) ?_
 ·refine oB (bt hx39 hg37) fun x38 hx38 hx39=>?_
  obtain rfl:=os hx39
  exact gT rfl hg37<|qm rfl<|gT rfl hg37<|A0 (L4 (rows:=List.map cI [350,320]) rfl rfl (F5 (fun _=>rfl) _)) rfl<|gT rfl hg37<|B3 (rs:=[.b x38]) rfl rfl (A1 rfl (A1 rfl B7)) ((A21 hx38).frz)<|A0 (C9 rfl hg37 rfl) rfl<|ge 4 rfl rfl rfl
 ·obtain rfl:=os (bf hx39 hg37)
  exact nT rfl hg37 rfl<|nT rfl hg37 rfl<|G7 (E2 rfl (by rw [hg37]; rfl)) rfl<|A0 (D0 rfl hg37 rfl) rfl<|ge 4 rfl rfl rfl
 refine qm rfl<|gp 4 167 (.b x42) 163 rfl rfl (fun hg40=>?_) (fun hg40=>?_) ?_
 ·refine oB (bt hx42 hg40) fun x41 hx41 hx42=>?_
  obtain rfl:=os hx42
  exact gT rfl hg40<|qm rfl<|gT rfl hg40<|A0 (L4 (rows:=List.map cI [0]) rfl rfl (F5 (fun _=>rfl) _)) rfl<|gT rfl hg40<|B3 (rs:=[.b x41]) rfl rfl (A1 rfl (A1 rfl B7)) ((A21 hx41).frz)<|A0 (C9 rfl hg40 rfl) rfl<|ge 4 rfl rfl rfl
 ·obtain rfl:=os (bf hx42 hg40)
  exact nT rfl hg40 rfl<|nT rfl hg40 rfl<|G7 (E2 rfl (by rw [hg40]; rfl)) rfl<|A0 (D0 rfl hg40 rfl) rfl<|ge 4 rfl rfl rfl
 refine qm rfl<|gp 4 172 (.b x45) 168 rfl rfl (fun hg43=>?_) (fun hg43=>?_) ?_
 ·refine oB (bt hx45 hg43) fun x44 hx44 hx45=>?_
  obtain rfl:=os hx45
  exact gT rfl hg43<|qm rfl<|gT rfl hg43<|A0 (L4 (rows:=List.map cI [0]) rfl rfl (F5 (fun _=>rfl) _)) rfl<|gT rfl hg43<|B3 (rs:=[.b x44]) rfl rfl (A1 rfl (A1 rfl B7)) ((A21 hx44).frz)<|A0 (C9 rfl hg43 rfl) rfl<|ge 4 rfl rfl rfl
 ·obtain rfl:=os (bf hx45 hg43)
  exact nT rfl hg43 rfl<|nT rfl hg43 rfl<|G7 (E2 rfl (by rw [hg43]; rfl)) rfl<|A0 (D0 rfl hg43 rfl) rfl<|ge 4 rfl rfl rfl
 refine qm rfl<|gp 4 177 (.b (x45 && ((List.length x14.1:Int) == 0))) 173 rfl rfl (fun hg46=>?_) (fun hg46=>?_) ?_
 ·exact gT rfl hg46<|qm rfl<|gT rfl hg46<|A0 (E0 (f:=cI) rfl) rfl<|gT rfl hg46<|A0 (F4 rfl rfl) rfl<|A0 (C9 rfl hg46 rfl) rfl<|ge 4 (by rw [hg46]; rfl) rfl rfl
 ·exact nT rfl hg46 rfl<|nT rfl hg46 rfl<|nT rfl hg46 rfl<|A0 (D0 rfl hg46 rfl) rfl<|ge 4 (by rw [hg46]; rfl) rfl rfl
 refine qm rfl<|gp 3 181 (.b ((x45 && ((List.length x14.1:Int) == 0)) && (x15.1 == 1))) 178 rfl rfl (fun hg47=>?_) (fun hg47=>?_) ?_
 ·exact gT rfl hg47<|qm rfl<|gT rfl hg47<|A0 (F4 rfl rfl) rfl<|A0 (C9 rfl hg47 rfl) rfl<|ge 3 (by rw [hg47]; rfl) rfl rfl
 ·exact nT rfl hg47 rfl<|nT rfl hg47 rfl<|A0 (D0 rfl hg47 rfl) rfl<|ge 3 (by rw [hg47]; rfl) rfl rfl
 refine qm rfl<|gp 3 185 (.b (((x45 && ((List.length x14.1:Int) == 0)) && (x15.1 == 1)) && (x16.1 == 1))) 182 rfl rfl (fun hg48=>?_) (fun hg48=>?_) ?_
 ·exact gT rfl hg48<|qm rfl<|gT rfl hg48<|A0 (F4 rfl rfl) rfl<|A0 (C9 rfl hg48 rfl) rfl<|ge 3 (by rw [hg48]; rfl) rfl rfl
 ·exact nT rfl hg48 rfl<|nT rfl hg48 rfl<|A0 (D0 rfl hg48 rfl) rfl<|ge 3 (by rw [hg48]; rfl) rfl rfl
 refine qm rfl<|gp 3 189 (.b ((((x45 && ((List.length x14.1:Int) == 0)) && (x15.1 == 1)) && (x16.1 == 1)) && (x16.2.1 == 0))) 186 rfl rfl (fun hg49=>?_) (fun hg49=>?_) ?_
 ·exact gT rfl hg49<|qm rfl<|gT rfl hg49<|A0 (F4 rfl rfl) rfl<|A0 (C9 rfl hg49 rfl) rfl<|ge 3 (by rw [hg49]; rfl) rfl rfl
 ·exact nT rfl hg49 rfl<|nT rfl hg49 rfl<|A0 (D0 rfl hg49 rfl) rfl<|ge 3 (by rw [hg49]; rfl) rfl rfl
 refine qm rfl<|es (ra1 rfl)<|C4 ?_
 obtain rfl:=os h
 exact retq trivial (A9 rfl B6) (A4 rfl B5) (A2 A5 B1)
end Rm
end
section
set_option maxRecDepth 100000
set_option maxHeartbeats 0
namespace Rm
open Go Am
theorem R9:K6 = some true:= by decide +kernel
end Rm
end
section
set_option maxRecDepth 100000
set_option maxHeartbeats 0
namespace Rm
open Go Am Go.Proofs.YtbheamjhjgoccaaDoor.Cd
end Rm
end
section
namespace Rm
open Go Am
def R4 (w:Span) (f:RoFigure):Int:=if f.Cracks≤w.Lo∧w.Hi≤f.Slumps then 1 else if f.Cracks > w.Hi∨w.Lo > f.Slumps then 2 else 0
theorem C2d {h:RoHouse} (ok:HOk h) {f p l:Nat} (hf:f < h.Figures.length) (hp:p < h.Places.length) (hl:l < 16):P1 ⟨h⟩ (f:Int) (p:Int) (l:Int) = some (R4 (warm h p l) h.Figures[f]!):= by
 have b:=A9p ok hp l
 have g:=(ok.figure _ (J8 hf)).bears
 unfold P1
 rw [B5u ok hp hl,F6 hf]
 simp only [Option.bind_some]
 generalize warm h p l = w at b ⊢
 generalize h.Figures[f]! = r at g ⊢
 unfold R4 B2m A88
 by_cases c1:r.Cracks≤w.Lo
 ·by_cases c2:w.Hi≤r.Slumps
  ·simp [c1,c2,show ¬ (r.Cracks > w.Lo) by omega,show ¬ (r.Slumps < w.Hi) by omega]
  ·by_cases c3:w.Lo > r.Slumps
   ·simp [c2,c3,show ¬ (r.Cracks > w.Lo) by omega,show (r.Slumps < w.Hi) by omega,show ¬ (r.Slumps = w.Hi) by omega]
   ·simp [c2,c3,show ¬ (r.Cracks > w.Lo) by omega,show (r.Slumps < w.Hi) by omega,show ¬ (r.Slumps = w.Hi) by omega,show ¬ (r.Cracks > w.Hi) by omega]
 ·by_cases c2:w.Hi≤r.Slumps
  ·by_cases c3:r.Cracks > w.Hi
   ·simp [c1,c3,show (r.Cracks > w.Lo) by omega,show ¬ (r.Slumps < w.Hi) by omega,show ¬ (r.Cracks = w.Lo) by omega]
   ·simp [c1,c3,show (r.Cracks > w.Lo) by omega,show ¬ (r.Slumps < w.Hi) by omega,show ¬ (r.Cracks = w.Lo) by omega,show ¬ (w.Lo > r.Slumps) by omega]
  ·have h1:¬ (r.Cracks > r.Slumps):= by omega
   simp [c1,h1,show (r.Cracks > w.Lo) by omega,show (r.Slumps < w.Hi) by omega,show ¬ (r.Cracks = w.Lo) by omega,show ¬ (w.Lo > r.Slumps) by omega,show ¬ (r.Cracks > w.Hi) by omega]
def A8y (lo c s:Int) (i:Nat):Int:=max 0 (min (lo + i) (s + 1) - max lo c)
theorem C0o {h:RoHouse} {f:RoFigure} {p l:Int} {w:Span} (hw:A09 h p l = some w) (b:-1000≤w.Lo∧w.Lo≤w.Hi∧w.Hi≤1000) (g:-1000≤f.Cracks∧f.Cracks≤f.Slumps∧f.Slumps≤1000):N1 h f p l = some (R4 w f):= by
 unfold N1
 rw [hw]
 simp only [Option.bind_some]
 have l1:=J4 (b:=W5 f w) (fun i=>(A8y w.Lo f.Cracks f.Slumps i,(i:Int),w.Lo + i)) (w.Hi - w.Lo + 1).toNat (r:=(A8y w.Lo f.Cracks f.Slumps (w.Hi - w.Lo + 1).toNat,((w.Hi - w.Lo + 1).toNat:Int))) (by omega) (fun i hi=>by
  unfold W5
  simp only []
  have hc:0≤A8y w.Lo f.Cracks f.Slumps i∧A8y w.Lo f.Cracks f.Slumps i≤3000:= by unfold A8y; omega
  rw [if_pos (by rw [decide_eq_true_eq]; omega),within5]
  simp only [Option.bind_some]
  rw [E4 (n:=(i:Int) + 1) (by omega),E4 (n:=w.Lo + i + 1) (by omega),E4 (n:=A8y w.Lo f.Cracks f.Slumps i + 1) (by omega)]
  have e2:w.Lo + (i:Int) + 1 = w.Lo + ((i + 1:Nat):Int):= by omega
  rw [e2]
  cases ho:out f.Cracks f.Slumps (w.Lo + i) with
  | true =>
   have:¬ (f.Cracks≤w.Lo + i∧w.Lo + i≤f.Slumps):=fun h=>by rw [Q7.mpr h] at ho; cases ho
   have e1:A8y w.Lo f.Cracks f.Slumps (i + 1) = A8y w.Lo f.Cracks f.Slumps i:= by unfold A8y; omega
   rw [e1]; rfl
  | false =>
   have:=Q7.mp ho
   have e1:A8y w.Lo f.Cracks f.Slumps (i + 1) = A8y w.Lo f.Cracks f.Slumps i + 1:= by unfold A8y; omega
   rw [e1]; rfl) (by
  unfold W5
  simp only []
  rw [if_neg (by rw [decide_eq_true_eq]; omega)])
 have l0:(A8y w.Lo f.Cracks f.Slumps 0,((0:Nat):Int),w.Lo + ((0:Nat):Int)) = (0,0,w.Lo):= by
  have:A8y w.Lo f.Cracks f.Slumps 0 = 0:= by unfold A8y; omega
  rw [this,Int.natCast_zero,Int.add_zero]
 have l1:loop (W5 f w) (A8y w.Lo f.Cracks f.Slumps 0,((0:Nat):Int),w.Lo + ((0:Nat):Int)) = some (A8y w.Lo f.Cracks f.Slumps (w.Hi - w.Lo + 1).toNat,((w.Hi - w.Lo + 1).toNat:Int)):=l1
 rw [l0] at l1
 rw [l1]
 simp only [Option.bind_some]
 unfold R4
 have hc:A8y w.Lo f.Cracks f.Slumps (w.Hi - w.Lo + 1).toNat = max 0 (min (w.Hi + 1) (f.Slumps + 1) - max w.Lo f.Cracks):= by
  unfold A8y
  congr 3
  omega
 rw [hc]
 by_cases c1:f.Cracks≤w.Lo∧w.Hi≤f.Slumps
 ·rw [if_pos c1,if_pos (by rw [beq_iff_eq]; omega)]
 ·rw [if_neg c1,if_neg (by rw [beq_iff_eq]; omega)]
  by_cases c2:f.Cracks > w.Hi∨w.Lo > f.Slumps
  ·rw [if_pos c2,if_pos (by rw [beq_iff_eq]; omega)]
  ·rw [if_neg c2,if_neg (by rw [beq_iff_eq]; omega)]
theorem A8t {h:RoHouse} (ok:HOk h) {f:RoFigure} (hf:FiOk f) {p l:Nat} (hp:p < h.Places.length) (hl:l < 16):N1 h f (p:Int) (l:Int) = some (R4 (warm h p l) f):= by
 have b:=A9p ok hp l
 have g:=hf.bears
 exact C0o (B6f ok hp hl) (by omega) (by omega)
theorem A7x {h:RoHouse} (ok:HOk h):1≤2 ^ h.Stoves.toNat∧2 ^ h.Stoves.toNat≤8:= by
 have:=ok.s
 exact ⟨Nat.pow_pos (by decide),Nat.le_trans (Nat.pow_le_pow_right (by decide) (show h.Stoves.toNat≤3 by omega)) (by decide)⟩
theorem D24 {h:RoHouse} (ok:HOk h):B4n .i64 1 h.Stoves = some ((2 ^ h.Stoves.toNat:Nat):Int):= by
 have:=ok.s
 have e:=shl1 h.Stoves.toNat (by omega)
 rwa [Int.toNat_of_nonneg ok.s.1] at e
theorem D1m {h:RoHouse} (ok:HOk h):A0c h.Stoves = some ((2 ^ h.Stoves.toNat:Nat):Int):= by
 have:=ok.s
 have e:=C7y h.Stoves.toNat (by omega)
 rwa [Int.toNat_of_nonneg ok.s.1] at e
end Rm
end
section
set_option maxRecDepth 100000
set_option maxHeartbeats 0
namespace Rm
open Go Am Go.Proofs.YtbheamjhjgoccaaDoor.Cd
def A4e (a0:(List Int)) (a1:Int) (s1:Int):Option (Int ⊕ (Bool ⊕ Unit)) :=
 if (decide (s1 < (List.length a0:Int))) = true then
  (idx a0 s1).bind fun x4 =>
  if (x4 == a1) = true then
  some (.inr (.inl true))
  else
  some (.inl (w64 (s1 + 1)))
 else
  some (.inr (.inr ()))
def A58 (a0:(List Int)) (a1:Int):Option Bool :=
 (loop (A4e a0 a1) 0).bind fun (o6:(Bool ⊕ Unit)) =>
 match o6 with
 | (.inl vo6_0) =>
  some vo6_0
 | (.inr vo6_1) =>
  some false
theorem B3v {c:Sc} {H:A6} {a0:(List Int)} {a1:Int} {r:Bool} (h:A58 a0 a1 = some r) :
  E6 tab c H (.fn (.func 54) [] []) [(.seq 1 (List.map cI a0)),.i a1] [.b r]:= by
 unfold A58 at h
 refine cE rfl rfl<|s0<|qm rfl<|es (ra2 rfl rfl)<|B8<|s0<|qm rfl<|es (ra3 rfl rfl rfl)<|C7<|oB h fun o6 ho6 h=>wl (fun s1=>[(0,(.seq 1 (List.map cI a0))),(1,.i a1),(5,.i s1)]) (fun (q2:Unit) s1=>[]) 0 (fun r e s' H'=>(match r with | (.inl v)=>e = .ret∧RetQ H [.tmp 4] [.b v] e s' H' | (.inr v)=>PX 0 [] (H++[]) e s' H':Prop)) () ho6 rfl rfl (fun _ _=>rfl) (fun _=>rfl) rfl (fun s1=>(bdc L3 (bdc A5 (bdc A5 bdn)))) (fun q2 s1 ys1 hs1=>?_) ?_
 ·unfold A4e at hs1
  refine B8<|s0<|qm rfl<|qm rfl<|A0 (E0 (f:=cI) rfl) rfl<|A0 (G1 rfl rfl) rfl<|es (ra4 rfl rfl rfl rfl)<|wi hs1 rfl (fun hc3 hs1=>?_) fun hc3 hs1=>?_
  ·refine C1<|B8<|C7<|s0<|oB hs1 fun x4 hx4 hs1=>qm rfl<|qm rfl<|A0 (F0 (f:=cI) rfl rfl hx4) rfl<|A0 (F3 rfl rfl) rfl<|qm rfl<|A0 (F4 rfl rfl) rfl<|es (ra4 rfl rfl rfl rfl)<|wi hs1 rfl (fun hc5 hs1=>?_) fun hc5 hs1=>?_
   ·refine s0<|qm rfl<|es (ra1 rfl)<|C4 ?_
    obtain rfl:=os hs1
    exact lx rfl (And.intro rfl (retq trivial (A9 rfl B6) (A4 rfl B5) (A2 A5 B1))) (Sub.refl _)
   ·refine C1<|r0<|qm rfl<|A0 (E3 rfl rfl) rfl<|qm rfl<|en (ra3 rfl rfl rfl) ?_
    cases hs1
    exact lnT () rfl (su3 rfl rfl rfl)
  ·refine F1 ?_
   obtain rfl:=os hs1
   exact lx rfl px (.nil _)
 ·rcases o6 with vo6_0 | vo6_1
  ·rintro e s' H' - ⟨rfl,hret⟩
   cases h
   exact hret
  ·rintro e s' H' - ⟨rfl,rfl,rfl⟩
   refine s0<|qm rfl<|es (ra1 rfl)<|C4 ?_
   obtain rfl:=os h
   exact retq trivial (A9 rfl B6) (A4 rfl B5) (A2 A5 B1)
def A17 (a0:RoHouse) (a1:Int):Option RoHouse :=
 some (RoHouse.mk (Span.mk (w64 (a0.Weather.Lo - a1)) (w64 (a0.Weather.Hi + a1))) a0.Stoves a0.Holds a0.Places a0.Figures a0.Bill)
theorem A6l {c:Sc} {H:A6} {a0:RoHouse} {a1:Int} {r:RoHouse} (h:A17 a0 a1 = some r) :
  E6 tab c H (.fn (.func 57) [] []) [(.agg (A3 a0)),.i a1] [(.agg (A3 r))]:= by
 unfold A17 at h
 refine cE rfl rfl<|sg 0 rfl<|A0 (E9 (cs:=A3 a0) rfl rfl rfl) rfl<|A0 D5 rfl<|es (ra3 rfl rfl rfl)<|s0<|A0 (C5 rfl) rfl<|A0 (C5 rfl) rfl<|A0 (C3 rfl rfl rfl) rfl<|qm rfl<|A0 (W0 rfl rfl) rfl<|A0 (C5 rfl) rfl<|A0 (C5 rfl) rfl<|A0 (C3 rfl rfl rfl) rfl<|qm rfl<|A0 (E3 rfl rfl) rfl<|A0 (F9 (cs:=D6 (Span.mk (w64 (a0.Weather.Lo - a1)) (w64 (a0.Weather.Hi + a1)))) rfl rfl) rfl<|A0 (C5 rfl) rfl<|F2 (C8 (ds:=(A3 (RoHouse.mk (Span.mk (w64 (a0.Weather.Lo - a1)) (w64 (a0.Weather.Hi + a1))) a0.Stoves a0.Holds a0.Places a0.Figures a0.Bill))) rfl rfl rfl rfl (B9 rfl) rfl) rfl<|es (ra2 rfl rfl)<|s0<|A0 (C0 rfl rfl rfl) rfl<|F2 (C8 (ds:=(A3 (RoHouse.mk (Span.mk (w64 (a0.Weather.Lo - a1)) (w64 (a0.Weather.Hi + a1))) a0.Stoves a0.Holds a0.Places a0.Figures a0.Bill))) rfl rfl rfl rfl (B9 rfl) rfl) rfl<|es (ra1 rfl)<|C4 ?_
 obtain rfl:=os h
 exact retq trivial (F7 (E7 (ds:=A3 (RoHouse.mk (Span.mk (w64 (a0.Weather.Lo - a1)) (w64 (a0.Weather.Hi + a1))) a0.Stoves a0.Holds a0.Places a0.Figures a0.Bill)) rfl rfl rfl rfl) B6) (A4 (I7 rfl) B5) (A2 (G6 rfl) B1)
end Rm
end
section
namespace Rm
open Go Am
theorem B7g {α:Type} [Inhabited α] (l:List α) (p:α→Bool):(first (fun i=>if p l[i]! then some () else none) l.length).isSome = l.any p:= by
 rw [← C0l l p]
 have:(fun (i:Nat)=>if p l[i]! then some () else none) = fun (i:Nat)=>(if p l[i]! then some (i:Int) else none).map fun _=>():= by
  funext i; cases p l[i]! <;> rfl
 rw [this,A3v,Option.isSome_map]
theorem C3t (l:List Int) (x:Int) (hl:l.length < 9223372036854775808):L2 l x = some (l.any (x == ·)):= by
 unfold L2 Z4
 obtain ⟨o,ho,hc⟩:=B43 l (fun y=>x == y) (b:=P4 l x) hl (fun i hi=>by
  unfold P4
  rw [if_pos (by simpa using hi),F6 hi]
  simp only [Option.bind_some]
  cases x == l[i]! <;> rfl) (by
  unfold P4
  rw [if_neg (by simp)])
 rw [ho]
 rcases o with i | u
 ·simp only [Option.bind_some]
  rw [hc.2,decide_eq_true hc.1]
 ·simp only [Option.bind_some]
  rw [hc]; rfl
theorem C92 (l:List Int) (x:Int) (hl:l.length < 9223372036854775808):A58 l x = some (l.any (· == x)):= by
 unfold A58
 have l1:=A7g (b:=A4e l x) l.length (fun (i:Nat)=>if l[i]! == x then some (.inl true) else none) (.inr ()) hl (fun i hi _=>by
  unfold A4e
  rw [if_pos (by simpa using hi),F6 hi]
  simp only [Option.bind_some]
  cases l[i]! == x <;> rfl) (by
  unfold A4e
  rw [if_neg (by simp)])
 rw [l1]
 have ha:=B7g l (· == x)
 have:(fun (i:Nat)=>if l[i]! == x then some (Sum.inl true:Bool ⊕ Unit) else none) = fun (i:Nat)=>(if l[i]! == x then some () else none).map fun _=>Sum.inl true:= by
  funext i; cases l[i]! == x <;> rfl
 rw [this,A3v]
 cases hf:first (fun (i:Nat)=>if l[i]! == x then some () else none) l.length with
 | none=>rw [hf] at ha; rw [← ha]; rfl
 | some u=>rw [hf] at ha; rw [← ha]; rfl
def V8 (l:List Int) (i:Nat):Bool:=l[i]! != -1 && (l.take i).any (· == l[i]!)
def dup (l:List Int):Bool:=(first (fun i=>if V8 l i then some () else none) l.length).isSome
def I0 (h:RoHouse) (p:RoPlan):Int :=
 if (check h).2.2 != 0 then (check h).2.2 else
 if out 0 (((2 ^ h.Stoves.toNat:Nat):Int) - 1) p.Lit then 7 else
 if (p.At.length:Int) != (h.Figures.length:Int) then 3 else
 if p.At.any (out (-1) ((h.Places.length:Int) - 1)) then 4 else
 if dup p.At then 5 else 0
theorem C9b (l:List Int) (x:Int):l.any (x == ·) = l.any (· == x):= by
 congr 1
 funext y
 rw [Bool.eq_iff_iff,beq_iff_eq,beq_iff_eq]
 exact ⟨Eq.symm,Eq.symm⟩
def e (p:List Int) (i:Nat):Int:=if i < p.length then p[i]! + 1 else 0
def enc (p:List Int):Ar5 Int:=⟨e p 0,e p 1,e p 2,e p 3,e p 4⟩
theorem B07 (p:List Int):∀i:Nat,i < 5→idx (Ar5.l (enc p)) (i:Int) = some (e p i)
 | 0,_=>rfl
 | 1,_=>rfl
 | 2,_=>rfl
 | 3,_=>rfl
 | 4,_=>rfl
 | n + 5,h=>by omega
theorem D1q (p:List Int) {n j:Nat} (h:j < n):(p.take n)[j]! = p[j]!:= by
 by_cases c:j < p.length
 ·rw [getElem!_pos (p.take n) j (by rw [List.length_take]; omega),getElem!_pos p j c,List.getElem_take]
 ·rw [getElem!_neg (p.take n) j (by rw [List.length_take]; omega),getElem!_neg p j c]
theorem C9t (p:List Int) (n j:Nat):e (p.take n) j = if j < n then e p j else 0:= by
 unfold e
 rw [List.length_take]
 by_cases h:j < n
 ·rw [if_pos h,D1q p h]
  by_cases c:j < p.length
  ·rw [if_pos (by omega),if_pos c]
  ·rw [if_neg (by omega),if_neg c]
 ·rw [if_neg h,if_neg (by omega)]
theorem D15 (p:List Int) {i:Nat} (hi:i < p.length):Ar5.set (enc (p.take i)) (i:Int) (p[i]! + 1) = enc (p.take (i + 1)):= by
 have comp:∀j:Nat,(if (i:Int) = (j:Int) then p[i]! + 1 else e (p.take i) j) = e (p.take (i + 1)) j:= by
  intro j
  rw [C9t,C9t]
  by_cases h:i = j
  ·subst h
   rw [if_pos rfl,if_pos (by omega)]
   unfold e
   rw [if_pos hi]
  ·rw [if_neg (by omega)]
   by_cases c:j < i
   ·rw [if_pos c,if_pos (by omega)]
   ·rw [if_neg c,if_neg (by omega)]
 have q:=congr (congr (congr (congr (congrArg Ar5.mk (comp 0)) (comp 1)) (comp 2)) (comp 3)) (comp 4)
 exact q
structure PV (h:RoHouse) (p:List Int):Prop where
 len:p.length = h.Figures.length
 bd:∀i,i < p.length→-1≤p[i]!∧p[i]! < (h.Places.length:Int)
theorem B33 {h:RoHouse} (ok:HOk h) (p:RoPlan) (pv:PV h p.At):loop (W2 p) (0,⟨p.Lit,⟨0,0,0,0,0⟩⟩) = some (if dup p.At then .inr () else .inl ⟨p.Lit,enc p.At⟩):= by
 have h5:=ok.figures
 have hp:=ok.places
 have hl:=pv.len
 have l1:=A8b (b:=W2 p) (fun i=>((i:Int),room_plan.mk p.Lit (enc (p.At.take i)))) p.At.length (fun i=>if V8 p.At i then some (Sum.inr ()) else none) (.inl ⟨p.Lit,enc p.At⟩) (by omega) (fun i hi _=>by
  have hb:=pv.bd i hi
  unfold W2
  simp only []
  rw [if_pos (by simpa using hi),F6 hi]
  simp only [Option.bind_some]
  rw [B4o (Nat.le_of_lt hi)]
  simp only [Option.bind_some]
  rw [C3t _ _ (by rw [List.length_take]; omega),C9b,B07 _ i (by omega),E4 (by omega),E4 (by omega),D15 _ hi]
  unfold V8
  cases p.At[i]! != -1
  ·rfl
  ·simp only [Option.bind_some,if_true,Bool.true_and]
   cases (p.At.take i).any (· == p.At[i]!) <;> rfl) (fun _=>by
  unfold W2
  simp only []
  rw [if_neg (by simp),List.take_length])
 have l1:loop (W2 p) (0,⟨p.Lit,⟨0,0,0,0,0⟩⟩) = _:=l1
 rw [l1]
 unfold dup
 have:(fun (i:Nat)=>if V8 p.At i then some (Sum.inr ():room_plan ⊕ Unit) else none) = fun (i:Nat)=>(if V8 p.At i then some () else none).map fun _=>Sum.inr ():= by
  funext i; cases V8 p.At i <;> rfl
 rw [this,A3v]
 cases first (fun (i:Nat)=>if V8 p.At i then some () else none) p.At.length <;> rfl
theorem A0z {h:RoHouse} {p:RoPlan} (c:I0 h p = 0):HOk h∧PV h p.At∧(∃ l:Nat,p.Lit = l∧l < 2 ^ h.Stoves.toNat)∧dup p.At = false∧(check h).2.2 = 0:= by
 unfold I0 at c
 by_cases e0:(check h).2.2 = 0
 ·have ok:=A36 e0
  rw [if_neg (by simp [e0])] at c
  cases h1:out 0 (((2 ^ h.Stoves.toNat:Nat):Int) - 1) p.Lit with
  | true=>rw [h1,if_pos rfl] at c; exact absurd c (by decide)
  | false =>
  rw [h1,if_neg (by decide)] at c
  cases h2:(p.At.length:Int) != (h.Figures.length:Int) with
  | true=>rw [h2,if_pos rfl] at c; exact absurd c (by decide)
  | false =>
  rw [h2,if_neg (by decide)] at c
  cases h3:p.At.any (out (-1) ((h.Places.length:Int) - 1)) with
  | true=>rw [h3,if_pos rfl] at c; exact absurd c (by decide)
  | false =>
  rw [h3,if_neg (by decide)] at c
  cases h4:dup p.At with
  | true=>rw [h4,if_pos rfl] at c; exact absurd c (by decide)
  | false =>
  have b1:=Q7.mp h1
  have h2:(p.At.length:Int) = (h.Figures.length:Int):= by
   by_cases q:(p.At.length:Int) = (h.Figures.length:Int)
   ·exact q
   ·rw [bne_iff_ne.mpr q] at h2; cases h2
  refine ⟨ok,⟨by omega,fun i hi=>?_⟩,⟨p.Lit.toNat,by omega,by omega⟩,rfl,e0⟩
  rw [List.any_eq_false] at h3
  have:=h3 _ (J8 hi)
  have:=Q7.mp (by simpa using this:out (-1) ((h.Places.length:Int) - 1) p.At[i]! = false)
  omega
 ·rw [if_pos (bne_iff_ne.mpr e0)] at c
  exact absurd c e0
theorem B0n {α:Type} {h:RoHouse} (hb:NB h) (p:RoPlan) (hl:p.At.length < 9223372036854775808) (err:Int→α) (k:room_plan→Option α) {F:Option α}
  (hF:F = (P2 h).bind fun x1=>if (x1.2.2 != 0) = true then some (err x1.2.2) else
   (B4n .i64 1 h.Stoves).bind fun x3=>(G3 0 (w64 (x3 - 1)) [p.Lit]).bind fun x4=>if x4 = true then some (err 7) else
   if ((List.length p.At:Int) != (List.length h.Figures:Int)) = true then some (err 3) else
   (G3 (-1) (w64 ((List.length h.Places:Int) - 1)) p.At).bind fun x7=>if x7 = true then some (err 4) else
   (loop (W2 p) (0,(room_plan.mk p.Lit (Ar5.mk 0 0 0 0 0)))).bind fun (o19:(room_plan ⊕ Unit))=>match o19 with | .inl v=>k v | .inr _=>some (err 5)) :
  F = if I0 h p = 0 then k ⟨p.Lit,enc p.At⟩ else some (err (I0 h p)):= by
 rw [hF,A26 h hb]
 simp only [Option.bind_some]
 by_cases c:I0 h p = 0
 ·obtain ⟨ok,pv,⟨l,hlit,hl2⟩,hd,e0⟩:=A0z c
  have hs:=A7x ok
  have hp:=ok.places
  have h2:=pv.len
  have o1:out 0 (((2 ^ h.Stoves.toNat:Nat):Int) - 1) p.Lit = false:=Q7.mpr ⟨by omega,by omega⟩
  have o2:p.At.any (out (-1) ((h.Places.length:Int) - 1)) = false:= by
   rw [List.any_eq_false]
   intro x hx
   obtain ⟨i,hi,rfl⟩:=A87 hx
   have:=pv.bd i hi
   rw [Q7.mpr ⟨by omega,by omega⟩]; decide
  rw [if_pos c,if_neg (by simp [e0]),D24 ok]
  simp only [Option.bind_some]
  rw [E4 (by omega),beyond1,o1]
  simp only [Option.bind_some,Bool.false_eq_true,if_false]
  rw [if_neg (by simp [h2]),E4 (by omega),B04 _ _ _ (by omega),o2]
  simp only [Option.bind_some,Bool.false_eq_true,if_false]
  rw [B33 ok p pv,hd]; rfl
 ·rw [if_neg c]
  unfold I0 at c ⊢
  by_cases e0:(check h).2.2 = 0
  ·have ok:=A36 e0
   have hs:=A7x ok
   have hp:=ok.places
   rw [if_neg (by simp [e0])] at c
   rw [if_neg (show ¬ ((check h).2.2 != 0) = true by simp [e0]),if_neg (show ¬ ((check h).2.2 != 0) = true by simp [e0]),D24 ok]
   simp only [Option.bind_some]
   rw [E4 (by omega),beyond1]
   simp only [Option.bind_some]
   cases h1:out 0 (((2 ^ h.Stoves.toNat:Nat):Int) - 1) p.Lit with
   | true=>rfl
   | false =>
   rw [h1,if_neg (by decide)] at c
   simp only [Bool.false_eq_true,if_false]
   cases h2:(p.At.length:Int) != (h.Figures.length:Int) with
   | true=>rfl
   | false =>
   rw [h2,if_neg (by decide)] at c
   simp only [Bool.false_eq_true,if_false]
   rw [E4 (by omega),B04 _ _ _ (by omega)]
   simp only [Option.bind_some]
   cases h3:p.At.any (out (-1) ((h.Places.length:Int) - 1)) with
   | true=>rfl
   | false =>
   rw [h3,if_neg (by decide)] at c
   simp only [Bool.false_eq_true,if_false]
   cases h4:dup p.At with
   | false=>rw [h4,if_neg (by decide)] at c; exact absurd rfl c
   | true =>
   have h2:(p.At.length:Int) = (h.Figures.length:Int):= by
    by_cases q:(p.At.length:Int) = (h.Figures.length:Int)
    ·exact q
    ·rw [bne_iff_ne.mpr q] at h2; cases h2
   rw [B33 ok p ⟨by omega,fun i hi=>by
    rw [List.any_eq_false] at h3
    have:=h3 _ (J8 hi)
    have:=Q7.mp (by simpa using this:out (-1) ((h.Places.length:Int) - 1) p.At[i]! = false)
    omega⟩,h4]
   rfl
  ·rw [if_pos (bne_iff_ne.mpr e0),if_pos (bne_iff_ne.mpr e0)]
def plc (h:RoHouse) (p:List Int) (i:Nat):RoPlace:=h.Places[p[i]!.toNat]!
def con (h:RoHouse) (p:List Int) (k i:Nat):Int:=if i < p.length∧p[i]! ≠ -1∧bit (plc h p i).Joists.toNat k = true then h.Figures[i]!.Weight else 0
def G4 (h:RoHouse) (p:List Int) (k n:Nat):Int:=iter (fun i s=>s + con h p k i) n 0
theorem A01 (h:RoHouse) (p:List Int) (k n:Nat):G4 h p k (n + 1) = G4 h p k n + con h p k n:=rfl
theorem B7m (h:RoHouse) (p:List Int) (k:Nat):∀n,G4 h p k (p.length + n) = G4 h p k p.length
 | 0=>rfl
 | n + 1=>by
  rw [← Nat.add_assoc,A01,B7m h p k n]
  unfold con
  rw [if_neg (by omega)]; omega
theorem B7p {h:RoHouse} (ok:HOk h) {p:List Int} (pv:PV h p) (k i:Nat):0≤con h p k i∧con h p k i≤500:= by
 unfold con
 by_cases c:i < p.length∧p[i]! ≠ -1∧bit (plc h p i).Joists.toNat k = true
 ·rw [if_pos c]
  have:=(ok.figure _ (J8 (show i < h.Figures.length by rw [← pv.len]; exact c.1))).weight
  omega
 ·rw [if_neg c]; omega
theorem A6d {h:RoHouse} (ok:HOk h) {p:List Int} (pv:PV h p) (k:Nat):∀n,0≤G4 h p k n∧G4 h p k n≤500 * n
 | 0=>by unfold G4 iter; omega
 | n + 1=>by
  have ih:=A6d ok pv k n
  have:=B7p ok pv k n
  rw [A01]; omega
def arr (f:Nat→Int):Ar4 Int:=⟨f 0,f 1,f 2,f 3⟩
theorem C6w (f:Nat→Int):∀k:Nat,k < 4→idx (Ar4.l (arr f)) (k:Int) = some (f k)
 | 0,_=>rfl
 | 1,_=>rfl
 | 2,_=>rfl
 | 3,_=>rfl
 | n + 4,h=>by omega
theorem D1y (f:Nat→Int) (k:Nat) (v:Int):Ar4.set (arr f) (k:Int) v = arr (fun j=>if j = k then v else f j):= by
 have comp:∀j:Nat,(if (k:Int) = (j:Int) then v else f j) = (if j = k then v else f j):= by
  intro j
  by_cases h:j = k
  ·subst h; rw [if_pos rfl,if_pos rfl]
  ·rw [if_neg (by omega),if_neg h]
 have q:=congr (congr (congr (congrArg Ar4.mk (comp 0)) (comp 1)) (comp 2)) (comp 3)
 exact q
theorem B03 {f g:Nat→Int} (h:∀k,k < 4→f k = g k):arr f = arr g:= by
 unfold arr
 rw [h 0 (by omega),h 1 (by omega),h 2 (by omega),h 3 (by omega)]
theorem B5c {h:RoHouse} (ok:HOk h) {q:RoPlace} (hq:PlOk h q):q.Joists = (q.Joists.toNat:Int)∧q.Joists.toNat < 16:= by
 have h1:=hq.joists
 have:2 ^ h.Holds.length≤2 ^ 4:=Nat.pow_le_pow_right (by decide) ok.holds
 omega
theorem shown {h:RoHouse} {p:List Int} (pv:PV h p) {i:Nat} (hi:i < p.length) (hs:p[i]! ≠ -1):∃q:Nat,p[i]! = q∧q < h.Places.length∧plc h p i = h.Places[q]!:= by
 have:=pv.bd i hi
 refine ⟨p[i]!.toNat,by omega,by omega,rfl⟩
theorem D0g {h:RoHouse} (ok:HOk h) {p:List Int} (pv:PV h p) {i:Nat} (hi:i < p.length) (hs:p[i]! ≠ -1) (a:Ar4 Int) :
  loop (O2 ⟨h⟩ ((i:Int),a) (e p i)) (0,arr (fun k=>if k < h.Holds.length then G4 h p k i else 0)) = some (arr (fun k=>if k < h.Holds.length then G4 h p k (i + 1) else 0)):= by
 have h5:=ok.figures
 have hp:=ok.places
 have hh:=ok.holds
 have hl:=pv.len
 obtain ⟨q,hq1,hq2,hq3⟩:=shown pv hi hs
 have hj:=B5c ok (ok.place _ (J8 hq2))
 have l1:=J4 (b:=O2 ⟨h⟩ ((i:Int),a) (e p i)) (fun n=>((n:Int),arr (fun k=>if k < h.Holds.length then (if k < n then G4 h p k (i + 1) else G4 h p k i) else 0))) h.Holds.length (r:=arr (fun k=>if k < h.Holds.length then G4 h p k (i + 1) else 0)) (by omega) (fun n hn=>by
  have b1:=A6d ok pv n i
  have b2:=B7p ok pv n i
  unfold O2
  simp only []
  rw [if_pos (by simpa using hn)]
  have he:w64 (e p i - 1) = (q:Int):= by
   unfold e
   rw [if_pos hi,E4 (by omega)]; omega
  rw [he,F6 hq2]
  simp only [Option.bind_some]
  rw [hj.1,C16 _ hj.2 n (by omega)]
  simp only [Option.bind_some]
  rw [C3k _ (Nat.lt_of_le_of_lt (Nat.div_le_self _ _) hj.2),C6w _ n (by omega),F6 (show i < h.Figures.length by omega),if_pos hn,if_neg (Nat.lt_irrefl n)]
  simp only [Option.bind_some]
  have hc:con h p n i = if bit h.Places[q]!.Joists.toNat n = true then h.Figures[i]!.Weight else 0:= by
   unfold con
   rw [hq3]
   cases bit h.Places[q]!.Joists.toNat n
   ·rw [if_neg (by simp),if_neg (by simp)]
   ·rw [if_pos ⟨hi,hs,rfl⟩,if_pos rfl]
  rw [E4 (n:=(n:Int) + 1) (by omega)]
  show (if bit h.Places[q]!.Joists.toNat n = true then _ else _) = _
  cases hb:bit h.Places[q]!.Joists.toNat n with
  | true =>
   rw [hb,if_pos rfl] at hc
   rw [if_pos rfl,← hc,E4 (by omega),D1y]
   congr 3
   apply B03
   intro k hk
   by_cases hkn:k = n
   ·subst hkn
    rw [if_pos rfl,if_pos hn,if_pos (by omega),A01]
   ·rw [if_neg hkn]
    by_cases c:k < h.Holds.length
    ·rw [if_pos c,if_pos c]
     by_cases c2:k < n
     ·rw [if_pos c2,if_pos (by omega)]
     ·rw [if_neg c2,if_neg (by omega)]
    ·rw [if_neg c,if_neg c]
  | false =>
   rw [hb,if_neg (by decide)] at hc
   rw [if_neg (by decide)]
   congr 3
   apply B03
   intro k hk
   by_cases hkn:k = n
   ·subst hkn
    rw [if_pos hn,if_pos hn,if_neg (Nat.lt_irrefl k),if_pos (by omega),A01,hc]; omega
   ·by_cases c:k < h.Holds.length
    ·rw [if_pos c,if_pos c]
     by_cases c2:k < n
     ·rw [if_pos c2,if_pos (by omega)]
     ·rw [if_neg c2,if_neg (by omega)]
    ·rw [if_neg c,if_neg c]) (by
  unfold O2
  simp only []
  rw [if_neg (by simp)]
  congr 2
  apply B03
  intro k hk
  by_cases c:k < h.Holds.length
  ·rw [if_pos c,if_pos c,if_pos c]
  ·rw [if_neg c,if_neg c])
 have e0:(fun (k:Nat)=>if k < h.Holds.length then (if k < 0 then G4 h p k (i + 1) else G4 h p k i) else 0) = fun (k:Nat)=>if k < h.Holds.length then G4 h p k i else 0:= by
  funext k
  rw [if_neg (Nat.not_lt_zero k)]
 have l1:loop (O2 ⟨h⟩ ((i:Int),a) (e p i)) (0,arr (fun (k:Nat)=>if k < h.Holds.length then (if k < 0 then G4 h p k (i + 1) else G4 h p k i) else 0)) = _:=l1
 rw [e0] at l1
 exact l1
def A86 (h:RoHouse) (p:List Int):Ar4 Int:=arr (fun k=>if k < h.Holds.length then G4 h p k p.length else 0)
theorem C39 {h:RoHouse} (ok:HOk h) {p:List Int} (pv:PV h p):T0 ⟨h⟩ (enc p) = some (A86 h p):= by
 have h5:=ok.figures
 have hp:=ok.places
 have hl:=pv.len
 unfold T0
 have l1:=J4 (b:=R0 ⟨h⟩ (enc p)) (fun i=>((i:Int),arr (fun k=>if k < h.Holds.length then G4 h p k i else 0))) 5 (r:=A86 h p) (by omega) (fun i hi=>by
  unfold R0
  simp only []
  rw [if_pos (by rw [decide_eq_true_eq]; omega),B07 p i hi]
  simp only [Option.bind_some]
  have hc0:∀k,(i < p.length→p[i]! = -1)→G4 h p k (i + 1) = G4 h p k i:= by
   intro k hx
   rw [A01]
   unfold con
   rw [if_neg (fun hq=>hq.2.1 (hx hq.1))]; omega
  by_cases c:i < p.length∧p[i]! ≠ -1
  ·have hb:=pv.bd i c.1
   have hne:(e p i == 0) = false:= by
    rw [beq_eq_false_iff_ne]
    unfold e
    rw [if_pos c.1]; have:=c.2; omega
   rw [hne,if_neg (by decide),D0g ok pv c.1 c.2]
   simp only [Option.bind_some]
   rw [E4 (by omega)]; rfl
  ·have hz:(e p i == 0) = true:= by
    rw [beq_iff_eq]
    unfold e
    by_cases c1:i < p.length
    ·rw [if_pos c1]
     have:p[i]! = -1:=Classical.byContradiction fun hq=>c ⟨c1,hq⟩
     omega
    ·rw [if_neg c1]
   rw [hz,if_pos rfl,E4 (by omega)]
   have:∀k,G4 h p k (i + 1) = G4 h p k i:=fun k=>hc0 k fun c1=>Classical.byContradiction fun hq=>c ⟨c1,hq⟩
   simp only [this]
   rfl) (by
  unfold R0
  simp only []
  rw [if_neg (show ¬ decide (((5:Nat):Int) < 5) = true by rw [decide_eq_true_eq]; omega)]
  unfold A86
  congr 2
  apply B03
  intro k _
  have:=B7m h p k (5 - p.length)
  rw [show p.length + (5 - p.length) = 5 by omega] at this
  simp only [this])
 have e0:arr (fun k=>if k < h.Holds.length then G4 h p k 0 else 0) = Ar4.mk 0 0 0 0:= by
  have:(fun k=>if k < h.Holds.length then G4 h p k 0 else 0) = fun _=>(0:Int):= by
   funext k
   by_cases c:k < h.Holds.length
   ·rw [if_pos c]; rfl
   ·rw [if_neg c]
  rw [this]; rfl
 have l1:loop (R0 ⟨h⟩ (enc p)) (0,arr (fun k=>if k < h.Holds.length then G4 h p k 0 else 0)) = _:=l1
 rw [e0] at l1
 rw [l1]; rfl
theorem C0k {n:Nat} {p:Nat→Bool}:(first (fun i=>if p i then none else some ()) n).isNone = (List.range n).all p:= by
 cases hf:first (fun i=>if p i then none else some ()) n with
 | none =>
  have h0:=J9.mp hf
  symm
  rw [Option.isNone_none,List.all_eq_true]
  intro i hi
  have:=h0 i (List.mem_range.mp hi)
  cases hp:p i with
  | true=>rfl
  | false=>rw [hp] at this; exact absurd this (by simp)
 | some u =>
  obtain ⟨i,hi,h1,_⟩:=U5 hf
  symm
  rw [Option.isNone_some,List.all_eq_false]
  refine ⟨i,List.mem_range.mpr hi,?_⟩
  cases hp:p i with
  | true=>rw [hp] at h1; exact absurd h1 (by simp)
  | false=>decide
theorem B3r {b:Int→Option (Int ⊕ (Bool ⊕ Unit))} (n:Nat) (p:Nat→Bool) (hn:n < 9223372036854775808)
  (hs:∀i:Nat,i < n→b (i:Int) = some (if p i then .inl (w64 ((i:Int) + 1)) else .inr (.inl false))) (he:b (n:Int) = some (.inr (.inr ()))) :
  loop b 0 = some (if (List.range n).all p then .inr () else .inl false):= by
 rw [A7g n (fun i=>if p i then none else some (.inl false)) (.inr ()) hn (fun i hi _=>by rw [hs i hi]; cases p i <;> rfl) he,← C0k]
 have:(fun (i:Nat)=>if p i then none else some (Sum.inl false:Bool ⊕ Unit)) = fun (i:Nat)=>(if p i then none else some ()).map fun _=>Sum.inl false:= by
  funext i; cases p i <;> rfl
 rw [this,A3v]
 cases first (fun (i:Nat)=>if p i then none else some ()) n <;> rfl
def A4r (h:RoHouse) (p:List Int):Bool:=(List.range h.Holds.length).all fun k=>decide (G4 h p k p.length≤h.Holds[k]!)
theorem C93 {h:RoHouse} (ok:HOk h) {p:List Int} (pv:PV h p):A0x ⟨h⟩ (enc p) = some (A4r h p):= by
 have hh:=ok.holds
 unfold A0x
 rw [C39 ok pv]
 simp only [Option.bind_some]
 rw [B3r (b:=U9 ⟨h⟩ (A86 h p)) 4 (fun k=>if k < h.Holds.length then decide (G4 h p k p.length≤h.Holds[k]!) else true) (by omega) (fun k hk=>by
  unfold U9 A86
  rw [if_pos (by rw [decide_eq_true_eq]; omega),C6w _ k hk]
  simp only [Option.bind_some]
  by_cases c:k < h.Holds.length
  ·rw [if_pos c,if_pos (by rw [decide_eq_true_eq]; exact Int.ofNat_lt.mpr c),F6 c,if_pos c]
   simp only [Option.bind_some]
   by_cases q:G4 h p k p.length≤h.Holds[k]!
   ·rw [decide_eq_true q,decide_eq_false (show ¬ (G4 h p k p.length > h.Holds[k]!) by omega)]; rfl
   ·rw [decide_eq_false q,decide_eq_true (show (G4 h p k p.length > h.Holds[k]!) by omega)]; rfl
  ·rw [if_neg c,if_neg (by rw [decide_eq_true_eq]; intro q; exact c (Int.ofNat_lt.mp q)),if_neg c]; rfl) (by
  unfold U9
  rw [if_neg (by rw [decide_eq_true_eq]; omega)])]
 simp only [Option.bind_some]
 have e1:(List.range 4).all (fun k=>if k < h.Holds.length then decide (G4 h p k p.length≤h.Holds[k]!) else true) = A4r h p:= by
  unfold A4r
  rw [Bool.eq_iff_iff,List.all_eq_true,List.all_eq_true]
  constructor
  ·intro q k hk
   have:=q k (List.mem_range.mpr (by have:=List.mem_range.mp hk; omega))
   rwa [if_pos (List.mem_range.mp hk)] at this
  ·intro q k _
   by_cases c:k < h.Holds.length
   ·rw [if_pos c]; exact q k (List.mem_range.mpr c)
   ·rw [if_neg c]
 rw [e1]
 cases A4r h p <;> rfl
def dear (h:RoHouse) (p:List Int) (c:Int) (i:Nat):Int:=if i < p.length∧p[i]! ≠ -1∧(plc h p i).Dear = true∧h.Figures[i]!.Class = c then 1 else 0
def M2 (h:RoHouse) (p:List Int) (c:Int) (n:Nat):Int:=iter (fun i s=>s + dear h p c i) n 0
theorem A2p (h:RoHouse) (p:List Int) (c:Int) (n:Nat):M2 h p c (n + 1) = M2 h p c n + dear h p c n:=rfl
theorem D13 (h:RoHouse) (p:List Int) (c:Int) (i:Nat):0≤dear h p c i∧dear h p c i≤1:= by
 unfold dear
 split <;> omega
theorem A6z (h:RoHouse) (p:List Int) (c:Int):∀n,0≤M2 h p c n∧M2 h p c n≤n
 | 0=>by unfold M2 iter; omega
 | n + 1=>by
  have ih:=A6z h p c n
  have:=D13 h p c n
  rw [A2p]; omega
theorem B9p (h:RoHouse) (p:List Int) (c:Int):∀n,M2 h p c (p.length + n) = M2 h p c p.length
 | 0=>rfl
 | n + 1=>by
  rw [← Nat.add_assoc,A2p,B9p h p c n]
  unfold dear
  rw [if_neg (by omega)]; omega
def A1g (b:List Int) (c:Int) (n:Nat):Int:=iter (fun i s=>s + if b[i]! == c then 1 else 0) n 0
theorem A3k (b:List Int) (c:Int) (n:Nat):A1g b c (n + 1) = A1g b c n + if b[n]! == c then 1 else 0:=rfl
theorem B7n (b:List Int) (c:Int):∀n,0≤A1g b c n∧A1g b c n≤n
 | 0=>by unfold A1g iter; omega
 | n + 1=>by
  have ih:=B7n b c n
  rw [A3k]
  split <;> omega
theorem B7o (b:List Int) (c:Int) {m:Nat}:∀{n:Nat},m≤n→A1g b c m≤A1g b c n
 | 0,h=>by have:m = 0:= by omega
           subst this; omega
 | n + 1,h=>by
  by_cases e:m = n + 1
  ·subst e; omega
  ·have ih:=B7o b c (m:=m) (n:=n) (by omega)
   rw [A3k]
   split <;> omega
def A2y (h:RoHouse) (p:List Int):Bool:=(List.range 10).all fun c=>decide (A1g h.Bill (c:Int) h.Bill.length≤M2 h p (c:Int) p.length)
def gd (m:List (Int × Int)) (c:Int):Int:=(kget m c).getD 0
theorem C2h (m:List (Int × Int)) (k v c:Int):gd (kset m k v) c = if c = k then v else gd m c:= by
 unfold gd
 rw [C09]
 by_cases h:c = k
 ·rw [if_pos h,if_pos h]; rfl
 ·rw [if_neg h,if_neg h]
theorem prom1 {h:RoHouse} (ok:HOk h) {p:List Int} (pv:PV h p):∃m,loop (N7 ⟨h⟩ (enc p)) (0,[]) = some m∧∀ c,gd m c = M2 h p c p.length:= by
 have h5:=ok.figures
 have hp:=ok.places
 have hl:=pv.len
 refine C4b (b:=N7 ⟨h⟩ (enc p)) (fun i s=>s.1 = (i:Int)∧∀ c,gd s.2 c = M2 h p c i) 5 (fun m=>∀ c,gd m c = M2 h p c p.length) (by omega) ?_ ?_ (0,[]) ⟨rfl,fun c=>rfl⟩
 ·rintro i ⟨i',m⟩ hi ⟨h1,h2⟩
  simp only at h1 h2
  subst h1
  unfold N7
  simp only []
  rw [if_pos (by rw [decide_eq_true_eq]; omega),B07 p i hi]
  simp only [Option.bind_some]
  rw [E4 (n:=(i:Int) + 1) (by omega)]
  have same:∀c,(∀ c,dear h p c i = 0)→gd m c = M2 h p c (i + 1):=fun c hd=>by rw [A2p,hd c,Int.add_zero]; exact h2 c
  by_cases c1:i < p.length
  ·have hb:=pv.bd i c1
   have he:e p i = p[i]! + 1:= by unfold e; rw [if_pos c1]
   by_cases hs:p[i]! = -1
   ·rw [if_neg (by rw [decide_eq_true_eq]; omega)]
    exact ⟨_,rfl,rfl,fun c=>same c fun c=>by unfold dear; rw [if_neg (fun hq=>hq.2.1 hs)]⟩
   ·obtain ⟨q,hq1,hq2,hq3⟩:=shown pv c1 hs
    rw [if_pos (by rw [decide_eq_true_eq]; omega),he,E4 (by omega),show p[i]! + 1 - 1 = (q:Int) by omega,F6 hq2]
    simp only [Option.bind_some]
    cases hd:h.Places[q]!.Dear with
    | false =>
     rw [if_neg (by decide)]
     exact ⟨_,rfl,rfl,fun c=>same c fun c=>by unfold dear; rw [hq3,hd,if_neg (fun z=>absurd z.2.2.1 (by decide))]⟩
    | true =>
     rw [if_pos rfl,F6 (show i < h.Figures.length by omega)]
     simp only [Option.bind_some]
     refine ⟨_,rfl,rfl,fun c=>?_⟩
     have b1:=A6z h p h.Figures[i]!.Class i
     have h3:=h2 h.Figures[i]!.Class
     have h3:(kget m h.Figures[i]!.Class).getD 0 = M2 h p h.Figures[i]!.Class i:=h3
     rw [C2h,h3,E4 (by omega),A2p]
     unfold dear
     rw [hq3,hd]
     by_cases hc:c = h.Figures[i]!.Class
     ·subst hc
      rw [if_pos rfl,if_pos ⟨c1,hs,by trivial,rfl⟩]
     ·rw [if_neg hc,if_neg (fun z=>hc z.2.2.2.symm),Int.add_zero]; exact h2 c
  ·have he:e p i = 0:= by unfold e; rw [if_neg c1]
   rw [he,if_neg (by decide)]
   exact ⟨_,rfl,rfl,fun c=>same c fun c=>by unfold dear; rw [if_neg (fun hq=>c1 hq.1)]⟩
 ·rintro ⟨i',m⟩ ⟨h1,h2⟩
  simp only at h1 h2
  subst h1
  unfold N7
  simp only []
  rw [if_neg (show ¬ decide (((5:Nat):Int) < 5) = true by rw [decide_eq_true_eq]; omega)]
  refine ⟨m,rfl,fun c=>?_⟩
  have:=B9p h p c (5 - p.length)
  rw [show p.length + (5 - p.length) = 5 by omega] at this
  rw [h2 c,this]
theorem B3p {h:RoHouse} (ok:HOk h) (p:List Int):A2y h p = true↔∀ i,i < h.Bill.length→A1g h.Bill h.Bill[i]! (i + 1)≤M2 h p h.Bill[i]! p.length:= by
 unfold A2y
 rw [List.all_eq_true]
 constructor
 ·intro q i hi
  have hb:=ok.class_ _ (J8 hi)
  have:=q h.Bill[i]!.toNat (List.mem_range.mpr (by omega))
  rw [decide_eq_true_eq,show ((h.Bill[i]!.toNat:Nat):Int) = h.Bill[i]! by omega] at this
  have m:=B7o h.Bill h.Bill[i]! (m:=i + 1) (n:=h.Bill.length) (by omega)
  omega
 ·intro q c _
  rw [decide_eq_true_eq]
  have key:∀n,n≤h.Bill.length→A1g h.Bill (c:Int) n≤M2 h p (c:Int) p.length:= by
   intro n
   induction n with
   | zero=>intro _; exact (A6z h p (c:Int) p.length).1
   | succ n ih =>
    intro hn
    by_cases e:h.Bill[n]! = (c:Int)
    ·have:=q n (by omega)
     rwa [e] at this
    ·rw [A3k,if_neg (by rw [beq_iff_eq]; exact e),Int.add_zero]
     exact ih (by omega)
  exact key _ (Nat.le_refl _)
theorem prom2 {h:RoHouse} (ok:HOk h) {p:List Int} {m:List (Int × Int)} (pl:p.length≤5) (hm:∀c,gd m c = M2 h p c p.length):∃r,loop (N9 ⟨h⟩) (0,m) = some r∧(match r with | .inl v=>v = false∧A2y h p = false | .inr _=>A2y h p = true):= by
 have hb3:=ok.bill
 refine C8j (b:=N9 ⟨h⟩) (fun i s=>s.1 = (i:Int)∧(∀ c,gd s.2 c = M2 h p c p.length - A1g h.Bill c i)∧∀ j,j < i→A1g h.Bill h.Bill[j]! (j + 1)≤M2 h p h.Bill[j]! p.length) h.Bill.length (fun r=>match r with | .inl v=>v = false∧A2y h p = false | .inr _=>A2y h p = true) (by omega) ?_ ?_ (0,m) ⟨rfl,fun c=>by rw [hm c]; show _ = _ - (0:Int); omega,fun j hj=>absurd hj (Nat.not_lt_zero j)⟩
 ·rintro i ⟨i',m'⟩ hi ⟨h1,h2,h3⟩
  simp only at h1 h2
  subst h1
  unfold N9
  simp only []
  rw [if_pos (by simpa using hi),F6 hi]
  simp only [Option.bind_some]
  have b1:=A6z h p h.Bill[i]! p.length
  have b2:=B7n h.Bill h.Bill[i]! i
  have h4:=h2 h.Bill[i]!
  have h5:(kget m' h.Bill[i]!).getD 0 = M2 h p h.Bill[i]! p.length - A1g h.Bill h.Bill[i]! i:=h4
  have e1:A1g h.Bill h.Bill[i]! (i + 1) = A1g h.Bill h.Bill[i]! i + 1:= by rw [A3k,if_pos (beq_self_eq_true _)]
  rw [h5,E4 (n:=M2 h p h.Bill[i]! p.length - A1g h.Bill h.Bill[i]! i - 1) (by omega),E4 (n:=(i:Int) + 1) (by omega)]
  have g1:=C2h m' h.Bill[i]! (M2 h p h.Bill[i]! p.length - A1g h.Bill h.Bill[i]! i - 1) h.Bill[i]!
  rw [if_pos rfl] at g1
  have g2:(kget (kset m' h.Bill[i]! (M2 h p h.Bill[i]! p.length - A1g h.Bill h.Bill[i]! i - 1)) h.Bill[i]!).getD 0 = M2 h p h.Bill[i]! p.length - A1g h.Bill h.Bill[i]! i - 1:=g1
  rw [g2]
  by_cases c:M2 h p h.Bill[i]! p.length - A1g h.Bill h.Bill[i]! i - 1 < 0
  ·right
   rw [if_pos (by rw [decide_eq_true_eq]; exact c)]
   refine ⟨_,rfl,rfl,?_⟩
   cases hk:A2y h p with
   | false=>rfl
   | true =>
    have:=(B3p ok p).mp hk i hi
    omega
  ·left
   rw [if_neg (by rw [decide_eq_true_eq]; exact c)]
   refine ⟨_,rfl,rfl,fun c=>?_,fun j hj=>?_⟩
   ·rw [C2h,A3k]
    by_cases hc:c = h.Bill[i]!
    ·rw [if_pos hc,hc,if_pos (beq_self_eq_true _)]; omega
    ·rw [if_neg hc,if_neg (by rw [beq_iff_eq]; exact fun q=>hc q.symm),Int.add_zero]; exact h2 c
   ·by_cases hji:j = i
    ·subst hji; omega
    ·exact h3 j (by omega)
 ·rintro ⟨i',m'⟩ ⟨h1,_,h3⟩
  simp only at h1
  subst h1
  unfold N9
  simp only []
  rw [if_neg (by simp)]
  exact ⟨_,rfl,(B3p ok p).mpr h3⟩
theorem C4p {h:RoHouse} (ok:HOk h) {p:List Int} (pv:PV h p):V0 ⟨h⟩ (enc p) = some (A2y h p):= by
 have h5:=ok.figures
 have hl:=pv.len
 unfold V0
 obtain ⟨m,e1,hm⟩:=prom1 ok pv
 obtain ⟨r,e2,hr⟩:=prom2 ok (by omega) hm
 by_cases hz:((enc p).x0 == 0 && ((enc p).x1 == 0 && ((enc p).x2 == 0 && ((enc p).x3 == 0 && ((enc p).x4 == 0 && true))))) = true
 ·rw [if_pos hz]
  have hall:∀i,i < 5→e p i = 0:= by
   simp only [Bool.and_eq_true,beq_iff_eq] at hz
   intro i hi
   match i,hi with
   | 0,_=>exact hz.1
   | 1,_=>exact hz.2.1
   | 2,_=>exact hz.2.2.1
   | 3,_=>exact hz.2.2.2.1
   | 4,_=>exact hz.2.2.2.2.1
  have ht:∀c,∀ n,M2 h p c n = 0:= by
   intro c n
   induction n with
   | zero=>rfl
   | succ n ih =>
    rw [A2p,ih]
    unfold dear
    rw [if_neg (show ¬ (n < p.length∧p[n]! ≠ -1∧(plc h p n).Dear = true∧h.Figures[n]!.Class = c) from fun q=>by
     have q1:=q.1
     have:=hall n (by omega)
     unfold e at this
     rw [if_pos q.1] at this
     exact q.2.1 (by omega))]
    rfl
  by_cases hb:h.Bill.length = 0
  ·have:A2y h p = true:=(B3p ok p).mpr fun i hi=>by omega
   rw [this,hb]; rfl
  ·have:A2y h p = false:= by
    cases hk:A2y h p with
    | false=>rfl
    | true =>
     have:=(B3p ok p).mp hk 0 (by omega)
     rw [ht,A3k,if_pos (beq_self_eq_true _)] at this
     have:(0:Int) + 1≤0:=this
     omega
   rw [this]
   congr 1
   show ((h.Bill.length:Int) == 0) = false
   exact beq_eq_false_iff_ne.mpr (by omega)
 ·rw [if_neg hz,e1]
  simp only [Option.bind_some]
  rw [e2]
  simp only [Option.bind_some]
  cases r with
  | inl v=>rw [hr.1,hr.2]
  | inr m=>rw [hr]
theorem C7f {h:RoHouse} (ok:HOk h) {p:List Int} (pv:PV h p) (last:Bool):N3 ⟨h⟩ (enc p) last = some (A4r h p && (!last || A2y h p)):= by
 unfold N3
 rw [C93 ok pv,C4p ok pv]
 cases last <;> cases A4r h p <;> cases A2y h p <;> rfl
def A49 (h:RoHouse) (p:List Int) (n:Nat):Int:=iter (fun i s=>s + if i < p.length∧p[i]! ≠ -1 then h.Figures[i]!.Worth else 0) n 0
theorem A51 (h:RoHouse) (p:List Int) (n:Nat):A49 h p (n + 1) = A49 h p n + if n < p.length∧p[n]! ≠ -1 then h.Figures[n]!.Worth else 0:=rfl
theorem B20 {h:RoHouse} (ok:HOk h) {p:List Int} (pv:PV h p):∀n,0≤A49 h p n∧A49 h p n≤100 * n
 | 0=>by unfold A49 iter; omega
 | n + 1=>by
  have ih:=B20 ok pv n
  rw [A51]
  by_cases c:n < p.length∧p[n]! ≠ -1
  ·have:=(ok.figure _ (J8 (show n < h.Figures.length by rw [← pv.len]; exact c.1))).worth
   rw [if_pos c]; omega
  ·rw [if_neg c]; omega
theorem B9x (h:RoHouse) (p:List Int):∀n,A49 h p (p.length + n) = A49 h p p.length
 | 0=>rfl
 | n + 1=>by
  rw [← Nat.add_assoc,A51,B9x h p n,if_neg (by omega)]; omega
def worth (h:RoHouse) (p:List Int):Int:=A49 h p p.length
theorem D1s {h:RoHouse} (ok:HOk h) {p:List Int} (pv:PV h p):T1 ⟨h⟩ (enc p) = some (worth h p):= by
 have h5:=ok.figures
 have hp:=ok.places
 have hl:=pv.len
 unfold T1
 have l1:loop (R1 ⟨h⟩ (enc p)) (0,0) = some (worth h p):=J4 (b:=R1 ⟨h⟩ (enc p)) (fun i=>(A49 h p i,(i:Int))) 5 (by omega) (fun i hi=>by
  have b1:=B20 ok pv i
  unfold R1
  simp only []
  rw [if_pos (by rw [decide_eq_true_eq]; omega),B07 p i hi]
  simp only [Option.bind_some]
  rw [E4 (n:=(i:Int) + 1) (by omega),A51]
  by_cases c:i < p.length∧p[i]! ≠ -1
  ·have hb:=pv.bd i c.1
   have hw:=(ok.figure _ (J8 (show i < h.Figures.length by rw [← pv.len]; exact c.1))).worth
   have he:e p i > 0:= by unfold e; rw [if_pos c.1]; have:=c.2; omega
   rw [if_pos (by rw [decide_eq_true_eq]; exact he),F6 (show i < h.Figures.length by have:=c.1; omega),if_pos c]
   simp only [Option.bind_some]
   rw [E4 (by omega)]; rfl
  ·have he:¬ e p i > 0:= by
    unfold e
    by_cases c1:i < p.length
    ·rw [if_pos c1]
     have:p[i]! = -1:=Classical.byContradiction fun hq=>c ⟨c1,hq⟩
     omega
    ·rw [if_neg c1]; omega
   rw [if_neg (by rw [decide_eq_true_eq]; exact he),if_neg c,Int.add_zero]; rfl) (by
  unfold R1
  simp only []
  rw [if_neg (show ¬ decide (((5:Nat):Int) < 5) = true by rw [decide_eq_true_eq]; omega)]
  have:=B9x h p (5 - p.length)
  rw [show p.length + (5 - p.length) = 5 by omega] at this
  rw [this]; rfl)
 rw [l1]; rfl
def A4n (h:RoHouse) (l:Nat) (p:List Int) (i:Nat):Bool:=p[i]! == -1 || R4 (warm h p[i]!.toNat l) h.Figures[i]! == 1
def A2f (h:RoHouse) (l:Nat) (p:List Int):Bool:=(List.range p.length).all (A4n h l p)
def A32 (h:RoHouse) (l:Nat) (p:List Int):Bool:=A2f h l p && (A4r h p && A2y h p)
theorem C2n {n m:Nat} {p:Nat→Bool} (hnm:n≤m) (hp:∀i,n≤i→i < m→p i = true):(List.range m).all p = (List.range n).all p:= by
 rw [Bool.eq_iff_iff,List.all_eq_true,List.all_eq_true]
 constructor
 ·intro q i hi
  exact q i (List.mem_range.mpr (by have:=List.mem_range.mp hi; omega))
 ·intro q i hi
  by_cases c:i < n
  ·exact q i (List.mem_range.mpr c)
  ·exact hp i (by omega) (List.mem_range.mp hi)
theorem C8i {b:Int→Option (Int ⊕ (Unit ⊕ Unit))} (n:Nat) (p:Nat→Bool) (hn:n < 9223372036854775808)
  (hs:∀i:Nat,i < n→b (i:Int) = some (if p i then .inl (w64 ((i:Int) + 1)) else .inr (.inr ()))) (he:b (n:Int) = some (.inr (.inl ()))) :
  loop b 0 = some (if (List.range n).all p then .inl () else .inr ()):= by
 rw [A7g n (fun i=>if p i then none else some (.inr ())) (.inl ()) hn (fun i hi _=>by rw [hs i hi]; cases p i <;> rfl) he,← C0k]
 have:(fun (i:Nat)=>if p i then none else some (Sum.inr ():Unit ⊕ Unit)) = fun (i:Nat)=>(if p i then none else some ()).map fun _=>Sum.inr ():= by
  funext i; cases p i <;> rfl
 rw [this,A3v]
 cases first (fun (i:Nat)=>if p i then none else some ()) n <;> rfl
theorem C7w {h:RoHouse} (ok:HOk h) {p:List Int} (pv:PV h p) {l:Nat} (hl16:l < 16):loop (A0e h ⟨(l:Int),enc p⟩) 0 = some (if A2f h l p then .inl () else .inr ()):= by
 have h5:=ok.figures
 have hp:=ok.places
 have hl:=pv.len
 rw [C8i (b:=A0e h ⟨(l:Int),enc p⟩) 5 (fun i=>if i < p.length then A4n h l p i else true) (by omega) (fun i hi=>by
  unfold A0e
  rw [if_pos (by rw [decide_eq_true_eq]; omega),B07 p i hi]
  simp only [Option.bind_some]
  by_cases c1:i < p.length
  ·have hb:=pv.bd i c1
   have he:e p i = p[i]! + 1:= by unfold e; rw [if_pos c1]
   rw [if_pos c1]
   unfold A4n
   by_cases hs:p[i]! = -1
   ·rw [if_neg (by rw [decide_eq_true_eq]; omega),hs]; rfl
   ·obtain ⟨q,hq1,hq2,_⟩:=shown pv c1 hs
    rw [if_pos (by rw [decide_eq_true_eq]; omega),he,E4 (by omega),show p[i]! + 1 - 1 = (q:Int) by omega,C2d ok (show i < h.Figures.length by omega) hq2 hl16]
    simp only [Option.bind_some]
    rw [hq1,Int.toNat_natCast]
    have:((q:Int) == -1) = false:=beq_eq_false_iff_ne.mpr (by omega)
    rw [this,Bool.false_or,bne]
    cases R4 (warm h q l) h.Figures[i]! == 1 <;> rfl
  ·have he:e p i = 0:= by unfold e; rw [if_neg c1]
   rw [he,if_neg c1,if_neg (by decide)]; rfl) (by
  unfold A0e
  rw [if_neg (by rw [decide_eq_true_eq]; omega)])]
 have:(List.range 5).all (fun i=>if i < p.length then A4n h l p i else true) = A2f h l p:= by
  rw [C2n (n:=p.length) (by omega) (fun i hi _=>if_neg (by omega))]
  unfold A2f
  rw [Bool.eq_iff_iff,List.all_eq_true,List.all_eq_true]
  constructor
  ·intro q i hi
   have:=q i hi
   rwa [if_pos (List.mem_range.mp hi)] at this
  ·intro q i hi
   rw [if_pos (List.mem_range.mp hi)]; exact q i hi
 rw [this]
theorem lit16 {h:RoHouse} (ok:HOk h) {l:Nat} (hl:l < 2 ^ h.Stoves.toNat):l < 16:= by
 have:=A7x ok
 omega
def X5 (h:RoHouse) (p:RoPlan):Int × Int:=if I0 h p = 0 then (if A32 h p.Lit.toNat p.At then (worth h p.At,0) else (0,9)) else (0,I0 h p)
theorem B22 {h:RoHouse} (hb:NB h) (p:RoPlan) (hl:p.At.length < 9223372036854775808):X3 h p = some (X5 h p):= by
 rw [B0n hb p hl (fun c=>((0:Int),c)) (fun v=>(loop (A0e h v) 0).bind fun (o28:(Unit ⊕ Unit))=>match o28 with | (.inl _)=>(N3 (room_house.mk h) v.at_ true).bind fun x29=>if (!x29) = true then some (0,9) else (T1 (room_house.mk h) v.at_).bind fun x31=>some (x31,0) | (.inr _)=>some (0,9)) (F:=X3 h p) rfl]
 unfold X5
 by_cases c:I0 h p = 0
 ·obtain ⟨ok,pv,⟨l,hlit,hl2⟩,_,_⟩:=A0z c
  rw [if_pos c,if_pos c]
  simp only []
  rw [hlit,C7w ok pv (lit16 ok hl2),Int.toNat_natCast]
  simp only [Option.bind_some]
  unfold A32
  cases A2f h l p.At with
  | false=>rfl
  | true =>
   rw [if_pos rfl]
   simp only []
   rw [C7f ok pv,D1s ok pv]
   cases A4r h p.At <;> cases A2y h p.At <;> rfl
 ·rw [if_neg c,if_neg c]
def A5v (p:List Int) (i:Nat):Prop:=i < p.length∧p[i]! ≠ -1
def left (h:RoHouse) (l:Nat) (p:List Int) (i:Nat):Int:=A88 ((warm h p[i]!.toNat l).Lo - h.Figures[i]!.Cracks) (h.Figures[i]!.Slumps - (warm h p[i]!.toNat l).Hi)
instance (p:List Int) (i:Nat):Decidable (A5v p i):=inferInstanceAs (Decidable (_∧_))
def A66 (h:RoHouse) (l:Nat) (p:List Int) (n:Nat):Int × Int:=iter (fun i s=>if A5v p i∧(s.1 < 0∨left h l p i < s.2) then ((i:Int),left h l p i) else s) n (-1,0)
theorem B5g (h:RoHouse) (l:Nat) (p:List Int) (n:Nat):A66 h l p (n + 1) = if A5v p n∧((A66 h l p n).1 < 0∨left h l p n < (A66 h l p n).2) then ((n:Int),left h l p n) else A66 h l p n:=rfl
theorem C7j (h:RoHouse) (l:Nat) (p:List Int):∀n,A66 h l p (p.length + n) = A66 h l p p.length
 | 0=>rfl
 | n + 1=>by
  rw [← Nat.add_assoc,B5g,C7j h l p n,if_neg]
  exact fun q=>absurd q.1.1 (by omega)
theorem C7g {h:RoHouse} (ok:HOk h) {l:Nat} {p:List Int} (pv:PV h p) {i:Nat} (hi:A5v p i):-400≤left h l p i∧left h l p i≤100:= by
 obtain ⟨q,hq1,hq2,_⟩:=shown pv hi.1 hi.2
 have b:=A9p ok hq2 l
 have g:=(ok.figure _ (J8 (show i < h.Figures.length by rw [← pv.len]; exact hi.1))).bears
 unfold left A88
 rw [hq1,Int.toNat_natCast]
 split <;> omega
theorem C2p (h:RoHouse) (l:Nat) (p:List Int):∀n,((A66 h l p n).1 = -1∧∀ i,i < n→¬ A5v p i)∨∃ k:Nat,k < n∧A66 h l p n = ((k:Int),left h l p k)∧A5v p k∧(∀ i,i < n→A5v p i→left h l p k≤left h l p i)∧∀ i,i < k→A5v p i→left h l p k < left h l p i
 | 0=>.inl ⟨rfl,fun i hi=>absurd hi (Nat.not_lt_zero i)⟩
 | n + 1=>by
  rw [B5g]
  rcases C2p h l p n with ⟨h1,h2⟩ | ⟨k,hk,h1,h2,h3,h4⟩
  ·by_cases c:A5v p n
   ·right
    rw [if_pos ⟨c,.inl (by omega)⟩]
    refine ⟨n,Nat.lt_succ_self n,rfl,c,fun i hi hs=>?_,fun i hi hs=>absurd hs (h2 i hi)⟩
    by_cases e:i = n
    ·subst e; omega
    ·exact absurd hs (h2 i (by omega))
   ·left
    rw [if_neg (fun q=>c q.1)]
    refine ⟨h1,fun i hi=>?_⟩
    by_cases e:i = n
    ·subst e; exact c
    ·exact h2 i (by omega)
  ·right
   rw [h1]
   by_cases c:A5v p n∧left h l p n < left h l p k
   ·rw [if_pos ⟨c.1,.inr c.2⟩]
    refine ⟨n,Nat.lt_succ_self n,rfl,c.1,fun i hi hs=>?_,fun i hi hs=>?_⟩
    ·by_cases e:i = n
     ·subst e; omega
     ·have:=h3 i (by omega) hs
      have:=c.2
      omega
    ·have:=h3 i (by omega) hs
     have:=c.2
     omega
   ·rw [if_neg (fun q=>c ⟨q.1,q.2.resolve_left (by simp only []; omega)⟩)]
    refine ⟨k,by omega,rfl,h2,fun i hi hs=>?_,h4⟩
    by_cases e:i = n
    ·subst e
     have:¬ left h l p i < left h l p k:=fun q=>c ⟨hs,q⟩
     omega
    ·exact h3 i (by omega) hs
theorem D5t {h:RoHouse} (ok:HOk h) {l:Nat} (hl16:l < 16) {p:List Int} (pv:PV h p):loop (X2 h ⟨(l:Int),enc p⟩) (-1,0,0) = some (A66 h l p p.length):= by
 have h5:=ok.figures
 have hp:=ok.places
 have hl:=pv.len
 have l1:=J4 (b:=X2 h ⟨(l:Int),enc p⟩) (fun i=>((A66 h l p i).1,(A66 h l p i).2,(i:Int))) 5 (r:=A66 h l p p.length) (by omega) (fun i hi=>by
  unfold X2
  simp only []
  rw [if_pos (by rw [decide_eq_true_eq]; omega),B07 p i hi]
  simp only [Option.bind_some]
  rw [E4 (n:=(i:Int) + 1) (by omega),B5g]
  by_cases c:A5v p i
  ·have hb:=pv.bd i c.1
   obtain ⟨q,hq1,hq2,_⟩:=shown pv c.1 c.2
   have b:=A9p ok hq2 l
   have hi2:i < h.Figures.length:= by have:=c.1; omega
   have g:=(ok.figure _ (J8 hi2)).bears
   have he:e p i = p[i]! + 1:= by unfold e; rw [if_pos c.1]
   have hne:(e p i == 0) = false:=beq_eq_false_iff_ne.mpr (by have:=c.2; omega)
   rw [hne,if_neg (by decide),he,E4 (n:=p[i]! + 1 - 1) (by omega),show p[i]! + 1 - 1 = (q:Int) by omega,B5u ok hq2 hl16,F6 hi2]
   simp only [Option.bind_some]
   rw [E4 (by omega),E4 (by omega)]
   have hL:A88 ((warm h q l).Lo - h.Figures[i]!.Cracks) (h.Figures[i]!.Slumps - (warm h q l).Hi) = left h l p i:= by unfold left; rw [hq1,Int.toNat_natCast]
   rw [hL]
   by_cases c2:(A66 h l p i).1 < 0∨left h l p i < (A66 h l p i).2
   ·rw [if_pos (by rw [Bool.or_eq_true,decide_eq_true_eq,decide_eq_true_eq]; exact c2),if_pos ⟨c,c2⟩]; rfl
   ·rw [if_neg (by rw [Bool.or_eq_true,decide_eq_true_eq,decide_eq_true_eq]; exact c2),if_neg (fun z=>c2 z.2)]; rfl
  ·have he:e p i = 0:= by
    unfold e
    by_cases c1:i < p.length
    ·rw [if_pos c1]
     have:p[i]! = -1:=Classical.byContradiction fun hq=>c ⟨c1,hq⟩
     omega
    ·rw [if_neg c1]
   rw [he,if_pos (by decide),if_neg (fun z=>c z.1)]; rfl) (by
  unfold X2
  simp only []
  rw [if_neg (show ¬ decide (((5:Nat):Int) < 5) = true by rw [decide_eq_true_eq]; omega)]
  have:=C7j h l p (5 - p.length)
  rw [show p.length + (5 - p.length) = 5 by omega] at this
  rw [this])
 exact l1
def A1k (h:RoHouse) (p:RoPlan):Int × Int × Int :=
 if (X5 h p).2 != 0 then (0,0,(X5 h p).2) else
 if (A66 h p.Lit.toNat p.At p.At.length).1 < 0 then (0,0,4) else ((A66 h p.Lit.toNat p.At p.At.length).1,(A66 h p.Lit.toNat p.At p.At.length).2,0)
theorem B4s {h:RoHouse} (hb:NB h) (p:RoPlan) (hl:p.At.length < 9223372036854775808):Z1 h p = some (A1k h p):= by
 rw [B0n hb p hl (fun c=>((0:Int),(0:Int),c)) (fun v=>(loop (A4k h v) 0).bind fun (o28:(Unit ⊕ Unit))=>match o28 with | (.inl _)=>(N3 (room_house.mk h) v.at_ true).bind fun x29=>if (!x29) = true then some (0,0,9) else (loop (X2 h v) ((-1),0,0)).bind fun (o40:(Int × Int))=>if (decide (o40.1 < 0)) = true then some (0,0,4) else some (o40.1,o40.2,0) | (.inr _)=>some (0,0,9)) (F:=Z1 h p) rfl]
 unfold A1k X5
 by_cases c:I0 h p = 0
 ·obtain ⟨ok,pv,⟨l,hlit,hl2⟩,_,_⟩:=A0z c
  have hs:loop (A4k h ⟨(l:Int),enc p.At⟩) 0 = some (if A2f h l p.At then .inl () else .inr ()):=C7w ok pv (lit16 ok hl2)
  rw [if_pos c,if_pos c]
  simp only []
  rw [hlit,hs,Int.toNat_natCast]
  simp only [Option.bind_some]
  unfold A32
  cases A2f h l p.At with
  | false=>rfl
  | true =>
   rw [if_pos rfl]
   simp only []
   rw [C7f ok pv,D5t ok (lit16 ok hl2) pv]
   cases A4r h p.At <;> cases A2y h p.At <;> try rfl
   simp only [Option.bind_some]
   by_cases c2:(A66 h l p.At p.At.length).1 < 0
   ·rw [if_neg (by decide),if_pos (by rw [decide_eq_true_eq]; exact c2)]
    simp [c2]
   ·rw [if_neg (by decide),if_neg (by rw [decide_eq_true_eq]; exact c2)]
    simp [c2]
 ·rw [if_neg c,if_neg c]
  simp [c]
def worse (h:RoHouse) (by_:Int):RoHouse:=⟨⟨h.Weather.Lo - by_,h.Weather.Hi + by_⟩,h.Stoves,h.Holds,h.Places,h.Figures,h.Bill⟩
theorem A9o (w:Span) (d:Int) (ws:List Span) (l:Nat):∀n,T7 ⟨w.Lo - d,w.Hi + d⟩ ws l n = ⟨(T7 w ws l n).Lo - d,(T7 w ws l n).Hi + d⟩
 | 0=>rfl
 | n + 1=>by
  have ih:=A9o w d ws l n
  have e1:∀v,T7 v ws l (n + 1) = if bit l n then B6p (T7 v ws l n) ws[n]! else T7 v ws l n:=fun v=>rfl
  rw [e1,e1,ih]
  cases bit l n
  ·rfl
  ·show B6p _ _ = _
   rw [if_pos rfl]
   unfold B6p
   simp only [Span.mk.injEq]
   constructor <;> omega
theorem A9q (h:RoHouse) (d:Int) (p l:Nat):warm (worse h d) p l = ⟨(warm h p l).Lo - d,(warm h p l).Hi + d⟩:=A9o h.Weather d h.Places[p]!.Warms l h.Stoves.toNat
theorem B88 {h:RoHouse} (ok:HOk h) {d:Int} (hd:0≤d∧d≤400) {p l:Nat} (hp:p < h.Places.length) (hl:l < 16):A09 (worse h d) (p:Int) (l:Int) = some (warm (worse h d) p l):= by
 have hs:=ok.s
 have hw:=ok.w
 unfold A09
 have hlen:=B1k ok hp
 have l1:=J4 (b:=Q2 (worse h d) (p:Int) (l:Int)) (fun i=>((i:Int),T7 (worse h d).Weather h.Places[p]!.Warms l i)) h.Stoves.toNat (r:=warm (worse h d) p l) (by omega) (fun i hi=>by
  have b1:=A8q ok (ok.place _ (J8 hp)) l i (by omega)
  have b2:=(ok.place _ (J8 hp)).warms _ (J8 (show i < h.Places[p]!.Warms.length by omega))
  have b3:=A9o h.Weather d h.Places[p]!.Warms l i
  have b4:T7 (worse h d).Weather h.Places[p]!.Warms l i = ⟨(T7 h.Weather h.Places[p]!.Warms l i).Lo - d,(T7 h.Weather h.Places[p]!.Warms l i).Hi + d⟩:=b3
  have b5:=congrArg Span.Lo b4
  have b6:=congrArg Span.Hi b4
  simp only [] at b5 b6
  unfold Q2
  simp only []
  rw [if_pos (show decide ((i:Int) < (worse h d).Stoves) = true by show decide ((i:Int) < h.Stoves) = true; rw [decide_eq_true_eq]; omega),A4z hl (by omega),show idx (worse h d).Places (p:Int) = some h.Places[p]! from F6 hp]
  simp only [Option.bind_some]
  rw [F6 (show i < h.Places[p]!.Warms.length by omega)]
  simp only [Option.bind_some]
  rw [E4 (n:=(i:Int) + 1) (by omega),E4 (by omega),E4 (by omega)]
  show _ = some (Sum.inl (((i + 1:Nat):Int),if bit l i then B6p (T7 (worse h d).Weather h.Places[p]!.Warms l i) h.Places[p]!.Warms[i]! else T7 (worse h d).Weather h.Places[p]!.Warms l i))
  unfold B6p
  cases bit l i <;> rfl) (by
  unfold Q2
  simp only []
  rw [if_neg (show ¬ decide (((h.Stoves.toNat:Nat):Int) < (worse h d).Stoves) = true by show ¬ decide (((h.Stoves.toNat:Nat):Int) < h.Stoves) = true; rw [decide_eq_true_eq]; omega)]
  rfl)
 have l1:loop (Q2 (worse h d) (p:Int) (l:Int)) (0,(worse h d).Weather) = some (warm (worse h d) p l):=l1
 rw [l1]; rfl
theorem B18 {h:RoHouse} (ok:HOk h) {d:Int} (hd:0≤d∧d≤400) {f:RoFigure} (hf:FiOk f) {p l:Nat} (hp:p < h.Places.length) (hl:l < 16):N1 (worse h d) f (p:Int) (l:Int) = some (R4 (warm (worse h d) p l) f):= by
 have b:=A9p ok hp l
 have g:=hf.bears
 have w:=A9q h d p l
 exact C0o (B88 ok hd hp hl) (by rw [w]; simp only []; omega) (by omega)
theorem B01 {h:RoHouse} (ok:HOk h) {d:Int} (hd:0≤d∧d≤400):A17 h d = some (worse h d):= by
 have hw:=ok.w
 unfold A17 worse
 rw [E4 (by omega),E4 (by omega)]
theorem C1q {h:RoHouse} (ok:HOk h) {l:Nat} {p:List Int} (pv:PV h p) (hs:A2f h l p = true) {i:Nat} (hi:A5v p i):0≤left h l p i:= by
 unfold A2f at hs
 rw [List.all_eq_true] at hs
 have:=hs i (List.mem_range.mpr hi.1)
 unfold A4n at this
 rw [Bool.or_eq_true,beq_iff_eq,beq_iff_eq] at this
 have h1:=this.resolve_left hi.2
 unfold R4 at h1
 unfold left A88
 by_cases c:h.Figures[i]!.Cracks≤(warm h p[i]!.toNat l).Lo∧(warm h p[i]!.toNat l).Hi≤h.Figures[i]!.Slumps
 ·split <;> omega
 ·rw [if_neg c] at h1
  split at h1 <;> exact absurd h1 (by decide)
end Rm
end
section
set_option maxRecDepth 100000
set_option maxHeartbeats 0
namespace Rm
open Go Am Go.Proofs.YtbheamjhjgoccaaDoor.Cd
def A3n (a0:(List Int)) (a1:Int):Option Int :=
 if ((List.length a0:Int) == 0) = true then
  some 0
 else
  (C25 a1 (List.length a0:Int)).bind fun x2 =>
  (idx a0 x2).bind fun x3 =>
  some (w64 x3)
theorem B1w {c:Sc} {H:A6} {a0:(List Int)} {a1:Int} {r:Int} (h:A3n a0 a1 = some r) :
  E6 tab c H (.fn (.func 49) [] []) [(.seq 1 (List.map B2b a0)),.i a1] [.i r]:= by
 unfold A3n at h
 refine cE rfl rfl<|s0<|qm rfl<|es (ra2 rfl rfl)<|B8<|s0<|qm rfl<|A0 (E0 (f:=B2b) rfl) rfl<|A0 (F4 rfl rfl) rfl<|es (ra3 rfl rfl rfl)<|wi h rfl (fun hc1 h=>?_) fun hc1 h=>?_
 ·refine s0<|qm rfl<|es (ra1 rfl)<|C4 ?_
  obtain rfl:=os h
  exact retq trivial (A9 rfl B6) (A4 rfl B5) (A2 A5 B1)
 ·refine C1<|s0<|oB h fun x2 hx2 h=>oB h fun x3 hx3 h=>qm rfl<|qm rfl<|qm rfl<|A0 (E0 (f:=B2b) rfl) rfl<|A0 (C4h rfl rfl hx2) rfl<|A0 (F0 (f:=B2b) rfl rfl hx3) rfl<|A0 (F3 rfl rfl) rfl<|A0 (A7u rfl) rfl<|qm rfl<|es (ra1 rfl)<|C4 ?_
  obtain rfl:=os h
  exact retq trivial (A9 rfl B6) (A4 rfl B5) (A2 A5 B1)
def A85 (a0:RoHouse) (s1:(Int × Int)):Option ((Int × Int) ⊕ Int) :=
 if (decide (s1.2 < a0.Stoves)) = true then
  some (.inl ((w64 (2 * s1.1)),(w64 (s1.2 + 1))))
 else
  some (.inr s1.1)
def A4a (a0:RoHouse) (a1:(List Int)) (a2:Bool) (s7:(Int × RoPlan)):Option ((Int × RoPlan) ⊕ RoPlan) :=
 if (decide (s7.1 < (List.length a0.Figures:Int))) = true then
  (A3n a1 (w64 (s7.1 + 1))).bind fun x10 =>
  (C25 x10 (w64 ((List.length a0.Places:Int) + 1))).bind fun x11 =>
  (A58 s7.2.At (w64 (x11 - 1))).bind fun x12 =>
  (if x12 = true then
  some true
  else
  (if (((w64 (x11 - 1)) != (-1)) && a2) = true then
   (idx a0.Figures s7.1).bind fun x16 =>
   (N1 a0 x16 (w64 (x11 - 1)) s7.2.Lit).bind fun x17 =>
   some (x17 != 1)
  else
   some false).bind fun x18 =>
  some x18).bind fun x19 =>
  if x19 = true then
  (app 8 ([]:List Int) s7.2.At).bind fun x21 =>
  (app 8 x21 [(-1)]).bind fun x22 =>
  some (.inl ((w64 (s7.1 + 1)),(RoPlan.mk s7.2.Lit x22)))
  else
  (app 8 ([]:List Int) s7.2.At).bind fun x23 =>
  (app 8 x23 [(w64 (x11 - 1))]).bind fun x24 =>
  some (.inl ((w64 (s7.1 + 1)),(RoPlan.mk s7.2.Lit x24)))
 else
  some (.inr s7.2)
def A56 (a0:RoHouse) (a1:(List Int)) (a2:Bool):Option RoPlan :=
 (loop (A85 a0) (1,0)).bind fun (o4:Int) =>
 (A3n a1 0).bind fun x5 =>
 (C25 x5 o4).bind fun x6 =>
 (loop (A4a a0 a1 a2) (0,(RoPlan.mk x6 ([]:List Int)))).bind fun (o25:RoPlan) =>
 some o25
theorem B3u {c:Sc} {H:A6} {a0:RoHouse} {a1:(List Int)} {a2:Bool} {r:RoPlan} (h:A56 a0 a1 a2 = some r) :
  E6 tab c H (.fn (.func 52) [] []) [(.agg (A3 a0)),(.seq 1 (List.map B2b a1)),.b a2] [(.agg (B4 r))]:= by
 unfold A56 at h
 refine cE rfl rfl<|sg 0 rfl<|A0 (E9 (cs:=A3 a0) rfl rfl rfl) rfl<|A0 D5 rfl<|es (ra4 rfl rfl rfl rfl)<|s0<|qm rfl<|es (ra5 rfl rfl rfl rfl rfl)<|B8<|s0<|qm rfl<|es (ra6 rfl rfl rfl rfl rfl rfl)<|C7<|oB h fun o4 ho4 h=>wl (fun s1=>[(1,(.seq 1 (List.map B2b a1))),(2,.b a2),(3,(.ptr (H.length + 0) 0)),(6,(.ptr (H.length + 1) 0)),(7,.i s1.1),(8,.i s1.2)]) (fun (q2:Unit) s1=>[(.cells (A3 a0)),(.cells (B4 (RoPlan.mk 0 ([]:List Int))))]) 2 (fun r e s' H'=>PX 0 [(1,(.seq 1 (List.map B2b a1))),(2,.b a2),(3,(.ptr (H.length + 0) 0)),(6,(.ptr (H.length + 1) 0)),(7,.i r)] (H++[(.cells (A3 a0)),(.cells (B4 (RoPlan.mk 0 ([]:List Int))))]) e s' H') () ho4 rfl rfl (fun _ _=>rfl) (fun _=>rfl) rfl (fun s1=>(bdc L3 (bdc A5 (bdc (D8 rfl) (bdc (D8 rfl) (bdc A5 (bdc A5 bdn))))))) (fun q2 s1 ys1 hs1=>?_) ?_
 ·unfold A85 at hs1
  refine B8<|s0<|qm rfl<|A0 (C5 rfl) rfl<|A0 (C3 rfl rfl rfl) rfl<|A0 (G1 rfl rfl) rfl<|es (ra7 rfl rfl rfl rfl rfl rfl rfl)<|wi hs1 rfl (fun hc3 hs1=>?_) fun hc3 hs1=>?_
  ·refine C1<|B8<|C7<|r0<|qm rfl<|A0 (C9g rfl rfl) rfl<|qm rfl<|en (ra6 rfl rfl rfl rfl rfl rfl)<|r0<|qm rfl<|A0 (E3 rfl rfl) rfl<|qm rfl<|en (ra6 rfl rfl rfl rfl rfl rfl) ?_
   cases hs1
   exact lnT () rfl (su6 rfl rfl rfl rfl rfl rfl)
  ·refine F1 ?_
   obtain rfl:=os hs1
   exact lx rfl px (su5 rfl rfl rfl rfl rfl)
 ·rintro e s' H' - ⟨rfl,rfl,rfl⟩
  refine sg 2 rfl<|oB h fun x5 hx5 h=>oB h fun x6 hx6 h=>qm rfl<|B3 (rs:=[.i x5]) rfl rfl (A1 rfl (A1 rfl B7)) ((B1w hx5).frz)<|qm rfl<|A0 (C4h rfl rfl hx6) rfl<|A0 (F9 (cs:=B4 (RoPlan.mk x6 ([]:List Int))) rfl rfl) rfl<|A0 D5 rfl<|F2 (C8 (ds:=(B4 (RoPlan.mk x6 ([]:List Int)))) rfl rfl rfl rfl (B9 rfl) rfl) rfl<|es (ra5 rfl rfl rfl rfl rfl)<|B8<|s0<|qm rfl<|es (ra6 rfl rfl rfl rfl rfl rfl)<|C7<|oB h fun o25 ho25 h=>wl (fun s7=>[(1,(.seq 1 (List.map B2b a1))),(2,.b a2),(3,(.ptr (H.length + 0) 0)),(6,(.ptr (H.length + 1) 0)),(9,(.ptr (H.length + 2) 0)),(10,.i s7.1)]) (fun (q8:Unit) s7=>[(.cells (A3 a0)),(.cells (B4 (RoPlan.mk 0 ([]:List Int)))),(.cells (B4 s7.2))]) 3 (fun r e s' H'=>PX 2 [(6,(.ptr (H.length + 1) 0)),(9,(.ptr (H.length + 2) 0))] (H++[(.cells (A3 a0)),(.cells (B4 (RoPlan.mk 0 ([]:List Int)))),(.cells (B4 r))]) e s' H') () ho25 rfl rfl (fun _ _=>rfl) (fun _=>rfl) rfl (fun s7=>(bdc L3 (bdc A5 (bdc (D8 rfl) (bdc (D8 rfl) (bdc (D8 rfl) (bdc A5 bdn))))))) (fun q8 s7 ys7 hs7=>?_) ?_
  ·unfold A4a at hs7
   refine B8<|s0<|qm rfl<|A0 (C5 rfl) rfl<|A0 (C3 rfl rfl rfl) rfl<|A0 (E0 (f:=B2) rfl) rfl<|A0 (G1 rfl rfl) rfl<|es (ra7 rfl rfl rfl rfl rfl rfl rfl)<|wi hs7 rfl (fun hc9 hs7=>?_) fun hc9 hs7=>?_
   ·refine C1<|B8<|C7<|s0<|oB hs7 fun x10 hx10 hs7=>oB hs7 fun x11 hx11 hs7=>qm rfl<|qm rfl<|A0 (E3 rfl rfl) rfl<|A15 (rs:=[.i x10]) rfl rfl (M1 rfl (M1 rfl A3o)) (A1 rfl (A1 rfl B7)) ((B1w hx10).frz)<|A0 (C5 rfl) rfl<|A0 (C3 rfl rfl rfl) rfl<|A0 (E0 (f:=C2) rfl) rfl<|A0 (E3 rfl rfl) rfl<|A0 (C4h rfl rfl hx11) rfl<|A0 (W0 rfl rfl) rfl<|qm rfl<|es (ra7 rfl rfl rfl rfl rfl rfl rfl)<|B8<|s0<|oB hs7 fun x12 hx12 hs7=>oB hs7 fun x19 hx19 hs7=>A0 (C5 rfl) rfl<|A0 (C3 rfl rfl rfl) rfl<|qm rfl<|B3 (rs:=[.b x12]) rfl rfl (A1 rfl (A1 rfl B7)) ((B3v hx12).frz)<|qm rfl<|gp 19 65 (.b x19) 46 rfl rfl (fun hg13=>?_) (fun hg13=>?_) ?_
    ·obtain rfl:=os (bt hx19 hg13)
     exact nF rfl hg13 rfl<|nF rfl hg13 rfl<|nF rfl hg13 rfl<|nX rfl rfl<|nF rfl hg13 rfl<|nF rfl hg13 rfl<|nX rfl rfl<|nX rfl rfl<|nX rfl rfl<|nX rfl rfl<|nX rfl rfl<|nX rfl rfl<|nX rfl rfl<|nX rfl rfl<|nX rfl rfl<|G7 (B9u rfl) rfl<|nX rfl rfl<|nF rfl hg13 rfl<|A0 (C9 rfl hg13 rfl) rfl<|ge 19 rfl rfl rfl
    ·refine oB (bf hx19 hg13) fun x18 hx18 hx19=>?_
     obtain rfl:=os hx19
     refine gF rfl hg13<|qm rfl<|gF rfl hg13<|A0 (G2 rfl rfl) rfl<|gF rfl hg13<|qm rfl<|gq 2 51 (.b (((w64 (x11 - 1)) != (-1)) && a2)) 49 rfl rfl (fun hg14=>?_) (fun hg14=>?_) ?_
     ·exact gT rfl hg14<|qm rfl<|gF rfl hg13<|A0 (C9 rfl hg14 rfl) rfl<|ge 2 (by rw [hg14]; rfl) rfl rfl
     ·exact nT rfl hg14 rfl<|gF rfl hg13<|A0 (D0 rfl hg14 rfl) rfl<|ge 2 (by rw [hg14]; rfl) rfl rfl
     refine gF rfl hg13<|qm rfl<|gq 12 64 (.b x18) 52 rfl rfl (fun hg15=>?_) (fun hg15=>?_) ?_
     ·refine oB (bt hx18 hg15) fun x16 hx16 hx18=>oB hx18 fun x17 hx17 hx18=>?_
      obtain rfl:=os hx18
      exact gT rfl hg15<|A0 (C0 rfl rfl rfl) rfl<|gT rfl hg15<|A0 (C5 rfl) rfl<|gT rfl hg15<|A0 (C3 rfl rfl rfl) rfl<|gT rfl hg15<|qm rfl<|gT rfl hg15<|A0 (F0 (f:=B2) rfl rfl hx16) rfl<|gT rfl hg15<|A0 (R7 rfl rfl) rfl<|gT rfl hg15<|qm rfl<|gT rfl hg15<|A0 (C5 rfl) rfl<|gT rfl hg15<|A0 (C3 rfl rfl rfl) rfl<|gT rfl hg15<|B3 (rs:=[.i x17]) rfl rfl (A1 (D1 rfl) (A1 (D1 rfl) (A1 rfl (A1 rfl B7)))) ((W4 hx17).frz)<|gT rfl hg15<|A0 (G2 rfl rfl) rfl<|gF rfl hg13<|A0 (C9 rfl hg15 rfl) rfl<|ge 12 rfl rfl rfl
     ·obtain rfl:=os (bf hx18 hg15)
      exact nT rfl hg15 rfl<|nT rfl hg15 rfl<|nT rfl hg15 rfl<|nT rfl hg15 rfl<|nT rfl hg15 rfl<|nT rfl hg15 rfl<|nT rfl hg15 rfl<|nT rfl hg15 rfl<|nT rfl hg15 rfl<|G7 (E2 rfl (by rw [hg15]; rfl)) rfl<|nT rfl hg15 rfl<|gF rfl hg13<|A0 (D0 rfl hg15 rfl) rfl<|ge 12 rfl rfl rfl
     exact A0 (D0 rfl hg13 rfl) rfl<|ge 7 rfl rfl rfl
    refine es (ra8 rfl rfl rfl rfl rfl rfl rfl rfl)<|wi hs7 rfl (fun hc20 hs7=>?_) fun hc20 hs7=>?_
    ·refine r0<|qm rfl<|en (ra7 rfl rfl rfl rfl rfl rfl rfl)<|rg 3 rfl<|oB hs7 fun x21 hx21 hs7=>oB hs7 fun x22 hx22 hs7=>A0 (C2t (rows:=List.map cI []) rfl rfl (F5 (fun _=>rfl) _)) rfl<|A0 (C5 rfl) rfl<|A0 (C3 rfl rfl rfl) rfl<|A9x (B0h (f:=cI) rfl rfl rfl rfl A7y (fun _=>rfl) hx21) rfl<|qm rfl<|A0 (L4 (rows:=List.map cI [(-1)]) rfl rfl (F5 (fun _=>rfl) _)) rfl<|A9x (C2q (f:=cI) rfl rfl rfl rfl A7y (fun _=>rfl) hx22) rfl<|A0 (C5 rfl) rfl<|F2 (C8 (ds:=(B4 (RoPlan.mk s7.2.Lit x22))) rfl rfl rfl rfl (B9 rfl) rfl) rfl<|en (ra6 rfl rfl rfl rfl rfl rfl)<|r0<|qm rfl<|A0 (E3 rfl rfl) rfl<|qm rfl<|en (ra6 rfl rfl rfl rfl rfl rfl) ?_
     cases hs7
     exact lnT () rfl (su6 rfl rfl rfl rfl rfl rfl)
    ·refine C1<|rg 3 rfl<|oB hs7 fun x23 hx23 hs7=>oB hs7 fun x24 hx24 hs7=>A0 (C2t (rows:=List.map cI []) rfl rfl (F5 (fun _=>rfl) _)) rfl<|A0 (C5 rfl) rfl<|A0 (C3 rfl rfl rfl) rfl<|A9x (B0h (f:=cI) rfl rfl rfl rfl A7y (fun _=>rfl) hx23) rfl<|qm rfl<|A0 (L4 (rows:=List.map cI [(w64 (x11 - 1))]) rfl rfl (F5 (fun _=>rfl) _)) rfl<|A9x (C2q (f:=cI) rfl rfl rfl rfl A7y (fun _=>rfl) hx24) rfl<|A0 (C5 rfl) rfl<|F2 (C8 (ds:=(B4 (RoPlan.mk s7.2.Lit x24))) rfl rfl rfl rfl (B9 rfl) rfl) rfl<|en (ra6 rfl rfl rfl rfl rfl rfl)<|r0<|qm rfl<|A0 (E3 rfl rfl) rfl<|qm rfl<|en (ra6 rfl rfl rfl rfl rfl rfl) ?_
     cases hs7
     exact lnT () rfl (su6 rfl rfl rfl rfl rfl rfl)
   ·refine F1 ?_
    obtain rfl:=os hs7
    exact lx rfl px (su2 rfl rfl)
  ·rintro e s' H' - ⟨rfl,rfl,rfl⟩
   refine s0<|A0 (C0 rfl rfl rfl) rfl<|F2 (C8 (ds:=(B4 o25)) rfl rfl rfl rfl (B9 rfl) rfl) rfl<|es (ra1 rfl)<|C4 ?_
   obtain rfl:=os h
   exact retq trivial (F7 (E7 (ds:=B4 o25) rfl rfl rfl rfl) B6) (A4 (I7 rfl) B5) (A2 (G6 rfl) B1)
def Y8 (a0:RoHouse):Option Bool :=
 (W1 a0).bind fun x1 =>
 some (x1.2.2 == 0)
theorem A12 {c:Sc} {H:A6} {a0:RoHouse} {r:Bool} (h:Y8 a0 = some r) :
  E6 tab c H (.fn (.func 43) [] []) [(.agg (A3 a0))] [.b r]:= by
 unfold Y8 at h
 refine cE rfl rfl<|sg 0 rfl<|A0 (E9 (cs:=A3 a0) rfl rfl rfl) rfl<|qm rfl<|es (ra1 rfl)<|s0<|oB h fun x1 hx1 h=>A0 (C0 rfl rfl rfl) rfl<|B3 (rs:=[.i x1.1,.i x1.2.1,.i x1.2.2]) rfl rfl (A1 (D1 rfl) B7) ((A0n hx1).frz)<|qm rfl<|A0 (A8 rfl rfl) rfl<|A0 (A8 rfl rfl) rfl<|A0 (A8 rfl rfl) rfl<|qm rfl<|qm rfl<|qm rfl<|es (ra1 rfl)<|s0<|qm rfl<|A0 (F4 rfl rfl) rfl<|qm rfl<|es (ra1 rfl)<|C4 ?_
 obtain rfl:=os h
 exact retq trivial (A9 rfl B6) (A4 rfl B5) (A2 A5 B1)
end Rm
end
section
namespace Rm
open Go Am
def N8 (l:List Int):Prop:=l.length < 9223372036854775808∧∀ x ∈ l,0≤x∧x < 256
theorem B4c {a b:Int} (ha:0≤a) (hb:0 < b):∃r,C25 a b = some r∧0≤r∧r < b:= by
 unfold C25
 rw [if_neg (by omega)]
 exact ⟨a.tmod b,rfl,Int.tmod_nonneg _ ha,Int.tmod_lt_of_pos _ hb⟩
theorem C71 {l:List Int} (h:N8 l) (n:Nat):∃r,A3n l (n:Int) = some r∧0≤r∧r < 256:= by
 have h1:=h.1
 unfold A3n
 by_cases c:l.length = 0
 ·rw [if_pos (by rw [c]; rfl)]; exact ⟨0,rfl,by omega,by omega⟩
 ·rw [if_neg (by rw [beq_iff_eq]; omega)]
  obtain ⟨r,h1,h2,h3⟩:=B4c (a:=(n:Int)) (b:=(l.length:Int)) (by omega) (by omega)
  rw [h1]
  simp only [Option.bind_some]
  rw [show r = ((r.toNat:Nat):Int) by omega,F6 (show r.toNat < l.length by omega)]
  have hb:=h.2 _ (J8 (show r.toNat < l.length by omega))
  simp only [Option.bind_some]
  rw [E4 (by omega)]
  exact ⟨_,rfl,hb.1,hb.2⟩
theorem B00 (h:RoHouse):Y8 h = some ((check h).2.2 == 0):= by
 unfold Y8
 rw [X0]; rfl
theorem C1s {h:RoHouse} (ok:HOk h) {b:Int × Int→Option ((Int × Int) ⊕ Int)} (hb:∀s,b s = if (decide (s.2 < h.Stoves)) = true then some (.inl ((w64 (2 * s.1)),(w64 (s.2 + 1)))) else some (.inr s.1)):loop b (1,0) = some ((2 ^ h.Stoves.toNat:Nat):Int):= by
 have e:=D1m ok
 unfold A0c at e
 have hbe:b = A0d h.Stoves:= by
  funext s
  rw [hb]; rfl
 rw [hbe]
 cases hl:loop (A0d h.Stoves) (1,0) with
 | none=>rw [hl] at e; cases e
 | some r=>rw [hl] at e; exact e
theorem B1d (l:List Int) (v:Int) (j:Nat):(l++[v])[j]! = if j < l.length then l[j]! else if j = l.length then v else default:= by
 by_cases c:j < l.length
 ·rw [if_pos c,getElem!_pos (l++[v]) j (by rw [List.length_append]; omega),getElem!_pos l j c,List.getElem_append_left c]
 ·rw [if_neg c]
  by_cases c2:j = l.length
  ·subst c2
   rw [if_pos rfl,getElem!_pos (l++[v]) l.length (by rw [List.length_append]; simp),List.getElem_append_right (Nat.le_refl _)]
   simp
  ·rw [if_neg c2,getElem!_neg (l++[v]) j (by rw [List.length_append]; simp; omega)]
theorem C28 {l:List Int} {v:Int} {j:Nat} (hj:j < l.length):V8 (l++[v]) j = V8 l j:= by
 unfold V8
 rw [B1d,if_pos hj,List.take_append_of_le_length (by omega)]
theorem C27 (l:List Int) (v:Int):V8 (l++[v]) l.length = (v != -1 && l.any (· == v)):= by
 unfold V8
 rw [B1d,if_neg (Nat.lt_irrefl _),if_pos rfl,List.take_left' rfl]
theorem D14 (l:List Int):dup l = false↔∀ i,i < l.length→V8 l i = false:= by
 unfold dup
 constructor
 ·intro h i hi
  cases hf:first (fun i=>if V8 l i then some () else none) l.length with
  | some u=>rw [hf] at h; cases h
  | none =>
   have:=J9.mp hf i hi
   cases ht:V8 l i with
   | false=>rfl
   | true=>rw [ht] at this; exact absurd this (by simp)
 ·intro h
  rw [J9.mpr fun i hi=>by rw [h i hi]; rfl]; rfl
structure AnyOk (h:RoHouse) (safe:Bool) (p:RoPlan):Prop where
 pv:PV h p.At
 lit:∃l:Nat,p.Lit = l∧l < 2 ^ h.Stoves.toNat
 dup:dup p.At = false
 safe:safe = true→A2f h p.Lit.toNat p.At = true
theorem C9c {h:RoHouse} (ok:HOk h) {x:List Int} (hx:N8 x) (safe:Bool):∃p,A56 h x safe = some p∧AnyOk h safe p:= by
 have h5:=ok.figures
 have hp:=ok.places
 have hpw:=A7x ok
 unfold A56
 rw [C1s ok (b:=A85 h) (fun _=>rfl)]
 simp only [Option.bind_some]
 obtain ⟨r,e1,r0,r1⟩:=C71 hx 0
 have e1:A3n x 0 = some r:=e1
 rw [e1]
 simp only [Option.bind_some]
 obtain ⟨l,e2,l0,l1⟩:=B4c (a:=r) (b:=((2 ^ h.Stoves.toNat:Nat):Int)) r0 (by omega)
 rw [e2]
 simp only [Option.bind_some]
 have hl16:l.toNat < 16:= by omega
 obtain ⟨p,h1,h2⟩:=C4b (b:=A4a h x safe) (fun i s=>s.1 = (i:Int)∧s.2.Lit = l∧s.2.At.length = i∧(∀ j,j < i→-1≤s.2.At[j]!∧s.2.At[j]! < (h.Places.length:Int))∧(∀ j,j < i→V8 s.2.At j = false)∧(safe = true→∀ j,j < i→A4n h l.toNat s.2.At j = true)) h.Figures.length (AnyOk h safe) (by omega) (by
  rintro i ⟨n,⟨li,at_⟩⟩ hi ⟨h1,h2,h3,h4,h6,h7⟩
  simp only at h1 h2 h3 h4 h6 h7
  subst h1
  subst h2
  unfold A4a
  simp only []
  obtain ⟨r,e1,r0,r1⟩:=C71 hx (i + 1)
  rw [if_pos (by rw [decide_eq_true_eq]; omega),E4 (n:=(i:Int) + 1) (by omega),show ((i:Int) + 1) = ((i + 1:Nat):Int) by omega,e1]
  simp only [Option.bind_some]
  obtain ⟨z,e2,z0,z1⟩:=B4c (a:=r) (b:=(h.Places.length:Int) + 1) r0 (by omega)
  rw [E4 (n:=(h.Places.length:Int) + 1) (by omega),e2]
  simp only [Option.bind_some]
  rw [E4 (n:=z - 1) (by omega),C92 _ _ (by omega)]
  simp only [Option.bind_some]
  have step:∀v:Int,(-1≤v∧v < (h.Places.length:Int))→(v ≠ -1→at_.any (· == v) = false)→(safe = true→v ≠ -1→R4 (warm h v.toNat li.toNat) h.Figures[i]! = 1) →
    ∃ s',((app 8 ([]:List Int) at_).bind fun x21=>(app 8 x21 [v]).bind fun x22=>some (Sum.inl (((i + 1:Nat):Int),RoPlan.mk li x22):(Int × RoPlan) ⊕ RoPlan)) = some (.inl s')∧(s'.1 = ((i + 1:Nat):Int)∧s'.2.Lit = li∧s'.2.At.length = i + 1∧(∀ j,j < i + 1→-1≤s'.2.At[j]!∧s'.2.At[j]! < (h.Places.length:Int))∧(∀ j,j < i + 1→V8 s'.2.At j = false)∧(safe = true→∀ j,j < i + 1→A4n h li.toNat s'.2.At j = true)):= by
   intro v hv1 hv2 hv3
   rw [B4v (by omega) (by simp; omega)]
   simp only [Option.bind_some,List.nil_append]
   rw [B4v (by omega) (by simp; omega)]
   simp only [Option.bind_some]
   refine ⟨_,rfl,rfl,rfl,by simp [h3],fun j hj=>?_,fun j hj=>?_,fun hs j hj=>?_⟩
   ·simp only []
    rw [B1d]
    by_cases c:j < at_.length
    ·rw [if_pos c]; exact h4 j (by omega)
    ·rw [if_neg c,if_pos (by omega)]; exact hv1
   ·simp only []
    by_cases c:j < at_.length
    ·rw [C28 c]; exact h6 j (by omega)
    ·rw [show j = at_.length by omega,C27]
     by_cases c2:v = -1
     ·rw [c2]; rfl
     ·rw [hv2 c2,Bool.and_false]
   ·simp only []
    unfold A4n
    rw [B1d]
    by_cases c:j < at_.length
    ·rw [if_pos c]
     have:=h7 hs j (by omega)
     unfold A4n at this
     exact this
    ·rw [if_neg c,if_pos (by omega),show j = i by omega]
     by_cases c2:v = -1
     ·rw [c2]; rfl
     ·rw [hv3 hs c2]; simp
  cases hh:at_.any (· == z - 1) with
  | true =>
   simp only [if_true,Option.bind_some]
   exact step (-1) (by omega) (fun q=>absurd rfl q) (fun _ q=>absurd rfl q)
  | false =>
   simp only [Bool.false_eq_true,if_false,Option.bind_some]
   by_cases c:((z - 1 != -1) && safe) = true
   ·rw [if_pos c]
    rw [Bool.and_eq_true,bne_iff_ne] at c
    obtain ⟨q,hq⟩:∃q:Nat,z - 1 = q:=⟨(z - 1).toNat,by omega⟩
    rw [hq] at hh ⊢
    rw [F6 hi]
    simp only [Option.bind_some]
    have hb:=A8t ok (ok.figure _ (J8 hi)) (show q < h.Places.length by omega) hl16
    rw [show ((li.toNat:Nat):Int) = li by omega] at hb
    rw [hb]
    simp only [Option.bind_some]
    by_cases hf:R4 (warm h q li.toNat) h.Figures[i]! = 1
    ·rw [if_neg (by rw [hf]; decide)]
     exact step q (by omega) (fun _=>hh) (fun _ _=>by rw [Int.toNat_natCast]; exact hf)
    ·rw [if_pos (bne_iff_ne.mpr hf)]
     exact step (-1) (by omega) (fun q=>absurd rfl q) (fun _ q=>absurd rfl q)
   ·rw [if_neg c]
    simp only [Option.bind_some,Bool.false_eq_true,if_false]
    refine step (z - 1) (by omega) (fun _=>hh) (fun hs hv=>absurd ?_ c)
    rw [Bool.and_eq_true,bne_iff_ne]
    exact ⟨hv,hs⟩) (by
  rintro ⟨n,p⟩ ⟨h1,h2,h3,h4,h6,h7⟩
  simp only at h1 h2 h3 h4 h6 h7
  subst h1
  unfold A4a
  simp only []
  rw [if_neg (by simp)]
  refine ⟨p,rfl,⟨h3,fun i hi=>h4 i (by omega)⟩,⟨l.toNat,by omega,by omega⟩,(D14 _).mpr fun i hi=>h6 i (by omega),fun hs=>?_⟩
  unfold A2f
  rw [List.all_eq_true]
  intro i hi
  rw [h2]
  exact h7 hs i (by have:=List.mem_range.mp hi; omega)) (0,RoPlan.mk l []) ⟨rfl,rfl,rfl,fun j hj=>absurd hj (Nat.not_lt_zero j),fun j hj=>absurd hj (Nat.not_lt_zero j),fun _ j hj=>absurd hj (Nat.not_lt_zero j)⟩
 rw [h1]
 exact ⟨p,rfl,h2⟩
theorem B7f {h:RoHouse} (e0:(check h).2.2 = 0) {safe:Bool} {p:RoPlan} (a:AnyOk h safe p):I0 h p = 0:= by
 obtain ⟨l,hl1,hl2⟩:=a.lit
 have hpv:=a.pv
 unfold I0
 rw [if_neg (by simp [e0]),Q7.mpr (show 0≤p.Lit∧p.Lit≤((2 ^ h.Stoves.toNat:Nat):Int) - 1 by omega),if_neg (by decide),if_neg (by simp [hpv.len])]
 have o2:p.At.any (out (-1) ((h.Places.length:Int) - 1)) = false:= by
  rw [List.any_eq_false]
  intro x hx
  obtain ⟨i,hi,rfl⟩:=A87 hx
  have:=hpv.bd i hi
  rw [Q7.mpr ⟨by omega,by omega⟩]; decide
 rw [o2,if_neg (by decide),a.dup,if_neg (by decide)]
theorem C72 {n:Int} (h:(Lit.int .u8 n).wf = true):0≤n∧n < 256:= by
 rw [Lit.wf,Bool.and_eq_true,decide_eq_true_eq,decide_eq_true_eq] at h
 have h1:IntKind.u8.min = 0:=rfl
 have h2:IntKind.u8.max = 255:=rfl
 omega
theorem D0w (r:List AV) (h:SatL [.int .u8] r):∃x:Int,r = [.lit (.int .u8 x)]∧(0≤x∧x < 256):= by
 simp only [SatL,Sat] at h
 obtain ⟨x1,q1,rfl,⟨n1,rfl,hw⟩,rfl⟩:=h
 exact ⟨n1,rfl,C72 hw⟩
theorem D39 (r:List AV) (h:SatL [.int .u8] r):∃x:Int,r = B2b x∧(0≤x∧x < 256):=D0w r h
theorem D0x (r:List AV) (h:SatL [.seq 1 [.int .u8]] r):∃xs:List Int,r = [.seq 1 (xs.map B2b)]∧N8 xs:= by
 rw [SatL] at h; obtain ⟨x,q1,rfl,hx,hq⟩:=h
 rw [SatL] at hq; subst hq
 simp only [Sat] at hx
 obtain ⟨rows,rfl,hl,hr⟩:=hx
 obtain ⟨xs,rfl,hlen,hq⟩:=A5j D39 rows hr
 simp only [maxLen] at hl
 exact ⟨xs,rfl,by omega,hq⟩
end Rm
end
section
set_option maxRecDepth 100000
set_option maxHeartbeats 0
namespace Rm
open Go Am Go.Proofs.YtbheamjhjgoccaaDoor.Cd
def Q9 (x7:RoPlan) (s18:(Bool × Int)):Option ((Bool × Int) ⊕ Bool) :=
 if (decide (s18.2 < (List.length x7.At:Int))) = true then
  (if s18.1 = true then
  some true
  else
  (idx x7.At s18.2).bind fun x22 =>
  some (x22 != (-1))).bind fun x23 =>
  some (.inl (x23,(w64 (s18.2 + 1))))
 else
  some (.inr s18.1)
def A2j (a0:RoHouse) (a1:(List Int)):Option Bool :=
 (Y8 a0).bind fun x1 =>
 if (!x1) = true then
  (Z1 a0 (RoPlan.mk 0 ([]:List Int))).bind fun x3 =>
  (if (x3.2.2 != 0) = true then
  (K6).bind fun x5 =>
  some x5
  else
  some false).bind fun x6 =>
  some x6
 else
  (A56 a0 a1 true).bind fun x7 =>
  (X3 a0 x7).bind fun x8 =>
  (Z1 a0 x7).bind fun x9 =>
  if (x8.2 != 0) = true then
  (if (((((x8.2 == 9) && (x9.2.2 == x8.2)) && (x9.1 == 0)) && (x9.2.1 == 0)) && (x8.1 == 0)) = true then
   (K6).bind fun x16 =>
   some x16
  else
   some false).bind fun x17 =>
  some x17
  else
  (loop (Q9 x7) (false,0)).bind fun (o24:Bool) =>
  if (!o24) = true then
   (if (((x9.2.2 == 4) && (x9.1 == 0)) && (x9.2.1 == 0)) = true then
   (K6).bind fun x29 =>
   some x29
   else
   some false).bind fun x30 =>
   some x30
  else
   (if ((((x9.2.2 != 0) || (decide (x9.2.1 < 0))) || (decide (x9.1 < 0))) || (decide (x9.1 ≥ (List.length x7.At:Int)))) = true then
   some true
   else
   (idx x7.At x9.1).bind fun x35 =>
   some (x35 == (-1))).bind fun x36 =>
   if x36 = true then
   some false
   else
   (A17 a0 x9.2.1).bind fun x38 =>
   (A17 a0 (w64 (x9.2.1 + 1))).bind fun x39 =>
   (idx a0.Figures x9.1).bind fun x40 =>
   (idx x7.At x9.1).bind fun x41 =>
   (N1 x39 x40 x41 x7.Lit).bind fun x42 =>
   if (x42 == 1) = true then
    some false
   else
    (Y8 x38).bind fun x44 =>
    (if x44 = true then
     (X3 x38 x7).bind fun x47 =>
     if ((x47.2 != 0) || (x47.1 != x8.1)) = true then
     some (.inl false)
     else
     some (.inr ())
    else
     some (.inr ())).bind fun (p45:(Bool ⊕ Unit)) =>
    match p45 with
    | (.inl vp45_0) =>
    some vp45_0
    | (.inr vp45_1) =>
    (Y8 x39).bind fun x50 =>
    if x50 = true then
     (X3 x39 x7).bind fun x52 =>
     (if (x52.2 == 9) = true then
     (K6).bind fun x54 =>
     some x54
     else
     some false).bind fun x55 =>
     some x55
    else
     (K6).bind fun x56 =>
     some x56
theorem B1q {c:Sc} {H:A6} (hscv:Z2 c H = true) {a0:RoHouse} {a1:(List Int)} {r:Bool} (h:A2j a0 a1 = some r) :
  E6 tab c H (.fn (.func 11) [] []) [(.agg (A3 a0)),(.seq 1 (List.map B2b a1))] [.b r]:= by
 unfold A2j at h
 refine cE rfl rfl<|sg 0 rfl<|A0 (E9 (cs:=A3 a0) rfl rfl rfl) rfl<|qm rfl<|es (ra2 rfl rfl)<|B8<|s0<|oB h fun x1 hx1 h=>A0 (C0 rfl rfl rfl) rfl<|B3 (rs:=[.b x1]) rfl rfl (A1 (D1 rfl) B7) ((A12 hx1).frz)<|A0 (P9 rfl) rfl<|es (ra3 rfl rfl rfl)<|wi h rfl (fun hc2 h=>?_) fun hc2 h=>?_
 ·refine s0<|oB h fun x3 hx3 h=>A0 (C0 rfl rfl rfl) rfl<|A0 (F9 (cs:=B4 (RoPlan.mk 0 ([]:List Int))) rfl rfl) rfl<|B3 (rs:=[.i x3.1,.i x3.2.1,.i x3.2.2]) rfl rfl (A1 (D1 rfl) (A1 (D1 rfl) B7)) ((A13 hx3).frz)<|qm rfl<|A0 (A8 rfl rfl) rfl<|A0 (A8 rfl rfl) rfl<|A0 (A8 rfl rfl) rfl<|qm rfl<|qm rfl<|qm rfl<|es (ra1 rfl)<|s0<|oB h fun x6 hx6 h=>qm rfl<|A0 (G2 rfl rfl) rfl<|qm rfl<|gp 2 36 (.b x6) 34 rfl rfl (fun hg4=>?_) (fun hg4=>?_) ?_
  ·refine oB (bt hx6 hg4) fun x5 hx5 hx6=>?_
   obtain rfl:=os hx6
   exact gT rfl hg4<|B3 (rs:=[.b x5]) rfl rfl B7 ((K8 (A6v hscv) hx5).frz)<|A0 (C9 rfl hg4 rfl) rfl<|ge 2 rfl rfl rfl
  ·obtain rfl:=os (bf hx6 hg4)
   exact G7 (E2 rfl (by rw [hg4]; rfl)) rfl<|A0 (D0 rfl hg4 rfl) rfl<|ge 2 rfl rfl rfl
  refine qm rfl<|es (ra1 rfl)<|C4 ?_
  obtain rfl:=os h
  exact retq trivial (A9 rfl B6) (A4 rfl B5) (A2 A5 B1)
 ·refine C1<|sg 1 rfl<|oB h fun x7 hx7 h=>A0 (C0 rfl rfl rfl) rfl<|qm rfl<|B3 (rs:=[(.agg (B4 x7))]) rfl rfl (A1 (D1 rfl) (A1 rfl (A1 rfl B7))) ((B3u hx7).frz)<|A0 D5 rfl<|F2 (C8 (ds:=(B4 x7)) rfl rfl rfl rfl (B9 rfl) rfl) rfl<|es (ra2 rfl rfl)<|s0<|oB h fun x8 hx8 h=>A0 (C0 rfl rfl rfl) rfl<|A0 (C0 rfl rfl rfl) rfl<|B3 (rs:=[.i x8.1,.i x8.2]) rfl rfl (A1 (D1 rfl) (A1 (D1 rfl) B7)) ((A1m hx8).frz)<|qm rfl<|A0 (A8 rfl rfl) rfl<|A0 (A8 rfl rfl) rfl<|qm rfl<|qm rfl<|es (ra4 rfl rfl rfl rfl)<|s0<|oB h fun x9 hx9 h=>A0 (C0 rfl rfl rfl) rfl<|A0 (C0 rfl rfl rfl) rfl<|B3 (rs:=[.i x9.1,.i x9.2.1,.i x9.2.2]) rfl rfl (A1 (D1 rfl) (A1 (D1 rfl) B7)) ((A13 hx9).frz)<|qm rfl<|A0 (A8 rfl rfl) rfl<|A0 (A8 rfl rfl) rfl<|A0 (A8 rfl rfl) rfl<|qm rfl<|qm rfl<|qm rfl<|es (ra7 rfl rfl rfl rfl rfl rfl rfl)<|B8<|s0<|qm rfl<|A0 (G2 rfl rfl) rfl<|es (ra8 rfl rfl rfl rfl rfl rfl rfl rfl)<|wi h rfl (fun hc10 h=>?_) fun hc10 h=>?_
  ·refine s0<|oB h fun x17 hx17 h=>qm rfl<|A0 (F4 rfl rfl) rfl<|qm rfl<|gp 4 61 (.b ((x8.2 == 9) && (x9.2.2 == x8.2))) 57 rfl rfl (fun hg11=>?_) (fun hg11=>?_) ?_
   ·exact gT rfl hg11<|qm rfl<|gT rfl hg11<|qm rfl<|gT rfl hg11<|A0 (F4 rfl rfl) rfl<|A0 (C9 rfl hg11 rfl) rfl<|ge 4 (by rw [hg11]; rfl) rfl rfl
   ·exact nT rfl hg11 rfl<|nT rfl hg11 rfl<|nT rfl hg11 rfl<|A0 (D0 rfl hg11 rfl) rfl<|ge 4 (by rw [hg11]; rfl) rfl rfl
   refine qm rfl<|gp 3 65 (.b (((x8.2 == 9) && (x9.2.2 == x8.2)) && (x9.1 == 0))) 62 rfl rfl (fun hg12=>?_) (fun hg12=>?_) ?_
   ·exact gT rfl hg12<|qm rfl<|gT rfl hg12<|A0 (F4 rfl rfl) rfl<|A0 (C9 rfl hg12 rfl) rfl<|ge 3 (by rw [hg12]; rfl) rfl rfl
   ·exact nT rfl hg12 rfl<|nT rfl hg12 rfl<|A0 (D0 rfl hg12 rfl) rfl<|ge 3 (by rw [hg12]; rfl) rfl rfl
   refine qm rfl<|gp 3 69 (.b ((((x8.2 == 9) && (x9.2.2 == x8.2)) && (x9.1 == 0)) && (x9.2.1 == 0))) 66 rfl rfl (fun hg13=>?_) (fun hg13=>?_) ?_
   ·exact gT rfl hg13<|qm rfl<|gT rfl hg13<|A0 (F4 rfl rfl) rfl<|A0 (C9 rfl hg13 rfl) rfl<|ge 3 (by rw [hg13]; rfl) rfl rfl
   ·exact nT rfl hg13 rfl<|nT rfl hg13 rfl<|A0 (D0 rfl hg13 rfl) rfl<|ge 3 (by rw [hg13]; rfl) rfl rfl
   refine qm rfl<|gp 3 73 (.b (((((x8.2 == 9) && (x9.2.2 == x8.2)) && (x9.1 == 0)) && (x9.2.1 == 0)) && (x8.1 == 0))) 70 rfl rfl (fun hg14=>?_) (fun hg14=>?_) ?_
   ·exact gT rfl hg14<|qm rfl<|gT rfl hg14<|A0 (F4 rfl rfl) rfl<|A0 (C9 rfl hg14 rfl) rfl<|ge 3 (by rw [hg14]; rfl) rfl rfl
   ·exact nT rfl hg14 rfl<|nT rfl hg14 rfl<|A0 (D0 rfl hg14 rfl) rfl<|ge 3 (by rw [hg14]; rfl) rfl rfl
   refine qm rfl<|gp 2 76 (.b x17) 74 rfl rfl (fun hg15=>?_) (fun hg15=>?_) ?_
   ·refine oB (bt hx17 hg15) fun x16 hx16 hx17=>?_
    obtain rfl:=os hx17
    exact gT rfl hg15<|B3 (rs:=[.b x16]) rfl rfl B7 ((K8 (A6v hscv) hx16).frz)<|A0 (C9 rfl hg15 rfl) rfl<|ge 2 rfl rfl rfl
   ·obtain rfl:=os (bf hx17 hg15)
    exact G7 (E2 rfl (by rw [hg15]; rfl)) rfl<|A0 (D0 rfl hg15 rfl) rfl<|ge 2 rfl rfl rfl
   refine qm rfl<|es (ra1 rfl)<|C4 ?_
   obtain rfl:=os h
   exact retq trivial (A9 rfl B6) (A4 rfl B5) (A2 A5 B1)
  ·refine C1<|s0<|qm rfl<|es (ra7 rfl rfl rfl rfl rfl rfl rfl)<|B8<|s0<|qm rfl<|es (ra8 rfl rfl rfl rfl rfl rfl rfl rfl)<|C7<|oB h fun o24 ho24 h=>wl (fun s18=>[(2,(.ptr (H.length + 0) 0)),(8,(.ptr (H.length + 1) 0)),(9,.i x8.1),(11,.i x9.1),(12,.i x9.2.1),(13,.i x9.2.2),(14,.b s18.1),(15,.i s18.2)]) (fun (q19:Unit) s18=>[(.cells (A3 a0)),(.cells (B4 x7))]) 2 (fun r e s' H'=>PX 0 [(2,(.ptr (H.length + 0) 0)),(8,(.ptr (H.length + 1) 0)),(9,.i x8.1),(11,.i x9.1),(12,.i x9.2.1),(13,.i x9.2.2),(14,.b r)] (H++[(.cells (A3 a0)),(.cells (B4 x7))]) e s' H') () ho24 rfl rfl (fun _ _=>rfl) (fun _=>rfl) rfl (fun s18=>(bdc (D8 rfl) (bdc (D8 rfl) (bdc A5 (bdc A5 (bdc A5 (bdc A5 (bdc A5 (bdc A5 bdn))))))))) (fun q19 s18 ys18 hs18=>?_) ?_
   ·unfold Q9 at hs18
    refine B8<|s0<|qm rfl<|A0 (C5 rfl) rfl<|A0 (C3 rfl rfl rfl) rfl<|A0 (E0 (f:=cI) rfl) rfl<|A0 (G1 rfl rfl) rfl<|es (ra9 rfl rfl rfl rfl rfl rfl rfl rfl rfl)<|wi hs18 rfl (fun hc20 hs18=>?_) fun hc20 hs18=>?_
    ·refine C1<|B8<|C7<|r0<|oB hs18 fun x23 hx23 hs18=>qm rfl<|qm rfl<|gp 7 92 (.b x23) 85 rfl rfl (fun hg21=>?_) (fun hg21=>?_) ?_
     ·obtain rfl:=os (bt hx23 hg21)
      exact nF rfl hg21 rfl<|nF rfl hg21 rfl<|nF rfl hg21 rfl<|nF rfl hg21 rfl<|nF rfl hg21 rfl<|nF rfl hg21 rfl<|A0 (C9 rfl hg21 rfl) rfl<|ge 7 rfl rfl rfl
     ·refine oB (bf hx23 hg21) fun x22 hx22 hx23=>?_
      obtain rfl:=os hx23
      exact gF rfl hg21<|A0 (C5 rfl) rfl<|gF rfl hg21<|A0 (C3 rfl rfl rfl) rfl<|gF rfl hg21<|qm rfl<|gF rfl hg21<|A0 (F0 (f:=cI) rfl rfl hx22) rfl<|gF rfl hg21<|A0 (F3 rfl rfl) rfl<|gF rfl hg21<|A0 (G2 rfl rfl) rfl<|A0 (D0 rfl hg21 rfl) rfl<|ge 7 rfl rfl rfl
     refine qm rfl<|en (ra8 rfl rfl rfl rfl rfl rfl rfl rfl)<|r0<|qm rfl<|A0 (E3 rfl rfl) rfl<|qm rfl<|en (ra8 rfl rfl rfl rfl rfl rfl rfl rfl) ?_
     cases hs18
     exact lnT () rfl (su8 rfl rfl rfl rfl rfl rfl rfl rfl)
    ·refine F1 ?_
     obtain rfl:=os hs18
     exact lx rfl px (su7 rfl rfl rfl rfl rfl rfl rfl)
   ·rintro e s' H' - ⟨rfl,rfl,rfl⟩
    refine B8<|s0<|qm rfl<|A0 (P9 rfl) rfl<|es (ra7 rfl rfl rfl rfl rfl rfl rfl)<|wi h rfl (fun hc25 h=>?_) fun hc25 h=>?_
    ·refine s0<|oB h fun x30 hx30 h=>qm rfl<|A0 (F4 rfl rfl) rfl<|qm rfl<|gp 3 100 (.b ((x9.2.2 == 4) && (x9.1 == 0))) 97 rfl rfl (fun hg26=>?_) (fun hg26=>?_) ?_
     ·exact gT rfl hg26<|qm rfl<|gT rfl hg26<|A0 (F4 rfl rfl) rfl<|A0 (C9 rfl hg26 rfl) rfl<|ge 3 (by rw [hg26]; rfl) rfl rfl
     ·exact nT rfl hg26 rfl<|nT rfl hg26 rfl<|A0 (D0 rfl hg26 rfl) rfl<|ge 3 (by rw [hg26]; rfl) rfl rfl
     refine qm rfl<|gp 3 104 (.b (((x9.2.2 == 4) && (x9.1 == 0)) && (x9.2.1 == 0))) 101 rfl rfl (fun hg27=>?_) (fun hg27=>?_) ?_
     ·exact gT rfl hg27<|qm rfl<|gT rfl hg27<|A0 (F4 rfl rfl) rfl<|A0 (C9 rfl hg27 rfl) rfl<|ge 3 (by rw [hg27]; rfl) rfl rfl
     ·exact nT rfl hg27 rfl<|nT rfl hg27 rfl<|A0 (D0 rfl hg27 rfl) rfl<|ge 3 (by rw [hg27]; rfl) rfl rfl
     refine qm rfl<|gp 2 107 (.b x30) 105 rfl rfl (fun hg28=>?_) (fun hg28=>?_) ?_
     ·refine oB (bt hx30 hg28) fun x29 hx29 hx30=>?_
      obtain rfl:=os hx30
      exact gT rfl hg28<|B3 (rs:=[.b x29]) rfl rfl B7 ((K8 (A6v hscv) hx29).frz)<|A0 (C9 rfl hg28 rfl) rfl<|ge 2 rfl rfl rfl
     ·obtain rfl:=os (bf hx30 hg28)
      exact G7 (E2 rfl (by rw [hg28]; rfl)) rfl<|A0 (D0 rfl hg28 rfl) rfl<|ge 2 rfl rfl rfl
     refine qm rfl<|es (ra1 rfl)<|C4 ?_
     obtain rfl:=os h
     exact retq trivial (A9 rfl B6) (A4 rfl B5) (A2 A5 B1)
    ·refine C1<|B8<|s0<|oB h fun x36 hx36 h=>qm rfl<|A0 (G2 rfl rfl) rfl<|qm rfl<|gp 3 113 (.b ((x9.2.2 != 0) || (decide (x9.2.1 < 0)))) 110 rfl rfl (fun hg31=>?_) (fun hg31=>?_) ?_
     ·exact nF rfl hg31 rfl<|nF rfl hg31 rfl<|A0 (C9 rfl hg31 rfl) rfl<|ge 3 (by rw [hg31]; rfl) rfl rfl
     ·exact gF rfl hg31<|qm rfl<|gF rfl hg31<|A0 (G1 rfl rfl) rfl<|A0 (D0 rfl hg31 rfl) rfl<|ge 3 (by rw [hg31]; rfl) rfl rfl
     refine qm rfl<|gp 3 117 (.b (((x9.2.2 != 0) || (decide (x9.2.1 < 0))) || (decide (x9.1 < 0)))) 114 rfl rfl (fun hg32=>?_) (fun hg32=>?_) ?_
     ·exact nF rfl hg32 rfl<|nF rfl hg32 rfl<|A0 (C9 rfl hg32 rfl) rfl<|ge 3 (by rw [hg32]; rfl) rfl rfl
     ·exact gF rfl hg32<|qm rfl<|gF rfl hg32<|A0 (G1 rfl rfl) rfl<|A0 (D0 rfl hg32 rfl) rfl<|ge 3 (by rw [hg32]; rfl) rfl rfl
     refine qm rfl<|gp 6 124 (.b ((((x9.2.2 != 0) || (decide (x9.2.1 < 0))) || (decide (x9.1 < 0))) || (decide (x9.1 ≥ (List.length x7.At:Int))))) 118 rfl rfl (fun hg33=>?_) (fun hg33=>?_) ?_
     ·exact nF rfl hg33 rfl<|nF rfl hg33 rfl<|nF rfl hg33 rfl<|nF rfl hg33 rfl<|nF rfl hg33 rfl<|A0 (C9 rfl hg33 rfl) rfl<|ge 6 (by rw [hg33]; rfl) rfl rfl
     ·exact gF rfl hg33<|qm rfl<|gF rfl hg33<|A0 (C5 rfl) rfl<|gF rfl hg33<|A0 (C3 rfl rfl rfl) rfl<|gF rfl hg33<|A0 (E0 (f:=cI) rfl) rfl<|gF rfl hg33<|A0 (A74 rfl rfl) rfl<|A0 (D0 rfl hg33 rfl) rfl<|ge 6 (by rw [hg33]; rfl) rfl rfl
     refine qm rfl<|gp 7 132 (.b x36) 125 rfl rfl (fun hg34=>?_) (fun hg34=>?_) ?_
     ·obtain rfl:=os (bt hx36 hg34)
      exact nF rfl hg34 rfl<|nF rfl hg34 rfl<|nF rfl hg34 rfl<|nF rfl hg34 rfl<|nF rfl hg34 rfl<|nF rfl hg34 rfl<|A0 (C9 rfl hg34 rfl) rfl<|ge 7 rfl rfl rfl
     ·refine oB (bf hx36 hg34) fun x35 hx35 hx36=>?_
      obtain rfl:=os hx36
      exact gF rfl hg34<|A0 (C5 rfl) rfl<|gF rfl hg34<|A0 (C3 rfl rfl rfl) rfl<|gF rfl hg34<|qm rfl<|gF rfl hg34<|A0 (F0 (f:=cI) rfl rfl hx35) rfl<|gF rfl hg34<|A0 (F3 rfl rfl) rfl<|gF rfl hg34<|A0 (F4 rfl rfl) rfl<|A0 (D0 rfl hg34 rfl) rfl<|ge 7 rfl rfl rfl
     refine es (ra6 rfl rfl rfl rfl rfl rfl)<|wi h rfl (fun hc37 h=>?_) fun hc37 h=>?_
     ·refine s0<|qm rfl<|es (ra1 rfl)<|C4 ?_
      obtain rfl:=os h
      exact retq trivial (A9 rfl B6) (A4 rfl B5) (A2 A5 B1)
     ·refine C1<|sg 2 rfl<|oB h fun x38 hx38 h=>oB h fun x39 hx39 h=>A0k [2,3] (A3w [2,3] rfl O7 rfl rfl) (seen0 rfl) (C0 rfl rfl rfl) rfl<|qm rfl<|A0k [2,3] (A3w [2,3] rfl O7 rfl rfl) (seen0 rfl) (B1g (rs:=[(.agg (A3 x38))]) rfl rfl (M1 rfl (M1 rfl A3o)) (A1 (D1 rfl) (A1 rfl B7)) ((A6l hx38).frz)) rfl<|A0k [2,3] (A3w [2,3] rfl O7 rfl rfl) (seen0 rfl) (C0 rfl rfl rfl) rfl<|qm rfl<|A0 (E3 rfl rfl) rfl<|A0k [2,3] (A3w [2,3] rfl O7 rfl rfl) (seen0 rfl) (B1g (rs:=[(.agg (A3 x39))]) rfl rfl (M1 rfl (M1 rfl A3o)) (A1 (D1 rfl) (A1 rfl B7)) ((A6l hx39).frz)) rfl<|A0 D5 rfl<|A0 D5 rfl<|F2 (C8 (ds:=(A3 x38)) rfl rfl rfl rfl (B9 rfl) rfl) rfl<|F2 (C8 (ds:=(A3 x39)) rfl rfl rfl rfl (B9 rfl) rfl) rfl<|es (ra6 rfl rfl rfl rfl rfl rfl)<|B8<|s0<|oB h fun x40 hx40 h=>oB h fun x41 hx41 h=>oB h fun x42 hx42 h=>A0 (C0 rfl rfl rfl) rfl<|A0 (C5 rfl) rfl<|A0 (C3 rfl rfl rfl) rfl<|qm rfl<|A0 (F0 (f:=B2) rfl rfl hx40) rfl<|A0 (R7 rfl rfl) rfl<|A0 (C5 rfl) rfl<|A0 (C3 rfl rfl rfl) rfl<|qm rfl<|A0 (F0 (f:=cI) rfl rfl hx41) rfl<|A0 (F3 rfl rfl) rfl<|A0 (C5 rfl) rfl<|A0 (C3 rfl rfl rfl) rfl<|B3 (rs:=[.i x42]) rfl rfl (A1 (D1 rfl) (A1 (D1 rfl) (A1 rfl (A1 rfl B7)))) ((W4 hx42).frz)<|A0 (F4 rfl rfl) rfl<|es (ra5 rfl rfl rfl rfl rfl)<|wi h rfl (fun hc43 h=>?_) fun hc43 h=>?_
      ·refine s0<|qm rfl<|es (ra1 rfl)<|C4 ?_
       obtain rfl:=os h
       exact retq trivial (A9 rfl B6) (A4 rfl B5) (A2 A5 B1)
      ·refine C1<|B8<|s0<|oB h fun x44 hx44 h=>A0 (C0 rfl rfl rfl) rfl<|B3 (rs:=[.b x44]) rfl rfl (A1 (D1 rfl) B7) ((A12 hx44).frz)<|es (ra5 rfl rfl rfl rfl rfl)<|oB h fun p45 hp45 h=>A63 (Q1:=fun e s' H'=>(match p45 with | (.inl v)=>e = .ret∧RetQ H [.tmp 4] [.b v] e s' H' | (.inr v)=>e = .normal∧s' = [(8,(.ptr (H.length + 1) 0)),(17,(.ptr (H.length + 3) 0))]∧H' = (H++[(.cells (A3 a0)),(.cells (B4 x7)),(.cells (A3 x38)),(.cells (A3 x39))]):Prop)) ?_ ?_
       ·refine wi hp45 rfl (fun hc46 hp45=>?_) fun hc46 hp45=>?_
        ·refine s0<|oB hp45 fun x47 hx47 hp45=>A0 (C0 rfl rfl rfl) rfl<|A0 (C0 rfl rfl rfl) rfl<|B3 (rs:=[.i x47.1,.i x47.2]) rfl rfl (A1 (D1 rfl) (A1 (D1 rfl) B7)) ((A1m hx47).frz)<|qm rfl<|A0 (A8 rfl rfl) rfl<|A0 (A8 rfl rfl) rfl<|qm rfl<|qm rfl<|es (ra5 rfl rfl rfl rfl rfl)<|s0<|qm rfl<|A0 (G2 rfl rfl) rfl<|qm rfl<|gp 4 169 (.b ((x47.2 != 0) || (x47.1 != x8.1))) 165 rfl rfl (fun hg48=>?_) (fun hg48=>?_) ?_
         ·exact nF rfl hg48 rfl<|nF rfl hg48 rfl<|nF rfl hg48 rfl<|A0 (C9 rfl hg48 rfl) rfl<|ge 4 (by rw [hg48]; rfl) rfl rfl
         ·exact gF rfl hg48<|qm rfl<|gF rfl hg48<|qm rfl<|gF rfl hg48<|A0 (G2 rfl rfl) rfl<|A0 (D0 rfl hg48 rfl) rfl<|ge 4 (by rw [hg48]; rfl) rfl rfl
         refine es (ra3 rfl rfl rfl)<|wi hp45 rfl (fun hc49 hp45=>?_) fun hc49 hp45=>?_
         ·refine s0<|qm rfl<|es (ra1 rfl)<|C4 ?_
          obtain rfl:=os hp45
          exact me (And.intro rfl (retq trivial (A9 rfl B6) (A4 rfl B5) (A2 A5 B1))) (Sub.refl _)
         ·refine C1 ?_
          obtain rfl:=os hp45
          exact me (And.intro rfl (And.intro rfl rfl)) (su2 rfl rfl)
        ·refine C1 ?_
         obtain rfl:=os hp45
         exact me (And.intro rfl (And.intro rfl rfl)) (su2 rfl rfl)
       ·rcases p45 with vp45_0 | vp45_1
        ·rintro e s' H' ⟨rfl,hret⟩
         cases h
         exact hret
        ·rintro e s' H' ⟨rfl,rfl,rfl⟩
         refine B8<|s0<|oB h fun x50 hx50 h=>A0 (C0 rfl rfl rfl) rfl<|B3 (rs:=[.b x50]) rfl rfl (A1 (D1 rfl) B7) ((A12 hx50).frz)<|es (ra3 rfl rfl rfl)<|wi h rfl (fun hc51 h=>?_) fun hc51 h=>?_
         ·refine s0<|oB h fun x52 hx52 h=>A0 (C0 rfl rfl rfl) rfl<|A0 (C0 rfl rfl rfl) rfl<|B3 (rs:=[.i x52.1,.i x52.2]) rfl rfl (A1 (D1 rfl) (A1 (D1 rfl) B7)) ((A1m hx52).frz)<|qm rfl<|A0 (A8 rfl rfl) rfl<|A0 (A8 rfl rfl) rfl<|qm rfl<|qm rfl<|es (ra1 rfl)<|s0<|oB h fun x55 hx55 h=>qm rfl<|A0 (F4 rfl rfl) rfl<|qm rfl<|gp 2 182 (.b x55) 180 rfl rfl (fun hg53=>?_) (fun hg53=>?_) ?_
          ·refine oB (bt hx55 hg53) fun x54 hx54 hx55=>?_
           obtain rfl:=os hx55
           exact gT rfl hg53<|B3 (rs:=[.b x54]) rfl rfl B7 ((K8 (A6v hscv) hx54).frz)<|A0 (C9 rfl hg53 rfl) rfl<|ge 2 rfl rfl rfl
          ·obtain rfl:=os (bf hx55 hg53)
           exact G7 (E2 rfl (by rw [hg53]; rfl)) rfl<|A0 (D0 rfl hg53 rfl) rfl<|ge 2 rfl rfl rfl
          refine qm rfl<|es (ra1 rfl)<|C4 ?_
          obtain rfl:=os h
          exact retq trivial (A9 rfl B6) (A4 rfl B5) (A2 A5 B1)
         ·refine C1<|s0<|oB h fun x56 hx56 h=>B3 (rs:=[.b x56]) rfl rfl B7 ((K8 (A6v hscv) hx56).frz)<|qm rfl<|es (ra1 rfl)<|C4 ?_
          obtain rfl:=os h
          exact retq trivial (A9 rfl B6) (A4 rfl B5) (A2 A5 B1)
end Rm
end
section
namespace Rm
open Go Am
theorem B2d {h:RoHouse} (ok:HOk h) {p:List Int} (pv:PV h p) {i:Nat} (hi:A5v p i) {l:Nat} {d:Int} (hd:0≤d):(R4 (warm (worse h d) p[i]!.toNat l) h.Figures[i]! = 1)↔d≤left h l p i:= by
 obtain ⟨q,hq1,hq2,_⟩:=shown pv hi.1 hi.2
 have b:=A9p ok hq2 l
 have g:=(ok.figure _ (J8 (show i < h.Figures.length by rw [← pv.len]; exact hi.1))).bears
 unfold left A88
 rw [hq1,Int.toNat_natCast,A9q]
 unfold R4
 simp only []
 by_cases c:h.Figures[i]!.Cracks≤(warm h q l).Lo - d∧(warm h q l).Hi + d≤h.Figures[i]!.Slumps
 ·rw [if_pos c]
  refine ⟨fun _=>?_,fun _=>rfl⟩
  split <;> omega
 ·rw [if_neg c]
  constructor
  ·intro e
   exfalso
   split at e <;> exact absurd e (by decide)
  ·intro e
   exfalso
   apply c
   split at e <;> omega
theorem B9h {h:RoHouse} (ok:HOk h) {p:List Int} (pv:PV h p) {l:Nat} {d:Int} (hd:0≤d):A2f (worse h d) l p = true↔∀ i,A5v p i→d≤left h l p i:= by
 unfold A2f
 rw [List.all_eq_true]
 constructor
 ·intro q i hi
  have:=q i (List.mem_range.mpr hi.1)
  unfold A4n at this
  rw [Bool.or_eq_true,beq_iff_eq,beq_iff_eq] at this
  exact (B2d ok pv hi hd).mp (this.resolve_left hi.2)
 ·intro q i hi
  unfold A4n
  rw [Bool.or_eq_true,beq_iff_eq,beq_iff_eq]
  by_cases c:p[i]! = -1
  ·exact .inl c
  ·exact .inr ((B2d ok pv ⟨List.mem_range.mp hi,c⟩ hd).mpr (q i ⟨List.mem_range.mp hi,c⟩))
theorem C4f {h:RoHouse} (hb:NB h) (d:Int):NB (worse h d):=hb
theorem B6y {h:RoHouse} (hb:NB h) {x:List Int} (hx:N8 x):A2j h x = some true:= by
 unfold A2j
 rw [B00]
 simp only [Option.bind_some]
 by_cases e0:(check h).2.2 = 0
 ·have ok:=A36 e0
  have h5:=ok.figures
  have hp:=ok.places
  rw [e0]
  simp only [beq_self_eq_true,Bool.not_true,Bool.false_eq_true,if_false]
  obtain ⟨p,e1,a⟩:=C9c ok hx true
  have hpl:=a.pv.len
  have hpc:=B7f e0 a
  obtain ⟨l,hlit,hl2⟩:=a.lit
  have hl16:=lit16 ok hl2
  have hlen:p.At.length < 9223372036854775808:= by omega
  rw [e1]
  simp only [Option.bind_some]
  rw [B22 hb p hlen,B4s hb p hlen]
  simp only [Option.bind_some]
  have hsafe:A2f h l p.At = true:= by
   have:=a.safe rfl
   rwa [hlit,Int.toNat_natCast] at this
  by_cases c:A32 h l p.At = true
  ·have hsh:X5 h p = (worth h p.At,0):= by
    unfold X5
    rw [if_pos hpc,hlit,Int.toNat_natCast,if_pos c]
   have hmg:A1k h p = if (A66 h l p.At p.At.length).1 < 0 then (0,0,4) else ((A66 h l p.At p.At.length).1,(A66 h l p.At p.At.length).2,0):= by
    unfold A1k
    rw [hsh,hlit,Int.toNat_natCast]; rfl
   rw [hsh]
   simp only [bne_self_eq_false,Bool.false_eq_true,if_false]
   have l1:loop (Q9 p) (false,0) = some ((List.range p.At.length).any fun i=>decide (A5v p.At i)):= by
    have:=J4 (b:=Q9 p) (fun n=>((List.range n).any fun i=>decide (A5v p.At i),(n:Int))) p.At.length (r:=(List.range p.At.length).any fun i=>decide (A5v p.At i)) (by omega) (fun i hi=>by
     unfold Q9
     simp only []
     rw [if_pos (by simpa using hi),F6 hi,E4 (n:=(i:Int) + 1) (by omega),List.range_succ,List.any_append]
     have e2:([i].any fun i=>decide (A5v p.At i)) = (p.At[i]! != -1):= by
      rw [List.any_cons,List.any_nil,Bool.or_false]
      by_cases c:p.At[i]! = -1
      ·rw [decide_eq_false (fun q=>q.2 c),c]; rfl
      ·rw [decide_eq_true (show A5v p.At i from ⟨hi,c⟩),bne_iff_ne.mpr c]
     rw [e2]
     cases (List.range i).any fun i=>decide (A5v p.At i) <;> rfl) (by
     unfold Q9
     simp only []
     rw [if_neg (by simp)])
    exact this
   rw [l1]
   simp only [Option.bind_some]
   rcases C2p h l p.At p.At.length with ⟨h1,h2⟩ | ⟨k,hk,h1,h2,h3,h4⟩
   ·have:((List.range p.At.length).any fun i=>decide (A5v p.At i)) = false:= by
     rw [List.any_eq_false]
     intro i hi
     rw [decide_eq_true_eq]
     exact h2 i (List.mem_range.mp hi)
    have hmg1:A1k h p = (0,0,4):= by rw [hmg,if_pos (show (A66 h l p.At p.At.length).1 < 0 by omega)]
    rw [this,hmg1]
    simp only [Bool.not_false,if_true,beq_self_eq_true,Bool.and_self]
    rw [R9]; rfl
   ·have:((List.range p.At.length).any fun i=>decide (A5v p.At i)) = true:= by
     rw [List.any_eq_true]
     exact ⟨k,List.mem_range.mpr hk,decide_eq_true h2⟩
    have b:=C7g ok (l:=l) a.pv h2
    have b0:=C1q ok a.pv hsafe h2
    have hmg2:A1k h p = ((k:Int),left h l p.At k,0):= by rw [hmg,h1,if_neg (show ¬ (((k:Int),left h l p.At k).1 < 0) from by show ¬ ((k:Int) < 0); omega)]
    rw [this,hmg2]
    simp only [Bool.not_true,Bool.false_eq_true,if_false,bne_self_eq_false,Bool.false_or]
    rw [if_neg (by simp only [Bool.or_eq_true,decide_eq_true_eq]; omega),F6 hk]
    simp only [Option.bind_some]
    rw [if_neg (by rw [beq_iff_eq]; exact h2.2),E4 (by omega),B01 ok (d:=left h l p.At k) (by omega),B01 ok (d:=left h l p.At k + 1) (by omega),F6 (show k < h.Figures.length by omega)]
    simp only [Option.bind_some]
    obtain ⟨q,hq1,hq2,_⟩:=shown a.pv hk h2.2
    have hf:=B2d ok a.pv h2 (l:=l) (d:=left h l p.At k + 1) (by omega)
    rw [hq1,Int.toNat_natCast] at hf
    rw [hq1,hlit,B18 ok (by omega) (ok.figure _ (J8 (show k < h.Figures.length by omega))) hq2 hl16]
    simp only [Option.bind_some]
    rw [if_neg (by rw [beq_iff_eq]; intro z; have:=hf.mp z; omega),B00,B00]
    simp only [Option.bind_some]
    have hrest:∀d,0≤d→(check (worse h d)).2.2 = 0→X5 (worse h d) p = if A2f (worse h d) l p.At = true then (worth h p.At,0) else (0,9):= by
     intro d hd hc
     have hpc2:I0 (worse h d) p = 0:=B7f hc (h:=worse h d) (safe:=false) ⟨⟨a.pv.len,a.pv.bd⟩,a.lit,a.dup,fun z=>by cases z⟩
     unfold X5
     rw [if_pos hpc2,hlit,Int.toNat_natCast]
     unfold A32 at c ⊢
     rw [Bool.and_eq_true] at c
     have hhk:(A4r (worse h d) p.At && A2y (worse h d) p.At) = true:=c.2
     rw [hhk,Bool.and_true]; rfl
    have g1:A2f (worse h (left h l p.At k)) l p.At = true:=(B9h ok a.pv b0).mpr fun i hi=>h3 i hi.1 hi
    have g2:A2f (worse h (left h l p.At k + 1)) l p.At = false:= by
     cases hs:A2f (worse h (left h l p.At k + 1)) l p.At with
     | false=>rfl
     | true =>
      have:=(B9h ok a.pv (by omega)).mp hs k h2
      omega
    have fin:(if ((check (worse h (left h l p.At k + 1))).2.2 == 0) = true then (X3 (worse h (left h l p.At k + 1)) p).bind fun x52=>(if (x52.2 == 9) = true then (K6).bind fun x54=>some x54 else some false).bind fun x55=>some x55 else (K6).bind fun x56=>some x56) = some true:= by
     by_cases hc:(check (worse h (left h l p.At k + 1))).2.2 = 0
     ·rw [if_pos (by rw [hc]; rfl),B22 (C4f hb _) p hlen,hrest _ (by omega) hc,g2]
      simp only [Option.bind_some,Bool.false_eq_true,if_false,beq_self_eq_true,if_true]
      rw [R9]; rfl
     ·rw [if_neg (by rw [beq_iff_eq]; exact hc),R9]; rfl
    by_cases hc:(check (worse h (left h l p.At k))).2.2 = 0
    ·rw [if_pos (by rw [hc]; rfl),B22 (C4f hb _) p hlen,hrest _ b0 hc,g1]
     simp only [Option.bind_some,if_true,bne_self_eq_false,Bool.or_self,Bool.false_eq_true,if_false]
     exact fin
    ·rw [if_neg (by rw [beq_iff_eq]; exact hc)]
     simp only [Option.bind_some]
     exact fin
  ·have hsh:X5 h p = (0,9):= by
    unfold X5
    rw [if_pos hpc,hlit,Int.toNat_natCast,if_neg c]
   have hmg:A1k h p = (0,0,9):= by
    unfold A1k
    rw [hsh]; rfl
   rw [hsh,hmg,R9]; rfl
 ·have e1:((check h).2.2 == 0) = false:=beq_eq_false_iff_ne.mpr e0
  rw [e1]
  simp only [Bool.not_false,if_true]
  have hc:I0 h (RoPlan.mk 0 []) = (check h).2.2:= by unfold I0; rw [if_pos (bne_iff_ne.mpr e0)]
  have hsh:X5 h (RoPlan.mk 0 []) = (0,(check h).2.2):= by
   unfold X5
   rw [hc,if_neg e0]
  have hmg:A1k h (RoPlan.mk 0 []) = (0,0,(check h).2.2):= by
   unfold A1k
   rw [hsh,if_pos (bne_iff_ne.mpr e0)]
  rw [B4s hb (RoPlan.mk 0 []) (show (0:Nat) < 9223372036854775808 by decide),hmg]
  simp only [Option.bind_some]
  rw [if_pos (bne_iff_ne.mpr e0),R9]; rfl
end Rm
end
