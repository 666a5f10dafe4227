/- Texts that the claim stands on, one behind another. -/
import Derived.Test.YtbheamjhjgoccaaDoorA7
set_option linter.unusedVariables false
set_option linter.unusedSimpArgs false
set_option linter.unnecessarySimpa false
section
set_option maxRecDepth 100000
set_option maxHeartbeats 0
namespace Rm
open Go Am Go.Proofs.YtbheamjhjgoccaaDoor.Cd
def B16 (a1:RoPlan) (s9:(Int × room_plan)):Option ((Int × room_plan) ⊕ (room_plan ⊕ Unit)) :=
 if (decide (s9.1 < (List.length a1.At:Int))) = true then
  (idx a1.At s9.1).bind fun x12 =>
  (if (x12 != (-1)) = true then
  (slc a1.At 0 s9.1).bind fun x14 =>
  (L2 x14 x12).bind fun x15 =>
  some x15
  else
  some false).bind fun x16 =>
  if x16 = true then
  some (.inr (.inr ()))
  else
  (idx (Ar5.l s9.2.at_) s9.1).bind fun x18 =>
  some (.inl ((w64 (s9.1 + 1)),(room_plan.mk s9.2.lit_ (Ar5.set s9.2.at_ s9.1 (w64 (x12 + 1))))))
 else
  some (.inr (.inl s9.2))
def A0e (a0:RoHouse) (vo19_0:room_plan) (s20:Int):Option (Int ⊕ (Unit ⊕ Unit)) :=
 if (decide (s20 < 5)) = true then
  (idx (Ar5.l vo19_0.at_) s20).bind fun x23 =>
  (if (decide (x23 > 0)) = true then
  (P1 (room_house.mk a0) s20 (w64 (x23 - 1)) vo19_0.lit_).bind fun x25 =>
  some (x25 != 1)
  else
  some false).bind fun x26 =>
  if x26 = true then
  some (.inr (.inr ()))
  else
  some (.inl (w64 (s20 + 1)))
 else
  some (.inr (.inl ()))
def X3 (a0:RoHouse) (a1:RoPlan):Option (Int × Int) :=
 (P2 a0).bind fun x1 =>
 if (x1.2.2 != 0) = true then
  some (0,x1.2.2)
 else
  (B4n .i64 1 a0.Stoves).bind fun x3 =>
  (G3 0 (w64 (x3 - 1)) [a1.Lit]).bind fun x4 =>
  if x4 = true then
  some (0,7)
  else
  if ((List.length a1.At:Int) != (List.length a0.Figures:Int)) = true then
   some (0,3)
  else
   (G3 (-1) (w64 ((List.length a0.Places:Int) - 1)) a1.At).bind fun x7 =>
   if x7 = true then
   some (0,4)
   else
   (loop (B16 a1) (0,(room_plan.mk a1.Lit (Ar5.mk 0 0 0 0 0)))).bind fun (o19:(room_plan ⊕ Unit)) =>
   match o19 with
   | (.inl vo19_0) =>
    (loop (A0e a0 vo19_0) 0).bind fun (o28:(Unit ⊕ Unit)) =>
    match o28 with
    | (.inl vo28_0) =>
    (N3 (room_house.mk a0) vo19_0.at_ true).bind fun x29 =>
    if (!x29) = true then
     some (0,9)
    else
     (T1 (room_house.mk a0) vo19_0.at_).bind fun x31 =>
     some (x31,0)
    | (.inr vo28_1) =>
    some (0,9)
   | (.inr vo19_1) =>
    some (0,5)
theorem A1m {c:Sc} {H:A6} {a0:RoHouse} {a1:RoPlan} {r:(Int × Int)} (h:X3 a0 a1 = some r) :
  E6 tab c H (.fn (.func 27) [] []) [(.agg (A3 a0)),(.agg (B4 a1))] [.i r.1,.i r.2]:= by
 unfold X3 at h
 refine cE rfl rfl<|sg 0 rfl<|A0 (E9 (cs:=A3 a0) rfl rfl rfl) rfl<|A0 (E9 (cs:=B4 a1) rfl rfl rfl) rfl<|qm rfl<|qm rfl<|es (ra2 rfl rfl)<|sg 2 rfl<|A0 (C0 rfl rfl rfl) rfl<|A0 (C0 rfl rfl rfl) rfl<|O4 (as2:=[(.agg (A3 a0)),(.agg (B4 a1))]) (H1:=(H++[(.cells (A3 a0)),(.cells (B4 a1)),.dead])) rfl rfl (A1 (D1 rfl) (A1 (D1 rfl) B7)) rfl rfl rfl (T9 rfl)<|sg 3 rfl<|A0 (E9 (cs:=A3 a0) rfl rfl rfl) rfl<|A0 (E9 (cs:=B4 a1) rfl rfl rfl) rfl<|qm rfl<|A0 D5 rfl<|qm rfl<|es (ra3 rfl rfl rfl)<|sg 6 rfl<|A0 (C0 rfl rfl rfl) rfl<|A0 (C0 rfl rfl rfl) rfl<|O4 (as2:=[(.agg (A3 a0)),(.agg (B4 a1))]) (H1:=(H++[(.cells (A3 a0)),(.cells (B4 a1)),.dead,(.cells (A3 a0)),(.cells (B4 a1)),(.cells (A7 (room_plan.mk 0 (Ar5.mk 0 0 0 0 0)))),.dead])) rfl rfl (A1 (D1 rfl) (A1 (D1 rfl) B7)) rfl rfl rfl (T9 rfl)<|sg 7 rfl<|A0 (E9 (cs:=A3 a0) rfl rfl rfl) rfl<|A0 (E9 (cs:=B4 a1) rfl rfl rfl) rfl<|qm rfl<|A0 D5 rfl<|qm rfl<|es (ra3 rfl rfl rfl)<|s0<|A0 (C0 rfl rfl rfl) rfl<|O4 (as2:=[(.agg (A3 a0))]) (H1:=(H++[(.cells (A3 a0)),(.cells (B4 a1)),.dead,(.cells (A3 a0)),(.cells (B4 a1)),(.cells (A7 (room_plan.mk 0 (Ar5.mk 0 0 0 0 0)))),.dead,(.cells (A3 a0)),(.cells (B4 a1)),(.cells (A7 (room_plan.mk 0 (Ar5.mk 0 0 0 0 0))))])) rfl rfl (A1 (D1 rfl) B7) rfl rfl rfl (T9 rfl)<|sg 10 rfl<|A0 (E9 (cs:=A3 a0) rfl rfl rfl) rfl<|qm rfl<|qm rfl<|es (ra1 rfl)<|s0<|oB h fun x1 hx1 h=>A0 (C0 rfl rfl rfl) rfl<|B3 (rs:=[.i x1.1,.i x1.2.1,.i x1.2.2]) rfl rfl (A1 (D1 rfl) B7) ((Q0 hx1).frz)<|qm rfl<|A0 (A8 rfl rfl) rfl<|A0 (A8 rfl rfl) rfl<|A0 (A8 rfl rfl) rfl<|qm rfl<|qm rfl<|qm rfl<|es (ra2 rfl rfl)<|sg 11 rfl<|A0 (C0 rfl rfl rfl) rfl<|A0 (F9 (cs:=[.b false,(.fn (.func 112) [] [])]) rfl rfl) rfl<|A0 (F9 (cs:=[.b true,(.fn (.func 113) [] [])]) rfl rfl) rfl<|A0 (A5w (rows:=[[.b false,(.fn (.func 112) [] [])],[.b true,(.fn (.func 113) [] [])]]) rfl rfl) rfl<|A0 (F9 (cs:=[.i a0.Weather.Lo,.i a0.Weather.Hi,.i a0.Stoves,(.seq 1 (List.map cI a0.Holds)),(.seq 4 (List.map C2 a0.Places)),(.seq 6 (List.map B2 a0.Figures)),(.seq 1 (List.map cI a0.Bill)),(.xseq 2 [[.b false,(.fn (.func 112) [] [])],[.b true,(.fn (.func 113) [] [])]])]) rfl rfl) rfl<|A0 (E9 (cs:=[.i a0.Weather.Lo,.i a0.Weather.Hi,.i a0.Stoves,(.seq 1 (List.map cI a0.Holds)),(.seq 4 (List.map C2 a0.Places)),(.seq 6 (List.map B2 a0.Figures)),(.seq 1 (List.map cI a0.Bill)),(.xseq 2 [[.b false,(.fn (.func 112) [] [])],[.b true,(.fn (.func 113) [] [])]])]) rfl rfl rfl) rfl<|qm rfl<|qm rfl<|qm rfl<|es (ra2 rfl rfl)<|C4 ?_
 refine InlQ.mk trivial ⟨_,_,_,[(.ptr (H.length + 11) 0),.i x1.2.2],_,(A9 rfl (A9 rfl B6)),(A4 rfl (A4 rfl B5)),(V3 (M7 (V1 rfl)) (D3 rfl (D3 rfl I9))),?_⟩
 refine qm rfl<|A0 (A8 rfl rfl) rfl<|A0 (A8 rfl rfl) rfl<|qm rfl<|qm rfl<|es (ra5 rfl rfl rfl rfl rfl)<|B8<|C7<|s0<|qm rfl<|A0 (G2 rfl rfl) rfl<|qm rfl<|es (ra6 rfl rfl rfl rfl rfl rfl)<|wi h rfl (fun hc2 h=>?_) fun hc2 h=>?_
 ·refine s0<|A0 (C0 rfl rfl rfl) rfl<|qm rfl<|F2 (C8 (ds:=(A7 (room_plan.mk 0 (Ar5.mk 0 0 0 0 0)))) rfl rfl rfl rfl (B9 rfl) rfl) rfl<|qm rfl<|qm rfl<|es (ra3 rfl rfl rfl)<|C4<|InlQ.mk trivial ⟨_,_,_,[(.lit (.pointer none)),(.agg (A7 (room_plan.mk 0 (Ar5.mk 0 0 0 0 0)))),.i x1.2.2],_,(A9 rfl (F7 (E7 (ds:=A7 (room_plan.mk 0 (Ar5.mk 0 0 0 0 0))) rfl rfl rfl rfl) (A9 rfl B6))),(A4 rfl (A4 (I7 rfl) (A4 rfl B5))),(P8 (A2 A5 (A2 (G6 rfl) (A2 A5 B1))) (D3 rfl (D3 rfl (D3 rfl I9))) (H6 _ _ _)),?_⟩
  refine qm rfl<|A0 (A8 rfl rfl) rfl<|A0 (A8 rfl rfl) rfl<|A0 (A8 rfl rfl) rfl<|A0 D5 rfl<|qm rfl<|F2 (C8 (ds:=(A7 (room_plan.mk 0 (Ar5.mk 0 0 0 0 0)))) rfl rfl rfl rfl (B9 rfl) rfl) rfl<|qm rfl<|es (ra4 rfl rfl rfl rfl)<|B8<|s0<|qm rfl<|A0 (G2 rfl rfl) rfl<|es (ra5 rfl rfl rfl rfl rfl)<|K2 rfl hc2<|s0<|A0 (C0 rfl rfl rfl) rfl<|qm rfl<|F2 (C8 (ds:=(A7 (room_plan.mk 0 (Ar5.mk 0 0 0 0 0)))) rfl rfl rfl rfl (B9 rfl) rfl) rfl<|qm rfl<|qm rfl<|es (ra3 rfl rfl rfl)<|C4<|InlQ.mk trivial ⟨_,_,_,[(.lit (.pointer none)),(.agg (A7 (room_plan.mk 0 (Ar5.mk 0 0 0 0 0)))),.i x1.2.2],_,(A9 rfl (F7 (E7 (ds:=A7 (room_plan.mk 0 (Ar5.mk 0 0 0 0 0))) rfl rfl rfl rfl) (A9 rfl B6))),(A4 rfl (A4 (I7 rfl) (A4 rfl B5))),(P8 (A2 A5 (A2 (G6 rfl) (A2 A5 B1))) (D3 rfl (D3 rfl (D3 rfl I9))) (H6 _ _ _)),?_⟩
  refine qm rfl<|A0 (A8 rfl rfl) rfl<|A0 (A8 rfl rfl) rfl<|A0 (A8 rfl rfl) rfl<|A0 D5 rfl<|qm rfl<|F2 (C8 (ds:=(A7 (room_plan.mk 0 (Ar5.mk 0 0 0 0 0)))) rfl rfl rfl rfl (B9 rfl) rfl) rfl<|qm rfl<|es (ra3 rfl rfl rfl)<|B8<|s0<|qm rfl<|A0 (G2 rfl rfl) rfl<|es (ra4 rfl rfl rfl rfl)<|K2 rfl hc2<|s0<|qm rfl<|qm rfl<|qm rfl<|es (ra2 rfl rfl)<|C4 ?_
  obtain rfl:=os h
  exact retq trivial (A9 rfl (A9 rfl B6)) (A4 rfl (A4 rfl B5)) (A2 A5 (A2 A5 B1))
 ·refine s0<|oB h fun x3 hx3 h=>oB h fun x4 hx4 h=>A0 (C5 rfl) rfl<|A0 (C3 rfl rfl rfl) rfl<|A0 (B3t rfl rfl hx3) rfl<|A0 (W0 rfl rfl) rfl<|A0 (C5 rfl) rfl<|A0 (C3 rfl rfl rfl) rfl<|A0 (L4 (rows:=List.map cI [a1.Lit]) rfl rfl (F5 (fun _=>rfl) _)) rfl<|B3 (rs:=[.b x4]) rfl rfl (A1 rfl (A1 rfl (A1 rfl B7))) ((H8 hx4).frz)<|qm rfl<|es (ra5 rfl rfl rfl rfl rfl)<|wi h rfl (fun hc5 h=>?_) fun hc5 h=>?_
  ·refine s0<|A0 (C0 rfl rfl rfl) rfl<|qm rfl<|F2 (C8 (ds:=(A7 (room_plan.mk 0 (Ar5.mk 0 0 0 0 0)))) rfl rfl rfl rfl (B9 rfl) rfl) rfl<|qm rfl<|es (ra3 rfl rfl rfl)<|C4<|InlQ.mk trivial ⟨_,_,_,[(.lit (.pointer none)),(.agg (A7 (room_plan.mk 0 (Ar5.mk 0 0 0 0 0)))),.i 7],_,(A9 rfl (F7 (E7 (ds:=A7 (room_plan.mk 0 (Ar5.mk 0 0 0 0 0))) rfl rfl rfl rfl) (A9 rfl B6))),(A4 rfl (A4 (I7 rfl) (A4 rfl B5))),(P8 (A2 A5 (A2 (G6 rfl) (A2 A5 B1))) (D3 rfl (D3 rfl (D3 rfl I9))) (H6 _ _ _)),?_⟩
   refine qm rfl<|A0 (A8 rfl rfl) rfl<|A0 (A8 rfl rfl) rfl<|A0 (A8 rfl rfl) rfl<|A0 D5 rfl<|qm rfl<|F2 (C8 (ds:=(A7 (room_plan.mk 0 (Ar5.mk 0 0 0 0 0)))) rfl rfl rfl rfl (B9 rfl) rfl) rfl<|qm rfl<|es (ra4 rfl rfl rfl rfl)<|B8<|s0<|qm rfl<|A0 (G9 (v:=(.b true)) rfl rfl rfl) rfl<|es (ra5 rfl rfl rfl rfl rfl)<|K2 rfl rfl<|s0<|A0 (C0 rfl rfl rfl) rfl<|qm rfl<|F2 (C8 (ds:=(A7 (room_plan.mk 0 (Ar5.mk 0 0 0 0 0)))) rfl rfl rfl rfl (B9 rfl) rfl) rfl<|qm rfl<|qm rfl<|es (ra3 rfl rfl rfl)<|C4<|InlQ.mk trivial ⟨_,_,_,[(.lit (.pointer none)),(.agg (A7 (room_plan.mk 0 (Ar5.mk 0 0 0 0 0)))),.i 7],_,(A9 rfl (F7 (E7 (ds:=A7 (room_plan.mk 0 (Ar5.mk 0 0 0 0 0))) rfl rfl rfl rfl) (A9 rfl B6))),(A4 rfl (A4 (I7 rfl) (A4 rfl B5))),(P8 (A2 A5 (A2 (G6 rfl) (A2 A5 B1))) (D3 rfl (D3 rfl (D3 rfl I9))) (H6 _ _ _)),?_⟩
   refine qm rfl<|A0 (A8 rfl rfl) rfl<|A0 (A8 rfl rfl) rfl<|A0 (A8 rfl rfl) rfl<|A0 D5 rfl<|qm rfl<|F2 (C8 (ds:=(A7 (room_plan.mk 0 (Ar5.mk 0 0 0 0 0)))) rfl rfl rfl rfl (B9 rfl) rfl) rfl<|qm rfl<|es (ra3 rfl rfl rfl)<|B8<|s0<|qm rfl<|A0 (G9 (v:=(.b true)) rfl rfl rfl) rfl<|es (ra4 rfl rfl rfl rfl)<|K2 rfl rfl<|s0<|qm rfl<|qm rfl<|qm rfl<|es (ra2 rfl rfl)<|C4 ?_
   obtain rfl:=os h
   exact retq trivial (A9 rfl (A9 rfl B6)) (A4 rfl (A4 rfl B5)) (A2 A5 (A2 A5 B1))
  ·refine s0<|A0 (C5 rfl) rfl<|A0 (C3 rfl rfl rfl) rfl<|A0 (E0 (f:=cI) rfl) rfl<|A0 (C5 rfl) rfl<|A0 (C3 rfl rfl rfl) rfl<|A0 (E0 (f:=B2) rfl) rfl<|A0 (G2 rfl rfl) rfl<|qm rfl<|es (ra5 rfl rfl rfl rfl rfl)<|wi h rfl (fun hc6 h=>?_) fun hc6 h=>?_
   ·refine s0<|A0 (C0 rfl rfl rfl) rfl<|qm rfl<|F2 (C8 (ds:=(A7 (room_plan.mk 0 (Ar5.mk 0 0 0 0 0)))) rfl rfl rfl rfl (B9 rfl) rfl) rfl<|qm rfl<|es (ra3 rfl rfl rfl)<|C4<|InlQ.mk trivial ⟨_,_,_,[(.lit (.pointer none)),(.agg (A7 (room_plan.mk 0 (Ar5.mk 0 0 0 0 0)))),.i 3],_,(A9 rfl (F7 (E7 (ds:=A7 (room_plan.mk 0 (Ar5.mk 0 0 0 0 0))) rfl rfl rfl rfl) (A9 rfl B6))),(A4 rfl (A4 (I7 rfl) (A4 rfl B5))),(P8 (A2 A5 (A2 (G6 rfl) (A2 A5 B1))) (D3 rfl (D3 rfl (D3 rfl I9))) (H6 _ _ _)),?_⟩
    refine qm rfl<|A0 (A8 rfl rfl) rfl<|A0 (A8 rfl rfl) rfl<|A0 (A8 rfl rfl) rfl<|A0 D5 rfl<|qm rfl<|F2 (C8 (ds:=(A7 (room_plan.mk 0 (Ar5.mk 0 0 0 0 0)))) rfl rfl rfl rfl (B9 rfl) rfl) rfl<|qm rfl<|es (ra4 rfl rfl rfl rfl)<|B8<|s0<|qm rfl<|A0 (G9 (v:=(.b true)) rfl rfl rfl) rfl<|es (ra5 rfl rfl rfl rfl rfl)<|K2 rfl rfl<|s0<|A0 (C0 rfl rfl rfl) rfl<|qm rfl<|F2 (C8 (ds:=(A7 (room_plan.mk 0 (Ar5.mk 0 0 0 0 0)))) rfl rfl rfl rfl (B9 rfl) rfl) rfl<|qm rfl<|qm rfl<|es (ra3 rfl rfl rfl)<|C4<|InlQ.mk trivial ⟨_,_,_,[(.lit (.pointer none)),(.agg (A7 (room_plan.mk 0 (Ar5.mk 0 0 0 0 0)))),.i 3],_,(A9 rfl (F7 (E7 (ds:=A7 (room_plan.mk 0 (Ar5.mk 0 0 0 0 0))) rfl rfl rfl rfl) (A9 rfl B6))),(A4 rfl (A4 (I7 rfl) (A4 rfl B5))),(P8 (A2 A5 (A2 (G6 rfl) (A2 A5 B1))) (D3 rfl (D3 rfl (D3 rfl I9))) (H6 _ _ _)),?_⟩
    refine qm rfl<|A0 (A8 rfl rfl) rfl<|A0 (A8 rfl rfl) rfl<|A0 (A8 rfl rfl) rfl<|A0 D5 rfl<|qm rfl<|F2 (C8 (ds:=(A7 (room_plan.mk 0 (Ar5.mk 0 0 0 0 0)))) rfl rfl rfl rfl (B9 rfl) rfl) rfl<|qm rfl<|es (ra3 rfl rfl rfl)<|B8<|s0<|qm rfl<|A0 (G9 (v:=(.b true)) rfl rfl rfl) rfl<|es (ra4 rfl rfl rfl rfl)<|K2 rfl rfl<|s0<|qm rfl<|qm rfl<|qm rfl<|es (ra2 rfl rfl)<|C4 ?_
    obtain rfl:=os h
    exact retq trivial (A9 rfl (A9 rfl B6)) (A4 rfl (A4 rfl B5)) (A2 A5 (A2 A5 B1))
   ·refine s0<|oB h fun x7 hx7 h=>A0 (C5 rfl) rfl<|A0 (C3 rfl rfl rfl) rfl<|A0 (E0 (f:=C2) rfl) rfl<|A0 (W0 rfl rfl) rfl<|A0 (C5 rfl) rfl<|A0 (C3 rfl rfl rfl) rfl<|B3 (rs:=[.b x7]) rfl rfl (A1 rfl (A1 rfl (A1 rfl B7))) ((H8 hx7).frz)<|qm rfl<|es (ra4 rfl rfl rfl rfl)<|wi h rfl (fun hc8 h=>?_) fun hc8 h=>?_
    ·refine s0<|A0 (C0 rfl rfl rfl) rfl<|qm rfl<|F2 (C8 (ds:=(A7 (room_plan.mk 0 (Ar5.mk 0 0 0 0 0)))) rfl rfl rfl rfl (B9 rfl) rfl) rfl<|qm rfl<|es (ra3 rfl rfl rfl)<|C4<|InlQ.mk trivial ⟨_,_,_,[(.lit (.pointer none)),(.agg (A7 (room_plan.mk 0 (Ar5.mk 0 0 0 0 0)))),.i 4],_,(A9 rfl (F7 (E7 (ds:=A7 (room_plan.mk 0 (Ar5.mk 0 0 0 0 0))) rfl rfl rfl rfl) (A9 rfl B6))),(A4 rfl (A4 (I7 rfl) (A4 rfl B5))),(P8 (A2 A5 (A2 (G6 rfl) (A2 A5 B1))) (D3 rfl (D3 rfl (D3 rfl I9))) (H6 _ _ _)),?_⟩
     refine qm rfl<|A0 (A8 rfl rfl) rfl<|A0 (A8 rfl rfl) rfl<|A0 (A8 rfl rfl) rfl<|A0 D5 rfl<|qm rfl<|F2 (C8 (ds:=(A7 (room_plan.mk 0 (Ar5.mk 0 0 0 0 0)))) rfl rfl rfl rfl (B9 rfl) rfl) rfl<|qm rfl<|es (ra4 rfl rfl rfl rfl)<|B8<|s0<|qm rfl<|A0 (G9 (v:=(.b true)) rfl rfl rfl) rfl<|es (ra5 rfl rfl rfl rfl rfl)<|K2 rfl rfl<|s0<|A0 (C0 rfl rfl rfl) rfl<|qm rfl<|F2 (C8 (ds:=(A7 (room_plan.mk 0 (Ar5.mk 0 0 0 0 0)))) rfl rfl rfl rfl (B9 rfl) rfl) rfl<|qm rfl<|qm rfl<|es (ra3 rfl rfl rfl)<|C4<|InlQ.mk trivial ⟨_,_,_,[(.lit (.pointer none)),(.agg (A7 (room_plan.mk 0 (Ar5.mk 0 0 0 0 0)))),.i 4],_,(A9 rfl (F7 (E7 (ds:=A7 (room_plan.mk 0 (Ar5.mk 0 0 0 0 0))) rfl rfl rfl rfl) (A9 rfl B6))),(A4 rfl (A4 (I7 rfl) (A4 rfl B5))),(P8 (A2 A5 (A2 (G6 rfl) (A2 A5 B1))) (D3 rfl (D3 rfl (D3 rfl I9))) (H6 _ _ _)),?_⟩
     refine qm rfl<|A0 (A8 rfl rfl) rfl<|A0 (A8 rfl rfl) rfl<|A0 (A8 rfl rfl) rfl<|A0 D5 rfl<|qm rfl<|F2 (C8 (ds:=(A7 (room_plan.mk 0 (Ar5.mk 0 0 0 0 0)))) rfl rfl rfl rfl (B9 rfl) rfl) rfl<|qm rfl<|es (ra3 rfl rfl rfl)<|B8<|s0<|qm rfl<|A0 (G9 (v:=(.b true)) rfl rfl rfl) rfl<|es (ra4 rfl rfl rfl rfl)<|K2 rfl rfl<|s0<|qm rfl<|qm rfl<|qm rfl<|es (ra2 rfl rfl)<|C4 ?_
     obtain rfl:=os h
     exact retq trivial (A9 rfl (A9 rfl B6)) (A4 rfl (A4 rfl B5)) (A2 A5 (A2 A5 B1))
    ·refine C1<|s0<|A0 (C5 rfl) rfl<|A0 (C3 rfl rfl rfl) rfl<|A0 (C5 rfl) rfl<|F2 (C8 (ds:=(A7 (room_plan.mk a1.Lit (Ar5.mk 0 0 0 0 0)))) rfl rfl rfl rfl (B9 rfl) rfl) rfl<|es (ra3 rfl rfl rfl)<|B8<|s0<|A0 (C5 rfl) rfl<|A0 (C3 rfl rfl rfl) rfl<|A0 (E0 (f:=cI) rfl) rfl<|qm rfl<|es (ra6 rfl rfl rfl rfl rfl rfl)<|C7<|oB h fun o19 ho19 h=>wl (fun s9=>[(3,(.ptr (H.length + 8) 0)),(4,(.ptr (H.length + 11) 0)),(5,(.ptr (H.length + 9) 0)),(51,(.seq 1 (List.map cI a1.At))),(52,(.i (List.length a1.At:Int))),(53,.i s9.1)]) (fun (q10:Unit) s9=>[(.cells (A3 a0)),(.cells (B4 a1)),.dead,(.cells (A3 a0)),(.cells (B4 a1)),(.cells (A7 (room_plan.mk 0 (Ar5.mk 0 0 0 0 0)))),.dead,(.cells (A3 a0)),(.cells (B4 a1)),(.cells (A7 s9.2)),(.cells (A3 a0)),(.cells [.i a0.Weather.Lo,.i a0.Weather.Hi,.i a0.Stoves,(.seq 1 (List.map cI a0.Holds)),(.seq 4 (List.map C2 a0.Places)),(.seq 6 (List.map B2 a0.Figures)),(.seq 1 (List.map cI a0.Bill)),(.xseq 2 [[.b false,(.fn (.func 112) [] [])],[.b true,(.fn (.func 113) [] [])]])])]) 12 (fun r e s' H'=>(match r with | (.inl v)=>PX 1 [(4,(.ptr (H.length + 11) 0)),(5,(.ptr (H.length + 9) 0))] (H++[(.cells (A3 a0)),(.cells (B4 a1)),.dead,(.cells (A3 a0)),(.cells (B4 a1)),(.cells (A7 (room_plan.mk 0 (Ar5.mk 0 0 0 0 0)))),.dead,(.cells (A3 a0)),(.cells (B4 a1)),(.cells (A7 v)),(.cells (A3 a0)),(.cells [.i a0.Weather.Lo,.i a0.Weather.Hi,.i a0.Stoves,(.seq 1 (List.map cI a0.Holds)),(.seq 4 (List.map C2 a0.Places)),(.seq 6 (List.map B2 a0.Figures)),(.seq 1 (List.map cI a0.Bill)),(.xseq 2 [[.b false,(.fn (.func 112) [] [])],[.b true,(.fn (.func 113) [] [])]])])]) e s' H' | (.inr v)=>e = .ret∧s' = [(4,(.lit (.pointer none))),(5,(.ptr (H.length + 9) 0)),(6,.i 5)]∧H' = (H++[(.cells (A3 a0)),(.cells (B4 a1)),.dead,(.cells (A3 a0)),(.cells (B4 a1)),(.cells (A7 (room_plan.mk 0 (Ar5.mk 0 0 0 0 0)))),.dead,(.cells (A3 a0)),(.cells (B4 a1)),(.cells (A7 (room_plan.mk 0 (Ar5.mk 0 0 0 0 0)))),(.cells (A3 a0)),(.cells [.i a0.Weather.Lo,.i a0.Weather.Hi,.i a0.Stoves,(.seq 1 (List.map cI a0.Holds)),(.seq 4 (List.map C2 a0.Places)),(.seq 6 (List.map B2 a0.Figures)),(.seq 1 (List.map cI a0.Bill)),(.xseq 2 [[.b false,(.fn (.func 112) [] [])],[.b true,(.fn (.func 113) [] [])]])])]):Prop)) () ho19 rfl rfl (fun _ _=>rfl) (fun _=>rfl) rfl (fun s9=>(bdc (D8 rfl) (bdc (D8 rfl) (bdc (D8 rfl) (bdc L3 (bdc A5 (bdc A5 bdn))))))) (fun q10 s9 ys9 hs9=>?_) ?_
     ·unfold B16 at hs9
      refine s0<|A0 (G1 rfl rfl) rfl<|es (ra7 rfl rfl rfl rfl rfl rfl rfl)<|B8<|wi hs9 rfl (fun hc11 hs9=>?_) fun hc11 hs9=>?_
      ·refine C1<|B8<|C7<|s0<|oB hs9 fun x12 hx12 hs9=>qm rfl<|A0 (F0 (f:=cI) rfl rfl hx12) rfl<|A0 (F3 rfl rfl) rfl<|qm rfl<|qm rfl<|es (ra8 rfl rfl rfl rfl rfl rfl rfl rfl)<|B8<|s0<|oB hs9 fun x16 hx16 hs9=>qm rfl<|A0 (G2 rfl rfl) rfl<|qm rfl<|gp 7 67 (.b x16) 60 rfl rfl (fun hg13=>?_) (fun hg13=>?_) ?_
       ·refine oB (bt hx16 hg13) fun x14 hx14 hx16=>oB hx16 fun x15 hx15 hx16=>?_
        obtain rfl:=os hx16
        exact gT rfl hg13<|A0 (C5 rfl) rfl<|gT rfl hg13<|A0 (C3 rfl rfl rfl) rfl<|gT rfl hg13<|qm rfl<|gT rfl hg13<|A0 (A8d (f:=cI) rfl rfl rfl hx14) rfl<|gT rfl hg13<|qm rfl<|gT rfl hg13<|B3 (rs:=[.b x15]) rfl rfl (A1 rfl (A1 rfl B7)) ((W9 hx15).frz)<|A0 (C9 rfl hg13 rfl) rfl<|ge 7 rfl rfl rfl
       ·obtain rfl:=os (bf hx16 hg13)
        exact nT rfl hg13 rfl<|nT rfl hg13 rfl<|nT rfl hg13 rfl<|nT rfl hg13 rfl<|nT rfl hg13 rfl<|G7 (E2 rfl (by rw [hg13]; rfl)) rfl<|A0 (D0 rfl hg13 rfl) rfl<|ge 7 rfl rfl rfl
       refine es (ra9 rfl rfl rfl rfl rfl rfl rfl rfl rfl)<|wi hs9 rfl (fun hc17 hs9=>?_) fun hc17 hs9=>?_
       ·refine s0<|A0 (F9 (cs:=A7 (room_plan.mk 0 (Ar5.mk 0 0 0 0 0))) rfl rfl) rfl<|qm rfl<|F2 (C8 (ds:=(A7 (room_plan.mk 0 (Ar5.mk 0 0 0 0 0)))) rfl rfl rfl rfl (B9 rfl) rfl) rfl<|qm rfl<|es (ra3 rfl rfl rfl)<|C4 ?_
        obtain rfl:=os hs9
        exact lx rfl (And.intro rfl (And.intro rfl rfl)) (su3 rfl rfl rfl)
       ·refine C1<|r0<|oB hs9 fun x18 hx18 hs9=>qm rfl<|qm rfl<|A0 (E3 rfl rfl) rfl<|A0 (C5 rfl) rfl<|A0 (A2s (e:=Ar5.l s9.2.at_) rfl rfl rfl hx18) rfl<|F2 (A8e (f:=cI) (e:=Ar5.l s9.2.at_) (e2:=Ar5.l (Ar5.set s9.2.at_ s9.1 (w64 (x12 + 1)))) (z:=(w64 (x12 + 1))) (ds:=(A7 (room_plan.mk s9.2.lit_ (Ar5.set s9.2.at_ s9.1 (w64 (x12 + 1)))))) rfl rfl rfl rfl rfl rfl (fun _=>rfl) hx18 (Ar5.set_l hx18) rfl (B9 rfl)) rfl<|en (ra6 rfl rfl rfl rfl rfl rfl)<|r0<|A0 (E3 rfl rfl) rfl<|qm rfl<|en (ra6 rfl rfl rfl rfl rfl rfl) ?_
        cases hs9
        exact lnT () rfl (su6 rfl rfl rfl rfl rfl rfl)
      ·refine F1 ?_
       obtain rfl:=os hs9
       exact lx rfl px (su2 rfl rfl)
     ·rcases o19 with vo19_0 | vo19_1
      ·rintro e s' H' - ⟨rfl,rfl,rfl⟩
       refine s0<|qm rfl<|A0 (C0 rfl rfl rfl) rfl<|qm rfl<|F2 (C8 (ds:=(A7 vo19_0)) rfl rfl rfl rfl (B9 rfl) rfl) rfl<|qm rfl<|es (ra3 rfl rfl rfl)<|C4<|InlQ.mk trivial ⟨_,_,_,[(.ptr (H.length + 11) 0),(.agg (A7 vo19_0)),.i 0],_,(A9 rfl (F7 (E7 (ds:=A7 vo19_0) rfl rfl rfl rfl) (A9 rfl B6))),(A4 rfl (A4 (I7 rfl) (A4 rfl B5))),(V3 (M7 (V1 rfl)) (D3 rfl (D3 rfl (D3 rfl I9)))),?_⟩
       refine qm rfl<|A0 (A8 rfl rfl) rfl<|A0 (A8 rfl rfl) rfl<|A0 (A8 rfl rfl) rfl<|A0 D5 rfl<|qm rfl<|F2 (C8 (ds:=(A7 vo19_0)) rfl rfl rfl rfl (B9 rfl) rfl) rfl<|qm rfl<|es (ra4 rfl rfl rfl rfl)<|B8<|s0<|qm rfl<|A0 (G9 (v:=(.b false)) rfl rfl rfl) rfl<|es (ra5 rfl rfl rfl rfl rfl)<|A1x rfl rfl<|C1<|B8<|s0<|A0 (C5 rfl) rfl<|A0 (E7 (ds:=(M4 cI) vo19_0.at_) rfl rfl rfl rfl) rfl<|qm rfl<|es (ra5 rfl rfl rfl rfl rfl)<|C7<|oB h fun o28 ho28 h=>wl (fun s20=>[(5,(.ptr (H.length + 5) 0)),(7,(.ptr (H.length + 11) 0)),(8,(.ptr (H.length + 6) 0)),(24,(.agg ((M4 cI) vo19_0.at_))),(25,.i s20)]) (fun (q21:Unit) s20=>[(.cells (A3 a0)),(.cells (B4 a1)),.dead,(.cells (A3 a0)),(.cells (B4 a1)),(.cells (A7 (room_plan.mk 0 (Ar5.mk 0 0 0 0 0)))),(.cells (A7 vo19_0)),(.cells (A3 a0)),(.cells (B4 a1)),(.cells (A7 vo19_0)),(.cells (A3 a0)),(.cells [.i a0.Weather.Lo,.i a0.Weather.Hi,.i a0.Stoves,(.seq 1 (List.map cI a0.Holds)),(.seq 4 (List.map C2 a0.Places)),(.seq 6 (List.map B2 a0.Figures)),(.seq 1 (List.map cI a0.Bill)),(.xseq 2 [[.b false,(.fn (.func 112) [] [])],[.b true,(.fn (.func 113) [] [])]])])]) 12 (fun r e s' H'=>(match r with | (.inl v)=>PX 0 [(5,(.ptr (H.length + 5) 0)),(7,(.ptr (H.length + 11) 0)),(8,(.ptr (H.length + 6) 0))] (H++[(.cells (A3 a0)),(.cells (B4 a1)),.dead,(.cells (A3 a0)),(.cells (B4 a1)),(.cells (A7 (room_plan.mk 0 (Ar5.mk 0 0 0 0 0)))),(.cells (A7 vo19_0)),(.cells (A3 a0)),(.cells (B4 a1)),(.cells (A7 vo19_0)),(.cells (A3 a0)),(.cells [.i a0.Weather.Lo,.i a0.Weather.Hi,.i a0.Stoves,(.seq 1 (List.map cI a0.Holds)),(.seq 4 (List.map C2 a0.Places)),(.seq 6 (List.map B2 a0.Figures)),(.seq 1 (List.map cI a0.Bill)),(.xseq 2 [[.b false,(.fn (.func 112) [] [])],[.b true,(.fn (.func 113) [] [])]])])]) e s' H' | (.inr v)=>e = .ret∧s' = [(4,(.lit (.pointer none))),(5,(.ptr (H.length + 5) 0)),(6,.i 9)]∧H' = (H++[(.cells (A3 a0)),(.cells (B4 a1)),.dead,(.cells (A3 a0)),(.cells (B4 a1)),(.cells (A7 vo19_0)),(.cells (A7 vo19_0)),(.cells (A3 a0)),(.cells (B4 a1)),(.cells (A7 vo19_0)),(.cells (A3 a0)),(.cells [.i a0.Weather.Lo,.i a0.Weather.Hi,.i a0.Stoves,(.seq 1 (List.map cI a0.Holds)),(.seq 4 (List.map C2 a0.Places)),(.seq 6 (List.map B2 a0.Figures)),(.seq 1 (List.map cI a0.Bill)),(.xseq 2 [[.b false,(.fn (.func 112) [] [])],[.b true,(.fn (.func 113) [] [])]])])]):Prop)) () ho28 rfl rfl (fun _ _=>rfl) (fun _=>rfl) rfl (fun s20=>(bdc (D8 rfl) (bdc (D8 rfl) (bdc (D8 rfl) (bdc (G6 rfl) (bdc A5 bdn)))))) (fun q21 s20 ys20 hs20=>?_) ?_
       ·unfold A0e at hs20
        refine s0<|A0 (G1 rfl rfl) rfl<|es (ra6 rfl rfl rfl rfl rfl rfl)<|B8<|wi hs20 rfl (fun hc22 hs20=>?_) fun hc22 hs20=>?_
        ·refine C1<|B8<|C7<|s0<|oB hs20 fun x23 hx23 hs20=>qm rfl<|A0 (A5d (f:=cI) (g:=fun n=>(.i n)) (e:=Ar5.l vo19_0.at_) (fun _=>rfl) rfl rfl rfl rfl hx23) rfl<|qm rfl<|qm rfl<|es (ra7 rfl rfl rfl rfl rfl rfl rfl)<|s0<|oB hs20 fun x26 hx26 hs20=>qm rfl<|A0 (A1f rfl rfl) rfl<|qm rfl<|gp 9 40 (.b x26) 31 rfl rfl (fun hg24=>?_) (fun hg24=>?_) ?_
         ·refine oB (bt hx26 hg24) fun x25 hx25 hx26=>?_
          obtain rfl:=os hx26
          exact gT rfl hg24<|qm rfl<|gT rfl hg24<|qm rfl<|gT rfl hg24<|qm rfl<|gT rfl hg24<|A0 (W0 rfl rfl) rfl<|gT rfl hg24<|A0 (C5 rfl) rfl<|gT rfl hg24<|A0 (C3 rfl rfl rfl) rfl<|gT rfl hg24<|B3 (rs:=[.i x25]) rfl rfl (A1 rfl (A1 rfl (A1 rfl (A1 rfl B7)))) ((W8 (D7 rfl) hx25).frz)<|gT rfl hg24<|A0 (G2 rfl rfl) rfl<|A0 (C9 rfl hg24 rfl) rfl<|ge 9 rfl rfl rfl
         ·obtain rfl:=os (bf hx26 hg24)
          exact nT rfl hg24 rfl<|nT rfl hg24 rfl<|nT rfl hg24 rfl<|nT rfl hg24 rfl<|nT rfl hg24 rfl<|nT rfl hg24 rfl<|G7 (E2 rfl (by rw [hg24]; rfl)) rfl<|nT rfl hg24 rfl<|A0 (D0 rfl hg24 rfl) rfl<|ge 9 rfl rfl rfl
         refine es (ra6 rfl rfl rfl rfl rfl rfl)<|wi hs20 rfl (fun hc27 hs20=>?_) fun hc27 hs20=>?_
         ·refine s0<|A0 (C0 rfl rfl rfl) rfl<|qm rfl<|F2 (C8 (ds:=(A7 vo19_0)) rfl rfl rfl rfl (B9 rfl) rfl) rfl<|qm rfl<|es (ra3 rfl rfl rfl)<|C4 ?_
          obtain rfl:=os hs20
          exact lx rfl (And.intro rfl (And.intro rfl rfl)) (su3 rfl rfl rfl)
         ·refine C1<|r0<|A0 (E3 rfl rfl) rfl<|qm rfl<|en (ra5 rfl rfl rfl rfl rfl) ?_
          cases hs20
          exact lnT () rfl (su5 rfl rfl rfl rfl rfl)
        ·refine F1 ?_
         obtain rfl:=os hs20
         exact lx rfl px (su3 rfl rfl rfl)
       ·rcases o28 with vo28_0 | vo28_1
        ·rintro e s' H' - ⟨rfl,rfl,rfl⟩
         refine B8<|s0<|oB h fun x29 hx29 h=>qm rfl<|A0 (C5 rfl) rfl<|A0 (E7 (ds:=(M4 cI) vo19_0.at_) rfl rfl rfl rfl) rfl<|B3 (rs:=[.b x29]) rfl rfl (A1 rfl (A1 (D1 rfl) (A1 rfl B7))) ((S8 (D7 rfl) hx29).frz)<|A0 (P9 rfl) rfl<|es (ra4 rfl rfl rfl rfl)<|wi h rfl (fun hc30 h=>?_) fun hc30 h=>?_
         ·refine s0<|A0 (C0 rfl rfl rfl) rfl<|qm rfl<|F2 (C8 (ds:=(A7 vo19_0)) rfl rfl rfl rfl (B9 rfl) rfl) rfl<|qm rfl<|es (ra3 rfl rfl rfl)<|C4<|InlQ.mk trivial ⟨_,_,_,[(.lit (.pointer none)),(.agg (A7 vo19_0)),.i 9],_,(A9 rfl (F7 (E7 (ds:=A7 vo19_0) rfl rfl rfl rfl) (A9 rfl B6))),(A4 rfl (A4 (I7 rfl) (A4 rfl B5))),(P8 (A2 A5 (A2 (G6 rfl) (A2 A5 B1))) (D3 rfl (D3 rfl (D3 rfl I9))) (H6 _ _ _)),?_⟩
          refine qm rfl<|A0 (A8 rfl rfl) rfl<|A0 (A8 rfl rfl) rfl<|A0 (A8 rfl rfl) rfl<|A0 D5 rfl<|qm rfl<|F2 (C8 (ds:=(A7 vo19_0)) rfl rfl rfl rfl (B9 rfl) rfl) rfl<|qm rfl<|es (ra3 rfl rfl rfl)<|B8<|s0<|qm rfl<|A0 (G9 (v:=(.b true)) rfl rfl rfl) rfl<|es (ra4 rfl rfl rfl rfl)<|K2 rfl rfl<|s0<|qm rfl<|qm rfl<|qm rfl<|es (ra2 rfl rfl)<|C4 ?_
          obtain rfl:=os h
          exact retq trivial (A9 rfl (A9 rfl B6)) (A4 rfl (A4 rfl B5)) (A2 A5 (A2 A5 B1))
         ·refine C1<|s0<|qm rfl<|A0 (C0 rfl rfl rfl) rfl<|qm rfl<|F2 (C8 (ds:=(A7 vo19_0)) rfl rfl rfl rfl (B9 rfl) rfl) rfl<|qm rfl<|es (ra3 rfl rfl rfl)<|C4<|InlQ.mk trivial ⟨_,_,_,[(.ptr (H.length + 11) 0),(.agg (A7 vo19_0)),.i 0],_,(A9 rfl (F7 (E7 (ds:=A7 vo19_0) rfl rfl rfl rfl) (A9 rfl B6))),(A4 rfl (A4 (I7 rfl) (A4 rfl B5))),(V3 (M7 (V1 rfl)) (D3 rfl (D3 rfl (D3 rfl I9)))),?_⟩
          refine qm rfl<|A0 (A8 rfl rfl) rfl<|A0 (A8 rfl rfl) rfl<|A0 (A8 rfl rfl) rfl<|A0 D5 rfl<|qm rfl<|F2 (C8 (ds:=(A7 vo19_0)) rfl rfl rfl rfl (B9 rfl) rfl) rfl<|qm rfl<|es (ra3 rfl rfl rfl)<|B8<|s0<|qm rfl<|A0 (G9 (v:=(.b false)) rfl rfl rfl) rfl<|es (ra4 rfl rfl rfl rfl)<|A1x rfl rfl<|C1<|s0<|oB h fun x31 hx31 h=>qm rfl<|A0 (C5 rfl) rfl<|A0 (E7 (ds:=(M4 cI) vo19_0.at_) rfl rfl rfl rfl) rfl<|B3 (rs:=[.i x31]) rfl rfl (A1 rfl (A1 (D1 rfl) B7)) ((A5u (D7 rfl) hx31).frz)<|qm rfl<|qm rfl<|es (ra2 rfl rfl)<|C4 ?_
          obtain rfl:=os h
          exact retq trivial (A9 rfl (A9 rfl B6)) (A4 rfl (A4 rfl B5)) (A2 A5 (A2 A5 B1))
        ·rintro e s' H' - ⟨rfl,rfl,rfl⟩
         refine InlQ.mk trivial ⟨_,_,_,[(.lit (.pointer none)),(.agg (A7 vo19_0)),.i 9],_,(A9 rfl (F7 (E7 (ds:=A7 vo19_0) rfl rfl rfl rfl) (A9 rfl B6))),(A4 rfl (A4 (I7 rfl) (A4 rfl B5))),(P8 (A2 A5 (A2 (G6 rfl) (A2 A5 B1))) (D3 rfl (D3 rfl (D3 rfl I9))) (H6 _ _ _)),?_⟩
         refine qm rfl<|A0 (A8 rfl rfl) rfl<|A0 (A8 rfl rfl) rfl<|A0 (A8 rfl rfl) rfl<|A0 D5 rfl<|qm rfl<|F2 (C8 (ds:=(A7 vo19_0)) rfl rfl rfl rfl (B9 rfl) rfl) rfl<|qm rfl<|es (ra3 rfl rfl rfl)<|B8<|s0<|qm rfl<|A0 (G9 (v:=(.b true)) rfl rfl rfl) rfl<|es (ra4 rfl rfl rfl rfl)<|K2 rfl rfl<|s0<|qm rfl<|qm rfl<|qm rfl<|es (ra2 rfl rfl)<|C4 ?_
         obtain rfl:=os h
         exact retq trivial (A9 rfl (A9 rfl B6)) (A4 rfl (A4 rfl B5)) (A2 A5 (A2 A5 B1))
      ·rintro e s' H' - ⟨rfl,rfl,rfl⟩
       refine InlQ.mk trivial ⟨_,_,_,[(.lit (.pointer none)),(.agg (A7 (room_plan.mk 0 (Ar5.mk 0 0 0 0 0)))),.i 5],_,(A9 rfl (F7 (E7 (ds:=A7 (room_plan.mk 0 (Ar5.mk 0 0 0 0 0))) rfl rfl rfl rfl) (A9 rfl B6))),(A4 rfl (A4 (I7 rfl) (A4 rfl B5))),(P8 (A2 A5 (A2 (G6 rfl) (A2 A5 B1))) (D3 rfl (D3 rfl (D3 rfl I9))) (H6 _ _ _)),?_⟩
       refine qm rfl<|A0 (A8 rfl rfl) rfl<|A0 (A8 rfl rfl) rfl<|A0 (A8 rfl rfl) rfl<|A0 D5 rfl<|qm rfl<|F2 (C8 (ds:=(A7 (room_plan.mk 0 (Ar5.mk 0 0 0 0 0)))) rfl rfl rfl rfl (B9 rfl) rfl) rfl<|qm rfl<|es (ra4 rfl rfl rfl rfl)<|B8<|s0<|qm rfl<|A0 (G9 (v:=(.b true)) rfl rfl rfl) rfl<|es (ra5 rfl rfl rfl rfl rfl)<|K2 rfl rfl<|s0<|A0 (C0 rfl rfl rfl) rfl<|qm rfl<|F2 (C8 (ds:=(A7 (room_plan.mk 0 (Ar5.mk 0 0 0 0 0)))) rfl rfl rfl rfl (B9 rfl) rfl) rfl<|qm rfl<|qm rfl<|es (ra3 rfl rfl rfl)<|C4<|InlQ.mk trivial ⟨_,_,_,[(.lit (.pointer none)),(.agg (A7 (room_plan.mk 0 (Ar5.mk 0 0 0 0 0)))),.i 5],_,(A9 rfl (F7 (E7 (ds:=A7 (room_plan.mk 0 (Ar5.mk 0 0 0 0 0))) rfl rfl rfl rfl) (A9 rfl B6))),(A4 rfl (A4 (I7 rfl) (A4 rfl B5))),(P8 (A2 A5 (A2 (G6 rfl) (A2 A5 B1))) (D3 rfl (D3 rfl (D3 rfl I9))) (H6 _ _ _)),?_⟩
       refine qm rfl<|A0 (A8 rfl rfl) rfl<|A0 (A8 rfl rfl) rfl<|A0 (A8 rfl rfl) rfl<|A0 D5 rfl<|qm rfl<|F2 (C8 (ds:=(A7 (room_plan.mk 0 (Ar5.mk 0 0 0 0 0)))) rfl rfl rfl rfl (B9 rfl) rfl) rfl<|qm rfl<|es (ra3 rfl rfl rfl)<|B8<|s0<|qm rfl<|A0 (G9 (v:=(.b true)) rfl rfl rfl) rfl<|es (ra4 rfl rfl rfl rfl)<|K2 rfl rfl<|s0<|qm rfl<|qm rfl<|qm rfl<|es (ra2 rfl rfl)<|C4 ?_
       obtain rfl:=os h
       exact retq trivial (A9 rfl (A9 rfl B6)) (A4 rfl (A4 rfl B5)) (A2 A5 (A2 A5 B1))
def A4m  (x2:room_plan) (s3:Unit):Option (Unit ⊕ Unit) :=
 some (.inr ())
def A6u (a0:room_house):Option Bool :=
 (B34 a0 Unit Unit A4m ()).bind fun (o4:(Unit ⊕ Unit)) =>
 match o4 with
 | (.inl vo4_5) =>
  some false
 | (.inr vo4_6) =>
  some true
theorem B31 {c:Sc} {H:A6} (hscv:Z2 c H = true) (hcl:clH H.length H = true) {a0:room_house} {b0:Nat} (hb0:hcells H b0 = some [.i a0.RoHouse.Weather.Lo,.i a0.RoHouse.Weather.Hi,.i a0.RoHouse.Stoves,(.seq 1 (List.map cI a0.RoHouse.Holds)),(.seq 4 (List.map C2 a0.RoHouse.Places)),(.seq 6 (List.map B2 a0.RoHouse.Figures)),(.seq 1 (List.map cI a0.RoHouse.Bill)),(.xseq 2 [[.b false,(.fn (.func 112) [] [])],[.b true,(.fn (.func 113) [] [])]])]) {r:Bool} (h:A6u a0 = some r) :
  E6 tab c H (.fn (.func 97) [] []) [.ptr b0 0] [.b r]:= by
 unfold A6u at h
 refine cE rfl rfl<|sg 0 rfl<|A0 D5 rfl<|es (ra2 rfl rfl)<|B8<|s0<|qm rfl<|O4 (as2:=[.ptr b0 0]) (H1:=(H++[(.cells (cB false))])) rfl rfl (A1 rfl B7) rfl rfl rfl (T9 rfl)<|sg 1 rfl<|A0 (E9 (cs:=[.ptr b0 0]) rfl rfl rfl) rfl<|qm rfl<|es (ra1 rfl)<|s0<|A0 (A5o rfl rfl) rfl<|qm rfl<|es (ra1 rfl)<|C4<|InlQ.mk trivial ⟨_,_,_,[(.fn (.func 116) [] [(.ptr (H.length + 1) 0)])],_,(A9 rfl B6),(A4 rfl B5),(V3 (M7 (B7k (M7 (V1 rfl)))) (D3 rfl I9)),?_⟩
 refine es (ra2 rfl rfl)<|C7<|oB h fun o4 ho4 h=>?_
 have hb0_lt:=A2k hb0
 refine C29 (σ:=Unit) (ρ:=Unit) (k:=2) (ea:=(fun (x2:room_plan)=>(.agg (A7 x2)))) (body:=A4m) (pre:=fun H1=>hcells H1 (H.length + 1) = some [.ptr b0 0]∧hcells H1 b0 = some (B5a a0)) (B8z (t:=a0) (b1:=H.length + 1) (bt:=b0)) B1b [(2,(.ptr (H.length + 0) 0))] (fun s3=>[(.cells (cB false)),(.cells [.ptr b0 0])]) (fun (vo4_6:Unit)=>[(.cells (cB true)),(.cells [.ptr b0 0])]) (fun _=>.ret) ho4 (fun _=>rfl) rfl (fun S hS=>P0 (live:=[2]) rfl (by decide) (Sub.trans (su1 rfl) hS)) rfl (fun _=>rfl) (fun _=>rfl) hcl (by rw [Bool.and_eq_true,Bool.and_eq_true]; exact ⟨⟨by kernel_rfl,by kernel_rfl⟩,(by simp [clH,clS,AO.cl,AV.cl,clL,clM,clR,A2g,A8w,A93,A34,M4,cI,cB,cS,J0,freeL,AV.free,freeR,Nat.blt,Q4,A29,J3,U4,I3,R2,K0,U3,N5,Y2,J5,O8,A1h,A3a] <;> omega)⟩) (fun _=>(by simp [clH,clS,AO.cl,AV.cl,clL,clM,clR,A2g,A8w,A93,A34,M4,cI,cB,cS,J0,freeL,AV.free,freeR,Nat.blt,Q4,A29,J3,U4,I3,R2,K0,U3,N5,Y2,J5,O8,A1h,A3a] <;> omega)) (fun _=>(by simp [clH,clS,AO.cl,AV.cl,clL,clM,clR,A2g,A8w,A93,A34,M4,cI,cB,cS,J0,freeL,AV.free,freeR,Nat.blt,Q4,A29,J3,U4,I3,R2,K0,U3,N5,Y2,J5,O8,A1h,A3a] <;> omega)) (fun _=>(by simp [clH,clS,AO.cl,AV.cl,clL,clM,clR,A2g,A8w,A93,A34,M4,cI,cB,cS,J0,freeL,AV.free,freeR,Nat.blt,Q4,A29,J3,U4,I3,R2,K0,U3,N5,Y2,J5,O8,A1h,A3a] <;> omega)) ⟨fun _ _=>(And.intro (D7 rfl) (M3 hb0 _)),fun _ _=>(And.intro (D7 rfl) (M3 hb0 _))⟩ (A6v hscv) (fun c x2 s3 o hs3 y0_2 y1_2=>?_) ?_
 ·unfold A4m at hs3
  refine C1<|⟨_,rfl,rfl,rfl,?_⟩
  refine C7<|s0<|F2 (C8 (ds:=(cB true)) rfl rfl rfl rfl (B9 rfl) rfl) rfl<|es .n<|C4 ?_
  cases hs3
  exact ⟨_,rfl,rfl,rfl⟩
 ·rcases o4 with vo4_5 | vo4_6
  ·refine s0<|F2 (C8 (ds:=(cB false)) rfl rfl rfl rfl (B9 rfl) rfl) rfl<|es (ra1 rfl)<|C4 ?_
   obtain rfl:=os h
   exact retq trivial (F7 (C3 (x:=(.b false)) rfl rfl rfl) B6) (A4 rfl B5) (A2 A5 B1)
  ·obtain rfl:=os h
   exact retq trivial (F7 (C3 (x:=(.b true)) rfl rfl rfl) B6) (A4 rfl B5) (A2 A5 B1)
def X9 (a0:Int):Option Int :=
 if (a0 == 0) = true then
  some 64
 else
  (B2w .u64 (IntKind.u64.wrap ((N4 .u64 a0 (IntKind.u64.wrap (0 - a0))) * 285870213051353865)) 58).bind fun x2 =>
  (idx gl1 x2).bind fun x3 =>
  some (w64 x3)
theorem A5q {c:Sc} {H:A6} {a0:Int} {r:Int} (h:X9 a0 = some r) :
  E6 tab c H (.fn (.func 126) [] []) [(.lit (.int .u64 a0))] [.i r]:= by
 unfold X9 at h
 refine cE rfl rfl<|s0<|qm rfl<|es (ra1 rfl)<|B8<|s0<|qm rfl<|A0 (F4 rfl rfl) rfl<|es (ra2 rfl rfl)<|wi h rfl (fun hc1 h=>?_) fun hc1 h=>?_
 ·refine s0<|qm rfl<|es (ra1 rfl)<|C4 ?_
  obtain rfl:=os h
  exact retq trivial (A9 rfl B6) (A4 rfl B5) (A2 A5 B1)
 ·refine C1<|s0<|oB h fun x2 hx2 h=>oB h fun x3 hx3 h=>qm rfl<|qm rfl<|A0 (D2r rfl rfl) rfl<|A0 (G9 (v:=(.lit (.int .u64 (N4 .u64 a0 (IntKind.u64.wrap (0 - a0)))))) rfl rfl rfl) rfl<|A0 (G9 (v:=(.lit (.int .u64 (IntKind.u64.wrap ((N4 .u64 a0 (IntKind.u64.wrap (0 - a0))) * 285870213051353865))))) rfl rfl rfl) rfl<|A0 (A9t rfl rfl hx2) rfl<|A0 (D2j (e:=gl1) (g:=fun n=>(.lit (.int .u8 n))) rfl rfl rfl hx3) rfl<|A0 (D0r (g:=fun n=>(.lit (.int .u8 n))) rfl hx3) rfl<|A0 (A7u rfl) rfl<|qm rfl<|es (ra1 rfl)<|C4 ?_
  obtain rfl:=os h
  exact retq trivial (A9 rfl B6) (A4 rfl B5) (A2 A5 B1)
def A0m (a0:Int):Option Int :=
 (X9 a0).bind fun x1 =>
 some x1
theorem A6k {c:Sc} {H:A6} {a0:Int} {r:Int} (h:A0m a0 = some r) :
  E6 tab c H (.fn (.func 118) [] []) [(.lit (.int .u64 a0))] [.i r]:= by
 unfold A0m at h
 refine cE rfl rfl<|s0<|qm rfl<|es (ra1 rfl)<|B8<|A1x rfl rfl<|C1<|s0<|oB h fun x1 hx1 h=>qm rfl<|B3 (rs:=[.i x1]) rfl rfl (A1 rfl B7) ((A5q hx1).frz)<|qm rfl<|es (ra1 rfl)<|C4 ?_
 obtain rfl:=os h
 exact retq trivial (A9 rfl B6) (A4 rfl B5) (A2 A5 B1)
def B4h  (s1:(Int × (List Int))):Option ((Int × (List Int)) ⊕ (List Int)) :=
 if (s1.1 != 0) = true then
  (A0m (IntKind.u64.wrap s1.1)).bind fun x4 =>
  (app 8 s1.2 [x4]).bind fun x5 =>
  some (.inl ((B4u s1.1 (w64 (s1.1 - 1))),x5))
 else
  some (.inr s1.2)
def B5r (a0:Int):Option (List Int) :=
 (loop B4h (a0,([]:List Int))).bind fun (o6:(List Int)) =>
 some o6
theorem C2w {c:Sc} {H:A6} {a0:Int} {r:(List Int)} (h:B5r a0 = some r) :
  E6 tab c H (.fn (.func 95) [] []) [.i a0] [(.fresh 1 (List.map cI r))]:= by
 unfold B5r at h
 refine cE rfl rfl<|sg 0 rfl<|A0 B8j rfl<|es (ra2 rfl rfl)<|B8<|C7<|oB h fun o6 ho6 h=>wl (fun s1=>[(0,.i s1.1),(2,(.asl (H.length + 0) (List.length s1.2)))]) (fun (q2:Unit) s1=>[(.arr 1 false (List.map cI s1.2))]) 1 (fun r e s' H'=>PX 0 [(2,(.asl (H.length + 0) (List.length r)))] (H++[(.arr 1 false (List.map cI r))]) e s' H') () ho6 rfl rfl (fun _ _=>rfl) (fun _=>rfl) rfl (fun s1=>(bdc A5 (bdc (B2a rfl) bdn))) (fun q2 s1 ys1 hs1=>?_) ?_
 ·unfold B4h at hs1
  refine B8<|s0<|qm rfl<|A0 (G2 rfl rfl) rfl<|es (ra3 rfl rfl rfl)<|wi hs1 rfl (fun hc3 hs1=>?_) fun hc3 hs1=>?_
  ·refine C1<|B8<|C7<|r0<|oB hs1 fun x4 hx4 hs1=>oB hs1 fun x5 hx5 hs1=>qm rfl<|qm rfl<|A0 (A7u rfl) rfl<|B3 (rs:=[.i x4]) rfl rfl (A1 rfl B7) ((A6k hx4).frz)<|A0 (L4 (rows:=List.map cI [x4]) rfl rfl (F5 (fun _=>rfl) _)) rfl<|A9x (B0h (f:=cI) rfl rfl rfl rfl A7y (fun _=>rfl) hx5) rfl<|qm rfl<|en (ra2 rfl rfl)<|r0<|qm rfl<|qm rfl<|A0 (W0 rfl rfl) rfl<|A0 (G9 (v:=(.i (B4u s1.1 (w64 (s1.1 - 1))))) rfl rfl rfl) rfl<|qm rfl<|en (ra2 rfl rfl) ?_
   cases hs1
   exact lnT () rfl (su2 rfl rfl)
  ·refine F1 ?_
   obtain rfl:=os hs1
   exact lx rfl px (su1 rfl)
 ·rintro e s' H' - ⟨rfl,rfl,rfl⟩
  refine s0<|qm rfl<|qm rfl<|es (ra1 rfl)<|C4 ?_
  obtain rfl:=os h
  exact retq trivial (A9 rfl B6) (A4 (B8x rfl (List.length_map _)) B5) (A2 A90 B1)
def A42 (a0:Int):Option Bool :=
 some (a0 != a0)
theorem A8f {c:Sc} {H:A6} {a0:Int} {r:Bool} (h:A42 a0 = some r) :
  E6 tab c H (.fn (.func 127) [] []) [.i a0] [.b r]:= by
 unfold A42 at h
 refine cE rfl rfl<|s0<|qm rfl<|es (ra1 rfl)<|s0<|qm rfl<|qm rfl<|A0 (G2 rfl rfl) rfl<|qm rfl<|es (ra1 rfl)<|C4 ?_
 obtain rfl:=os h
 exact retq trivial (A9 rfl B6) (A4 rfl B5) (A2 A5 B1)
def A5m (a0:Int) (a1:Int):Option Int :=
 (A42 a0).bind fun x1 =>
 (A42 a1).bind fun x2 =>
 if x1 = true then
  if x2 = true then
  some 0
  else
  some (-1)
 else
  if x2 = true then
  some 1
  else
  if (decide (a0 < a1)) = true then
   some (-1)
  else
   if (decide (a0 > a1)) = true then
   some 1
   else
   some 0
theorem B2p {c:Sc} {H:A6} {a0:Int} {a1:Int} {r:Int} (h:A5m a0 a1 = some r) :
  E6 tab c H (.fn (.func 119) [] []) [.i a0,.i a1] [.i r]:= by
 unfold A5m at h
 refine cE rfl rfl<|s0<|qm rfl<|es (ra2 rfl rfl)<|s0<|oB h fun x1 hx1 h=>qm rfl<|B3 (rs:=[.b x1]) rfl rfl (A1 rfl B7) ((A8f hx1).frz)<|qm rfl<|es (ra3 rfl rfl rfl)<|s0<|oB h fun x2 hx2 h=>qm rfl<|B3 (rs:=[.b x2]) rfl rfl (A1 rfl B7) ((A8f hx2).frz)<|qm rfl<|es (ra4 rfl rfl rfl rfl)<|B8<|s0<|qm rfl<|es (ra4 rfl rfl rfl rfl)<|wi h rfl (fun hc3 h=>?_) fun hc3 h=>?_
 ·refine B8<|s0<|qm rfl<|es (ra1 rfl)<|wi h rfl (fun hc4 h=>?_) fun hc4 h=>?_
  ·refine s0<|qm rfl<|es (ra1 rfl)<|C4 ?_
   obtain rfl:=os h
   exact retq trivial (A9 rfl B6) (A4 rfl B5) (A2 A5 B1)
  ·refine C1<|s0<|qm rfl<|es (ra1 rfl)<|C4 ?_
   obtain rfl:=os h
   exact retq trivial (A9 rfl B6) (A4 rfl B5) (A2 A5 B1)
 ·refine C1<|B8<|s0<|qm rfl<|es (ra3 rfl rfl rfl)<|wi h rfl (fun hc5 h=>?_) fun hc5 h=>?_
  ·refine s0<|qm rfl<|es (ra1 rfl)<|C4 ?_
   obtain rfl:=os h
   exact retq trivial (A9 rfl B6) (A4 rfl B5) (A2 A5 B1)
  ·refine C1<|B8<|s0<|qm rfl<|qm rfl<|A0 (G1 rfl rfl) rfl<|es (ra3 rfl rfl rfl)<|wi h rfl (fun hc6 h=>?_) fun hc6 h=>?_
   ·refine s0<|qm rfl<|es (ra1 rfl)<|C4 ?_
    obtain rfl:=os h
    exact retq trivial (A9 rfl B6) (A4 rfl B5) (A2 A5 B1)
   ·refine C1<|B8<|s0<|qm rfl<|qm rfl<|A0 (A1f rfl rfl) rfl<|es (ra1 rfl)<|wi h rfl (fun hc7 h=>?_) fun hc7 h=>?_
    ·refine s0<|qm rfl<|es (ra1 rfl)<|C4 ?_
     obtain rfl:=os h
     exact retq trivial (A9 rfl B6) (A4 rfl B5) (A2 A5 B1)
    ·refine C1<|s0<|qm rfl<|es (ra1 rfl)<|C4 ?_
     obtain rfl:=os h
     exact retq trivial (A9 rfl B6) (A4 rfl B5) (A2 A5 B1)
def A2q (a0:(List Int)) (a1:(List Int)) (s1:Int):Option (Int ⊕ (Int ⊕ Unit)) :=
 if (decide (s1 < (List.length a0:Int))) = true then
  (idx a0 s1).bind fun x4 =>
  if (decide (s1 ≥ (List.length a1:Int))) = true then
  some (.inr (.inl 1))
  else
  (idx a1 s1).bind fun x6 =>
  (A5m x4 x6).bind fun x7 =>
  if (x7 != 0) = true then
   some (.inr (.inl x7))
  else
   some (.inl (w64 (s1 + 1)))
 else
  some (.inr (.inr ()))
def A1d (a0:(List Int)) (a1:(List Int)):Option Int :=
 (loop (A2q a0 a1) 0).bind fun (o9:(Int ⊕ Unit)) =>
 match o9 with
 | (.inl vo9_0) =>
  some vo9_0
 | (.inr vo9_1) =>
  if (decide ((List.length a0:Int) < (List.length a1:Int))) = true then
  some (-1)
  else
  some 0
theorem A69 {c:Sc} {H:A6} {a0:(List Int)} {a1:(List Int)} {r:Int} (h:A1d a0 a1 = some r) :
  E6 tab c H (.fn (.func 96) [] []) [(.seq 1 (List.map cI a0)),(.seq 1 (List.map cI a1))] [.i r]:= by
 unfold A1d at h
 refine cE rfl rfl<|s0<|qm rfl<|es (ra2 rfl rfl)<|B8<|s0<|qm rfl<|A0 (E0 (f:=cI) rfl) rfl<|qm rfl<|es (ra5 rfl rfl rfl rfl rfl)<|C7<|oB h fun o9 ho9 h=>wl (fun s1=>[(0,(.seq 1 (List.map cI a0))),(1,(.seq 1 (List.map cI a1))),(9,(.seq 1 (List.map cI a0))),(10,(.i (List.length a0:Int))),(11,.i s1)]) (fun (q2:Unit) s1=>[]) 0 (fun r e s' H'=>(match r with | (.inl v)=>e = .ret∧RetQ H [.tmp 4] [.i v] e s' H' | (.inr v)=>PX 0 [(0,(.seq 1 (List.map cI a0))),(1,(.seq 1 (List.map cI a1)))] (H++[]) e s' H':Prop)) () ho9 rfl rfl (fun _ _=>rfl) (fun _=>rfl) rfl (fun s1=>(bdc L3 (bdc L3 (bdc L3 (bdc A5 (bdc A5 bdn)))))) (fun q2 s1 ys1 hs1=>?_) ?_
 ·unfold A2q at hs1
  refine s0<|A0 (G1 rfl rfl) rfl<|es (ra6 rfl rfl rfl rfl rfl rfl)<|B8<|wi hs1 rfl (fun hc3 hs1=>?_) fun hc3 hs1=>?_
  ·refine C1<|B8<|C7<|s0<|oB hs1 fun x4 hx4 hs1=>qm rfl<|A0 (F0 (f:=cI) rfl rfl hx4) rfl<|A0 (F3 rfl rfl) rfl<|qm rfl<|qm rfl<|es (ra7 rfl rfl rfl rfl rfl rfl rfl)<|B8<|s0<|qm rfl<|qm rfl<|A0 (E0 (f:=cI) rfl) rfl<|A0 (A74 rfl rfl) rfl<|es (ra8 rfl rfl rfl rfl rfl rfl rfl rfl)<|wi hs1 rfl (fun hc5 hs1=>?_) fun hc5 hs1=>?_
   ·refine s0<|qm rfl<|es (ra1 rfl)<|C4 ?_
    obtain rfl:=os hs1
    exact lx rfl (And.intro rfl (retq trivial (A9 rfl B6) (A4 rfl B5) (A2 A5 B1))) (Sub.refl _)
   ·refine C1<|s0<|oB hs1 fun x6 hx6 hs1=>qm rfl<|qm rfl<|A0 (F0 (f:=cI) rfl rfl hx6) rfl<|A0 (F3 rfl rfl) rfl<|qm rfl<|es (ra7 rfl rfl rfl rfl rfl rfl rfl)<|s0<|oB hs1 fun x7 hx7 hs1=>qm rfl<|qm rfl<|B3 (rs:=[.i x7]) rfl rfl (A1 rfl (A1 rfl B7)) ((B2p hx7).frz)<|qm rfl<|es (ra6 rfl rfl rfl rfl rfl rfl)<|s0<|qm rfl<|A0 (G2 rfl rfl) rfl<|es (ra7 rfl rfl rfl rfl rfl rfl rfl)<|wi hs1 rfl (fun hc8 hs1=>?_) fun hc8 hs1=>?_
    ·refine s0<|qm rfl<|qm rfl<|es (ra1 rfl)<|C4 ?_
     obtain rfl:=os hs1
     exact lx rfl (And.intro rfl (retq trivial (A9 rfl B6) (A4 rfl B5) (A2 A5 B1))) (Sub.refl _)
    ·refine C1<|r0<|A0 (E3 rfl rfl) rfl<|qm rfl<|en (ra5 rfl rfl rfl rfl rfl) ?_
     cases hs1
     exact lnT () rfl (su5 rfl rfl rfl rfl rfl)
  ·refine F1 ?_
   obtain rfl:=os hs1
   exact lx rfl px (su2 rfl rfl)
 ·rcases o9 with vo9_0 | vo9_1
  ·rintro e s' H' - ⟨rfl,hret⟩
   cases h
   exact hret
  ·rintro e s' H' - ⟨rfl,rfl,rfl⟩
   refine B8<|s0<|qm rfl<|A0 (E0 (f:=cI) rfl) rfl<|qm rfl<|A0 (E0 (f:=cI) rfl) rfl<|A0 (G1 rfl rfl) rfl<|es (ra1 rfl)<|wi h rfl (fun hc10 h=>?_) fun hc10 h=>?_
   ·refine s0<|qm rfl<|es (ra1 rfl)<|C4 ?_
    obtain rfl:=os h
    exact retq trivial (A9 rfl B6) (A4 rfl B5) (A2 A5 B1)
   ·refine C1<|s0<|qm rfl<|es (ra1 rfl)<|C4 ?_
    obtain rfl:=os h
    exact retq trivial (A9 rfl B6) (A4 rfl B5) (A2 A5 B1)
end Rm
end
section
set_option maxRecDepth 100000
namespace Rm
open Go Am Go.Proofs.YtbheamjhjgoccaaDoor.Cd
def C5c (t:RoHouse) (b:List Int):RoHouse:=⟨t.Weather,t.Stoves,t.Holds,t.Places,t.Figures,b⟩
def B0t (a0:RoHouse) (set:Int) (s:Int × List Int):Option ((Int × List Int) ⊕ List Int) :=
 if (decide (s.1 < (List.length a0.Bill:Int))) = true then
  (idx a0.Bill s.1).bind fun n =>
  (B2w .i64 set s.1).bind fun q =>
  if (B4u q 1 == 0) = true then
   (app 8 s.2 [n]).bind fun b =>
   some (.inl (w64 (s.1 + 1),b))
  else some (.inl (w64 (s.1 + 1),s.2))
 else some (.inr s.2)
def A7z (l breaks:List Int) (found:Bool):Option Bool :=
 if found = true then
  if (decide ((l.length:Int) > (breaks.length:Int))) = true then some true
  else if ((l.length:Int) == (breaks.length:Int)) = true then
   (A1d l breaks).bind fun z=>some (decide (z > 0))
  else some false
 else some false
def A6s (a0:RoHouse) (n:Int) (s:Int × Bool × List Int):Option ((Int × Bool × List Int) ⊕ List Int) :=
 if (decide (s.1 < n)) = true then
  (B5r s.1).bind fun l =>
  (A7z l s.2.2 s.2.1).bind fun skip =>
  if skip = true then some (.inl (w64 (s.1 + 1),s.2.1,s.2.2))
  else
   (loop (B0t a0 s.1) (0,[])).bind fun b =>
   (A6u ⟨C5c a0 b⟩).bind fun k =>
   if k = true then some (.inl (w64 (s.1 + 1),true,l))
   else some (.inl (w64 (s.1 + 1),s.2.1,s.2.2))
 else some (.inr s.2.2)
def A5i (a0:RoHouse):Option (List Int × Int) :=
 (P2 a0).bind fun x1 =>
 if (x1.2.2 != 0) = true then some (([]:List Int),x1.2.2)
 else
  (B4n .i64 1 (List.length a0.Bill:Int)).bind fun n =>
  (loop (A6s a0 n) (0,false,([]:List Int))).bind fun o =>
  some (o,0)
def A91 (t:RoHouse) (v:AV):List AV:=[.i t.Weather.Lo,.i t.Weather.Hi,.i t.Stoves,(.seq 1 (List.map cI t.Holds)),(.seq 4 (List.map C2 t.Places)),(.seq 6 (List.map B2 t.Figures)),v,.xseq 2 [[.b false,(.fn (.func 112) [] [])],[.b true,(.fn (.func 113) [] [])]]]
def arB (p:Bool) (r:List Int):AO:=.arr 1 p (r.map cI)
def tlB (g:List (List Int)):List AO:=g.map (arB true)
def lB (t:RoHouse) (v:AV) (g:List AO):List AO:=.cells (A3 t) :: .cells (A3 t) :: .cells (A91 t v) :: g
section
variable {T:Tab} {s:C6} {H0 H:A6} {l:List AO} {c:Sc} {n0 N:Nat} {hc:List (Option (List Nat))} {ops:List AOper} {R:C6→A6→Prop}
theorem gU {d:Nat} {op:AOp} {t:Nat} {w:Bool} {hid:List Nat} {hida:List (Nat × List Nat)} {inc src:Nat} (hw:wanted s (some (t,w)) = some false) (hwr:writes op = true) (k:L9 T c n0 ops ((d,.tup []) :: s) H (none :: hc) R) :
  L9 T c n0 (⟨some d,op,some (t,w),hid,hida,inc,src⟩ :: ops) s H hc R:=G7 hw hwr k
theorem gV {d:Nat} {op:AOp} {t:Nat} {w:Bool} {hid:List Nat} {hida:List (Nat × List Nat)} {inc src:Nat} (hw:wanted s (some (t,w)) = some false) (hwr:writes op = false) (k:L9 T c n0 ops ((d,.tup []) :: s) H hc R) :
  L9 T c n0 (⟨some d,op,some (t,w),hid,hida,inc,src⟩ :: ops) s H hc R:=C7s hw hwr k
theorem fvc {H1 H2:A6} {v v':AV} {l l':List AV} (h:frv H v = some (v',H1)) (k:Z6 H1 l = some (l',H2)):Z6 H (v :: l) = some (v' :: l',H2):= by simp only [Z6,h,k]
end
theorem C9r {N:Nat}:∀g:List (List Int),clH N (tlB g) = true
 | []=>rfl
 | r :: g=>by
  have ih:=C9r (N:=N) g
  unfold tlB clH at ih ⊢
  rw [List.map_cons,List.all_cons,ih,Bool.and_true]
  unfold arB
  simp only [AO.cl]
  exact A2g (fun x=>rfl) r
theorem D5h {N:Nat} (t:RoHouse) (b:List Int) (g:List (List Int)):clH N (lB t (.seq 1 (b.map cI)) (tlB g)) = true:= by
 have h:=C9r (N:=N) g
 unfold lB clH at h ⊢
 simp only [List.all_cons,h,Bool.and_true]
 simp [AO.cl,clL_free _ (K0 t),A91,clL,AV.cl,clR,J0,cI,freeL,AV.free,J3,I3]
theorem B6r {c:Sc} {H:A6} (hscv:Z2 c H = true) (hcl:clH H.length H = true) {a0:RoHouse} {r:((List Int) × Int)} (h:A5i a0 = some r) :
  E6 tab c H (.fn (.func 36) [] []) [(.agg (A3 a0))] [(.seq 1 (List.map cI r.1)),.i r.2]:= by
 unfold A5i at h
 refine cE rfl rfl<|sg 0 rfl<|A0 (E9 (cs:=A3 a0) rfl rfl rfl) rfl<|qm rfl<|qm rfl<|es (ra2 rfl rfl)<|s0<|A0 (C0 rfl rfl rfl) rfl<|O4 (as2:=[(.agg (A3 a0))]) (H1:=(H++[(.cells (A3 a0))])) rfl rfl (A1 (D1 rfl) B7) rfl rfl rfl (T9 rfl)<|sg 1 rfl<|A0 (E9 (cs:=A3 a0) rfl rfl rfl) rfl<|qm rfl<|qm rfl<|es (ra1 rfl)<|s0<|oB h fun x1 hx1 h=>A0 (C0 rfl rfl rfl) rfl<|B3 (rs:=[.i x1.1,.i x1.2.1,.i x1.2.2]) rfl rfl (A1 (D1 rfl) B7) ((Q0 hx1).frz)<|qm rfl<|A0 (A8 rfl rfl) rfl<|A0 (A8 rfl rfl) rfl<|A0 (A8 rfl rfl) rfl<|qm rfl<|qm rfl<|qm rfl<|es (ra2 rfl rfl)<|sg 2 rfl<|A0 (C0 rfl rfl rfl) rfl<|A0 (F9 (cs:=[.b false,(.fn (.func 112) [] [])]) rfl rfl) rfl<|A0 (F9 (cs:=[.b true,(.fn (.func 113) [] [])]) rfl rfl) rfl<|A0 (A5w (rows:=[[.b false,(.fn (.func 112) [] [])],[.b true,(.fn (.func 113) [] [])]]) rfl rfl) rfl<|A0 (F9 (cs:=A91 a0 (.seq 1 (List.map cI a0.Bill))) rfl rfl) rfl<|A0 (E9 (cs:=A91 a0 (.seq 1 (List.map cI a0.Bill))) rfl rfl rfl) rfl<|qm rfl<|qm rfl<|qm rfl<|es (ra2 rfl rfl)<|C4<|InlQ.mk trivial ⟨_,_,_,[(.ptr (H.length + 2) 0),.i x1.2.2],_,(A9 rfl (A9 rfl B6)),(A4 rfl (A4 rfl B5)),(V3 (M7 (V1 rfl)) (D3 rfl (D3 rfl I9))),?_⟩
 refine qm rfl<|A0 (A8 rfl rfl) rfl<|A0 (A8 rfl rfl) rfl<|qm rfl<|qm rfl<|es (ra4 rfl rfl rfl rfl)<|B8<|s0<|qm rfl<|A0 (G2 rfl rfl) rfl<|es (ra5 rfl rfl rfl rfl rfl)<|wi h rfl (fun hc2 h=>?_) fun hc2 h=>?_
 ·refine s0<|qm rfl<|qm rfl<|qm rfl<|es (ra2 rfl rfl)<|C4 ?_
  obtain rfl:=os h
  exact retq trivial (A9 rfl (A9 rfl B6)) (A4 rfl (A4 rfl B5)) (A2 L3 (A2 A5 B1))
 refine oB h fun n hn h=>oB h fun o ho h=>?_
 refine C1<|s0<|qm rfl<|es (ra4 rfl rfl rfl rfl)<|B8<|s0<|A0 (C5 rfl) rfl<|A0 (C3 rfl rfl rfl) rfl<|A0 (E0 (f:=cI) rfl) rfl<|A0 (B3t rfl rfl hn) rfl<|qm rfl<|es (ra6 rfl rfl rfl rfl rfl rfl)<|C7 ?_
 refine A6b (D1u (γ:=List Int × List (List Int)) (live:=[1,2,4,5,21,22]) (body:=A6s a0 n) (fun x=>[(1,.ptr (H.length + 0) 0),(2,.seq 1 (x.2.2.map cI)),(4,.ptr (H.length + 2) 0),(5,.b x.2.1),(21,.i n),(22,.i x.1)]) (fun g x=>H++lB a0 (.seq 1 (g.1.map cI)) (tlB g.2))
  (fun r e s' H'=>e = .exit 0∧s' = [(2,.seq 1 (r.map cI))]∧∃ l',H' = H++l') (fun _=>rfl) (by decide) ?_ ho (a0.Bill,[])) ?_
 ·intro g x o' hb
  unfold A6s at hb
  refine s0<|A0 (G1 rfl rfl) rfl<|es (ra7 rfl rfl rfl rfl rfl rfl rfl)<|B8<|wi hb rfl (fun hc hb=>?_) fun hc hb=>?_
  ·refine oB hb fun l hl hb=>oB hb fun skip hsk hb=>?_
   refine C1<|B8<|C7<|s0<|qm rfl<|qm rfl<|es (ra7 rfl rfl rfl rfl rfl rfl rfl)<|s0<|qm rfl<|B3 (rs:=[.seq 1 (l.map cI)]) rfl rfl (A1 rfl B7) ((C2w hl).frz)<|qm rfl<|es (ra8 rfl rfl rfl rfl rfl rfl rfl rfl)<|B8<|s0<|qm rfl<|qm rfl ?_
   refine gp 19 47 (.b skip) 28 rfl rfl (fun hg1=>?_) (fun hg1=>?_) ?_
   ·unfold A7z at hsk
    rw [if_pos hg1] at hsk
    refine gT rfl hg1<|qm rfl<|gT rfl hg1<|A0 (E0 (f:=cI) rfl) rfl<|gT rfl hg1<|qm rfl<|gT rfl hg1<|A0 (E0 (f:=cI) rfl) rfl<|gT rfl hg1<|A0 (A1f rfl rfl) rfl<|gT rfl hg1<|qm rfl ?_
    cases h2:decide ((l.length:Int) > (x.2.2.length:Int)) with
    | true =>
     rw [if_pos h2] at hsk
     cases hsk
     exact nF rfl rfl rfl<|nF rfl rfl rfl<|nF rfl rfl rfl<|nF rfl rfl rfl<|nF rfl rfl rfl<|nF rfl rfl rfl<|gV rfl rfl<|gV rfl rfl<|gU rfl rfl<|gV rfl rfl<|nF rfl rfl rfl<|gT rfl hg1<|A0 (C9 rfl rfl rfl) rfl<|A0 (C9 rfl hg1 rfl) rfl<|ge 19 rfl rfl rfl
    | false =>
     rw [if_neg (by rw [h2]; decide)] at hsk
     refine gF rfl rfl<|qm rfl<|gF rfl rfl<|A0 (E0 (f:=cI) rfl) rfl<|gF rfl rfl<|qm rfl<|gF rfl rfl<|A0 (E0 (f:=cI) rfl) rfl<|gF rfl rfl<|A0 (F4 rfl rfl) rfl<|gF rfl rfl<|qm rfl ?_
     cases h3:((l.length:Int) == (x.2.2.length:Int)) with
     | true =>
      rw [if_pos h3] at hsk
      refine oB hsk fun z hz hsk=>?_
      cases hsk
      exact gT rfl rfl<|qm rfl<|gT rfl rfl<|qm rfl<|gT rfl rfl<|B3 (rs:=[.i z]) rfl rfl (A1 rfl (A1 rfl B7)) ((A69 hz).frz)<|gT rfl rfl<|A0 (A1f rfl rfl) rfl<|gF rfl rfl<|A0 (C9 rfl rfl rfl) rfl<|gT rfl hg1<|A0 (D0 rfl rfl rfl) rfl<|A0 (C9 rfl hg1 rfl) rfl<|ge 19 rfl rfl rfl
     | false =>
      rw [if_neg (by rw [h3]; decide)] at hsk
      cases hsk
      exact nT rfl rfl rfl<|nT rfl rfl rfl<|gN rfl rfl rfl<|nT rfl rfl rfl<|gF rfl rfl<|A0 (D0 rfl rfl rfl) rfl<|gT rfl hg1<|A0 (D0 rfl rfl rfl) rfl<|A0 (C9 rfl hg1 rfl) rfl<|ge 19 rfl rfl rfl
   ·unfold A7z at hsk
    rw [if_neg (by rw [hg1]; decide)] at hsk
    cases hsk
    exact nT rfl hg1 rfl<|nT rfl hg1 rfl<|nT rfl hg1 rfl<|nT rfl hg1 rfl<|nT rfl hg1 rfl<|nT rfl hg1 rfl<|gV rfl rfl<|gV rfl rfl<|gV rfl rfl<|gV rfl rfl<|gV rfl rfl<|gV rfl rfl<|gV rfl rfl<|gV rfl rfl<|gU rfl rfl<|gV rfl rfl<|gV rfl rfl<|nT rfl hg1 rfl<|A0 (D0 rfl hg1 rfl) rfl<|ge 19 rfl rfl rfl
   refine es (ra9 rfl rfl rfl rfl rfl rfl rfl rfl rfl)<|wi hb rfl (fun hc2 hb=>?_) fun hc2 hb=>?_
   ·refine F1<|r0<|A0 (E3 rfl rfl) rfl<|qm rfl<|en (ra6 rfl rfl rfl rfl rfl rfl) ?_
    cases hb
    exact ⟨rfl,su6 rfl rfl rfl rfl rfl rfl,g,rfl⟩
   refine oB hb fun b hb2 hb=>oB hb fun k hk hb=>?_
   refine C1<|sg ((tlB g.2).length + 3) rfl<|qm rfl<|A0 (Q6 rfl rfl) rfl<|A0 (C5 rfl) rfl<|A0 (C5 rfl) rfl<|F2 (D0v (cs:=A91 a0 (.seq 1 (g.1.map cI))) (ds:=A91 a0 (.asl (H.length + ((tlB g.2).length + 3 + 0)) 0)) rfl rfl rfl (A7j (Nat.le_add_right _ _)) rfl) rfl<|es (ra8 rfl rfl rfl rfl rfl rfl rfl rfl) ?_
   have e1:((lB a0 (.seq 1 (g.1.map cI)) (tlB g.2)++List.replicate 1 AO.dead).set ((tlB g.2).length + 3 + 0) (.arr 1 false [])).set 2 (.cells (A91 a0 (.asl (H.length + ((tlB g.2).length + 3 + 0)) 0))) = lB a0 (.asl (H.length + ((tlB g.2).length + 3)) 0) (tlB g.2++[arB false []]):= by
    show (AO.cells _ :: AO.cells _ :: AO.cells _ :: ((tlB g.2++[AO.dead]).set (tlB g.2).length (.arr 1 false []))) = _
    rw [C37 _ _ _ rfl]; rfl
   rw [e1]
   have hlN:∀v q,(lB a0 v (tlB g.2++[q])).length = (tlB g.2).length + 4:=fun v q=>by simp [lB]
   have hget:∀v q,(lB a0 v (tlB g.2++[q]))[(tlB g.2).length + 3]? = some q:=fun v q=>D0b (tlB g.2) q rfl
   have hset:∀v q q',(lB a0 v (tlB g.2++[q])).set ((tlB g.2).length + 3) q' = lB a0 v (tlB g.2++[q']):=fun v q q'=>by
    show (AO.cells _ :: AO.cells _ :: AO.cells _ :: ((tlB g.2++[q]).set (tlB g.2).length q')) = _
    rw [C37 _ _ _ rfl]; rfl
   refine B8<|s0<|A0 (C5 rfl) rfl<|A0 (C3 rfl rfl rfl) rfl<|A0 (E0 (f:=cI) rfl) rfl<|qm rfl<|es (ra11 rfl rfl rfl rfl rfl rfl rfl rfl rfl rfl rfl)<|C7<|wl (fun y=>[(1,.ptr (H.length + 0) 0),(2,.seq 1 (x.2.2.map cI)),(4,.ptr (H.length + 2) 0),(5,.b x.2.1),(6,.i x.1),(7,.seq 1 (l.map cI)),(21,.i n),(22,.i x.1),(53,.seq 1 (a0.Bill.map cI)),(54,.i (List.length a0.Bill:Int)),(55,.i y.1)]) (fun (q2:Unit) y=>lB a0 (.asl (H.length + ((tlB g.2).length + 3)) y.2.length) (tlB g.2++[arB false y.2])) ((tlB g.2).length + 4) (fun r e s' H'=>PX 2 [(1,.ptr (H.length + 0) 0),(2,.seq 1 (x.2.2.map cI)),(4,.ptr (H.length + 2) 0),(5,.b x.2.1),(7,.seq 1 (l.map cI)),(21,.i n),(22,.i x.1)] (H++lB a0 (.asl (H.length + ((tlB g.2).length + 3)) r.length) (tlB g.2++[arB false r])) e s' H') () hb2 rfl rfl (fun _ _=>hlN _ _) (fun _=>rfl) rfl (fun y=>(bdc (D8 rfl) (bdc L3 (bdc (D8 rfl) (bdc A5 (bdc A5 (bdc L3 (bdc A5 (bdc A5 (bdc L3 (bdc A5 (bdc A5 bdn)))))))))))) (fun q2 y o' hy=>?_) ?_
   ·unfold B0t at hy
    refine s0<|A0 (G1 rfl rfl) rfl<|es (ra12 rfl rfl rfl rfl rfl rfl rfl rfl rfl rfl rfl rfl)<|B8<|wi hy rfl (fun hc3 hy=>?_) fun hc3 hy=>?_
    ·refine oB hy fun z hz hy=>oB hy fun q hq hy=>?_
     refine C1<|B8<|C7<|s0<|qm rfl<|A0 (F0 (f:=cI) rfl rfl hz) rfl<|A0 (F3 rfl rfl) rfl<|qm rfl<|qm rfl<|es (ra13 rfl rfl rfl rfl rfl rfl rfl rfl rfl rfl rfl rfl rfl)<|s0<|qm rfl<|qm rfl<|A0 (A9t rfl rfl hq) rfl<|A0 (G9 (v:=(.i (B4u q 1))) rfl rfl rfl) rfl<|A0 (F4 rfl rfl) rfl<|es (ra13 rfl rfl rfl rfl rfl rfl rfl rfl rfl rfl rfl rfl rfl)<|wi hy rfl (fun hc4 hy=>?_) fun hc4 hy=>?_
     ·refine oB hy fun w hw hy=>?_
      refine r0<|qm rfl<|qm rfl<|A0 (Q6 rfl rfl) rfl<|A0 (C5 rfl) rfl<|A0 (C5 rfl) rfl<|A0 (C3 rfl rfl rfl) rfl<|qm rfl<|A0 (L4 (rows:=[[.i z]]) rfl rfl rfl) rfl<|A9x (B0h (f:=cI) (d:=y.2) (m:=[z]) rfl rfl (hget _ _) rfl A7y (fun _=>rfl) hw) rfl<|A0 (Q6 rfl rfl) rfl<|A0 (C5 rfl) rfl<|A0 (C5 rfl) rfl ?_
      rw [hset]
      refine F2 (C8 (ds:=A91 a0 (.asl (H.length + ((tlB g.2).length + 3)) w.length)) rfl rfl rfl rfl (D2u ?_ ?_) rfl) rfl<|en (ra11 rfl rfl rfl rfl rfl rfl rfl rfl rfl rfl rfl)<|r0<|A0 (E3 rfl rfl) rfl<|qm rfl<|en (ra11 rfl rfl rfl rfl rfl rfl rfl rfl rfl rfl rfl) ?_
      ·simp only [AV.bd]; exact Nat.ble_eq_true_of_le (by omega)
      ·exact D57 (Nat.le_add_right _ _) (D36 hscv)
      cases hy
      exact lnT () (List.take_of_length_le (Nat.le_of_eq (hlN _ _))) (su11 rfl rfl rfl rfl rfl rfl rfl rfl rfl rfl rfl)
     ·refine C1<|r0<|A0 (E3 rfl rfl) rfl<|qm rfl<|en (ra11 rfl rfl rfl rfl rfl rfl rfl rfl rfl rfl rfl) ?_
      cases hy
      exact lnT () (List.take_of_length_le (Nat.le_of_eq (hlN _ _))) (su11 rfl rfl rfl rfl rfl rfl rfl rfl rfl rfl rfl)
    ·refine F1 ?_
     obtain rfl:=os hy
     exact lx rfl px (su7 rfl rfl rfl rfl rfl rfl rfl)
   rintro e s' H' - ⟨rfl,rfl,rfl⟩
   have hfz:Z6 (H++lB a0 (.asl (H.length + ((tlB g.2).length + 3)) b.length) (tlB g.2++[arB false b])) (A91 a0 (.asl (H.length + ((tlB g.2).length + 3)) b.length)) = some (A91 a0 (.seq 1 (b.map cI)),H++lB a0 (.asl (H.length + ((tlB g.2).length + 3)) b.length) (tlB g.2++[arB true b])):= by
    have h1:frv (H++lB a0 (.asl (H.length + ((tlB g.2).length + 3)) b.length) (tlB g.2++[arB false b])) (.asl (H.length + ((tlB g.2).length + 3)) b.length) = some (.seq 1 (b.map cI),H++lB a0 (.asl (H.length + ((tlB g.2).length + 3)) b.length) (tlB g.2++[arB true b])):= by
     have:=B7w (H0:=H) (l:=lB a0 (.asl (H.length + ((tlB g.2).length + 3)) b.length) (tlB g.2++[arB false b])) (hget _ (arB false b)) (List.length_map (cI))
     rw [hset] at this
     exact this
    exact fvc rfl<|fvc rfl<|fvc rfl<|fvc rfl<|fvc rfl<|fvc rfl<|fvc h1<|fvc rfl rfl
   have e2:(lB a0 (.asl (H.length + ((tlB g.2).length + 3)) b.length) (tlB g.2++[arB true b])).set 2 (.cells (A91 a0 (.seq 1 (b.map cI)))) = lB a0 (.seq 1 (b.map cI)) (tlB (g.2++[b])):= by
    show (AO.cells _ :: AO.cells _ :: AO.cells _ :: (tlB g.2++[arB true b])) = _
    unfold lB tlB
    rw [List.map_append]; rfl
   refine B8<|D6g (D22 rfl rfl hfz rfl) ?_
   rw [e2]
   have hcan:E6 tab ⟨H.length,c.cur :: c.outer⟩ (H++lB a0 (.seq 1 (b.map cI)) (tlB (g.2++[b]))) (.fn (.func 97) [] []) [.ptr (H.length + 2) 0] [.b k]:=B31 (a0:=⟨C5c a0 b⟩) (b0:=H.length + 2) (A6v hscv) (D10 hcl (D5h a0 b _)) (D7 (l:=lB a0 (.seq 1 (b.map cI)) (tlB (g.2++[b]))) rfl) hk
   refine r0<|qm rfl<|B3 (rs:=[.b k]) rfl rfl (A1 rfl B7) (hcan.frz)<|es (ra8 rfl rfl rfl rfl rfl rfl rfl rfl) ?_
   cases k with
   | true =>
    refine K2 rfl rfl<|r0<|qm rfl<|qm rfl<|qm rfl<|en (ra6 rfl rfl rfl rfl rfl rfl)<|r0<|A0 (E3 rfl rfl) rfl<|qm rfl<|en (ra6 rfl rfl rfl rfl rfl rfl) ?_
    cases hb
    exact ⟨rfl,su6 rfl rfl rfl rfl rfl rfl,(b,g.2++[b]),rfl⟩
   | false =>
    refine A1x rfl rfl<|C1<|r0<|A0 (E3 rfl rfl) rfl<|qm rfl<|en (ra6 rfl rfl rfl rfl rfl rfl) ?_
    cases hb
    exact ⟨rfl,su6 rfl rfl rfl rfl rfl rfl,(b,g.2++[b]),rfl⟩
  ·refine F1 ?_
   cases hb
   exact ⟨rfl,_,su1 rfl,rfl,rfl,_,rfl⟩
 ·intro e s' H' q
  obtain ⟨_,rfl,rfl,l',rfl⟩:=q
  cases h
  refine s0<|qm rfl<|qm rfl<|qm rfl<|es (ra2 rfl rfl)<|C4 ?_
  exact retq trivial (A9 rfl (A9 rfl B6)) (A4 rfl (A4 rfl B5)) (A2 L3 (A2 A5 B1))
theorem B0l {c:Sc} {H:A6} (hscv:Z2 c H = true) {a0:RoHouse} {r:((List Int) × Int)} (h:A5i a0 = some r) :
  E6 tab c H (.fn (.func 36) [] []) [(.agg (A3 a0))] [(.seq 1 (List.map cI r.1)),.i r.2]:=A94 B1b (B6r (c:=⟨0,[]⟩) (H:=[]) rfl rfl h) (by simp [freeL,AV.free,K0]) (by simp [freeL,AV.free,J0,cI]) hscv
end Rm
end
section
set_option maxRecDepth 100000
set_option maxHeartbeats 0
namespace Rm
open Go Am Go.Proofs.YtbheamjhjgoccaaDoor.Cd
def K6 :Option Bool :=
 (A1z [3]).bind fun x1 =>
 (A1z ([]:List Int)).bind fun x2 =>
 (A2d x1 1 1).bind fun x3 =>
 (A3z x1 0 1 1).bind fun x4 =>
 (A3z x1 2 1 1).bind fun x5 =>
 (A8l x1).bind fun x6 =>
 (A10 1 [1,(-1),2]).bind fun x7 =>
 (X3 x1 x7).bind fun x8 =>
 (A10 1 [1,0,2]).bind fun x9 =>
 (A2b x1 x9).bind fun x10 =>
 (A1z [1,3]).bind fun x11 =>
 (A5i x11).bind fun x12 =>
 (A6t x1).bind fun x13 =>
 (A6t x2).bind fun x14 =>
 (A2c x1 0).bind fun x15 =>
 (Z1 x1 x6.1).bind fun x16 =>
 (if (((((((((((x3.2 == 0) && (x4.2 == 0)) && (x5.2 == 0)) && (x6.2.2 == 0)) && (x8.2 == 9)) && (x10.2 == 0)) && (x12.2 == 0)) && (x13.2 == 0)) && (x14.2 == 0)) && (x15.2 == 0)) && (x16.2.2 == 0)) = true then
  (W7 45 70).bind fun x28 =>
  some ((x3.1.Lo == x28.Lo) && ((x3.1.Hi == x28.Hi) && true))
 else
  some false).bind fun x29 =>
 (if ((x29 && (x4.1 == 1)) && (x5.1 == 0)) = true then
  (A10 1 [(-1),0,2]).bind fun x33 =>
  (A9e x6.1 x33).bind fun x34 =>
  some x34
 else
  some false).bind fun x35 =>
 (if (x35 && (x6.2.1 == 12)) = true then
  (A0b x10.1 [350,320]).bind fun x38 =>
  some x38
 else
  some false).bind fun x39 =>
 (if x39 = true then
  (A0b x12.1 [0]).bind fun x41 =>
  some x41
 else
  some false).bind fun x42 =>
 (if x42 = true then
  (A0b x13.1 [0]).bind fun x44 =>
  some x44
 else
  some false).bind fun x45 =>
 some ((((x45 && ((List.length x14.1:Int) == 0)) && (x15.1 == 1)) && (x16.1 == 1)) && (x16.2.1 == 0))
theorem K8 {c:Sc} {H:A6} (hscv:Z2 c H = true)  {r:Bool} (h:K6  = some r) :
  E6 tab c H (.fn (.func 23) [] []) [] [.b r]:= by
 unfold K6 at h
 refine cE rfl rfl<|s0<|qm rfl<|es .n<|sg 0 rfl<|oB h fun x1 hx1 h=>oB h fun x2 hx2 h=>A0 (L4 (rows:=List.map cI [3]) rfl rfl (F5 (fun _=>rfl) _)) rfl<|B3 (rs:=[(.agg (A3 x1))]) rfl rfl (A1 rfl B7) ((A11 hx1).frz)<|B3 (rs:=[(.agg (A3 x2))]) rfl rfl (A1 rfl B7) ((A11 hx2).frz)<|A0 D5 rfl<|A0 D5 rfl<|F2 (C8 (ds:=(A3 x1)) rfl rfl rfl rfl (B9 rfl) rfl) rfl<|F2 (C8 (ds:=(A3 x2)) rfl rfl rfl rfl (B9 rfl) rfl) rfl<|es (ra2 rfl rfl)<|sg 2 rfl<|oB h fun x3 hx3 h=>A0 (C0 rfl rfl rfl) rfl<|B3 (rs:=[(.agg (D6 x3.1)),.i x3.2]) rfl rfl (A1 (D1 rfl) (A1 rfl (A1 rfl B7))) ((A6m hx3).frz)<|qm rfl<|A0 (A8 rfl rfl) rfl<|A0 (A8 rfl rfl) rfl<|A0 D5 rfl<|F2 (C8 (ds:=(D6 x3.1)) rfl rfl rfl rfl (B9 rfl) rfl) rfl<|qm rfl<|es (ra4 rfl rfl rfl rfl)<|s0<|oB h fun x4 hx4 h=>A0 (C0 rfl rfl rfl) rfl<|B3 (rs:=[.i x4.1,.i x4.2]) rfl rfl (A1 (D1 rfl) (A1 rfl (A1 rfl (A1 rfl B7)))) ((A5x hx4).frz)<|qm rfl<|A0 (A8 rfl rfl) rfl<|A0 (A8 rfl rfl) rfl<|qm rfl<|qm rfl<|es (ra6 rfl rfl rfl rfl rfl rfl)<|s0<|oB h fun x5 hx5 h=>A0 (C0 rfl rfl rfl) rfl<|B3 (rs:=[.i x5.1,.i x5.2]) rfl rfl (A1 (D1 rfl) (A1 rfl (A1 rfl (A1 rfl B7)))) ((A5x hx5).frz)<|qm rfl<|A0 (A8 rfl rfl) rfl<|A0 (A8 rfl rfl) rfl<|qm rfl<|qm rfl<|es (ra8 rfl rfl rfl rfl rfl rfl rfl rfl)<|sg 3 rfl<|oB h fun x6 hx6 h=>A0 (C0 rfl rfl rfl) rfl<|B3 (rs:=[(.agg (B4 x6.1)),.i x6.2.1,.i x6.2.2]) rfl rfl (A1 (D1 rfl) B7) (B3x (A6v hscv) hx6)<|qm rfl<|A0 (A8 rfl rfl) rfl<|A0 (A8 rfl rfl) rfl<|A0 (A8 rfl rfl) rfl<|A0 D5 rfl<|F2 (C8 (ds:=(B4 x6.1)) rfl rfl rfl rfl (B9 rfl) rfl) rfl<|qm rfl<|qm rfl<|es (ra11 rfl rfl rfl rfl rfl rfl rfl rfl rfl rfl rfl)<|s0<|oB h fun x7 hx7 h=>?_
 refine oB h fun x8 hx8 h=>A0 (C0 rfl rfl rfl) rfl<|A0 (L4 (rows:=List.map cI [1,(-1),2]) rfl rfl (F5 (fun _=>rfl) _)) rfl<|A15 (rs:=[(.agg (B4 x7))]) rfl rfl (M1 rfl (M1 rfl A3o)) (A1 rfl (A1 rfl B7)) ((A1l hx7).frz)<|B3 (rs:=[.i x8.1,.i x8.2]) rfl rfl (A1 (D1 rfl) (A1 (D1 rfl) B7)) ((A1m hx8).frz)<|qm rfl<|A0 (A8 rfl rfl) rfl<|A0 (A8 rfl rfl) rfl<|qm rfl<|qm rfl<|es (ra12 rfl rfl rfl rfl rfl rfl rfl rfl rfl rfl rfl rfl)<|s0<|oB h fun x9 hx9 h=>oB h fun x10 hx10 h=>A0 (C0 rfl rfl rfl) rfl<|A0 (L4 (rows:=List.map cI [1,0,2]) rfl rfl (F5 (fun _=>rfl) _)) rfl<|A15 (rs:=[(.agg (B4 x9))]) rfl rfl (M1 rfl (M1 rfl A3o)) (A1 rfl (A1 rfl B7)) ((A1l hx9).frz)<|B3 (rs:=[(.seq 1 (List.map cI x10.1)),.i x10.2]) rfl rfl (A1 (D1 rfl) (A1 (D1 rfl) B7)) ((A46 hx10).frz)<|qm rfl<|A0 (A8 rfl rfl) rfl<|A0 (A8 rfl rfl) rfl<|qm rfl<|qm rfl<|es (ra14 rfl rfl rfl rfl rfl rfl rfl rfl rfl rfl rfl rfl rfl rfl)<|s0<|oB h fun x11 hx11 h=>oB h fun x12 hx12 h=>A0 (L4 (rows:=List.map cI [1,3]) rfl rfl (F5 (fun _=>rfl) _)) rfl<|B3 (rs:=[(.agg (A3 x11))]) rfl rfl (A1 rfl B7) ((A11 hx11).frz)<|B3 (rs:=[(.seq 1 (List.map cI x12.1)),.i x12.2]) rfl rfl (A1 (D1 rfl) B7) ((B0l (A6v hscv) hx12).frz)<|qm rfl<|A0 (A8 rfl rfl) rfl<|A0 (A8 rfl rfl) rfl<|qm rfl<|qm rfl<|es (.k rfl (.k rfl (.k rfl (.k rfl (.k rfl (.k rfl (.k rfl (.k rfl (.k rfl (.k rfl (.k rfl (.k rfl (.k rfl (.k rfl (.k rfl (.k rfl .n))))))))))))))))<|s0<|oB h fun x13 hx13 h=>A0 (C0 rfl rfl rfl) rfl<|B3 (rs:=[(.seq 1 (List.map cI x13.1)),.i x13.2]) rfl rfl (A1 (D1 rfl) B7) ((B12 (A6v hscv) hx13).frz)<|qm rfl<|A0 (A8 rfl rfl) rfl<|A0 (A8 rfl rfl) rfl<|qm rfl<|qm rfl<|es (.k rfl (.k rfl (.k rfl (.k rfl (.k rfl (.k rfl (.k rfl (.k rfl (.k rfl (.k rfl (.k rfl (.k rfl (.k rfl (.k rfl (.k rfl (.k rfl (.k rfl (.k rfl .n))))))))))))))))))<|s0<|oB h fun x14 hx14 h=>A0 (C0 rfl rfl rfl) rfl<|B3 (rs:=[(.seq 1 (List.map cI x14.1)),.i x14.2]) rfl rfl (A1 (D1 rfl) B7) ((B12 (A6v hscv) hx14).frz)<|qm rfl<|A0 (A8 rfl rfl) rfl<|A0 (A8 rfl rfl) rfl<|qm rfl<|qm rfl<|es (.k rfl (.k rfl (.k rfl (.k rfl (.k rfl (.k rfl (.k rfl (.k rfl (.k rfl (.k rfl (.k rfl (.k rfl (.k rfl (.k rfl (.k rfl (.k rfl (.k rfl (.k rfl (.k rfl .n)))))))))))))))))))<|s0<|oB h fun x15 hx15 h=>A0 (C0 rfl rfl rfl) rfl<|B3 (rs:=[.i x15.1,.i x15.2]) rfl rfl (A1 (D1 rfl) (A1 rfl B7)) ((A47 hx15).frz)<|qm rfl ?_
 refine A0 (A8 rfl rfl) rfl<|A0 (A8 rfl rfl) rfl<|qm rfl<|qm rfl<|es (.k rfl (.k rfl (.k rfl (.k rfl (.k rfl (.k rfl (.k rfl (.k rfl (.k rfl (.k rfl (.k rfl (.k rfl (.k rfl (.k rfl (.k rfl (.k rfl (.k rfl (.k rfl (.k rfl (.k rfl (.k rfl .n)))))))))))))))))))))<|s0<|oB h fun x16 hx16 h=>A0 (C0 rfl rfl rfl) rfl<|A0 (C0 rfl rfl rfl) rfl<|B3 (rs:=[.i x16.1,.i x16.2.1,.i x16.2.2]) rfl rfl (A1 (D1 rfl) (A1 (D1 rfl) B7)) ((A13 hx16).frz)<|qm rfl<|A0 (A8 rfl rfl) rfl<|A0 (A8 rfl rfl) rfl<|A0 (A8 rfl rfl) rfl<|qm rfl<|qm rfl<|qm rfl<|es (.k rfl (.k rfl (.k rfl (.k rfl (.k rfl (.k rfl (.k rfl (.k rfl (.k rfl (.k rfl (.k rfl (.k rfl (.k rfl (.k rfl (.k rfl (.k rfl (.k rfl (.k rfl (.k rfl (.k rfl (.k rfl (.k rfl (.k rfl .n)))))))))))))))))))))))<|s0<|oB h fun x29 hx29 h=>oB h fun x35 hx35 h=>oB h fun x39 hx39 h=>oB h fun x42 hx42 h=>oB h fun x45 hx45 h=>qm rfl<|A0 (F4 rfl rfl) rfl<|qm rfl<|gp 3 98 (.b ((x3.2 == 0) && (x4.2 == 0))) 95 rfl rfl (fun hg17=>?_) (fun hg17=>?_) ?_
 ·exact gT rfl hg17<|qm rfl<|gT rfl hg17<|A0 (F4 rfl rfl) rfl<|A0 (C9 rfl hg17 rfl) rfl<|ge 3 (by rw [hg17]; rfl) rfl rfl
 ·exact nT rfl hg17 rfl<|nT rfl hg17 rfl<|A0 (D0 rfl hg17 rfl) rfl<|ge 3 (by rw [hg17]; rfl) rfl rfl
 refine qm rfl<|gp 3 102 (.b (((x3.2 == 0) && (x4.2 == 0)) && (x5.2 == 0))) 99 rfl rfl (fun hg18=>?_) (fun hg18=>?_) ?_
 ·exact gT rfl hg18<|qm rfl<|gT rfl hg18<|A0 (F4 rfl rfl) rfl<|A0 (C9 rfl hg18 rfl) rfl<|ge 3 (by rw [hg18]; rfl) rfl rfl
 ·exact nT rfl hg18 rfl<|nT rfl hg18 rfl<|A0 (D0 rfl hg18 rfl) rfl<|ge 3 (by rw [hg18]; rfl) rfl rfl
 refine qm rfl<|gp 3 106 (.b ((((x3.2 == 0) && (x4.2 == 0)) && (x5.2 == 0)) && (x6.2.2 == 0))) 103 rfl rfl (fun hg19=>?_) (fun hg19=>?_) ?_
 ·exact gT rfl hg19<|qm rfl<|gT rfl hg19<|A0 (F4 rfl rfl) rfl<|A0 (C9 rfl hg19 rfl) rfl<|ge 3 (by rw [hg19]; rfl) rfl rfl
 ·exact nT rfl hg19 rfl<|nT rfl hg19 rfl<|A0 (D0 rfl hg19 rfl) rfl<|ge 3 (by rw [hg19]; rfl) rfl rfl
 refine qm rfl<|gp 3 110 (.b (((((x3.2 == 0) && (x4.2 == 0)) && (x5.2 == 0)) && (x6.2.2 == 0)) && (x8.2 == 9))) 107 rfl rfl (fun hg20=>?_) (fun hg20=>?_) ?_
 ·exact gT rfl hg20<|qm rfl<|gT rfl hg20<|A0 (F4 rfl rfl) rfl<|A0 (C9 rfl hg20 rfl) rfl<|ge 3 (by rw [hg20]; rfl) rfl rfl
 ·exact nT rfl hg20 rfl<|nT rfl hg20 rfl<|A0 (D0 rfl hg20 rfl) rfl<|ge 3 (by rw [hg20]; rfl) rfl rfl
 refine qm rfl<|gp 3 114 (.b ((((((x3.2 == 0) && (x4.2 == 0)) && (x5.2 == 0)) && (x6.2.2 == 0)) && (x8.2 == 9)) && (x10.2 == 0))) 111 rfl rfl (fun hg21=>?_) (fun hg21=>?_) ?_
 ·exact gT rfl hg21<|qm rfl<|gT rfl hg21<|A0 (F4 rfl rfl) rfl<|A0 (C9 rfl hg21 rfl) rfl<|ge 3 (by rw [hg21]; rfl) rfl rfl
 ·exact nT rfl hg21 rfl<|nT rfl hg21 rfl<|A0 (D0 rfl hg21 rfl) rfl<|ge 3 (by rw [hg21]; rfl) rfl rfl
 refine qm rfl<|gp 3 118 (.b (((((((x3.2 == 0) && (x4.2 == 0)) && (x5.2 == 0)) && (x6.2.2 == 0)) && (x8.2 == 9)) && (x10.2 == 0)) && (x12.2 == 0))) 115 rfl rfl (fun hg22=>?_) (fun hg22=>?_) ?_
 ·exact gT rfl hg22<|qm rfl<|gT rfl hg22<|A0 (F4 rfl rfl) rfl<|A0 (C9 rfl hg22 rfl) rfl<|ge 3 (by rw [hg22]; rfl) rfl rfl
 ·exact nT rfl hg22 rfl<|nT rfl hg22 rfl<|A0 (D0 rfl hg22 rfl) rfl<|ge 3 (by rw [hg22]; rfl) rfl rfl
 refine qm rfl<|gp 3 122 (.b ((((((((x3.2 == 0) && (x4.2 == 0)) && (x5.2 == 0)) && (x6.2.2 == 0)) && (x8.2 == 9)) && (x10.2 == 0)) && (x12.2 == 0)) && (x13.2 == 0))) 119 rfl rfl (fun hg23=>?_) (fun hg23=>?_) ?_
 ·exact gT rfl hg23<|qm rfl<|gT rfl hg23<|A0 (F4 rfl rfl) rfl<|A0 (C9 rfl hg23 rfl) rfl<|ge 3 (by rw [hg23]; rfl) rfl rfl
 ·exact nT rfl hg23 rfl<|nT rfl hg23 rfl<|A0 (D0 rfl hg23 rfl) rfl<|ge 3 (by rw [hg23]; rfl) rfl rfl
 refine qm rfl<|gp 3 126 (.b (((((((((x3.2 == 0) && (x4.2 == 0)) && (x5.2 == 0)) && (x6.2.2 == 0)) && (x8.2 == 9)) && (x10.2 == 0)) && (x12.2 == 0)) && (x13.2 == 0)) && (x14.2 == 0))) 123 rfl rfl (fun hg24=>?_) (fun hg24=>?_) ?_
 ·exact gT rfl hg24<|qm rfl<|gT rfl hg24<|A0 (F4 rfl rfl) rfl<|A0 (C9 rfl hg24 rfl) rfl<|ge 3 (by rw [hg24]; rfl) rfl rfl
 ·exact nT rfl hg24 rfl<|nT rfl hg24 rfl<|A0 (D0 rfl hg24 rfl) rfl<|ge 3 (by rw [hg24]; rfl) rfl rfl
 refine qm rfl<|gp 3 130 (.b ((((((((((x3.2 == 0) && (x4.2 == 0)) && (x5.2 == 0)) && (x6.2.2 == 0)) && (x8.2 == 9)) && (x10.2 == 0)) && (x12.2 == 0)) && (x13.2 == 0)) && (x14.2 == 0)) && (x15.2 == 0))) 127 rfl rfl (fun hg25=>?_) (fun hg25=>?_) ?_
 ·exact gT rfl hg25<|qm rfl<|gT rfl hg25<|A0 (F4 rfl rfl) rfl<|A0 (C9 rfl hg25 rfl) rfl<|ge 3 (by rw [hg25]; rfl) rfl rfl
 ·exact nT rfl hg25 rfl<|nT rfl hg25 rfl<|A0 (D0 rfl hg25 rfl) rfl<|ge 3 (by rw [hg25]; rfl) rfl rfl
 refine qm rfl<|gp 3 134 (.b (((((((((((x3.2 == 0) && (x4.2 == 0)) && (x5.2 == 0)) && (x6.2.2 == 0)) && (x8.2 == 9)) && (x10.2 == 0)) && (x12.2 == 0)) && (x13.2 == 0)) && (x14.2 == 0)) && (x15.2 == 0)) && (x16.2.2 == 0))) 131 rfl rfl (fun hg26=>?_) (fun hg26=>?_) ?_
 ·exact gT rfl hg26<|qm rfl<|gT rfl hg26<|A0 (F4 rfl rfl) rfl<|A0 (C9 rfl hg26 rfl) rfl<|ge 3 (by rw [hg26]; rfl) rfl rfl
 ·exact nT rfl hg26 rfl<|nT rfl hg26 rfl<|A0 (D0 rfl hg26 rfl) rfl<|ge 3 (by rw [hg26]; rfl) rfl rfl
 refine qm rfl<|gp 4 139 (.b x29) 135 rfl rfl (fun hg27=>?_) (fun hg27=>?_) ?_
 ·refine oB (bt hx29 hg27) fun x28 hx28 hx29=>?_
  obtain rfl:=os hx29
  exact gT rfl hg27<|A0 (C0 rfl rfl rfl) rfl<|gT rfl hg27<|A15 (rs:=[(.agg (D6 x28))]) rfl rfl (M1 rfl (M1 rfl A3o)) (A1 rfl (A1 rfl B7)) ((T3 hx28).frz)<|gT rfl hg27<|A0 (C2r (a:=D6 x3.1) (b:=D6 x28) rfl rfl rfl rfl (A1v (A1v B3d))) rfl<|A0 (C9 rfl hg27 rfl) rfl<|ge 4 rfl rfl rfl
 ·obtain rfl:=os (bf hx29 hg27)
  exact nT rfl hg27 rfl<|nT rfl hg27 rfl<|nT rfl hg27 rfl<|A0 (D0 rfl hg27 rfl) rfl<|ge 4 rfl rfl rfl
 refine qm rfl<|gp 3 143 (.b (x29 && (x4.1 == 1))) 140 rfl rfl (fun hg30=>?_) (fun hg30=>?_) ?_
 ·exact gT rfl hg30<|qm rfl<|gT rfl hg30<|A0 (F4 rfl rfl) rfl<|A0 (C9 rfl hg30 rfl) rfl<|ge 3 (by rw [hg30]; rfl) rfl rfl
 ·exact nT rfl hg30 rfl<|nT rfl hg30 rfl<|A0 (D0 rfl hg30 rfl) rfl<|ge 3 (by rw [hg30]; rfl) rfl rfl
 refine qm rfl<|gp 3 147 (.b ((x29 && (x4.1 == 1)) && (x5.1 == 0))) 144 rfl rfl (fun hg31=>?_) (fun hg31=>?_) ?_
 ·exact gT rfl hg31<|qm rfl<|gT rfl hg31<|A0 (F4 rfl rfl) rfl<|A0 (C9 rfl hg31 rfl) rfl<|ge 3 (by rw [hg31]; rfl) rfl rfl
 ·exact nT rfl hg31 rfl<|nT rfl hg31 rfl<|A0 (D0 rfl hg31 rfl) rfl<|ge 3 (by rw [hg31]; rfl) rfl rfl
 refine qm rfl<|gp 5 153 (.b x35) 148 rfl rfl (fun hg32=>?_) (fun hg32=>?_) ?_
 ·refine oB (bt hx35 hg32) fun x33 hx33 hx35=>oB hx35 fun x34 hx34 hx35=>?_
  obtain rfl:=os hx35
  exact gT rfl hg32<|A0 (C0 rfl rfl rfl) rfl<|gT rfl hg32<|A0 (L4 (rows:=List.map cI [(-1),0,2]) rfl rfl (F5 (fun _=>rfl) _)) rfl<|gT rfl hg32<|A15 (rs:=[(.agg (B4 x33))]) rfl rfl (M1 rfl (M1 rfl A3o)) (A1 rfl (A1 rfl B7)) ((A1l hx33).frz)<|gT rfl hg32<|B3 (rs:=[.b x34]) rfl rfl (A1 (D1 rfl) (A1 (D1 rfl) B7)) ((B10 hx34).frz)<|A0 (C9 rfl hg32 rfl) rfl<|ge 5 rfl rfl rfl
 ·obtain rfl:=os (bf hx35 hg32)
  exact nT rfl hg32 rfl<|nT rfl hg32 rfl<|nT rfl hg32 rfl<|G7 (E2 rfl (by rw [hg32]; rfl)) rfl<|A0 (D0 rfl hg32 rfl) rfl<|ge 5 rfl rfl rfl
 refine qm rfl<|gp 3 157 (.b (x35 && (x6.2.1 == 12))) 154 rfl rfl (fun hg36=>?_) (fun hg36=>?_) ?_
 ·exact gT rfl hg36<|qm rfl<|gT rfl hg36<|A0 (F4 rfl rfl) rfl<|A0 (C9 rfl hg36 rfl) rfl<|ge 3 (by rw [hg36]; rfl) rfl rfl
 ·exact nT rfl hg36 rfl<|nT rfl hg36 rfl<|A0 (D0 rfl hg36 rfl) rfl<|ge 3 (by rw [hg36]; rfl) rfl rfl
 refine qm rfl<|gp 4 162 (.b x39) 158 rfl rfl (fun hg37=>?_) (fun hg37=>?_) ?_
 ·refine oB (bt hx39 hg37) fun x38 hx38 hx39=>?_
  obtain rfl:=os hx39
  exact gT rfl hg37<|qm rfl<|gT rfl hg37<|A0 (L4 (rows:=List.map cI [350,320]) rfl rfl (F5 (fun _=>rfl) _)) rfl<|gT rfl hg37<|B3 (rs:=[.b x38]) rfl rfl (A1 rfl (A1 rfl B7)) ((A21 hx38).frz)<|A0 (C9 rfl hg37 rfl) rfl<|ge 4 rfl rfl rfl
 ·obtain rfl:=os (bf hx39 hg37)
  exact nT rfl hg37 rfl<|nT rfl hg37 rfl<|G7 (E2 rfl (by rw [hg37]; rfl)) rfl<|A0 (D0 rfl hg37 rfl) rfl<|ge 4 rfl rfl rfl
 refine qm rfl<|gp 4 167 (.b x42) 163 rfl rfl (fun hg40=>?_) (fun hg40=>?_) ?_
 ·refine oB (bt hx42 hg40) fun x41 hx41 hx42=>?_
  obtain rfl:=os hx42
  exact gT rfl hg40<|qm rfl<|gT rfl hg40<|A0 (L4 (rows:=List.map cI [0]) rfl rfl (F5 (fun _=>rfl) _)) rfl<|gT rfl hg40<|B3 (rs:=[.b x41]) rfl rfl (A1 rfl (A1 rfl B7)) ((A21 hx41).frz)<|A0 (C9 rfl hg40 rfl) rfl<|ge 4 rfl rfl rfl
 ·obtain rfl:=os (bf hx42 hg40)
  exact nT rfl hg40 rfl<|nT rfl hg40 rfl<|G7 (E2 rfl (by rw [hg40]; rfl)) rfl<|A0 (D0 rfl hg40 rfl) rfl<|ge 4 rfl rfl rfl
 refine qm rfl<|gp 4 172 (.b x45) 168 rfl rfl (fun hg43=>?_) (fun hg43=>?_) ?_
 ·refine oB (bt hx45 hg43) fun x44 hx44 hx45=>?_
  obtain rfl:=os hx45
  exact gT rfl hg43<|qm rfl<|gT rfl hg43<|A0 (L4 (rows:=List.map cI [0]) rfl rfl (F5 (fun _=>rfl) _)) rfl<|gT rfl hg43<|B3 (rs:=[.b x44]) rfl rfl (A1 rfl (A1 rfl B7)) ((A21 hx44).frz)<|A0 (C9 rfl hg43 rfl) rfl<|ge 4 rfl rfl rfl
 ·obtain rfl:=os (bf hx45 hg43)
  exact nT rfl hg43 rfl<|nT rfl hg43 rfl<|G7 (E2 rfl (by rw [hg43]; rfl)) rfl<|A0 (D0 rfl hg43 rfl) rfl<|ge 4 rfl rfl rfl
 refine qm rfl<|gp 4 177 (.b (x45 && ((List.length x14.1:Int) == 0))) 173 rfl rfl (fun hg46=>?_) (fun hg46=>?_) ?_
 ·exact gT rfl hg46<|qm rfl<|gT rfl hg46<|A0 (E0 (f:=cI) rfl) rfl<|gT rfl hg46<|A0 (F4 rfl rfl) rfl<|A0 (C9 rfl hg46 rfl) rfl<|ge 4 (by rw [hg46]; rfl) rfl rfl
 ·exact nT rfl hg46 rfl<|nT rfl hg46 rfl<|nT rfl hg46 rfl<|A0 (D0 rfl hg46 rfl) rfl<|ge 4 (by rw [hg46]; rfl) rfl rfl
 refine qm rfl<|gp 3 181 (.b ((x45 && ((List.length x14.1:Int) == 0)) && (x15.1 == 1))) 178 rfl rfl (fun hg47=>?_) (fun hg47=>?_) ?_
 ·exact gT rfl hg47<|qm rfl<|gT rfl hg47<|A0 (F4 rfl rfl) rfl<|A0 (C9 rfl hg47 rfl) rfl<|ge 3 (by rw [hg47]; rfl) rfl rfl
 ·exact nT rfl hg47 rfl<|nT rfl hg47 rfl<|A0 (D0 rfl hg47 rfl) rfl<|ge 3 (by rw [hg47]; rfl) rfl rfl
 refine qm rfl<|gp 3 185 (.b (((x45 && ((List.length x14.1:Int) == 0)) && (x15.1 == 1)) && (x16.1 == 1))) 182 rfl rfl (fun hg48=>?_) (fun hg48=>?_) ?_
 ·exact gT rfl hg48<|qm rfl<|gT rfl hg48<|A0 (F4 rfl rfl) rfl<|A0 (C9 rfl hg48 rfl) rfl<|ge 3 (by rw [hg48]; rfl) rfl rfl
 ·exact nT rfl hg48 rfl<|nT rfl hg48 rfl<|A0 (D0 rfl hg48 rfl) rfl<|ge 3 (by rw [hg48]; rfl) rfl rfl
 refine qm rfl<|gp 3 189 (.b ((((x45 && ((List.length x14.1:Int) == 0)) && (x15.1 == 1)) && (x16.1 == 1)) && (x16.2.1 == 0))) 186 rfl rfl (fun hg49=>?_) (fun hg49=>?_) ?_
 ·exact gT rfl hg49<|qm rfl<|gT rfl hg49<|A0 (F4 rfl rfl) rfl<|A0 (C9 rfl hg49 rfl) rfl<|ge 3 (by rw [hg49]; rfl) rfl rfl
 ·exact nT rfl hg49 rfl<|nT rfl hg49 rfl<|A0 (D0 rfl hg49 rfl) rfl<|ge 3 (by rw [hg49]; rfl) rfl rfl
 refine qm rfl<|es (ra1 rfl)<|C4 ?_
 obtain rfl:=os h
 exact retq trivial (A9 rfl B6) (A4 rfl B5) (A2 A5 B1)
end Rm
end
section
set_option maxRecDepth 100000
set_option maxHeartbeats 0
namespace Rm
open Go Am
theorem R9:K6 = some true:= by decide +kernel
end Rm
end
section
set_option maxRecDepth 100000
set_option maxHeartbeats 0
namespace Rm
open Go Am Go.Proofs.YtbheamjhjgoccaaDoor.Cd
end Rm
end
section
namespace Rm
open Go Am
def R4 (w:Span) (f:RoFigure):Int:=if f.Cracks≤w.Lo∧w.Hi≤f.Slumps then 1 else if f.Cracks > w.Hi∨w.Lo > f.Slumps then 2 else 0
theorem C2d {h:RoHouse} (ok:HOk h) {f p l:Nat} (hf:f < h.Figures.length) (hp:p < h.Places.length) (hl:l < 16):P1 ⟨h⟩ (f:Int) (p:Int) (l:Int) = some (R4 (warm h p l) h.Figures[f]!):= by
 have b:=A9p ok hp l
 have g:=(ok.figure _ (J8 hf)).bears
 unfold P1
 rw [B5u ok hp hl,F6 hf]
 simp only [Option.bind_some]
 generalize warm h p l = w at b ⊢
 generalize h.Figures[f]! = r at g ⊢
 unfold R4 B2m A88
 by_cases c1:r.Cracks≤w.Lo
 ·by_cases c2:w.Hi≤r.Slumps
  ·simp [c1,c2,show ¬ (r.Cracks > w.Lo) by omega,show ¬ (r.Slumps < w.Hi) by omega]
  ·by_cases c3:w.Lo > r.Slumps
   ·simp [c2,c3,show ¬ (r.Cracks > w.Lo) by omega,show (r.Slumps < w.Hi) by omega,show ¬ (r.Slumps = w.Hi) by omega]
   ·simp [c2,c3,show ¬ (r.Cracks > w.Lo) by omega,show (r.Slumps < w.Hi) by omega,show ¬ (r.Slumps = w.Hi) by omega,show ¬ (r.Cracks > w.Hi) by omega]
 ·by_cases c2:w.Hi≤r.Slumps
  ·by_cases c3:r.Cracks > w.Hi
   ·simp [c1,c3,show (r.Cracks > w.Lo) by omega,show ¬ (r.Slumps < w.Hi) by omega,show ¬ (r.Cracks = w.Lo) by omega]
   ·simp [c1,c3,show (r.Cracks > w.Lo) by omega,show ¬ (r.Slumps < w.Hi) by omega,show ¬ (r.Cracks = w.Lo) by omega,show ¬ (w.Lo > r.Slumps) by omega]
  ·have h1:¬ (r.Cracks > r.Slumps):= by omega
   simp [c1,h1,show (r.Cracks > w.Lo) by omega,show (r.Slumps < w.Hi) by omega,show ¬ (r.Cracks = w.Lo) by omega,show ¬ (w.Lo > r.Slumps) by omega,show ¬ (r.Cracks > w.Hi) by omega]
def A8y (lo c s:Int) (i:Nat):Int:=max 0 (min (lo + i) (s + 1) - max lo c)
theorem C0o {h:RoHouse} {f:RoFigure} {p l:Int} {w:Span} (hw:A09 h p l = some w) (b:-1000≤w.Lo∧w.Lo≤w.Hi∧w.Hi≤1000) (g:-1000≤f.Cracks∧f.Cracks≤f.Slumps∧f.Slumps≤1000):N1 h f p l = some (R4 w f):= by
 unfold N1
 rw [hw]
 simp only [Option.bind_some]
 have l1:=J4 (b:=W5 f w) (fun i=>(A8y w.Lo f.Cracks f.Slumps i,(i:Int),w.Lo + i)) (w.Hi - w.Lo + 1).toNat (r:=(A8y w.Lo f.Cracks f.Slumps (w.Hi - w.Lo + 1).toNat,((w.Hi - w.Lo + 1).toNat:Int))) (by omega) (fun i hi=>by
  unfold W5
  simp only []
  have hc:0≤A8y w.Lo f.Cracks f.Slumps i∧A8y w.Lo f.Cracks f.Slumps i≤3000:= by unfold A8y; omega
  rw [if_pos (by rw [decide_eq_true_eq]; omega),within5]
  simp only [Option.bind_some]
  rw [E4 (n:=(i:Int) + 1) (by omega),E4 (n:=w.Lo + i + 1) (by omega),E4 (n:=A8y w.Lo f.Cracks f.Slumps i + 1) (by omega)]
  have e2:w.Lo + (i:Int) + 1 = w.Lo + ((i + 1:Nat):Int):= by omega
  rw [e2]
  cases ho:out f.Cracks f.Slumps (w.Lo + i) with
  | true =>
   have:¬ (f.Cracks≤w.Lo + i∧w.Lo + i≤f.Slumps):=fun h=>by rw [Q7.mpr h] at ho; cases ho
   have e1:A8y w.Lo f.Cracks f.Slumps (i + 1) = A8y w.Lo f.Cracks f.Slumps i:= by unfold A8y; omega
   rw [e1]; rfl
  | false =>
   have:=Q7.mp ho
   have e1:A8y w.Lo f.Cracks f.Slumps (i + 1) = A8y w.Lo f.Cracks f.Slumps i + 1:= by unfold A8y; omega
   rw [e1]; rfl) (by
  unfold W5
  simp only []
  rw [if_neg (by rw [decide_eq_true_eq]; omega)])
 have l0:(A8y w.Lo f.Cracks f.Slumps 0,((0:Nat):Int),w.Lo + ((0:Nat):Int)) = (0,0,w.Lo):= by
  have:A8y w.Lo f.Cracks f.Slumps 0 = 0:= by unfold A8y; omega
  rw [this,Int.natCast_zero,Int.add_zero]
 have l1:loop (W5 f w) (A8y w.Lo f.Cracks f.Slumps 0,((0:Nat):Int),w.Lo + ((0:Nat):Int)) = some (A8y w.Lo f.Cracks f.Slumps (w.Hi - w.Lo + 1).toNat,((w.Hi - w.Lo + 1).toNat:Int)):=l1
 rw [l0] at l1
 rw [l1]
 simp only [Option.bind_some]
 unfold R4
 have hc:A8y w.Lo f.Cracks f.Slumps (w.Hi - w.Lo + 1).toNat = max 0 (min (w.Hi + 1) (f.Slumps + 1) - max w.Lo f.Cracks):= by
  unfold A8y
  congr 3
  omega
 rw [hc]
 by_cases c1:f.Cracks≤w.Lo∧w.Hi≤f.Slumps
 ·rw [if_pos c1,if_pos (by rw [beq_iff_eq]; omega)]
 ·rw [if_neg c1,if_neg (by rw [beq_iff_eq]; omega)]
  by_cases c2:f.Cracks > w.Hi∨w.Lo > f.Slumps
  ·rw [if_pos c2,if_pos (by rw [beq_iff_eq]; omega)]
  ·rw [if_neg c2,if_neg (by rw [beq_iff_eq]; omega)]
theorem A8t {h:RoHouse} (ok:HOk h) {f:RoFigure} (hf:FiOk f) {p l:Nat} (hp:p < h.Places.length) (hl:l < 16):N1 h f (p:Int) (l:Int) = some (R4 (warm h p l) f):= by
 have b:=A9p ok hp l
 have g:=hf.bears
 exact C0o (B6f ok hp hl) (by omega) (by omega)
theorem A7x {h:RoHouse} (ok:HOk h):1≤2 ^ h.Stoves.toNat∧2 ^ h.Stoves.toNat≤8:= by
 have:=ok.s
 exact ⟨Nat.pow_pos (by decide),Nat.le_trans (Nat.pow_le_pow_right (by decide) (show h.Stoves.toNat≤3 by omega)) (by decide)⟩
theorem D24 {h:RoHouse} (ok:HOk h):B4n .i64 1 h.Stoves = some ((2 ^ h.Stoves.toNat:Nat):Int):= by
 have:=ok.s
 have e:=shl1 h.Stoves.toNat (by omega)
 rwa [Int.toNat_of_nonneg ok.s.1] at e
theorem D1m {h:RoHouse} (ok:HOk h):A0c h.Stoves = some ((2 ^ h.Stoves.toNat:Nat):Int):= by
 have:=ok.s
 have e:=C7y h.Stoves.toNat (by omega)
 rwa [Int.toNat_of_nonneg ok.s.1] at e
end Rm
end
section
set_option maxRecDepth 100000
set_option maxHeartbeats 0
namespace Rm
open Go Am Go.Proofs.YtbheamjhjgoccaaDoor.Cd
end Rm
end
section
namespace Rm
open Go Am
def V8 (l:List Int) (i:Nat):Bool:=l[i]! != -1 && (l.take i).any (· == l[i]!)
def dup (l:List Int):Bool:=(first (fun i=>if V8 l i then some () else none) l.length).isSome
def e (p:List Int) (i:Nat):Int:=if i < p.length then p[i]! + 1 else 0
def enc (p:List Int):Ar5 Int:=⟨e p 0,e p 1,e p 2,e p 3,e p 4⟩
structure PV (h:RoHouse) (p:List Int):Prop where
 len:p.length = h.Figures.length
 bd:∀i,i < p.length→-1≤p[i]!∧p[i]! < (h.Places.length:Int)
def arr (f:Nat→Int):Ar4 Int:=⟨f 0,f 1,f 2,f 3⟩
def gd (m:List (Int × Int)) (c:Int):Int:=(kget m c).getD 0
def A49 (h:RoHouse) (p:List Int) (n:Nat):Int:=iter (fun i s=>s + if i < p.length∧p[i]! ≠ -1 then h.Figures[i]!.Worth else 0) n 0
def worth (h:RoHouse) (p:List Int):Int:=A49 h p p.length
def A4n (h:RoHouse) (l:Nat) (p:List Int) (i:Nat):Bool:=p[i]! == -1 || R4 (warm h p[i]!.toNat l) h.Figures[i]! == 1
def A2f (h:RoHouse) (l:Nat) (p:List Int):Bool:=(List.range p.length).all (A4n h l p)
def A5v (p:List Int) (i:Nat):Prop:=i < p.length∧p[i]! ≠ -1
def left (h:RoHouse) (l:Nat) (p:List Int) (i:Nat):Int:=A88 ((warm h p[i]!.toNat l).Lo - h.Figures[i]!.Cracks) (h.Figures[i]!.Slumps - (warm h p[i]!.toNat l).Hi)
instance (p:List Int) (i:Nat):Decidable (A5v p i):=inferInstanceAs (Decidable (_∧_))
end Rm
end
section
set_option maxRecDepth 100000
set_option maxHeartbeats 0
namespace Rm
open Go Am Go.Proofs.YtbheamjhjgoccaaDoor.Cd
def Y8 (a0:RoHouse):Option Bool :=
 (W1 a0).bind fun x1 =>
 some (x1.2.2 == 0)
theorem A12 {c:Sc} {H:A6} {a0:RoHouse} {r:Bool} (h:Y8 a0 = some r) :
  E6 tab c H (.fn (.func 43) [] []) [(.agg (A3 a0))] [.b r]:= by
 unfold Y8 at h
 refine cE rfl rfl<|sg 0 rfl<|A0 (E9 (cs:=A3 a0) rfl rfl rfl) rfl<|qm rfl<|es (ra1 rfl)<|s0<|oB h fun x1 hx1 h=>A0 (C0 rfl rfl rfl) rfl<|B3 (rs:=[.i x1.1,.i x1.2.1,.i x1.2.2]) rfl rfl (A1 (D1 rfl) B7) ((A0n hx1).frz)<|qm rfl<|A0 (A8 rfl rfl) rfl<|A0 (A8 rfl rfl) rfl<|A0 (A8 rfl rfl) rfl<|qm rfl<|qm rfl<|qm rfl<|es (ra1 rfl)<|s0<|qm rfl<|A0 (F4 rfl rfl) rfl<|qm rfl<|es (ra1 rfl)<|C4 ?_
 obtain rfl:=os h
 exact retq trivial (A9 rfl B6) (A4 rfl B5) (A2 A5 B1)
end Rm
end
section
namespace Rm
open Go Am
theorem B4c {a b:Int} (ha:0≤a) (hb:0 < b):∃r,C25 a b = some r∧0≤r∧r < b:= by
 unfold C25
 rw [if_neg (by omega)]
 exact ⟨a.tmod b,rfl,Int.tmod_nonneg _ ha,Int.tmod_lt_of_pos _ hb⟩
theorem B00 (h:RoHouse):Y8 h = some ((check h).2.2 == 0):= by
 unfold Y8
 rw [X0]; rfl
theorem C1s {h:RoHouse} (ok:HOk h) {b:Int × Int→Option ((Int × Int) ⊕ Int)} (hb:∀s,b s = if (decide (s.2 < h.Stoves)) = true then some (.inl ((w64 (2 * s.1)),(w64 (s.2 + 1)))) else some (.inr s.1)):loop b (1,0) = some ((2 ^ h.Stoves.toNat:Nat):Int):= by
 have e:=D1m ok
 unfold A0c at e
 have hbe:b = A0d h.Stoves:= by
  funext s
  rw [hb]; rfl
 rw [hbe]
 cases hl:loop (A0d h.Stoves) (1,0) with
 | none=>rw [hl] at e; cases e
 | some r=>rw [hl] at e; exact e
structure AnyOk (h:RoHouse) (safe:Bool) (p:RoPlan):Prop where
 pv:PV h p.At
 lit:∃l:Nat,p.Lit = l∧l < 2 ^ h.Stoves.toNat
 dup:dup p.At = false
 safe:safe = true→A2f h p.Lit.toNat p.At = true
theorem C72 {n:Int} (h:(Lit.int .u8 n).wf = true):0≤n∧n < 256:= by
 rw [Lit.wf,Bool.and_eq_true,decide_eq_true_eq,decide_eq_true_eq] at h
 have h1:IntKind.u8.min = 0:=rfl
 have h2:IntKind.u8.max = 255:=rfl
 omega
theorem D0w (r:List AV) (h:SatL [.int .u8] r):∃x:Int,r = [.lit (.int .u8 x)]∧(0≤x∧x < 256):= by
 simp only [SatL,Sat] at h
 obtain ⟨x1,q1,rfl,⟨n1,rfl,hw⟩,rfl⟩:=h
 exact ⟨n1,rfl,C72 hw⟩
end Rm
end
section
set_option maxRecDepth 100000
set_option maxHeartbeats 0
namespace Rm
open Go Am Go.Proofs.YtbheamjhjgoccaaDoor.Cd
def X1 (a0:RoHouse) (a1:Int) (a2:Int) (s1:Int):Option (Int ⊕ (Bool ⊕ Unit)) :=
 if (decide (s1 < (List.length a0.Places:Int))) = true then
  (idx a0.Figures a1).bind fun x4 =>
  (N1 a0 x4 s1 a2).bind fun x5 =>
  if (x5 == 1) = true then
  some (.inr (.inl true))
  else
  some (.inl (w64 (s1 + 1)))
 else
  some (.inr (.inr ()))
def R3 (a0:RoHouse) (a1:Int) (a2:Int):Option Bool :=
 (loop (X1 a0 a1 a2) 0).bind fun (o7:(Bool ⊕ Unit)) =>
 match o7 with
 | (.inl vo7_0) =>
  some vo7_0
 | (.inr vo7_1) =>
  some false
theorem A07 {c:Sc} {H:A6} {a0:RoHouse} {a1:Int} {a2:Int} {r:Bool} (h:R3 a0 a1 a2 = some r) :
  E6 tab c H (.fn (.func 60) [] []) [(.agg (A3 a0)),.i a1,.i a2] [.b r]:= by
 unfold R3 at h
 refine cE rfl rfl<|sg 0 rfl<|A0 (E9 (cs:=A3 a0) rfl rfl rfl) rfl<|qm rfl<|es (ra3 rfl rfl rfl)<|B8<|s0<|qm rfl<|es (ra4 rfl rfl rfl rfl)<|C7<|oB h fun o7 ho7 h=>wl (fun s1=>[(1,.i a1),(2,.i a2),(3,(.ptr (H.length + 0) 0)),(7,.i s1)]) (fun (q2:Unit) s1=>[(.cells (A3 a0))]) 1 (fun r e s' H'=>(match r with | (.inl v)=>e = .ret∧RetQ H [.tmp 6] [.b v] e s' H' | (.inr v)=>PX 0 [] (H++[(.cells (A3 a0))]) e s' H':Prop)) () ho7 rfl rfl (fun _ _=>rfl) (fun _=>rfl) rfl (fun s1=>(bdc A5 (bdc A5 (bdc (D8 rfl) (bdc A5 bdn))))) (fun q2 s1 ys1 hs1=>?_) ?_
 ·unfold X1 at hs1
  refine B8<|s0<|qm rfl<|A0 (C5 rfl) rfl<|A0 (C3 rfl rfl rfl) rfl<|A0 (E0 (f:=C2) rfl) rfl<|A0 (G1 rfl rfl) rfl<|es (ra5 rfl rfl rfl rfl rfl)<|wi hs1 rfl (fun hc3 hs1=>?_) fun hc3 hs1=>?_
  ·refine C1<|B8<|C7<|s0<|oB hs1 fun x4 hx4 hs1=>oB hs1 fun x5 hx5 hs1=>A0 (C0 rfl rfl rfl) rfl<|A0 (C5 rfl) rfl<|A0 (C3 rfl rfl rfl) rfl<|qm rfl<|A0 (F0 (f:=B2) rfl rfl hx4) rfl<|A0 (R7 rfl rfl) rfl<|qm rfl<|qm rfl<|B3 (rs:=[.i x5]) rfl rfl (A1 (D1 rfl) (A1 (D1 rfl) (A1 rfl (A1 rfl B7)))) ((W4 hx5).frz)<|A0 (F4 rfl rfl) rfl<|es (ra5 rfl rfl rfl rfl rfl)<|wi hs1 rfl (fun hc6 hs1=>?_) fun hc6 hs1=>?_
   ·refine s0<|qm rfl<|es (ra1 rfl)<|C4 ?_
    obtain rfl:=os hs1
    exact lx rfl (And.intro rfl (retq trivial (A9 rfl B6) (A4 rfl B5) (A2 A5 B1))) (Sub.refl _)
   ·refine C1<|r0<|qm rfl<|A0 (E3 rfl rfl) rfl<|qm rfl<|en (ra4 rfl rfl rfl rfl) ?_
    cases hs1
    exact lnT () rfl (su4 rfl rfl rfl rfl)
  ·refine F1 ?_
   obtain rfl:=os hs1
   exact lx rfl px (.nil _)
 ·rcases o7 with vo7_0 | vo7_1
  ·rintro e s' H' - ⟨rfl,hret⟩
   cases h
   exact hret
  ·rintro e s' H' - ⟨rfl,rfl,rfl⟩
   refine s0<|qm rfl<|es (ra1 rfl)<|C4 ?_
   obtain rfl:=os h
   exact retq trivial (A9 rfl B6) (A4 rfl B5) (A2 A5 B1)
def A3m (a0:RoHouse) (s9:(Int × Int)):Option ((Int × Int) ⊕ Int) :=
 if (decide (s9.2 < a0.Stoves)) = true then
  some (.inl ((w64 (2 * s9.1)),(w64 (s9.2 + 1))))
 else
  some (.inr s9.1)
def S6 (a0:RoHouse) (x13:Int) (x14:(Int × Int)) (s28:(Int × Int × Int)):Option ((Int × Int × Int) ⊕ (Int × Int)) :=
 if (decide (s28.2.2 < a0.Stoves)) = true then
  (A1n x14.1 s28.2.2).bind fun x31 =>
  (if x31 = true then
   some (w64 (s28.1 + 1))
  else
   some s28.1).bind fun (p32:Int) =>
  (A1n x13 s28.2.2).bind fun x34 =>
  if x34 = true then
  some (.inl (p32,(w64 (s28.2.1 + 1)),(w64 (s28.2.2 + 1))))
  else
  some (.inl (p32,s28.2.1,(w64 (s28.2.2 + 1))))
 else
  some (.inr (s28.1,s28.2.1))
def A3d (a0:RoHouse) (a1:Int) (a2:Int):Option Bool :=
 (Y8 a0).bind fun x1 =>
 if ((!x1) || ((List.length a0.Figures:Int) == 0)) = true then
  (A2c a0 0).bind fun x4 =>
  (if (x4.2 != 0) = true then
  (K6).bind fun x6 =>
  some x6
  else
  some false).bind fun x7 =>
  some x7
 else
  (C25 (w64 a1) (List.length a0.Figures:Int)).bind fun x8 =>
  (loop (A3m a0) (1,0)).bind fun (o12:Int) =>
  (C25 (w64 a2) o12).bind fun x13 =>
  (A2c a0 x8).bind fun x14 =>
  if (x14.2 != 0) = true then
  (if ((x14.2 == 9) && (x14.1 == 0)) = true then
   (R3 a0 x8 x13).bind fun x18 =>
   some (!x18)
  else
   some false).bind fun x19 =>
  (if x19 = true then
   (K6).bind fun x21 =>
   some x21
  else
   some false).bind fun x22 =>
  some x22
  else
  (if ((decide (x14.1 < 0)) || (decide (x14.1 ≥ o12))) = true then
   some true
  else
   (R3 a0 x8 x14.1).bind fun x25 =>
   some (!x25)).bind fun x26 =>
  if x26 = true then
   some false
  else
   (loop (S6 a0 x13 x14) (0,0,0)).bind fun (o36:(Int × Int)) =>
   (if ((decide (o36.2 > o36.1)) || ((o36.2 == o36.1) && (decide (x13 ≥ x14.1)))) = true then
   some true
   else
   (R3 a0 x8 x13).bind fun x40 =>
   some (!x40)).bind fun x41 =>
   (if x41 = true then
   (K6).bind fun x43 =>
   some x43
   else
   some false).bind fun x44 =>
   some x44
theorem B2r {c:Sc} {H:A6} (hscv:Z2 c H = true) {a0:RoHouse} {a1:Int} {a2:Int} {r:Bool} (h:A3d a0 a1 a2 = some r) :
  E6 tab c H (.fn (.func 15) [] []) [(.agg (A3 a0)),(.lit (.int .u8 a1)),(.lit (.int .u8 a2))] [.b r]:= by
 unfold A3d at h
 refine cE rfl rfl<|sg 0 rfl<|A0 (E9 (cs:=A3 a0) rfl rfl rfl) rfl<|qm rfl<|es (ra3 rfl rfl rfl)<|B8<|s0<|oB h fun x1 hx1 h=>A0 (C0 rfl rfl rfl) rfl<|B3 (rs:=[.b x1]) rfl rfl (A1 (D1 rfl) B7) ((A12 hx1).frz)<|A0 (P9 rfl) rfl<|qm rfl<|gp 5 26 (.b ((!x1) || ((List.length a0.Figures:Int) == 0))) 21 rfl rfl (fun hg2=>?_) (fun hg2=>?_) ?_
 ·exact nF rfl hg2 rfl<|nF rfl hg2 rfl<|nF rfl hg2 rfl<|nF rfl hg2 rfl<|A0 (C9 rfl hg2 rfl) rfl<|ge 5 (by rw [hg2]; rfl) rfl rfl
 ·exact gF rfl hg2<|A0 (C5 rfl) rfl<|gF rfl hg2<|A0 (C3 rfl rfl rfl) rfl<|gF rfl hg2<|A0 (E0 (f:=B2) rfl) rfl<|gF rfl hg2<|A0 (F4 rfl rfl) rfl<|A0 (D0 rfl hg2 rfl) rfl<|ge 5 (by rw [hg2]; rfl) rfl rfl
 refine es (ra4 rfl rfl rfl rfl)<|wi h rfl (fun hc3 h=>?_) fun hc3 h=>?_
 ·refine s0<|oB h fun x4 hx4 h=>A0 (C0 rfl rfl rfl) rfl<|B3 (rs:=[.i x4.1,.i x4.2]) rfl rfl (A1 (D1 rfl) (A1 rfl B7)) ((A47 hx4).frz)<|qm rfl<|A0 (A8 rfl rfl) rfl<|A0 (A8 rfl rfl) rfl<|qm rfl<|qm rfl<|es (ra1 rfl)<|s0<|oB h fun x7 hx7 h=>qm rfl<|A0 (G2 rfl rfl) rfl<|qm rfl<|gp 2 36 (.b x7) 34 rfl rfl (fun hg5=>?_) (fun hg5=>?_) ?_
  ·refine oB (bt hx7 hg5) fun x6 hx6 hx7=>?_
   obtain rfl:=os hx7
   exact gT rfl hg5<|B3 (rs:=[.b x6]) rfl rfl B7 ((K8 (A6v hscv) hx6).frz)<|A0 (C9 rfl hg5 rfl) rfl<|ge 2 rfl rfl rfl
  ·obtain rfl:=os (bf hx7 hg5)
   exact G7 (E2 rfl (by rw [hg5]; rfl)) rfl<|A0 (D0 rfl hg5 rfl) rfl<|ge 2 rfl rfl rfl
  refine qm rfl<|es (ra1 rfl)<|C4 ?_
  obtain rfl:=os h
  exact retq trivial (A9 rfl B6) (A4 rfl B5) (A2 A5 B1)
 ·refine C1<|s0<|oB h fun x8 hx8 h=>qm rfl<|A0 (A7u rfl) rfl<|A0 (C5 rfl) rfl<|A0 (C3 rfl rfl rfl) rfl<|A0 (E0 (f:=B2) rfl) rfl<|A0 (C4h rfl rfl hx8) rfl<|qm rfl<|es (ra3 rfl rfl rfl)<|s0<|qm rfl<|es (ra4 rfl rfl rfl rfl)<|B8<|s0<|qm rfl<|es (ra5 rfl rfl rfl rfl rfl)<|C7<|oB h fun o12 ho12 h=>wl (fun s9=>[(2,(.lit (.int .u8 a2))),(3,(.ptr (H.length + 0) 0)),(9,.i x8),(10,.i s9.1),(11,.i s9.2)]) (fun (q10:Unit) s9=>[(.cells (A3 a0))]) 1 (fun r e s' H'=>PX 0 [(2,(.lit (.int .u8 a2))),(3,(.ptr (H.length + 0) 0)),(9,.i x8),(10,.i r)] (H++[(.cells (A3 a0))]) e s' H') () ho12 rfl rfl (fun _ _=>rfl) (fun _=>rfl) rfl (fun s9=>(bdc A5 (bdc (D8 rfl) (bdc A5 (bdc A5 (bdc A5 bdn)))))) (fun q10 s9 ys9 hs9=>?_) ?_
  ·unfold A3m at hs9
   refine B8<|s0<|qm rfl<|A0 (C5 rfl) rfl<|A0 (C3 rfl rfl rfl) rfl<|A0 (G1 rfl rfl) rfl<|es (ra6 rfl rfl rfl rfl rfl rfl)<|wi hs9 rfl (fun hc11 hs9=>?_) fun hc11 hs9=>?_
   ·refine C1<|B8<|C7<|r0<|qm rfl<|A0 (C9g rfl rfl) rfl<|qm rfl<|en (ra5 rfl rfl rfl rfl rfl)<|r0<|qm rfl<|A0 (E3 rfl rfl) rfl<|qm rfl<|en (ra5 rfl rfl rfl rfl rfl) ?_
    cases hs9
    exact lnT () rfl (su5 rfl rfl rfl rfl rfl)
   ·refine F1 ?_
    obtain rfl:=os hs9
    exact lx rfl px (su4 rfl rfl rfl rfl)
  ·rintro e s' H' - ⟨rfl,rfl,rfl⟩
   refine s0<|oB h fun x13 hx13 h=>qm rfl<|A0 (A7u rfl) rfl<|qm rfl<|A0 (C4h rfl rfl hx13) rfl<|qm rfl<|es (ra4 rfl rfl rfl rfl)<|s0<|oB h fun x14 hx14 h=>A0 (C0 rfl rfl rfl) rfl<|qm rfl<|B3 (rs:=[.i x14.1,.i x14.2]) rfl rfl (A1 (D1 rfl) (A1 rfl B7)) ((A47 hx14).frz)<|qm rfl<|A0 (A8 rfl rfl) rfl<|A0 (A8 rfl rfl) rfl<|qm rfl<|qm rfl<|es (ra6 rfl rfl rfl rfl rfl rfl)<|B8<|s0<|qm rfl<|A0 (G2 rfl rfl) rfl<|es (ra7 rfl rfl rfl rfl rfl rfl rfl)<|wi h rfl (fun hc15 h=>?_) fun hc15 h=>?_
   ·refine s0<|oB h fun x19 hx19 h=>oB h fun x22 hx22 h=>qm rfl<|A0 (F4 rfl rfl) rfl<|qm rfl<|gp 3 68 (.b ((x14.2 == 9) && (x14.1 == 0))) 65 rfl rfl (fun hg16=>?_) (fun hg16=>?_) ?_
    ·exact gT rfl hg16<|qm rfl<|gT rfl hg16<|A0 (F4 rfl rfl) rfl<|A0 (C9 rfl hg16 rfl) rfl<|ge 3 (by rw [hg16]; rfl) rfl rfl
    ·exact nT rfl hg16 rfl<|nT rfl hg16 rfl<|A0 (D0 rfl hg16 rfl) rfl<|ge 3 (by rw [hg16]; rfl) rfl rfl
    refine qm rfl<|gp 6 75 (.b x19) 69 rfl rfl (fun hg17=>?_) (fun hg17=>?_) ?_
    ·refine oB (bt hx19 hg17) fun x18 hx18 hx19=>?_
     obtain rfl:=os hx19
     exact gT rfl hg17<|A0 (C0 rfl rfl rfl) rfl<|gT rfl hg17<|qm rfl<|gT rfl hg17<|qm rfl<|gT rfl hg17<|B3 (rs:=[.b x18]) rfl rfl (A1 (D1 rfl) (A1 rfl (A1 rfl B7))) ((A07 hx18).frz)<|gT rfl hg17<|A0 (P9 rfl) rfl<|A0 (C9 rfl hg17 rfl) rfl<|ge 6 rfl rfl rfl
    ·obtain rfl:=os (bf hx19 hg17)
     exact nT rfl hg17 rfl<|nT rfl hg17 rfl<|nT rfl hg17 rfl<|G7 (E2 rfl (by rw [hg17]; rfl)) rfl<|nT rfl hg17 rfl<|A0 (D0 rfl hg17 rfl) rfl<|ge 6 rfl rfl rfl
    refine qm rfl<|gp 2 78 (.b x22) 76 rfl rfl (fun hg20=>?_) (fun hg20=>?_) ?_
    ·refine oB (bt hx22 hg20) fun x21 hx21 hx22=>?_
     obtain rfl:=os hx22
     exact gT rfl hg20<|B3 (rs:=[.b x21]) rfl rfl B7 ((K8 (A6v hscv) hx21).frz)<|A0 (C9 rfl hg20 rfl) rfl<|ge 2 rfl rfl rfl
    ·obtain rfl:=os (bf hx22 hg20)
     exact G7 (E2 rfl (by rw [hg20]; rfl)) rfl<|A0 (D0 rfl hg20 rfl) rfl<|ge 2 rfl rfl rfl
    refine qm rfl<|es (ra1 rfl)<|C4 ?_
    obtain rfl:=os h
    exact retq trivial (A9 rfl B6) (A4 rfl B5) (A2 A5 B1)
   ·refine C1<|B8<|s0<|oB h fun x26 hx26 h=>qm rfl<|A0 (G1 rfl rfl) rfl<|qm rfl<|gp 4 85 (.b ((decide (x14.1 < 0)) || (decide (x14.1 ≥ o12)))) 81 rfl rfl (fun hg23=>?_) (fun hg23=>?_) ?_
    ·exact nF rfl hg23 rfl<|nF rfl hg23 rfl<|nF rfl hg23 rfl<|A0 (C9 rfl hg23 rfl) rfl<|ge 4 (by rw [hg23]; rfl) rfl rfl
    ·exact gF rfl hg23<|qm rfl<|gF rfl hg23<|qm rfl<|gF rfl hg23<|A0 (A74 rfl rfl) rfl<|A0 (D0 rfl hg23 rfl) rfl<|ge 4 (by rw [hg23]; rfl) rfl rfl
    refine qm rfl<|gp 6 92 (.b x26) 86 rfl rfl (fun hg24=>?_) (fun hg24=>?_) ?_
    ·obtain rfl:=os (bt hx26 hg24)
     exact nF rfl hg24 rfl<|nF rfl hg24 rfl<|nF rfl hg24 rfl<|G7 (E2 rfl (by rw [hg24]; rfl)) rfl<|nF rfl hg24 rfl<|A0 (C9 rfl hg24 rfl) rfl<|ge 6 rfl rfl rfl
    ·refine oB (bf hx26 hg24) fun x25 hx25 hx26=>?_
     obtain rfl:=os hx26
     exact gF rfl hg24<|A0 (C0 rfl rfl rfl) rfl<|gF rfl hg24<|qm rfl<|gF rfl hg24<|qm rfl<|gF rfl hg24<|B3 (rs:=[.b x25]) rfl rfl (A1 (D1 rfl) (A1 rfl (A1 rfl B7))) ((A07 hx25).frz)<|gF rfl hg24<|A0 (P9 rfl) rfl<|A0 (D0 rfl hg24 rfl) rfl<|ge 6 rfl rfl rfl
    refine es (ra5 rfl rfl rfl rfl rfl)<|wi h rfl (fun hc27 h=>?_) fun hc27 h=>?_
    ·refine s0<|qm rfl<|es (ra1 rfl)<|C4 ?_
     obtain rfl:=os h
     exact retq trivial (A9 rfl B6) (A4 rfl B5) (A2 A5 B1)
    ·refine C1<|s0<|qm rfl<|qm rfl<|es (ra6 rfl rfl rfl rfl rfl rfl)<|B8<|s0<|qm rfl<|es (ra7 rfl rfl rfl rfl rfl rfl rfl)<|C7<|oB h fun o36 ho36 h=>wl (fun s28=>[(3,(.ptr (H.length + 0) 0)),(9,.i x8),(12,.i x13),(13,.i x14.1),(15,.i s28.1),(16,.i s28.2.1),(17,.i s28.2.2)]) (fun (q29:Unit) s28=>[(.cells (A3 a0))]) 1 (fun r e s' H'=>PX 2 [(3,(.ptr (H.length + 0) 0)),(9,.i x8),(12,.i x13),(13,.i x14.1),(15,.i r.1),(16,.i r.2)] (H++[(.cells (A3 a0))]) e s' H') () ho36 rfl rfl (fun _ _=>rfl) (fun _=>rfl) rfl (fun s28=>(bdc (D8 rfl) (bdc A5 (bdc A5 (bdc A5 (bdc A5 (bdc A5 (bdc A5 bdn)))))))) (fun q29 s28 ys28 hs28=>?_) ?_
     ·unfold S6 at hs28
      refine B8<|s0<|qm rfl<|A0 (C5 rfl) rfl<|A0 (C3 rfl rfl rfl) rfl<|A0 (G1 rfl rfl) rfl<|es (ra8 rfl rfl rfl rfl rfl rfl rfl rfl)<|wi hs28 rfl (fun hc30 hs28=>?_) fun hc30 hs28=>?_
      ·refine C1<|B8<|C7<|B8<|s0<|oB hs28 fun x31 hx31 hs28=>qm rfl<|qm rfl<|B3 (rs:=[.b x31]) rfl rfl (A1 rfl (A1 rfl B7)) ((A2l hx31).frz)<|es (ra8 rfl rfl rfl rfl rfl rfl rfl rfl)<|oB hs28 fun p32 hp32 hs28=>A63 (Q1:=fun e s' H'=>e = .normal∧s' = [(3,(.ptr (H.length + 0) 0)),(9,.i x8),(12,.i x13),(13,.i x14.1),(15,.i p32),(16,.i s28.2.1),(17,.i s28.2.2)]∧H' = (H++[(.cells (A3 a0))])) ?_ ?_
       ·refine wi hp32 rfl (fun hc33 hp32=>?_) fun hc33 hp32=>?_
        ·refine r0<|qm rfl<|A0 (E3 rfl rfl) rfl<|qm rfl<|en (ra7 rfl rfl rfl rfl rfl rfl rfl) ?_
         obtain rfl:=os hp32
         exact me (And.intro rfl (And.intro rfl rfl)) (su7 rfl rfl rfl rfl rfl rfl rfl)
        ·refine C1 ?_
         obtain rfl:=os hp32
         exact me (And.intro rfl (And.intro rfl rfl)) (su7 rfl rfl rfl rfl rfl rfl rfl)
       ·rintro e s' H' ⟨rfl,rfl,rfl⟩
        refine s0<|oB hs28 fun x34 hx34 hs28=>qm rfl<|qm rfl<|B3 (rs:=[.b x34]) rfl rfl (A1 rfl (A1 rfl B7)) ((A2l hx34).frz)<|es (ra8 rfl rfl rfl rfl rfl rfl rfl rfl)<|wi hs28 rfl (fun hc35 hs28=>?_) fun hc35 hs28=>?_
        ·refine r0<|qm rfl<|A0 (E3 rfl rfl) rfl<|qm rfl<|en (ra7 rfl rfl rfl rfl rfl rfl rfl)<|r0<|qm rfl<|A0 (E3 rfl rfl) rfl<|qm rfl<|en (ra7 rfl rfl rfl rfl rfl rfl rfl) ?_
         cases hs28
         exact lnT () rfl (su7 rfl rfl rfl rfl rfl rfl rfl)
        ·refine C1<|r0<|qm rfl<|A0 (E3 rfl rfl) rfl<|qm rfl<|en (ra7 rfl rfl rfl rfl rfl rfl rfl) ?_
         cases hs28
         exact lnT () rfl (su7 rfl rfl rfl rfl rfl rfl rfl)
      ·refine F1 ?_
       obtain rfl:=os hs28
       exact lx rfl px (su6 rfl rfl rfl rfl rfl rfl)
     ·rintro e s' H' - ⟨rfl,rfl,rfl⟩
      refine s0<|oB h fun x41 hx41 h=>oB h fun x44 hx44 h=>qm rfl<|qm rfl<|A0 (A1f rfl rfl) rfl<|qm rfl<|gp 9 121 (.b ((decide (o36.2 > o36.1)) || ((o36.2 == o36.1) && (decide (x13 ≥ x14.1))))) 112 rfl rfl (fun hg37=>?_) (fun hg37=>?_) ?_
      ·exact nF rfl hg37 rfl<|nF rfl hg37 rfl<|nF rfl hg37 rfl<|nF rfl hg37 rfl<|nX rfl rfl<|nX rfl rfl<|nX rfl rfl<|nF rfl hg37 rfl<|A0 (C9 rfl hg37 rfl) rfl<|ge 9 (by rw [hg37]; rfl) rfl rfl
      ·refine gF rfl hg37<|qm rfl<|gF rfl hg37<|qm rfl<|gF rfl hg37<|A0 (F4 rfl rfl) rfl<|gF rfl hg37<|qm rfl<|gq 4 120 (.b ((o36.2 == o36.1) && (decide (x13 ≥ x14.1)))) 116 rfl rfl (fun hg38=>?_) (fun hg38=>?_) ?_
       ·exact gT rfl hg38<|qm rfl<|gT rfl hg38<|qm rfl<|gT rfl hg38<|A0 (A74 rfl rfl) rfl<|gF rfl hg37<|A0 (C9 rfl hg38 rfl) rfl<|ge 4 (by rw [hg38]; rfl) rfl rfl
       ·exact nT rfl hg38 rfl<|nT rfl hg38 rfl<|nT rfl hg38 rfl<|gF rfl hg37<|A0 (D0 rfl hg38 rfl) rfl<|ge 4 (by rw [hg38]; rfl) rfl rfl
       exact A0 (D0 rfl hg37 rfl) rfl<|ge 6 (by rw [hg37]; rfl) rfl rfl
      refine qm rfl<|gp 6 128 (.b x41) 122 rfl rfl (fun hg39=>?_) (fun hg39=>?_) ?_
      ·obtain rfl:=os (bt hx41 hg39)
       exact nF rfl hg39 rfl<|nF rfl hg39 rfl<|nF rfl hg39 rfl<|G7 (E2 rfl (by rw [hg39]; rfl)) rfl<|nF rfl hg39 rfl<|A0 (C9 rfl hg39 rfl) rfl<|ge 6 rfl rfl rfl
      ·refine oB (bf hx41 hg39) fun x40 hx40 hx41=>?_
       obtain rfl:=os hx41
       exact gF rfl hg39<|A0 (C0 rfl rfl rfl) rfl<|gF rfl hg39<|qm rfl<|gF rfl hg39<|qm rfl<|gF rfl hg39<|B3 (rs:=[.b x40]) rfl rfl (A1 (D1 rfl) (A1 rfl (A1 rfl B7))) ((A07 hx40).frz)<|gF rfl hg39<|A0 (P9 rfl) rfl<|A0 (D0 rfl hg39 rfl) rfl<|ge 6 rfl rfl rfl
      refine qm rfl<|gp 2 131 (.b x44) 129 rfl rfl (fun hg42=>?_) (fun hg42=>?_) ?_
      ·refine oB (bt hx44 hg42) fun x43 hx43 hx44=>?_
       obtain rfl:=os hx44
       exact gT rfl hg42<|B3 (rs:=[.b x43]) rfl rfl B7 ((K8 (A6v hscv) hx43).frz)<|A0 (C9 rfl hg42 rfl) rfl<|ge 2 rfl rfl rfl
      ·obtain rfl:=os (bf hx44 hg42)
       exact G7 (E2 rfl (by rw [hg42]; rfl)) rfl<|A0 (D0 rfl hg42 rfl) rfl<|ge 2 rfl rfl rfl
      refine qm rfl<|es (ra1 rfl)<|C4 ?_
      obtain rfl:=os h
      exact retq trivial (A9 rfl B6) (A4 rfl B5) (A2 A5 B1)
end Rm
end
section
namespace Rm
open Go Am
def pop (l:Nat):Int:=(if bit l 0 then 1 else 0) + (if bit l 1 then 1 else 0) + (if bit l 2 then 1 else 0) + (if bit l 3 then 1 else 0)
theorem C7q:∀l:Nat,l < 16→U7 (IntKind.u64.wrap (l:Int)) = some (pop l):= by decide +kernel
def somew (h:RoHouse) (f l:Nat):Bool:=(List.range h.Places.length).any fun q=>R4 (warm h q l) h.Figures[f]! == 1
theorem B7h (n:Nat) (p:Nat→Bool):(List.range (n + 1)).any p = ((List.range n).any p || p n):= by
 rw [List.range_succ,List.any_append,List.any_cons,List.any_nil,Bool.or_false]
theorem C4g {h:RoHouse} (ok:HOk h) {f l:Nat} (hf:f < h.Figures.length) (hl:l < 16) (s:Int):loop (A1q h (f:Int) (s,(l:Int))) (s,0) = some (if somew h f l then (l:Int) else s):= by
 have hp:=ok.places
 have l1:=J4 (b:=A1q h (f:Int) (s,(l:Int))) (fun q=>(if (List.range q).any (fun q=>R4 (warm h q l) h.Figures[f]! == 1) then (l:Int) else s,(q:Int))) h.Places.length (r:=if somew h f l then (l:Int) else s) (by omega) (fun q hq=>by
  unfold A1q
  simp only []
  rw [if_pos (by simpa using hq),C2d ok hf hq hl]
  simp only [Option.bind_some]
  rw [E4 (n:=(q:Int) + 1) (by omega),B7h]
  cases R4 (warm h q l) h.Figures[f]! == 1
  ·rw [Bool.or_false,if_neg (by decide)]; rfl
  ·rw [Bool.or_true,if_pos rfl]; rfl) (by
  unfold A1q
  simp only []
  rw [if_neg (by simp)]; rfl)
 exact l1
def A1s (h:RoHouse) (f n:Nat):Int:=iter (fun l s=>if (s < 0∨pop l < pop s.toNat)∧somew h f l = true then (l:Int) else s) n (-1)
theorem B5w (h:RoHouse) (f n:Nat):A1s h f (n + 1) = if (A1s h f n < 0∨pop n < pop (A1s h f n).toNat)∧somew h f n = true then (n:Int) else A1s h f n:=rfl
theorem B4w (h:RoHouse) (f:Nat):∀n,(A1s h f n = -1∧∀ l,l < n→somew h f l = false)∨∃ k:Nat,k < n∧A1s h f n = (k:Int)∧somew h f k = true∧(∀ l,l < n→somew h f l = true→pop k≤pop l)∧∀ l,l < k→somew h f l = true→pop k < pop l
 | 0=>.inl ⟨rfl,fun l hl=>absurd hl (Nat.not_lt_zero l)⟩
 | n + 1=>by
  rw [B5w]
  rcases B4w h f n with ⟨h1,h2⟩ | ⟨k,hk,h1,h2,h3,h4⟩
  ·cases hs:somew h f n with
   | true =>
    right
    rw [if_pos ⟨.inl (by omega),rfl⟩]
    refine ⟨n,Nat.lt_succ_self n,rfl,hs,fun l hl hsl=>?_,fun l hl hsl=>by rw [h2 l hl] at hsl; cases hsl⟩
    by_cases e:l = n
    ·subst e; omega
    ·rw [h2 l (by omega)] at hsl; cases hsl
   | false =>
    left
    rw [if_neg (fun q=>by cases q.2)]
    refine ⟨h1,fun l hl=>?_⟩
    by_cases e:l = n
    ·subst e; exact hs
    ·exact h2 l (by omega)
  ·right
   rw [h1,Int.toNat_natCast]
   by_cases c:pop n < pop k∧somew h f n = true
   ·rw [if_pos ⟨.inr c.1,c.2⟩]
    refine ⟨n,Nat.lt_succ_self n,rfl,c.2,fun l hl hsl=>?_,fun l hl hsl=>?_⟩
    ·by_cases e:l = n
     ·subst e; omega
     ·have:=h3 l (by omega) hsl
      have:=c.1
      omega
    ·have:=h3 l (by omega) hsl
     have:=c.1
     omega
   ·rw [if_neg (fun q=>c ⟨q.1.resolve_left (by omega),q.2⟩)]
    refine ⟨k,by omega,rfl,h2,fun l hl hsl=>?_,h4⟩
    by_cases e:l = n
    ·subst e
     have:¬ pop l < pop k:=fun q=>c ⟨q,hsl⟩
     omega
    ·exact h3 l (by omega) hsl
theorem D1z (h:RoHouse) (f n:Nat):-1≤A1s h f n∧A1s h f n < n:= by
 rcases B4w h f n with ⟨h1,_⟩ | ⟨k,hk,h1,_⟩ <;> omega
def A7i (h:RoHouse) (f:Int):Int × Int :=
 if (check h).2.2 != 0 then (0,(check h).2.2) else
 if out 0 ((h.Figures.length:Int) - 1) f then (0,4) else
 if A1s h f.toNat (2 ^ h.Stoves.toNat) < 0 then (0,9) else (A1s h f.toNat (2 ^ h.Stoves.toNat),0)
theorem C3b {h:RoHouse} (hb:NB h) (f:Int):A2c h f = some (A7i h f):= by
 unfold A2c A7i
 rw [A26 h hb]
 simp only [Option.bind_some]
 by_cases e0:(check h).2.2 = 0
 ·have ok:=A36 e0
  have hf5:=ok.figures
  have hpw:=A7x ok
  rw [if_neg (by simp [e0]),if_neg (by simp [e0]),E4 (by omega),beyond1]
  simp only [Option.bind_some]
  cases ho:out 0 ((h.Figures.length:Int) - 1) f with
  | true=>rfl
  | false =>
   have bo:=Q7.mp ho
   obtain ⟨f',rfl⟩:∃f':Nat,f = f':=⟨f.toNat,by omega⟩
   have hf:f' < h.Figures.length:= by omega
   rw [D24 ok,Int.toNat_natCast]
   simp only [Option.bind_some,Bool.false_eq_true,if_false]
   have l1:=J4 (b:=A1r h (f':Int) ((2 ^ h.Stoves.toNat:Nat):Int)) (fun l=>(A1s h f' l,(l:Int))) (2 ^ h.Stoves.toNat) (r:=A1s h f' (2 ^ h.Stoves.toNat)) (by omega) (fun l hl=>by
    have bb:=D1z h f' l
    unfold A1r
    simp only []
    rw [if_pos (by rw [decide_eq_true_eq]; exact Int.ofNat_lt.mpr hl),E4 (n:=(l:Int) + 1) (by omega),B5w]
    by_cases c:A1s h f' l ≥ 0
    ·rw [if_pos (by rw [decide_eq_true_eq]; exact c)]
     obtain ⟨k,hk⟩:∃k:Nat,A1s h f' l = k:=⟨(A1s h f' l).toNat,by omega⟩
     rw [hk,C7q l (by omega),C7q k (by omega),Int.toNat_natCast]
     simp only [Option.bind_some]
     by_cases c2:pop l ≥ pop k
     ·rw [if_pos (by rw [decide_eq_true_eq]; exact c2),if_neg (fun q=>by have:=q.1.resolve_left (by omega); omega)]; rfl
     ·rw [if_neg (by rw [decide_eq_true_eq]; exact c2),C4g ok hf (by omega)]
      simp only [Option.bind_some]
      cases hs:somew h f' l with
      | true=>rw [if_pos rfl,if_pos ⟨.inr (by omega),rfl⟩]; rfl
      | false=>rw [if_neg (by decide),if_neg (fun q=>by cases q.2)]; rfl
    ·rw [if_neg (by rw [decide_eq_true_eq]; exact c)]
     simp only [Option.bind_some,Bool.false_eq_true,if_false]
     rw [C4g ok hf (by omega)]
     simp only [Option.bind_some]
     cases hs:somew h f' l with
     | true=>rw [if_pos rfl,if_pos ⟨.inl (by omega),rfl⟩]; rfl
     | false=>rw [if_neg (by decide),if_neg (fun q=>by cases q.2)]; rfl) (by
    unfold A1r
    simp only []
    rw [if_neg (by simp)])
   have l1:loop (A1r h (f':Int) ((2 ^ h.Stoves.toNat:Nat):Int)) (-1,0) = _:=l1
   rw [l1]
   simp only [Option.bind_some]
   by_cases c:A1s h f' (2 ^ h.Stoves.toNat) < 0
   ·rw [if_pos (by rw [decide_eq_true_eq]; exact c),if_pos c]
   ·rw [if_neg (by rw [decide_eq_true_eq]; exact c),if_neg c]
 ·rw [if_pos (bne_iff_ne.mpr e0),if_pos (bne_iff_ne.mpr e0)]
theorem A9m {h:RoHouse} (ok:HOk h) {f l:Nat} (hf:f < h.Figures.length) (hl:l < 16):R3 h (f:Int) (l:Int) = some (somew h f l):= by
 have hp:=ok.places
 unfold R3
 have l2:=A7g (b:=X1 h (f:Int) (l:Int)) h.Places.length (fun q=>if R4 (warm h q l) h.Figures[f]! == 1 then some (.inl true) else none) (.inr ()) (by omega) (fun q hq _=>by
  unfold X1
  rw [if_pos (by simpa using hq),F6 hf]
  simp only [Option.bind_some]
  rw [A8t ok (ok.figure _ (J8 hf)) hq hl]
  simp only [Option.bind_some]
  cases R4 (warm h q l) h.Figures[f]! == 1 <;> rfl) (by
  unfold X1
  rw [if_neg (by simp)])
 rw [l2]
 simp only [Option.bind_some]
 unfold somew
 cases hf2:first (fun q=>if R4 (warm h q l) h.Figures[f]! == 1 then some (Sum.inl true:Bool ⊕ Unit) else none) h.Places.length with
 | none =>
  have h0:=J9.mp hf2
  have:((List.range h.Places.length).any fun q=>R4 (warm h q l) h.Figures[f]! == 1) = false:= by
   rw [List.any_eq_false]
   intro q hq
   have:=h0 q (List.mem_range.mp hq)
   intro hc
   rw [if_pos hc] at this; cases this
  rw [this]; rfl
 | some r =>
  obtain ⟨q,hq,h1,_⟩:=U5 hf2
  have hc:(R4 (warm h q l) h.Figures[f]! == 1) = true:= by
   cases hc:R4 (warm h q l) h.Figures[f]! == 1 with
   | true=>rfl
   | false=>rw [hc] at h1; exact absurd h1 (by simp)
  rw [hc,if_pos rfl] at h1
  have:((List.range h.Places.length).any fun q=>R4 (warm h q l) h.Figures[f]! == 1) = true:=List.any_eq_true.mpr ⟨q,List.mem_range.mpr hq,hc⟩
  rw [this,← Option.some.inj h1]; rfl
def C2z (l n:Nat):Int:=iter (fun s a=>if bit l s then a + 1 else a) n 0
theorem B5o (l n:Nat):C2z l (n + 1) = if bit l n then C2z l n + 1 else C2z l n:=rfl
theorem C20 (l:Nat):∀n,0≤C2z l n∧C2z l n≤n
 | 0=>by unfold C2z iter; omega
 | n + 1=>by
  have ih:=C20 l n
  rw [B5o]
  split <;> omega
theorem C7t:∀n:Nat,n < 4→∀ l:Nat,l < 2 ^ n→C2z l n = pop l:= by decide +kernel
theorem B9d {h:RoHouse} (hb:NB h) {a1:Int} (q1:0≤a1∧a1 < 256) {a2:Int} (q2:0≤a2∧a2 < 256):A3d h a1 a2 = some true:= by
 unfold A3d
 rw [B00]
 simp only [Option.bind_some]
 by_cases c0:(check h).2.2 = 0∧h.Figures.length ≠ 0
 ·obtain ⟨e0,hfn⟩:=c0
  have ok:=A36 e0
  have hf5:=ok.figures
  have hpw:=A7x ok
  have hs:=ok.s
  rw [if_neg (by rw [e0]; simp only [beq_self_eq_true,Bool.not_true,Bool.false_or,beq_iff_eq]; omega),E4 (by omega),E4 (by omega),C1s ok (b:=A3m h) (fun _=>rfl)]
  obtain ⟨f,e1,f0,f1⟩:=B4c (a:=a1) (b:=(h.Figures.length:Int)) q1.1 (by omega)
  obtain ⟨o,e2,o0,o1⟩:=B4c (a:=a2) (b:=((2 ^ h.Stoves.toNat:Nat):Int)) q2.1 (by omega)
  rw [e1]
  simp only [Option.bind_some]
  rw [e2]
  simp only [Option.bind_some]
  obtain ⟨f',rfl⟩:∃f':Nat,f = f':=⟨f.toNat,by omega⟩
  obtain ⟨o',rfl⟩:∃o':Nat,o = o':=⟨o.toNat,by omega⟩
  have hf:f' < h.Figures.length:= by omega
  have ho:o' < 2 ^ h.Stoves.toNat:= by omega
  rw [C3b hb]
  simp only [Option.bind_some]
  have hno:A7i h (f':Int) = if A1s h f' (2 ^ h.Stoves.toNat) < 0 then (0,9) else (A1s h f' (2 ^ h.Stoves.toNat),0):= by
   unfold A7i
   rw [if_neg (by simp [e0]),Q7.mpr (show 0≤(f':Int)∧(f':Int)≤(h.Figures.length:Int) - 1 by omega),if_neg (by decide),Int.toNat_natCast]
  rcases B4w h f' (2 ^ h.Stoves.toNat) with ⟨h1,h2⟩ | ⟨k,hk,h1,h2,h3,h4⟩
  ·have hn:A7i h (f':Int) = (0,9):= by rw [hno,if_pos (by omega)]
   rw [hn]
   simp only [bne_self_eq_false,beq_self_eq_true,Bool.and_self,if_true]
   rw [if_pos (by decide),A9m ok hf (by omega),h2 o' ho]
   simp only [Option.bind_some,Bool.not_false,if_true]
   rw [R9]; rfl
  ·have hn:A7i h (f':Int) = ((k:Int),0):= by rw [hno,h1,if_neg (show ¬ ((k:Int) < 0) by omega)]
   rw [hn]
   simp only [bne_self_eq_false,Bool.false_eq_true,if_false]
   rw [if_neg (by simp only [Bool.or_eq_true,decide_eq_true_eq]; omega),A9m ok hf (by omega),h2]
   simp only [Option.bind_some,Bool.not_true,Bool.false_eq_true,if_false]
   have l1:=J4 (b:=S6 h (o':Int) ((k:Int),0)) (fun s=>(C2z k s,C2z o' s,(s:Int))) h.Stoves.toNat (r:=(pop k,pop o')) (by omega) (fun s hs'=>by
    have b1:=C20 k s
    have b2:=C20 o' s
    unfold S6
    simp only []
    rw [if_pos (by rw [decide_eq_true_eq]; omega),A4z (by omega) (by omega),A4z (by omega) (by omega),E4 (n:=(s:Int) + 1) (by omega),E4 (by omega),E4 (by omega),B5o,B5o]
    cases bit k s <;> cases bit o' s <;> rfl) (by
    unfold S6
    simp only []
    rw [if_neg (by rw [decide_eq_true_eq]; omega),C7t h.Stoves.toNat (by omega) k hk,C7t h.Stoves.toNat (by omega) o' ho])
   have l1:loop (S6 h (o':Int) ((k:Int),0)) (0,0,0) = some (pop k,pop o'):=l1
   rw [l1]
   simp only [Option.bind_some]
   by_cases c:(decide (pop o' > pop k) || (pop o' == pop k && decide ((o':Int) ≥ (k:Int)))) = true
   ·rw [if_pos c]
    simp only [Option.bind_some,if_true]
    rw [R9]; rfl
   ·rw [if_neg c,A9m ok hf (by omega)]
    have hsf:somew h f' o' = false:= by
     cases hso:somew h f' o' with
     | false=>rfl
     | true =>
      exfalso
      have g1:=h3 o' ho hso
      simp only [Bool.or_eq_true,Bool.and_eq_true,decide_eq_true_eq,beq_iff_eq] at c
      by_cases c3:o' < k
      ·have:=h4 o' c3 hso
       omega
      ·omega
    rw [hsf]
    simp only [Option.bind_some,Bool.not_false,if_true]
    rw [R9]; rfl
 ·have hcond:((!((check h).2.2 == 0)) || ((h.Figures.length:Int) == 0)) = true:= by
   by_cases e0:(check h).2.2 = 0
   ·have:h.Figures.length = 0:=Classical.byContradiction fun q=>c0 ⟨e0,q⟩
    rw [this]; simp
   ·rw [beq_eq_false_iff_ne.mpr e0]; rfl
  rw [if_pos hcond,C3b hb]
  simp only [Option.bind_some]
  have:(A7i h 0).2 ≠ 0:= by
   unfold A7i
   by_cases e0:(check h).2.2 = 0
   ·have hz:h.Figures.length = 0:=Classical.byContradiction fun q=>c0 ⟨e0,q⟩
    have ho:out 0 ((h.Figures.length:Int) - 1) 0 = true:= by
     cases ho:out 0 ((h.Figures.length:Int) - 1) 0 with
     | true=>rfl
     | false=>have:=Q7.mp ho; omega
    rw [if_neg (by simp [e0]),if_pos ho]; decide
   ·rw [if_pos (bne_iff_ne.mpr e0)]; exact e0
  rw [if_pos (bne_iff_ne.mpr this),R9]; rfl
end Rm
end
