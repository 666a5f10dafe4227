/- Texts that the claim stands on, one behind another. -/
import Derived.Test.YtdkflofgolehkaaA6
set_option linter.unusedVariables false
set_option linter.unusedSimpArgs false
set_option linter.unnecessarySimpa false
section
set_option maxRecDepth 100000
namespace Ds
open Go Am Go.Proofs.Ytdkflofgolehkaa.Cd
def B6x (t:DrRoom) (person:Int):Option ((Chg × dress_plan) × Int) :=
 (L7 t).bind fun x1 =>
 if (x1.2.2 != 0) = true then some (([],plan0),x1.2.2)
 else (loop (M2 t) (0,[])).bind fun ch =>
  (J1 0 (w64 ((List.length t.Persons:Int) - 1)) [person]).bind fun k =>
  if k = true then some (([],plan0),4)
  else (J3 ⟨t⟩).bind fun w=>(P1 t ch w).bind fun z =>
   if (!z.2) = true then some (([],plan0),9) else some ((ch,z.1),0)
def C6i (N:Nat) (t:DrRoom) (ch:Chg) (p:dress_plan):List AO:=[.cells (A4 t),.cells (A9 p),.cells (A4 t),.map (A99 ch),.cells (A4f t (N + 3)),.cells (A9 p)]
def EnQ (H:A1) (t:DrRoom) (r:(Chg × dress_plan) × Int) (e:Ex) (s:B3) (H1:A1):Prop :=
 (match e with | .exit _=>False | _=>True)∧∃ rs H2,results s H1 [.tmp 4,.cell 5 (some 6),.tmp 6] = some rs∧P7 H.length H1 rs = some (rs,H2) ∧
  ((r.2 != 0) = true∧rs = [.lit (.pointer none),.agg (A9 plan0),.i r.2]∧trunc H.length rs H2 = H∨r.2 = 0∧rs = [.ptr (H.length + 4) 0,.agg (A9 r.1.2),.i 0]∧trunc H.length rs H2 = H++C6i H.length t r.1.1 r.1.2)
theorem C10 {H:A1} {l:List AO} {s:B3} {t:DrRoom} {e:Int} {x:Chg × dress_plan} (he:(e != 0) = true) (h4:sget s 4 = some (.lit (.pointer none))) (h5:sget s 5 = some (.ptr (H.length + 1) 0)) (h6:sget s 6 = some (.i e)) (hl:l[1]? = some (.cells (A9 plan0))):EnQ H t (x,e) .ret s (H++l) :=
 ⟨trivial,_,_,B1 h4 (P0 (I4 (ds:=A9 plan0) h5 hl rfl rfl) (B1 h6 B8)),A6 rfl (A6 (A1m rfl) (A6 rfl B9)),.inl ⟨he,rfl,by rw [C1i (by rfl),List.append_nil]⟩⟩
theorem D10 {c:Sc} {H:A1} (hscv:R5 c H = true) {t:DrRoom} {person:Int} {r:(Chg × dress_plan) × Int} (h:B6x t person = some r) :
  (r.2 != 0) = true∧G6 tab c H (.fn (.func 64) [] []) [.agg (A4 t),.i person] [.lit (.pointer none),.agg (A9 plan0),.i r.2] H ∨
  r.2 = 0∧G6 tab c H (.fn (.func 64) [] []) [.agg (A4 t),.i person] [.ptr (H.length + 4) 0,.agg (A9 r.1.2),.i 0] (H++C6i H.length t r.1.1 r.1.2):= by
 have key:WP tab c64 (I6 0 [.agg (A4 t),.i person]) (H++[]) ⟨H.length,c.cur :: c.outer⟩ (EnQ H t r):= by
  unfold B6x at h
  refine oB h fun x1 hx1 h=>?_
  refine sg 0 rfl<|A0 (F6 (cs:=A4 t) rfl rfl rfl) rfl<|qm rfl<|A0 E5 rfl<|qm rfl<|es (ra3 rfl rfl rfl) ?_
  by_cases hc1:(x1.2.2 != 0) = true
  ·rw [if_pos hc1] at h
   obtain rfl:=os h
   refine s0<|A0 (C2 rfl rfl rfl) rfl<|Q5 (X2 rfl rfl (A2 (D1 rfl) B6) (B7j hx1 hc1) rfl) rfl<|qm rfl<|A0 (A7 rfl rfl) rfl<|A0 (A7 rfl rfl) rfl<|qm rfl<|qm rfl<|es (ra5 rfl rfl rfl rfl rfl)<|B7<|C3<|s0<|qm rfl<|A0 (J0 rfl rfl) rfl<|qm rfl<|es (ra6 rfl rfl rfl rfl rfl rfl)<|R7 rfl hc1<|s0<|A0 (L3 (cs:=A9 plan0) rfl rfl) rfl<|qm rfl<|qm rfl<|H8 (D2 (ds:=A9 plan0) rfl rfl rfl rfl (C8 rfl) rfl) rfl<|qm rfl<|es (ra3 rfl rfl rfl)<|C4<|C10 hc1 rfl rfl rfl rfl
  ·rw [if_neg hc1] at h
   have hc1:(x1.2.2 != 0) = false:=Bool.eq_false_iff.2 hc1
   refine oB h fun ch hch h=>oB h fun k hk h=>?_
   have hlook:G6 tab ⟨H.length,c.cur :: c.outer⟩ (H++[.cells (A4 t),.cells (A9 plan0)]) (.fn (.func 52) [] []) [(.agg (A4 t))] [.ptr (H.length + 4) 0,.i 0] (H++[.cells (A4 t),.cells (A9 plan0),.cells (A4 t),.map (A99 ch),.cells (A4f t (H.length + 3))]):= by
    have:=B7k (c:=⟨H.length,c.cur :: c.outer⟩) (H:=H++[.cells (A4 t),.cells (A9 plan0)]) hx1 hc1 hch
    unfold C8t at this
    rw [List.length_append,List.append_assoc] at this
    exact this
   refine s0<|A0 (C2 rfl rfl rfl) rfl<|Q5 (X2 rfl rfl (A2 (D1 rfl) B6) hlook rfl) rfl<|qm rfl<|A0 (A7 rfl rfl) rfl<|A0 (A7 rfl rfl) rfl<|qm rfl<|qm rfl<|es (ra5 rfl rfl rfl rfl rfl)<|B7<|C3<|s0<|qm rfl<|A0 (O0 (v:=(.b false)) rfl rfl rfl) rfl<|qm rfl<|es (ra6 rfl rfl rfl rfl rfl rfl)<|Z3 rfl rfl<|s0<|A0 (D0 rfl) rfl<|A0 (C5 rfl rfl rfl) rfl<|A0 (D4 (f:=A5) rfl) rfl<|A0 (A0k rfl rfl) rfl<|qm rfl<|A0 (G5 (rows:=List.map cI [person]) rfl rfl (D8 (fun _=>rfl) _)) rfl<|B4 (rs:=[.b k]) rfl rfl (A2 rfl (A2 rfl (A2 rfl B6))) ((M3 hk).frz)<|qm rfl<|es (ra3 rfl rfl rfl)<|wi h rfl (fun hc2 h=>?_) fun hc2 h=>?_
   ·obtain rfl:=os h
    exact s0<|A0 (L3 (cs:=A9 plan0) rfl rfl) rfl<|qm rfl<|H8 (D2 (ds:=A9 plan0) rfl rfl rfl rfl (C8 rfl) rfl) rfl<|qm rfl<|es (ra3 rfl rfl rfl)<|C4<|C10 rfl rfl rfl rfl rfl
   refine oB h fun w hw h=>oB h fun z hz h=>?_
   refine C1<|sg 5 rfl<|qm rfl<|qm rfl<|B4 (rs:=[.i w]) rfl rfl (A2 rfl B6) ((N1 (a0:=⟨t⟩) (D5 rfl) hw).frz)<|B4 (rs:=[(.agg (A9 z.1)),.b z.2]) rfl rfl (A2 rfl (A2 rfl B6)) (B5w (t:=t) (ch:=ch) ⟨_,D5 rfl,A1p rfl⟩ (A19 hscv) hz)<|qm rfl<|A0 (A7 rfl rfl) rfl<|A0 (A7 rfl rfl) rfl<|A0 E5 rfl<|H8 (D2 (ds:=(A9 z.1)) rfl rfl rfl rfl (C8 rfl) rfl) rfl<|qm rfl<|es (ra4 rfl rfl rfl rfl)<|B7<|s0<|qm rfl<|A0 (R4 rfl) rfl<|es (ra4 rfl rfl rfl rfl)<|wi h rfl (fun hc3 h=>?_) fun hc3 h=>?_
   ·obtain rfl:=os h
    exact s0<|A0 (L3 (cs:=A9 plan0) rfl rfl) rfl<|qm rfl<|H8 (D2 (ds:=A9 plan0) rfl rfl rfl rfl (C8 rfl) rfl) rfl<|qm rfl<|es (ra3 rfl rfl rfl)<|C4<|C10 rfl rfl rfl rfl rfl
   ·obtain rfl:=os h
    refine C1<|s0<|qm rfl<|A0 (C2 rfl rfl rfl) rfl<|qm rfl<|H8 (D2 (ds:=(A9 z.1)) rfl rfl rfl rfl (C8 rfl) rfl) rfl<|qm rfl<|es (ra3 rfl rfl rfl)<|C4 ?_
    exact ⟨trivial,_,_,B1 rfl (P0 (I4 (ds:=A9 z.1) rfl rfl rfl rfl) (B1 rfl B8)),A6 rfl (A6 (A1m rfl) (A6 rfl B9)),.inr ⟨rfl,rfl,B8z C76⟩⟩
 rw [List.append_nil] at key
 obtain ⟨e,S',s',H2,h1,h2,h3,rs,H3,h4,h5,h6⟩:=key _ (Sub.refl _)
 have hrun:∀H',trunc H.length rs H3 = H'→G6 tab c H (.fn (.func 64) [] []) [.agg (A4 t),.i person] rs H':=fun H' hH =>
  G6.fn (af:=a64) (bd:=c64) (aq:=[.agg (A4 t),.i person]) (rs0:=rs) (rs1:=rs) (H1:=H3) (e:=e) (st':=⟨S',H2,⟨H.length,c.cur :: c.outer⟩⟩) rfl rfl rfl rfl rfl rfl h1 (by cases e <;> first | rfl | exact h3.elim) (O9 h2 h4) h5 rfl hH.symm
 rcases h6 with ⟨h6,rfl,h7⟩ | ⟨h6,rfl,h7⟩
 ·exact .inl ⟨h6,hrun _ h7⟩
 ·exact .inr ⟨h6,hrun _ h7⟩
theorem retq0 {H:A1} {s:B3} {rv:List ARes} {rs:List AV} {e:Ex} (h:RetQ H rv rs e s (H++[])):RetQ H rv rs e s H:= by rwa [List.append_nil] at h
theorem D2m {c:Sc} {A B:A1} {b:Nat} {l:List Int} {x r:Int} (hb:A.length = b) (h:M1 l x = some r):E6 tab c (A++(ar1 l :: B)) (.fn (.func 95) [] []) [.asl b l.length,.i x] [.i r]:= by
 subst hb
 unfold M1 at h
 have htk:∀x:AO,(x :: B).take (B.length + 1) = x :: B:=fun x=>List.take_of_length_le (Nat.le_refl _)
 refine B6s (aq:=[.asl A.length l.length,.i x]) rfl rfl rfl ?_
 refine s0<|qm rfl<|es (ra2 rfl rfl)<|B7<|s0<|qm rfl<|A0 (A8y (f:=cI) (j:=0) rfl rfl rfl) rfl<|qm rfl<|es (ra4 rfl rfl rfl rfl)<|C3<|oB h fun o6 ho6 h=>wl (fun s1=>[(0,(.asl (A.length + 0) l.length)),(1,.i x),(7,(.i (List.length l:Int))),(8,.i s1)]) (fun (q2:Unit) s1=>ar1 l :: B) (B.length + 1) (fun r e s' H'=>(match r with | (.inl v)=>e = .ret∧RetQ (A++(ar1 l :: B)) [.tmp 4] [.i v] e s' H' | (.inr v)=>PX 0 [] (A++(ar1 l :: B)) e s' H':Prop)) () ho6 rfl rfl (fun _ _=>rfl) (fun _=>rfl) rfl (fun s1=>(bdc (A0g (Nat.ble_eq_true_of_le (by omega))) (bdc A8 (bdc A8 (bdc A8 bdn))))) (fun q2 s1 ys1 hs1=>?_) ?_
 ·unfold G4 at hs1
  refine s0<|A0 (H6 rfl rfl) rfl<|es (ra5 rfl rfl rfl rfl rfl)<|B7<|wi hs1 rfl (fun hc3 hs1=>?_) fun hc3 hs1=>?_
  ·refine C1<|B7<|C3<|s0<|qm rfl<|qm rfl<|es (ra5 rfl rfl rfl rfl rfl)<|s0<|oB hs1 fun x4 hx4 hs1=>qm rfl<|qm rfl<|qm rfl<|A0 (A8w (f:=cI) rfl rfl rfl rfl hx4) rfl<|A0 (A9w (x:=.i x4) rfl rfl (List.length_map _) (A87 hx4) rfl) rfl<|A0 (F3 rfl rfl) rfl<|es (ra6 rfl rfl rfl rfl rfl rfl)<|wi hs1 rfl (fun hc5 hs1=>?_) fun hc5 hs1=>?_
   ·refine s0<|qm rfl<|qm rfl<|es (ra1 rfl)<|C4 ?_
    obtain rfl:=os hs1
    exact lx rfl (And.intro rfl (retq0 (retq trivial (B1 rfl B8) (A6 rfl B9) (A3 A8 B2)))) (Sub.refl _)
   ·refine C1<|r0<|A0 (E8 rfl rfl) rfl<|qm rfl<|en (ra4 rfl rfl rfl rfl) ?_
    cases hs1
    exact lnT () (htk _) (su4 rfl rfl rfl rfl)
  ·refine F7 ?_
   obtain rfl:=os hs1
   exact lx rfl px (.nil _)
 ·rcases o6 with vo6_0 | vo6_1
  ·rintro e s' H' - ⟨rfl,hret⟩
   cases h
   exact hret
  ·rintro e s' H' - ⟨rfl,rfl,rfl⟩
   refine s0<|qm rfl<|es (ra1 rfl)<|C4 ?_
   obtain rfl:=os h
   exact retq0 (retq trivial (B1 rfl B8) (A6 rfl B9) (A3 A8 B2))
theorem C3u {c:Sc} {A B:A1} {b:Nat} {l:List Int} {x:Int} {r:Bool} (hb:A.length = b) (h:F8 l x = some r):E6 tab c (A++(ar1 l :: B)) (.fn (.func 66) [] []) [.asl b l.length,.i x] [.b r]:= by
 unfold F8 at h
 refine oB h fun x1 hx1 h=>?_
 refine B6s (aq:=[.asl b l.length,.i x]) rfl rfl rfl ?_
 refine s0<|qm rfl<|es (ra2 rfl rfl)<|s0<|qm rfl<|qm rfl<|Q5 (A46 (rs:=[.i x1]) rfl rfl ((D2m hb hx1).frz)) rfl<|A0 (A6f rfl rfl) rfl<|qm rfl<|es (ra1 rfl)<|C4 ?_
 obtain rfl:=os h
 exact retq0 (retq trivial (B1 rfl B8) (A6 rfl B9) (A3 A8 B2))
def B4l (person:Int) (best:dress_plan) (l:List dress_plan) (s:Int × List Int):Option ((Int × List Int) ⊕ List Int) :=
 if (decide (s.1 < (List.length l:Int))) = true then
  (idx l s.1).bind fun p=>(idx p.figures_ person).bind fun f =>
  (if (p.cost_ == best.cost_) = true then (F8 s.2 f).bind fun k=>some (!k) else some false).bind fun g =>
  if g = true then (app 8 s.2 [f]).bind fun q=>some (.inl (w64 (s.1 + 1),q))
  else some (.inl (w64 (s.1 + 1),s.2))
 else some (.inr s.2)
def A4k (t:DrRoom) (person:Int):Option (List Int × Int) :=
 (B6x t person).bind fun r =>
 if (r.2 != 0) = true then some ([],r.2)
 else (J3 ⟨t⟩).bind fun w=>(R8 t r.1.1 w).bind fun l =>
  (loop (B4l person r.1.2 l) (0,[])).bind fun o=>(B8t o).bind fun q=>some (q,0)
def B4k (N:Nat) (t:DrRoom) (ch:Chg) (p:dress_plan) (s:List Int):List AO:=[.cells (A4 t),ar1 s,.cells (A9 p),.cells (A4 t),.cells (A9 p),.cells (A4 t),.map (A99 ch),.cells (A4f t (N + 6)),.cells (A9 p)]
theorem B2r {c:Sc} {H:A1} (hscv:R5 c H = true) {a0:DrRoom} {a1:Int} {r:List Int × Int} (h:A4k a0 a1 = some r) :
  T2 tab c H (.fn (.func 28) [] []) [(.agg (A4 a0)),.i a1] [(.seq 1 (List.map cI r.1)),.i r.2]:= by
 unfold A4k at h
 refine oB h fun x hx h=>?_
 refine cF rfl rfl<|sg 0 rfl<|A0 (F6 (cs:=A4 a0) rfl rfl rfl) rfl<|A0 A2u rfl<|qm rfl<|es (ra3 rfl rfl rfl)<|sg 2 rfl<|A0 (C2 rfl rfl rfl) rfl<|qm rfl ?_
 rcases D10 (c:=⟨H.length,c.cur :: c.outer⟩) (H:=H++[.cells (A4 a0),ar1 [],.dead]) (A19 hscv) hx with ⟨hc,hcall⟩ | ⟨hc,hcall⟩
 ·rw [if_pos hc] at h
  obtain rfl:=os h
  refine Q5 (X2 rfl rfl (A2 (D1 rfl) (A2 rfl B6)) hcall rfl) rfl<|qm rfl<|A0 (A7 rfl rfl) rfl<|A0 (A7 rfl rfl) rfl<|A0 (A7 rfl rfl) rfl<|A0 E5 rfl<|qm rfl<|H8 (D2 (ds:=A9 plan0) rfl rfl rfl rfl (C8 rfl) rfl) rfl<|qm rfl<|es (ra5 rfl rfl rfl rfl rfl)<|B7<|s0<|qm rfl<|A0 (J0 rfl rfl) rfl<|es (ra6 rfl rfl rfl rfl rfl rfl)<|R7 rfl hc<|sg 3 rfl<|qm rfl<|A0 A2u rfl<|qm rfl<|es (ra2 rfl rfl)<|C4 ?_
  exact ⟨[.fresh 1 (List.map cI []),.i x.2],retq trivial (B1 rfl (B1 rfl B8)) (A6 (A14 rfl (List.length_map _)) (A6 rfl B9)) (A3 U8 (A3 A8 B2)),rfl⟩
 ·obtain ⟨⟨ch,best⟩,e⟩:=x
  dsimp only at hc
  subst hc
  rw [if_neg (by simp)] at h
  refine oB h fun w hw h=>oB h fun l hl h=>oB h fun o ho h=>oB h fun q hq h=>?_
  obtain rfl:=os h
  have hcall:G6 tab ⟨H.length,c.cur :: c.outer⟩ (H++[.cells (A4 a0),ar1 [],.dead]) (.fn (.func 64) [] []) [.agg (A4 a0),.i a1] [.ptr (H.length + 7) 0,.agg (A9 best),.i 0] (H++[.cells (A4 a0),ar1 [],.dead,.cells (A4 a0),.cells (A9 best),.cells (A4 a0),.map (A99 ch),.cells (A4f a0 (H.length + 6)),.cells (A9 best)]):= by
   unfold C6i at hcall
   rw [List.length_append,List.append_assoc] at hcall
   exact hcall
  have hH:∀s:List Int,H++B4k H.length a0 ch best s = (H++[.cells (A4 a0)])++(ar1 s :: (B4k H.length a0 ch best s).drop 2):=fun s=>by simp [B4k]
  have hA:(H++[AO.cells (A4 a0)]).length = H.length + 1:= by simp
  refine Q5 (X2 rfl rfl (A2 (D1 rfl) (A2 rfl B6)) hcall rfl) rfl<|qm rfl<|A0 (A7 rfl rfl) rfl<|A0 (A7 rfl rfl) rfl<|A0 (A7 rfl rfl) rfl<|A0 E5 rfl<|qm rfl<|H8 (D2 (ds:=A9 best) rfl rfl rfl rfl (C8 rfl) rfl) rfl<|qm rfl<|es (ra5 rfl rfl rfl rfl rfl)<|B7<|s0<|qm rfl<|A0 (O0 (v:=(.b false)) rfl rfl rfl) rfl<|es (ra6 rfl rfl rfl rfl rfl rfl)<|Z3 rfl rfl<|C1<|B7<|s0<|qm rfl<|qm rfl<|B4 (rs:=[.i w]) rfl rfl (A2 rfl B6) ((N1 (a0:=⟨a0⟩) (D5 rfl) hw).frz)<|B4 (rs:=[.seq 6 (l.map A9)]) rfl rfl (A2 rfl (A2 rfl B6)) (C2y (t:=a0) (ch:=ch) ⟨_,D5 rfl,A1p rfl⟩ (A19 hscv) hl)<|A0 (D4 (f:=A9) rfl) rfl<|qm rfl<|es (ra6 rfl rfl rfl rfl rfl rfl)<|C3<|wl (fun s=>[(1,.i a1),(4,.asl (H.length + 1) s.2.length),(7,.ptr (H.length + 2) 0),(24,.seq 6 (l.map A9)),(25,.i (List.length l:Int)),(26,.i s.1)]) (fun (_:Unit) s=>B4k H.length a0 ch best s.2) 9 (fun r e s' H'=>PX 0 [(4,.asl (H.length + 1) r.length)] (H++B4k H.length a0 ch best r) e s' H') () ho rfl rfl (fun _ _=>rfl) (fun _=>rfl) rfl (fun s=>bdc A8 (bdc (A0g rfl) (bdc (F1 rfl) (bdc E9 (bdc A8 (bdc A8 bdn)))))) (fun _ s o hs=>?_) ?_
  ·unfold B4l at hs
   refine s0<|A0 (H6 rfl rfl) rfl<|es (ra7 rfl rfl rfl rfl rfl rfl rfl)<|B7<|wi hs rfl (fun hc hs=>?_) fun hc hs=>?_
   ·refine oB hs fun p hp hs=>oB hs fun f hf hs=>oB hs fun g hg hs=>?_
    refine C1<|B7<|C3<|sg 9 rfl<|A0 (E3 (f:=A9) rfl rfl hp) rfl<|A0 (M7 rfl rfl) rfl<|A0 E5 rfl<|H8 (D2 (ds:=A9 p) rfl rfl rfl rfl (C8 rfl) rfl) rfl<|es (ra7 rfl rfl rfl rfl rfl rfl rfl)<|s0<|A0 (D0 rfl) rfl<|A0 (C5 rfl rfl rfl) rfl<|qm rfl<|A0 (E3 (f:=cI) rfl rfl hf) rfl<|A0 (E7 rfl rfl) rfl<|qm rfl<|es (ra8 rfl rfl rfl rfl rfl rfl rfl rfl)<|s0<|A0 (D0 rfl) rfl<|A0 (C5 (x:=.i p.cost_) rfl rfl rfl) rfl<|A0 (D0 rfl) rfl<|A0 (C5 (x:=.i best.cost_) rfl rfl rfl) rfl<|A0 (F3 rfl rfl) rfl<|qm rfl<|gp 5 45 (.b g) 40 rfl rfl (fun hb=>?_) (fun hb=>?_) ?_
    ·refine oB (bt hg hb) fun k hk hg=>?_
     obtain rfl:=os hg
     have hcon:T2 tab ⟨H.length + 9,(⟨H.length,c.cur :: c.outer⟩:Sc).cur :: (⟨H.length,c.cur :: c.outer⟩:Sc).outer⟩ (H++(B4k H.length a0 ch best s.2++[.cells (A9 p)])) (.fn (.func 66) [] []) [.asl (H.length + 1) s.2.length,.i f] [.b k]:= by
      have:=(C3u (c:=⟨H.length + 9,(⟨H.length,c.cur :: c.outer⟩:Sc).cur :: (⟨H.length,c.cur :: c.outer⟩:Sc).outer⟩) (B:=(B4k H.length a0 ch best s.2).drop 2++[.cells (A9 p)]) hA hk).frz
      rw [show (H++[AO.cells (A4 a0)])++(ar1 s.2 :: ((B4k H.length a0 ch best s.2).drop 2++[.cells (A9 p)])) = H++(B4k H.length a0 ch best s.2++[.cells (A9 p)]) by simp [B4k]] at this
      exact this
     exact gT rfl hb<|qm rfl<|gT rfl hb<|qm rfl<|gT rfl hb<|Q5 (A46 (rs:=[.b k]) rfl rfl hcon) rfl<|gT rfl hb<|A0 (R4 rfl) rfl<|A0 (C7 rfl hb rfl) rfl<|ge 5 rfl rfl rfl
    ·obtain rfl:=os (bf hg hb)
     exact nT rfl hb rfl<|nT rfl hb rfl<|N2 (G1 rfl (by rw [hb]; rfl)) rfl<|nT rfl hb rfl<|A0 (C6 rfl hb rfl) rfl<|ge 5 rfl rfl rfl
    refine es (ra8 rfl rfl rfl rfl rfl rfl rfl rfl)<|wi hs rfl (fun hc2 hs=>?_) fun hc2 hs=>?_
    ·refine oB hs fun q hq hs=>?_
     refine r0<|qm rfl<|qm rfl<|A0 (G5 (rows:=List.map cI [f]) rfl rfl (D8 (fun _=>rfl) _)) rfl<|Q5 (W9 (f:=cI) rfl rfl rfl rfl R9 (fun _=>rfl) hq) rfl<|qm rfl<|en (ra6 rfl rfl rfl rfl rfl rfl)<|r0<|A0 (E8 rfl rfl) rfl<|qm rfl<|en (ra6 rfl rfl rfl rfl rfl rfl) ?_
     cases hs
     exact lnT () rfl (su6 rfl rfl rfl rfl rfl rfl)
    ·refine C1<|r0<|A0 (E8 rfl rfl) rfl<|qm rfl<|en (ra6 rfl rfl rfl rfl rfl rfl) ?_
     cases hs
     exact lnT () rfl (su6 rfl rfl rfl rfl rfl rfl)
   ·refine F7 ?_
    obtain rfl:=os hs
    exact lx rfl px (su1 rfl)
  ·rintro e s' H' - ⟨rfl,rfl,rfl⟩
   have hsort:G6 tab ⟨H.length,c.cur :: c.outer⟩ (H++B4k H.length a0 ch best o) (.fn (.func 67) [] []) [.asl (H.length + 1) o.length] [] (H++B4k H.length a0 ch best q):= by
    have:=D51 (c:=⟨H.length,c.cur :: c.outer⟩) (A:=H++[AO.cells (A4 a0)]) (B:=(B4k H.length a0 ch best o).drop 2) hq
    rw [hA] at this
    rw [hH o,hH q]
    exact this
   refine s0<|qm rfl<|Q5 (T1 rfl rfl hsort rfl) rfl<|es (ra1 rfl)<|s0<|qm rfl<|qm rfl<|qm rfl<|es (ra2 rfl rfl)<|C4 ?_
   exact ⟨[.fresh 1 (List.map cI q),.i 0],retq trivial (B1 rfl (B1 rfl B8)) (A6 (A14 rfl (by rw [List.length_map]; exact D0z hq)) (A6 rfl B9)) (A3 U8 (A3 A8 B2)),rfl⟩
end Ds
end
section
set_option maxRecDepth 100000
set_option maxHeartbeats 0
namespace Ds
open Go Am Go.Proofs.Ytdkflofgolehkaa.Cd
def S7 :Option Bool :=
 (A4z 2).bind fun x1 =>
 (A4z 1).bind fun x2 =>
 (V7 x1 0 0).bind fun x3 =>
 (A11 x1 [2,0,1]).bind fun x4 =>
 (A12 x1 [1,0,2]).bind fun x5 =>
 (A0l x1).bind fun x6 =>
 (A0l x2).bind fun x7 =>
 (A4k x1 2).bind fun x8 =>
 (Y1 x1 1).bind fun x9 =>
 (A9j x2).bind fun x10 =>
 (A9i x2).bind fun x11 =>
 (if ((((((((((x3.2.2 == 0) && (x4.2 == 0)) && (x5.2 == 0)) && (x6.2.2 == 0)) && (x7.2.2 == 9)) && (x8.2 == 0)) && (x9.2 == 0)) && (x10.2 == 0)) && (x11.2.2 == 0)) && (x3.1 == 14)) = true then
  (L1 x3.2.1 [0,2]).bind fun x22 =>
  some x22
 else
  some false).bind fun x23 =>
 (if x23 = true then
  (L1 x4.1 [4,(-1)]).bind fun x25 =>
  some x25
 else
  some false).bind fun x26 =>
 (if (x26 && (x5.1 == 14)) = true then
  (L1 x6.1 [1,0,2]).bind fun x29 =>
  some x29
 else
  some false).bind fun x30 =>
 (if (x30 && (x6.2.1 == 14)) = true then
  (L1 x8.1 [2]).bind fun x33 =>
  some x33
 else
  some false).bind fun x34 =>
 (if (x34 && (x9.1 == 10)) = true then
  (L1 x10.1 [0]).bind fun x37 =>
  some x37
 else
  some false).bind fun x38 =>
 (if x38 = true then
  (L1 x11.1 [0,1]).bind fun x40 =>
  some x40
 else
  some false).bind fun x41 =>
 some (x41 && (x11.2.1 == 14))
theorem T7 {c:Sc} {H:A1} (hscv:R5 c H = true)  {r:Bool} (h:S7  = some r) :
  E6 tab c H (.fn (.func 21) [] []) [] [.b r]:= by
 unfold S7 at h
 refine cE rfl rfl<|s0<|qm rfl<|es .n<|sg 0 rfl<|oB h fun x1 hx1 h=>oB h fun x2 hx2 h=>B4 (rs:=[(.agg (A4 x1))]) rfl rfl (A2 rfl B6) ((A57 hx1).frz)<|B4 (rs:=[(.agg (A4 x2))]) rfl rfl (A2 rfl B6) ((A57 hx2).frz)<|A0 E5 rfl<|A0 E5 rfl<|H8 (D2 (ds:=(A4 x1)) rfl rfl rfl rfl (C8 rfl) rfl) rfl<|H8 (D2 (ds:=(A4 x2)) rfl rfl rfl rfl (C8 rfl) rfl) rfl<|es (ra2 rfl rfl)<|s0<|oB h fun x3 hx3 h=>A0 (C2 rfl rfl rfl) rfl<|B4 (rs:=[.i x3.1,(.seq 1 (List.map cI x3.2.1)),.i x3.2.2]) rfl rfl (A2 (D1 rfl) (A2 rfl (A2 rfl B6))) ((A0a hx3).frz)<|qm rfl<|A0 (A7 rfl rfl) rfl<|A0 (A7 rfl rfl) rfl<|A0 (A7 rfl rfl) rfl<|qm rfl<|qm rfl<|qm rfl<|es (ra5 rfl rfl rfl rfl rfl)<|s0<|oB h fun x4 hx4 h=>A0 (C2 rfl rfl rfl) rfl<|A0 (G5 (rows:=List.map cI [2,0,1]) rfl rfl (D8 (fun _=>rfl) _)) rfl<|B4 (rs:=[(.seq 1 (List.map cI x4.1)),.i x4.2]) rfl rfl (A2 (D1 rfl) (A2 rfl B6)) ((A55 hx4).frz)<|qm rfl<|A0 (A7 rfl rfl) rfl<|A0 (A7 rfl rfl) rfl<|qm rfl<|qm rfl<|es (ra7 rfl rfl rfl rfl rfl rfl rfl)<|s0<|oB h fun x5 hx5 h=>A0 (C2 rfl rfl rfl) rfl<|A0 (G5 (rows:=List.map cI [1,0,2]) rfl rfl (D8 (fun _=>rfl) _)) rfl<|B4 (rs:=[.i x5.1,.i x5.2]) rfl rfl (A2 (D1 rfl) (A2 rfl B6)) ((A56 hx5).frz)<|qm rfl<|A0 (A7 rfl rfl) rfl<|A0 (A7 rfl rfl) rfl<|qm rfl<|qm rfl<|es (ra9 rfl rfl rfl rfl rfl rfl rfl rfl rfl)<|s0<|oB h fun x6 hx6 h=>A0 (C2 rfl rfl rfl) rfl<|B4 (rs:=[(.seq 1 (List.map cI x6.1)),.i x6.2.1,.i x6.2.2]) rfl rfl (A2 (D1 rfl) B6) ((A3m (A19 hscv) hx6).frz)<|qm rfl<|A0 (A7 rfl rfl) rfl<|A0 (A7 rfl rfl) rfl<|A0 (A7 rfl rfl) rfl<|qm rfl<|qm rfl<|qm rfl<|es (ra12 rfl rfl rfl rfl rfl rfl rfl rfl rfl rfl rfl rfl)<|s0 ?_
 refine oB h fun x7 hx7 h=>A0 (C2 rfl rfl rfl) rfl<|B4 (rs:=[(.seq 1 (List.map cI x7.1)),.i x7.2.1,.i x7.2.2]) rfl rfl (A2 (D1 rfl) B6) ((A3m (A19 hscv) hx7).frz)<|qm rfl<|A0 (A7 rfl rfl) rfl<|A0 (A7 rfl rfl) rfl<|A0 (A7 rfl rfl) rfl<|qm rfl<|qm rfl<|qm rfl<|es (ra13 rfl rfl rfl rfl rfl rfl rfl rfl rfl rfl rfl rfl rfl)<|s0<|oB h fun x8 hx8 h=>A0 (C2 rfl rfl rfl) rfl<|B4 (rs:=[(.seq 1 (List.map cI x8.1)),.i x8.2]) rfl rfl (A2 (D1 rfl) (A2 rfl B6)) (B2r (A19 hscv) hx8)<|qm rfl<|A0 (A7 rfl rfl) rfl<|A0 (A7 rfl rfl) rfl<|qm rfl<|qm rfl<|es (.k rfl (.k rfl (.k rfl (.k rfl (.k rfl (.k rfl (.k rfl (.k rfl (.k rfl (.k rfl (.k rfl (.k rfl (.k rfl (.k rfl (.k rfl .n)))))))))))))))<|s0<|oB h fun x9 hx9 h=>A0 (C2 rfl rfl rfl) rfl<|B4 (rs:=[.i x9.1,.i x9.2]) rfl rfl (A2 (D1 rfl) (A2 rfl B6)) ((A2v (A19 hscv) hx9).frz)<|qm rfl<|A0 (A7 rfl rfl) rfl<|A0 (A7 rfl rfl) rfl<|qm rfl<|qm rfl<|es (.k rfl (.k rfl (.k rfl (.k rfl (.k rfl (.k rfl (.k rfl (.k rfl (.k rfl (.k rfl (.k rfl (.k rfl (.k rfl (.k rfl (.k rfl (.k rfl .n))))))))))))))))<|s0<|oB h fun x10 hx10 h=>A0 (C2 rfl rfl rfl) rfl<|B4 (rs:=[(.seq 1 (List.map cI x10.1)),.i x10.2]) rfl rfl (A2 (D1 rfl) B6) ((B2q (A19 hscv) hx10).frz)<|qm rfl<|A0 (A7 rfl rfl) rfl<|A0 (A7 rfl rfl) rfl<|qm rfl<|qm rfl<|es (.k rfl (.k rfl (.k rfl (.k rfl (.k rfl (.k rfl (.k rfl (.k rfl (.k rfl (.k rfl (.k rfl (.k rfl (.k rfl (.k rfl (.k rfl (.k rfl (.k rfl (.k rfl .n))))))))))))))))))<|s0<|oB h fun x11 hx11 h=>A0 (C2 rfl rfl rfl) rfl<|B4 (rs:=[(.seq 1 (List.map cI x11.1)),.i x11.2.1,.i x11.2.2]) rfl rfl (A2 (D1 rfl) B6) ((B2p (A19 hscv) hx11).frz)<|qm rfl<|A0 (A7 rfl rfl) rfl<|A0 (A7 rfl rfl) rfl<|A0 (A7 rfl rfl) rfl<|qm rfl<|qm rfl<|qm rfl<|es (.k rfl (.k rfl (.k rfl (.k rfl (.k rfl (.k rfl (.k rfl (.k rfl (.k rfl (.k rfl (.k rfl (.k rfl (.k rfl (.k rfl (.k rfl (.k rfl (.k rfl (.k rfl (.k rfl (.k rfl .n))))))))))))))))))))<|s0<|oB h fun x23 hx23 h=>oB h fun x26 hx26 h=>oB h fun x30 hx30 h=>oB h fun x34 hx34 h=>oB h fun x38 hx38 h=>oB h fun x41 hx41 h=>qm rfl ?_
 refine A0 (F3 rfl rfl) rfl<|qm rfl<|gp 3 83 (.b ((x3.2.2 == 0) && (x4.2 == 0))) 80 rfl rfl (fun hg12=>?_) (fun hg12=>?_) ?_
 ·exact gT rfl hg12<|qm rfl<|gT rfl hg12<|A0 (F3 rfl rfl) rfl<|A0 (C7 rfl hg12 rfl) rfl<|ge 3 (by rw [hg12]; rfl) rfl rfl
 ·exact nT rfl hg12 rfl<|nT rfl hg12 rfl<|A0 (C6 rfl hg12 rfl) rfl<|ge 3 (by rw [hg12]; rfl) rfl rfl
 refine qm rfl<|gp 3 87 (.b (((x3.2.2 == 0) && (x4.2 == 0)) && (x5.2 == 0))) 84 rfl rfl (fun hg13=>?_) (fun hg13=>?_) ?_
 ·exact gT rfl hg13<|qm rfl<|gT rfl hg13<|A0 (F3 rfl rfl) rfl<|A0 (C7 rfl hg13 rfl) rfl<|ge 3 (by rw [hg13]; rfl) rfl rfl
 ·exact nT rfl hg13 rfl<|nT rfl hg13 rfl<|A0 (C6 rfl hg13 rfl) rfl<|ge 3 (by rw [hg13]; rfl) rfl rfl
 refine qm rfl<|gp 3 91 (.b ((((x3.2.2 == 0) && (x4.2 == 0)) && (x5.2 == 0)) && (x6.2.2 == 0))) 88 rfl rfl (fun hg14=>?_) (fun hg14=>?_) ?_
 ·exact gT rfl hg14<|qm rfl<|gT rfl hg14<|A0 (F3 rfl rfl) rfl<|A0 (C7 rfl hg14 rfl) rfl<|ge 3 (by rw [hg14]; rfl) rfl rfl
 ·exact nT rfl hg14 rfl<|nT rfl hg14 rfl<|A0 (C6 rfl hg14 rfl) rfl<|ge 3 (by rw [hg14]; rfl) rfl rfl
 refine qm rfl<|gp 3 95 (.b (((((x3.2.2 == 0) && (x4.2 == 0)) && (x5.2 == 0)) && (x6.2.2 == 0)) && (x7.2.2 == 9))) 92 rfl rfl (fun hg15=>?_) (fun hg15=>?_) ?_
 ·exact gT rfl hg15<|qm rfl<|gT rfl hg15<|A0 (F3 rfl rfl) rfl<|A0 (C7 rfl hg15 rfl) rfl<|ge 3 (by rw [hg15]; rfl) rfl rfl
 ·exact nT rfl hg15 rfl<|nT rfl hg15 rfl<|A0 (C6 rfl hg15 rfl) rfl<|ge 3 (by rw [hg15]; rfl) rfl rfl
 refine qm rfl<|gp 3 99 (.b ((((((x3.2.2 == 0) && (x4.2 == 0)) && (x5.2 == 0)) && (x6.2.2 == 0)) && (x7.2.2 == 9)) && (x8.2 == 0))) 96 rfl rfl (fun hg16=>?_) (fun hg16=>?_) ?_
 ·exact gT rfl hg16<|qm rfl<|gT rfl hg16<|A0 (F3 rfl rfl) rfl<|A0 (C7 rfl hg16 rfl) rfl<|ge 3 (by rw [hg16]; rfl) rfl rfl
 ·exact nT rfl hg16 rfl<|nT rfl hg16 rfl<|A0 (C6 rfl hg16 rfl) rfl<|ge 3 (by rw [hg16]; rfl) rfl rfl
 refine qm rfl<|gp 3 103 (.b (((((((x3.2.2 == 0) && (x4.2 == 0)) && (x5.2 == 0)) && (x6.2.2 == 0)) && (x7.2.2 == 9)) && (x8.2 == 0)) && (x9.2 == 0))) 100 rfl rfl (fun hg17=>?_) (fun hg17=>?_) ?_
 ·exact gT rfl hg17<|qm rfl<|gT rfl hg17<|A0 (F3 rfl rfl) rfl<|A0 (C7 rfl hg17 rfl) rfl<|ge 3 (by rw [hg17]; rfl) rfl rfl
 ·exact nT rfl hg17 rfl<|nT rfl hg17 rfl<|A0 (C6 rfl hg17 rfl) rfl<|ge 3 (by rw [hg17]; rfl) rfl rfl
 refine qm rfl<|gp 3 107 (.b ((((((((x3.2.2 == 0) && (x4.2 == 0)) && (x5.2 == 0)) && (x6.2.2 == 0)) && (x7.2.2 == 9)) && (x8.2 == 0)) && (x9.2 == 0)) && (x10.2 == 0))) 104 rfl rfl (fun hg18=>?_) (fun hg18=>?_) ?_
 ·exact gT rfl hg18<|qm rfl<|gT rfl hg18<|A0 (F3 rfl rfl) rfl<|A0 (C7 rfl hg18 rfl) rfl<|ge 3 (by rw [hg18]; rfl) rfl rfl
 ·exact nT rfl hg18 rfl<|nT rfl hg18 rfl<|A0 (C6 rfl hg18 rfl) rfl<|ge 3 (by rw [hg18]; rfl) rfl rfl
 refine qm rfl<|gp 3 111 (.b (((((((((x3.2.2 == 0) && (x4.2 == 0)) && (x5.2 == 0)) && (x6.2.2 == 0)) && (x7.2.2 == 9)) && (x8.2 == 0)) && (x9.2 == 0)) && (x10.2 == 0)) && (x11.2.2 == 0))) 108 rfl rfl (fun hg19=>?_) (fun hg19=>?_) ?_
 ·exact gT rfl hg19<|qm rfl<|gT rfl hg19<|A0 (F3 rfl rfl) rfl<|A0 (C7 rfl hg19 rfl) rfl<|ge 3 (by rw [hg19]; rfl) rfl rfl
 ·exact nT rfl hg19 rfl<|nT rfl hg19 rfl<|A0 (C6 rfl hg19 rfl) rfl<|ge 3 (by rw [hg19]; rfl) rfl rfl
 refine qm rfl<|gp 3 115 (.b ((((((((((x3.2.2 == 0) && (x4.2 == 0)) && (x5.2 == 0)) && (x6.2.2 == 0)) && (x7.2.2 == 9)) && (x8.2 == 0)) && (x9.2 == 0)) && (x10.2 == 0)) && (x11.2.2 == 0)) && (x3.1 == 14))) 112 rfl rfl (fun hg20=>?_) (fun hg20=>?_) ?_
 ·exact gT rfl hg20<|qm rfl<|gT rfl hg20<|A0 (F3 rfl rfl) rfl<|A0 (C7 rfl hg20 rfl) rfl<|ge 3 (by rw [hg20]; rfl) rfl rfl
 ·exact nT rfl hg20 rfl<|nT rfl hg20 rfl<|A0 (C6 rfl hg20 rfl) rfl<|ge 3 (by rw [hg20]; rfl) rfl rfl
 refine qm rfl<|gp 4 120 (.b x23) 116 rfl rfl (fun hg21=>?_) (fun hg21=>?_) ?_
 ·refine oB (bt hx23 hg21) fun x22 hx22 hx23=>?_
  obtain rfl:=os hx23
  exact gT rfl hg21<|qm rfl<|gT rfl hg21<|A0 (G5 (rows:=List.map cI [0,2]) rfl rfl (D8 (fun _=>rfl) _)) rfl<|gT rfl hg21<|B4 (rs:=[.b x22]) rfl rfl (A2 rfl (A2 rfl B6)) ((K7 hx22).frz)<|A0 (C7 rfl hg21 rfl) rfl<|ge 4 rfl rfl rfl
 ·obtain rfl:=os (bf hx23 hg21)
  exact nT rfl hg21 rfl<|nT rfl hg21 rfl<|N2 (G1 rfl (by rw [hg21]; rfl)) rfl<|A0 (C6 rfl hg21 rfl) rfl<|ge 4 rfl rfl rfl
 refine qm rfl<|gp 4 125 (.b x26) 121 rfl rfl (fun hg24=>?_) (fun hg24=>?_) ?_
 ·refine oB (bt hx26 hg24) fun x25 hx25 hx26=>?_
  obtain rfl:=os hx26
  exact gT rfl hg24<|qm rfl<|gT rfl hg24<|A0 (G5 (rows:=List.map cI [4,(-1)]) rfl rfl (D8 (fun _=>rfl) _)) rfl<|gT rfl hg24<|B4 (rs:=[.b x25]) rfl rfl (A2 rfl (A2 rfl B6)) ((K7 hx25).frz)<|A0 (C7 rfl hg24 rfl) rfl<|ge 4 rfl rfl rfl
 ·obtain rfl:=os (bf hx26 hg24)
  exact nT rfl hg24 rfl<|nT rfl hg24 rfl<|N2 (G1 rfl (by rw [hg24]; rfl)) rfl<|A0 (C6 rfl hg24 rfl) rfl<|ge 4 rfl rfl rfl
 refine qm rfl<|gp 3 129 (.b (x26 && (x5.1 == 14))) 126 rfl rfl (fun hg27=>?_) (fun hg27=>?_) ?_
 ·exact gT rfl hg27<|qm rfl<|gT rfl hg27<|A0 (F3 rfl rfl) rfl<|A0 (C7 rfl hg27 rfl) rfl<|ge 3 (by rw [hg27]; rfl) rfl rfl
 ·exact nT rfl hg27 rfl<|nT rfl hg27 rfl<|A0 (C6 rfl hg27 rfl) rfl<|ge 3 (by rw [hg27]; rfl) rfl rfl
 refine qm rfl<|gp 4 134 (.b x30) 130 rfl rfl (fun hg28=>?_) (fun hg28=>?_) ?_
 ·refine oB (bt hx30 hg28) fun x29 hx29 hx30=>?_
  obtain rfl:=os hx30
  exact gT rfl hg28<|qm rfl<|gT rfl hg28<|A0 (G5 (rows:=List.map cI [1,0,2]) rfl rfl (D8 (fun _=>rfl) _)) rfl<|gT rfl hg28<|B4 (rs:=[.b x29]) rfl rfl (A2 rfl (A2 rfl B6)) ((K7 hx29).frz)<|A0 (C7 rfl hg28 rfl) rfl<|ge 4 rfl rfl rfl
 ·obtain rfl:=os (bf hx30 hg28)
  exact nT rfl hg28 rfl<|nT rfl hg28 rfl<|N2 (G1 rfl (by rw [hg28]; rfl)) rfl<|A0 (C6 rfl hg28 rfl) rfl<|ge 4 rfl rfl rfl
 refine qm rfl<|gp 3 138 (.b (x30 && (x6.2.1 == 14))) 135 rfl rfl (fun hg31=>?_) (fun hg31=>?_) ?_
 ·exact gT rfl hg31<|qm rfl<|gT rfl hg31<|A0 (F3 rfl rfl) rfl<|A0 (C7 rfl hg31 rfl) rfl<|ge 3 (by rw [hg31]; rfl) rfl rfl
 ·exact nT rfl hg31 rfl<|nT rfl hg31 rfl<|A0 (C6 rfl hg31 rfl) rfl<|ge 3 (by rw [hg31]; rfl) rfl rfl
 refine qm rfl<|gp 4 143 (.b x34) 139 rfl rfl (fun hg32=>?_) (fun hg32=>?_) ?_
 ·refine oB (bt hx34 hg32) fun x33 hx33 hx34=>?_
  obtain rfl:=os hx34
  exact gT rfl hg32<|qm rfl<|gT rfl hg32<|A0 (G5 (rows:=List.map cI [2]) rfl rfl (D8 (fun _=>rfl) _)) rfl<|gT rfl hg32<|B4 (rs:=[.b x33]) rfl rfl (A2 rfl (A2 rfl B6)) ((K7 hx33).frz)<|A0 (C7 rfl hg32 rfl) rfl<|ge 4 rfl rfl rfl
 ·obtain rfl:=os (bf hx34 hg32)
  exact nT rfl hg32 rfl<|nT rfl hg32 rfl<|N2 (G1 rfl (by rw [hg32]; rfl)) rfl<|A0 (C6 rfl hg32 rfl) rfl<|ge 4 rfl rfl rfl
 refine qm rfl<|gp 3 147 (.b (x34 && (x9.1 == 10))) 144 rfl rfl (fun hg35=>?_) (fun hg35=>?_) ?_
 ·exact gT rfl hg35<|qm rfl<|gT rfl hg35<|A0 (F3 rfl rfl) rfl<|A0 (C7 rfl hg35 rfl) rfl<|ge 3 (by rw [hg35]; rfl) rfl rfl
 ·exact nT rfl hg35 rfl<|nT rfl hg35 rfl<|A0 (C6 rfl hg35 rfl) rfl<|ge 3 (by rw [hg35]; rfl) rfl rfl
 refine qm rfl<|gp 4 152 (.b x38) 148 rfl rfl (fun hg36=>?_) (fun hg36=>?_) ?_
 ·refine oB (bt hx38 hg36) fun x37 hx37 hx38=>?_
  obtain rfl:=os hx38
  exact gT rfl hg36<|qm rfl<|gT rfl hg36<|A0 (G5 (rows:=List.map cI [0]) rfl rfl (D8 (fun _=>rfl) _)) rfl<|gT rfl hg36<|B4 (rs:=[.b x37]) rfl rfl (A2 rfl (A2 rfl B6)) ((K7 hx37).frz)<|A0 (C7 rfl hg36 rfl) rfl<|ge 4 rfl rfl rfl
 ·obtain rfl:=os (bf hx38 hg36)
  exact nT rfl hg36 rfl<|nT rfl hg36 rfl<|N2 (G1 rfl (by rw [hg36]; rfl)) rfl<|A0 (C6 rfl hg36 rfl) rfl<|ge 4 rfl rfl rfl
 refine qm rfl<|gp 4 157 (.b x41) 153 rfl rfl (fun hg39=>?_) (fun hg39=>?_) ?_
 ·refine oB (bt hx41 hg39) fun x40 hx40 hx41=>?_
  obtain rfl:=os hx41
  exact gT rfl hg39<|qm rfl<|gT rfl hg39<|A0 (G5 (rows:=List.map cI [0,1]) rfl rfl (D8 (fun _=>rfl) _)) rfl<|gT rfl hg39<|B4 (rs:=[.b x40]) rfl rfl (A2 rfl (A2 rfl B6)) ((K7 hx40).frz)<|A0 (C7 rfl hg39 rfl) rfl<|ge 4 rfl rfl rfl
 ·obtain rfl:=os (bf hx41 hg39)
  exact nT rfl hg39 rfl<|nT rfl hg39 rfl<|N2 (G1 rfl (by rw [hg39]; rfl)) rfl<|A0 (C6 rfl hg39 rfl) rfl<|ge 4 rfl rfl rfl
 refine qm rfl<|gp 3 161 (.b (x41 && (x11.2.1 == 14))) 158 rfl rfl (fun hg42=>?_) (fun hg42=>?_) ?_
 ·exact gT rfl hg42<|qm rfl<|gT rfl hg42<|A0 (F3 rfl rfl) rfl<|A0 (C7 rfl hg42 rfl) rfl<|ge 3 (by rw [hg42]; rfl) rfl rfl
 ·exact nT rfl hg42 rfl<|nT rfl hg42 rfl<|A0 (C6 rfl hg42 rfl) rfl<|ge 3 (by rw [hg42]; rfl) rfl rfl
 refine qm rfl<|es (ra1 rfl)<|C4 ?_
 obtain rfl:=os h
 exact retq trivial (B1 rfl B8) (A6 rfl B9) (A3 A8 B2)
end Ds
end
section
set_option maxRecDepth 100000
namespace Ds
theorem awake:S7 = some true:= by decide +kernel
end Ds
end
section
set_option maxRecDepth 100000
set_option maxHeartbeats 0
namespace Ds
open Go Am Go.Proofs.Ytdkflofgolehkaa.Cd
end Ds
end
section
namespace Ds
open Go Am
abbrev Prs:=List (Nat × DrLook)
def cst (r:DrRoom) (x:Nat × DrLook):Int:=one r r.Figures[x.1]! x.2
def hr (r:DrRoom) (c:Nat) (x:Nat × DrLook):Int:=A5j r.Figures[x.1]! x.2 (c:Int)
def A7x (r:DrRoom) (z:Prs):Int:=sm (z.map (cst r))
def E4 (r:DrRoom) (z:Prs) (c:Nat):Int:=r.Ounces.getD c 0 + sm (z.map (hr r c))
def J5 (r:DrRoom) (z:Prs):dress_plan:=⟨ints (z.map (·.1)),A7x r z,⟨E4 r z 0,E4 r z 1,E4 r z 2,E4 r z 3⟩⟩
def B5l (r:DrRoom) (z:Prs):Prop:=z.length≤5∧∀ x ∈ z,x.1 < r.Figures.length∧LkOk r (-1) x.2
theorem D1y {r:DrRoom} (ok:RmOk r) (x:Nat × DrLook):0≤cst r x∧cst r x≤400:=C64 ok _ _
theorem C20 {r:DrRoom} (ok:RmOk r) (z:Prs):0≤A7x r z∧A7x r z≤400 * z.length:= by
 have:=C5o (a:=0) (b:=400) (l:=z.map (cst r)) fun x hx=>by
  obtain ⟨k,_,rfl⟩:=List.mem_map.mp hx
  exact D1y ok k
 rw [List.length_map] at this
 unfold A7x; omega
theorem D6h {r:DrRoom} (ok:RmOk r) (c:Nat) {x:Nat × DrLook} (h:x.1 < r.Figures.length∧LkOk r (-1) x.2):-50≤hr r c x∧hr r c x≤50:= by
 have h1:=(ok.figure _ (I8 h.1)).hair
 have h2:=h.2.hair
 unfold hr A5j
 split
 ·split <;> split <;> omega
 ·omega
theorem C4z {r:DrRoom} (ok:RmOk r) (c:Nat):0≤r.Ounces.getD c 0∧r.Ounces.getD c 0≤50:= by
 rw [List.getD_eq_getElem?_getD]
 by_cases h:c < r.Ounces.length
 ·rw [List.getElem?_eq_getElem h]; exact ok.ounce _ (List.getElem_mem h)
 ·rw [List.getElem?_eq_none (by omega)]; decide
theorem B2k {r:DrRoom} (ok:RmOk r) {z:Prs} (hz:B5l r z) (c:Nat):-250≤E4 r z c∧E4 r z c≤300:= by
 have:=C5o (a:=-50) (b:=50) (l:=z.map (hr r c)) fun x hx=>by
  obtain ⟨k,hk,rfl⟩:=List.mem_map.mp hx
  exact D6h ok c (hz.2 k hk)
 have h2:=C4z ok c
 have h3:=hz.1
 rw [List.length_map] at this
 unfold E4; omega
theorem B5l.take {r:DrRoom} {z:Prs} (h:B5l r z) (n:Nat):B5l r (z.take n) :=
 ⟨by have:=h.1; rw [List.length_take]; omega,fun x hx=>h.2 x (List.mem_of_mem_take hx)⟩
theorem D04 (r:DrRoom) (z:Prs) (x:Nat × DrLook):A7x r (z++[x]) = A7x r z + cst r x:= by
 unfold A7x; rw [List.map_append,A4q]; simp [sm]
theorem C6u (r:DrRoom) (z:Prs) (x:Nat × DrLook) (c:Nat):E4 r (z++[x]) c = E4 r z c + hr r c x:= by
 unfold E4; rw [List.map_append,A4q]; simp [sm]; omega
theorem C9e {r:DrRoom} (ok:RmOk r) {z:Prs} (hz:B5l r z) {f:Nat} {p:DrLook} (hx:f < r.Figures.length∧LkOk r (-1) p):U5 (J5 r z) (f:Int) (chg r r.Figures[f]! p) = some (J5 r (z++[(f,p)])):= by
 have hl:=hz.1
 have hs:=C20 ok z
 have hc:=C64 ok r.Figures[f]! p
 have hb:∀c:Nat,w64 (E4 r z c + A5j r.Figures[f]! p (c:Int)) = E4 r (z++[(f,p)]) c:=fun c=>by
  have h1:=B2k ok hz c
  have h2:=D6h ok c (x:=(f,p)) hx
  rw [C6u]
  have h2':-50≤A5j r.Figures[f]! p (c:Int)∧A5j r.Figures[f]! p (c:Int)≤50:=h2
  exact E0 (by omega)
 unfold U5
 rw [U1 (by omega) (by show (ints _).length + 1≤_; rw [F4,List.length_map]; omega)]
 simp only [Option.bind_some]
 have h0:=hb 0
 have h1:=hb 1
 have h2:=hb 2
 have h3:=hb 3
 have hloop:loop (T5 (chg r r.Figures[f]! p)) (0,(J5 r z).left_) = some (J5 r (z++[(f,p)])).left_:= by
  have:=J4 (b:=T5 (chg r r.Figures[f]! p)) (fun i=>((i:Int),(match i with
   | 0=>⟨E4 r z 0,E4 r z 1,E4 r z 2,E4 r z 3⟩
   | 1=>⟨E4 r (z++[(f,p)]) 0,E4 r z 1,E4 r z 2,E4 r z 3⟩
   | 2=>⟨E4 r (z++[(f,p)]) 0,E4 r (z++[(f,p)]) 1,E4 r z 2,E4 r z 3⟩
   | 3=>⟨E4 r (z++[(f,p)]) 0,E4 r (z++[(f,p)]) 1,E4 r (z++[(f,p)]) 2,E4 r z 3⟩
   | _=>(J5 r (z++[(f,p)])).left_:Ar4 Int))) 4 (r:=(J5 r (z++[(f,p)])).left_) (by omega) (fun i hi=>by
   unfold T5
   generalize r.Figures[f]! = F at h0 h1 h2 h3 ⊢
   rcases (by omega:i = 0∨i = 1∨i = 2∨i = 3) with rfl | rfl | rfl | rfl <;> simp [idx,Ar4.l,Ar4.set,chg,J5]
   ·exact ⟨E0 (by omega),h0⟩
   ·exact ⟨E0 (by omega),h1⟩
   ·exact ⟨E0 (by omega),h2⟩
   ·exact ⟨E0 (by omega),h3⟩) rfl
  exact this
 rw [hloop]
 simp only [Option.bind_some,Option.some.injEq]
 have e1:w64 (A7x r z + one r r.Figures[f]! p) = A7x r (z++[(f,p)]):= by
  rw [D04]; exact E0 (by omega)
 show (⟨ints (z.map (·.1))++[(f:Int)],w64 (A7x r z + one r r.Figures[f]! p),(J5 r (z++[(f,p)])).left_⟩:dress_plan) = J5 r (z++[(f,p)])
 rw [e1]
 unfold J5 ints
 simp
def below (x:Int):Int:=if x < 0 then -x else 0
def A72 (r:DrRoom) (z:Prs):List Int:=(List.range r.Ounces.length).map fun c=>below (E4 r z c)
def A5e (r:DrRoom) (z:Prs):Bool:=(List.range r.Ounces.length).all fun c=>decide (0≤E4 r z c)
theorem D2e {r:DrRoom} (ok:RmOk r) {x:Nat × DrLook} (h:x.1 < r.Figures.length∧LkOk r (-1) x.2) {c:Nat} (hc:r.Ounces.length≤c):hr r c x = 0:= by
 have h1:=(ok.figure _ (I8 h.1)).col
 have h2:=h.2.col
 unfold hr A5j
 have e1:r.Figures[x.1]!.Looks[0]! ≠ (c:Int):= by omega
 have e2:x.2.Looks[0]! ≠ (c:Int):= by omega
 rw [if_neg e1,if_neg e2]
 simp
theorem C4g {r:DrRoom} (ok:RmOk r) {z:Prs} (hz:B5l r z) {c:Nat} (hc:r.Ounces.length≤c):E4 r z c = 0:= by
 unfold E4
 rw [List.getD_eq_getElem?_getD,List.getElem?_eq_none hc,C2x fun x hx=>D2e ok (hz.2 x hx) hc]; rfl
theorem B93 {x:Int} (h:-1000≤x∧x≤1000):A8v 0 (w64 (0 - x)) = below x:= by
 rw [E0 (by omega)]
 unfold A8v below
 split <;> split <;> omega
theorem B6p {x:Int} (h:-1000≤x∧x≤1000):0≤below x∧below x≤1000:= by
 unfold below; split <;> omega
theorem D2r {r:DrRoom} (ok:RmOk r) {z:Prs} (hz:B5l r z):M5 (J5 r z) = some (⟨below (E4 r z 0),below (E4 r z 1),below (E4 r z 2),below (E4 r z 3)⟩,sm (A72 r z)):= by
 have hb:∀c,-1000≤E4 r z c∧E4 r z c≤1000:=fun c=>by have:=B2k ok hz c; omega
 have m:=fun c=>B93 (hb c)
 have q:=fun c=>B6p (hb c)
 have q0:=q 0
 have q1:=q 1
 have q2:=q 2
 have q3:=q 3
 have hs:sm (A72 r z) = below (E4 r z 0) + below (E4 r z 1) + below (E4 r z 2) + below (E4 r z 3):= by
  have ho:=ok.ounces
  have hf:∀c,r.Ounces.length≤c→below (E4 r z c) = 0:=fun c hc=>by rw [C4g ok hz hc]; rfl
  unfold A72
  rcases (by omega:r.Ounces.length = 1∨r.Ounces.length = 2∨r.Ounces.length = 3∨r.Ounces.length = 4) with e | e | e | e <;> rw [e] at hf ⊢
  ·rw [hf 1 (by omega),hf 2 (by omega),hf 3 (by omega)]; simp [List.range,List.range.loop,sm]
  ·rw [hf 2 (by omega),hf 3 (by omega)]; simp [List.range,List.range.loop,sm]
  ·rw [hf 3 (by omega)]; simp [List.range,List.range.loop,sm]; omega
  ·simp [List.range,List.range.loop,sm]; omega
 unfold M5
 have m0:=m 0
 rw [Int.zero_sub] at m0
 have m1:=m 1
 rw [Int.zero_sub] at m1
 have m2:=m 2
 rw [Int.zero_sub] at m2
 have m3:=m 3
 rw [Int.zero_sub] at m3
 have:=J4 (b:=S0 (J5 r z)) (fun i=>(match i with
   | 0=>(0,0,⟨0,0,0,0⟩)
   | 1=>(below (E4 r z 0),1,⟨below (E4 r z 0),0,0,0⟩)
   | 2=>(below (E4 r z 0) + below (E4 r z 1),2,⟨below (E4 r z 0),below (E4 r z 1),0,0⟩)
   | 3=>(below (E4 r z 0) + below (E4 r z 1) + below (E4 r z 2),3,⟨below (E4 r z 0),below (E4 r z 1),below (E4 r z 2),0⟩)
   | _=>(sm (A72 r z),4,⟨below (E4 r z 0),below (E4 r z 1),below (E4 r z 2),below (E4 r z 3)⟩):Int × Int × Ar4 Int)) 4 (r:=(sm (A72 r z),⟨below (E4 r z 0),below (E4 r z 1),below (E4 r z 2),below (E4 r z 3)⟩)) (by omega) (fun i hi=>by
  unfold S0
  rcases (by omega:i = 0∨i = 1∨i = 2∨i = 3) with rfl | rfl | rfl | rfl
  ·simp only [J5,idx,Ar4.l,Ar4.set]
   simp [m0]
   first | exact ⟨E0 (by omega),E0 (by omega)⟩ | exact E0 (by omega)
  ·simp only [J5,idx,Ar4.l,Ar4.set]
   simp [m1]
   first | exact ⟨E0 (by omega),E0 (by omega)⟩ | exact E0 (by omega)
  ·simp only [J5,idx,Ar4.l,Ar4.set]
   simp [m2]
   first | exact ⟨E0 (by omega),E0 (by omega)⟩ | exact E0 (by omega)
  ·simp only [J5,idx,Ar4.l,Ar4.set]
   simp [m3,hs]
   first | exact ⟨E0 (by omega),E0 (by omega)⟩ | exact E0 (by omega)) rfl
 rw [show ((0:Int),(0:Int),(Ar4.mk (0:Int) 0 0 0)) = (match (0:Nat) with
   | 0=>(0,0,⟨0,0,0,0⟩)
   | 1=>(below (E4 r z 0),1,⟨below (E4 r z 0),0,0,0⟩)
   | 2=>(below (E4 r z 0) + below (E4 r z 1),2,⟨below (E4 r z 0),below (E4 r z 1),0,0⟩)
   | 3=>(below (E4 r z 0) + below (E4 r z 1) + below (E4 r z 2),3,⟨below (E4 r z 0),below (E4 r z 1),below (E4 r z 2),0⟩)
   | _=>(sm (A72 r z),4,⟨below (E4 r z 0),below (E4 r z 1),below (E4 r z 2),below (E4 r z 3)⟩):Int × Int × Ar4 Int) from rfl,this]; rfl
theorem B6q {x:Int}:(below x == 0) = decide (0≤x):= by
 unfold below
 rw [Bool.eq_iff_iff,beq_iff_eq,decide_eq_true_eq]
 split <;> omega
theorem B6n {r:DrRoom} (ok:RmOk r) {z:Prs} (hz:B5l r z):L8 (J5 r z) = some (A5e r z):= by
 unfold L8
 rw [D2r ok hz]
 simp only [Option.bind_some,B6q,Bool.and_true,Option.some.injEq]
 have ho:=ok.ounces
 have hf:∀c,r.Ounces.length≤c→decide (0≤E4 r z c) = true:=fun c hc=>by rw [C4g ok hz hc]; rfl
 unfold A5e
 rcases (by omega:r.Ounces.length = 1∨r.Ounces.length = 2∨r.Ounces.length = 3∨r.Ounces.length = 4) with e | e | e | e <;> rw [e] at hf ⊢
 ·rw [hf 1 (by omega),hf 2 (by omega),hf 3 (by omega)]; simp [List.range,List.range.loop]
 ·rw [hf 2 (by omega),hf 3 (by omega)]; simp [List.range,List.range.loop]
 ·rw [hf 3 (by omega)]; simp [List.range,List.range.loop]
 ·simp [List.range,List.range.loop]
theorem B3e {q:List Nat} {ps:List DrLook} (h:q.length≤ps.length):(q.zip ps).length = q.length:= by
 rw [List.length_zip]; omega
structure QOk (r:DrRoom) (q:List Nat):Prop where
 len:q.length≤r.Persons.length
 fig:∀x ∈ q,x < r.Figures.length
def prs (r:DrRoom) (q:List Nat):Prs:=q.zip r.Persons
theorem QOk.pr {r:DrRoom} (ok:RmOk r) {q:List Nat} (h:QOk r q):B5l r (prs r q):= by
 refine ⟨by unfold prs; rw [B3e h.len]; have:=ok.persons; have:=h.len; omega,fun x hx=>?_⟩
 have:=List.of_mem_zip (a:=x.1) (b:=x.2) hx
 exact ⟨h.fig _ this.1,ok.person _ this.2⟩
end Ds
end
section
set_option maxRecDepth 100000
set_option maxHeartbeats 0
namespace Ds
open Go Am Go.Proofs.Ytdkflofgolehkaa.Cd
end Ds
end
section
namespace Ds
open Go Am
theorem C3e {r:DrRoom} (ok:RmOk r):begin0 r = J5 r []:= by
 have ho:=ok.ounces
 unfold begin0 J5 cpy4
 simp [ints,A7x,E4,sm,List.getD_eq_getElem?_getD]
section
variable {α β σ ρ:Type}
def W7 (f:α→σ→Option (σ ⊕ ρ)):List α→σ→Option (σ ⊕ ρ)
 | [],s=>some (.inl s)
 | a :: l,s=>(f a s).bind fun x=>match x with
  | .inl s'=>W7 f l s'
  | .inr r=>some (.inr r)
theorem B13 (f:α→σ→Option (σ ⊕ ρ)) (m:List α):∀(l:List α) (s:σ),W7 f (l++m) s = (W7 f l s).bind fun x=>match x with
  | .inl s'=>W7 f m s'
  | .inr r=>some (.inr r)
 | [],s=>rfl
 | a :: l,s=>by
  show (f a s).bind _ = ((f a s).bind _).bind _
  cases f a s with
  | none=>rfl
  | some x=>cases x with
   | inl s'=>exact B13 f m l s'
   | inr r=>rfl
theorem B65 (f:α→σ→Option (σ ⊕ ρ)) (h:β→List α):∀(l:List β) (s:σ),W7 f (l.flatMap h) s = W7 (fun b s=>W7 f (h b) s) l s
 | [],s=>rfl
 | b :: l,s=>by
  rw [List.flatMap_cons,B13]
  show _ = (W7 f (h b) s).bind _
  cases W7 f (h b) s with
  | none=>rfl
  | some x=>cases x with
   | inl s'=>exact B65 f h l s'
   | inr r=>rfl
theorem A7d (f:α→σ→Option (σ ⊕ ρ)) (p:α→Bool):∀(l:List α) (s:σ),W7 f (l.filter p) s = W7 (fun a s=>if p a then f a s else some (.inl s)) l s
 | [],s=>rfl
 | a :: l,s=>by
  rw [List.filter_cons]
  cases h:p a with
  | false =>
   rw [if_neg (by decide),A7d f p l s]
   show _ = (if p a then f a s else some (.inl s)).bind _
   rw [h]; rfl
  | true =>
   rw [if_pos rfl]
   show (f a s).bind _ = (if p a then f a s else some (.inl s)).bind _
   rw [h,if_pos rfl]
   cases f a s with
   | none=>rfl
   | some x=>cases x with
    | inl s'=>exact A7d f p l s'
    | inr r=>rfl
def E0b (i:Nat):σ ⊕ ρ→(Int × σ) ⊕ (ρ ⊕ σ)
 | .inl s=>.inl (((i + 1:Nat):Int),s)
 | .inr r=>.inr (.inl r)
def C9b:σ ⊕ ρ→ρ ⊕ σ
 | .inl s=>.inr s
 | .inr r=>.inl r
end
def A8n (n:Nat) (q:List Nat):List Nat:=(List.range n).filter fun f=>!q.contains f
def DF (n:Nat):Nat→List Nat→List (List Nat)
 | 0,q=>[q]
 | d + 1,q=>(A8n n q).flatMap fun f=>DF n d (q++[f])
def bit (u i:Nat):Bool:=u / 2 ^ i % 2 == 1
def C21 (u:Int) (q:List Nat):Prop:=∃ n:Nat,u = (n:Int)∧n < 64∧∀ f,f < 6→bit n f = q.contains f
theorem C81:∀u:Nat,u < 64→∀ p:Nat,p < 6→orI (u:Int) ((2 ^ p:Nat):Int) = ((u ||| 2 ^ p:Nat):Int)∧(u ||| 2 ^ p) < 64:= by decide +kernel
theorem D7q:∀u:Nat,u < 64→∀ p:Nat,p < 6→∀ t:Nat,t < 6→bit (u ||| 2 ^ p) t = (bit u t || t == p):= by decide +kernel
theorem C7s:C21 0 []:=⟨0,rfl,by decide,by decide⟩
theorem D06 {u:Int} {q:List Nat} (hu:C21 u q) {p:Nat} (hp:p < 6):C21 (orI u ((2 ^ p:Nat):Int)) (q++[p]):= by
 obtain ⟨n,rfl,h1,h2⟩:=hu
 refine ⟨n ||| 2 ^ p,(C81 n h1 p hp).1,(C81 n h1 p hp).2,fun f hf=>?_⟩
 rw [D7q n h1 p hp f hf,h2 f hf,Bool.eq_iff_iff]
 simp
def B0d (n:Nat) (S k:Nat):List Nat:=(List.range n).filter fun i=>decide (k≤i) && bit S i
def A1g (r:DrRoom) (S k:Nat):List DrLook:=(B0d r.Persons.length S k).map fun i=>r.Persons[i]!
theorem B1d (n S k:Nat):B0d n S k = (List.range' k (n - k)).filter (bit S):= by
 unfold B0d
 by_cases h:k≤n
 ·have e:List.range n = List.range k++List.range' k (n - k):= by
   rw [List.range_eq_range',List.range_eq_range',show List.range' k (n - k) = List.range' (0 + 1 * k) (n - k) by simp,List.range'_append]; congr 1; omega
  rw [e,List.filter_append,List.filter_eq_nil_iff.mpr (by
   intro i hi
   have:i < k:= by simpa using hi
   simp; omega),List.nil_append]
  refine List.filter_congr fun i hi=>?_
  rw [List.mem_range'_1] at hi
  rw [decide_eq_true hi.1,Bool.true_and]
 ·rw [show n - k = 0 by omega,List.range'_zero,List.filter_nil,List.filter_eq_nil_iff]
  intro i hi
  have:i < n:= by simpa using hi
  simp; omega
theorem B4c {n S k:Nat} (h:k < n):B0d n S k = if bit S k then k :: B0d n S (k + 1) else B0d n S (k + 1):= by
 rw [B1d,B1d,show n - k = (n - (k + 1)) + 1 by omega,List.range'_succ,List.filter_cons]
theorem D3y {n S k:Nat} (h:n≤k):B0d n S k = []:= by rw [B1d,show n - k = 0 by omega]; rfl
theorem C89 (r:DrRoom) (hP:r.Persons.length≤5) {S:Nat} (hS:S < 64):∀(d k:Nat),k + d = r.Persons.length →
  ∃ k':Nat,loop (B8s r (S:Int)) (k:Int) = some (k':Int)∧k≤k'∧k'≤r.Persons.length∧B0d r.Persons.length S k = B0d r.Persons.length S k'∧(k' < r.Persons.length→bit S k' = true):= by
 intro d k hk
 have key:∀(d k m:Nat),k + d = r.Persons.length→d < m→∃ k':Nat,A4c (B8s r (S:Int)) m (k:Int) = some (k':Int)∧k≤k'∧k'≤r.Persons.length∧B0d r.Persons.length S k = B0d r.Persons.length S k'∧(k' < r.Persons.length→bit S k' = true):= by
  intro d
  induction d with
  | zero =>
   intro k m hk hm
   obtain ⟨m',rfl⟩:∃m',m = m' + 1:=⟨m - 1,by omega⟩
   refine ⟨k,?_,Nat.le_refl _,by omega,rfl,fun c=>by omega⟩
   rw [I0]
   unfold B8s
   rw [if_neg (by simp; omega)]; rfl
  | succ d ih =>
   intro k m hk hm
   obtain ⟨m',rfl⟩:∃m',m = m' + 1:=⟨m - 1,by omega⟩
   have hb:(B0s ((S / 2 ^ k:Nat):Int) 1 == 0) = !bit S k:=and0 (Nat.lt_of_le_of_lt (Nat.div_le_self _ _) hS)
   have e:B8s r (S:Int) (k:Int) = if bit S k then some (.inr (k:Int)) else some (.inl ((k + 1:Nat):Int)):= by
    unfold B8s
    rw [if_pos (by simp; omega),C2w _ _ (by omega)]
    simp only [Option.bind_some]
    rw [hb,E0 (by omega)]
    cases bit S k <;> rfl
   cases hq:bit S k with
   | true =>
    refine ⟨k,?_,Nat.le_refl _,by omega,rfl,fun _=>hq⟩
    rw [I0,e,hq]; rfl
   | false =>
    obtain ⟨k',h1,h2,h3,h4,h5⟩:=ih (k + 1) m' (by omega) (by omega)
    refine ⟨k',?_,by omega,h3,?_,h5⟩
    ·rw [I0,e,hq]; exact h1
    ·rw [B4c (by omega),hq,← h4]; rfl
 exact key d k _ hk (by omega)
section
variable {σ ρ:Type}
theorem D4b {q:List Nat} {ps:List DrLook} {f:Nat} {p:DrLook} {l:List DrLook} (h:ps.drop q.length = p :: l):(q++[f]).zip ps = q.zip ps++[(f,p)]∧ps.drop (q++[f]).length = l:= by
 have hps:ps = ps.take q.length++p :: l:= by rw [← h,List.take_append_drop]
 have hlen:(ps.take q.length).length = q.length:= by
  have:q.length < ps.length:= by
   have:=congrArg List.length h
   rw [List.length_drop] at this; simp at this; omega
  rw [List.length_take]; omega
 constructor
 ·generalize ps.take q.length = a at *
  subst hps
  rw [List.zip_append hlen.symm]
  have:q.zip (a++p :: l) = q.zip a++([]:List Nat).zip (p :: l):= by
   rw [← List.zip_append hlen.symm,List.append_nil]
  rw [this]; simp
 ·rw [List.length_append,← List.drop_drop,h]; rfl
theorem D20 {r:DrRoom} (ok:RmOk r) {ch:Chg} (hch:C55 r ch) {S:Nat} (hS:S < 64) (ps:List DrLook) (hps:∀p ∈ ps,LkOk r (-1) p) (hpl:ps.length≤5) (body:dress_plan→σ→Option (σ ⊕ ρ)) :
  ∀ (d k:Nat) (q:List Nat) (u:Int) (s:σ) (X:σ ⊕ ρ) (m:Nat),ps.drop q.length = A1g r S k→(A1g r S k).length = d→k≤r.Persons.length→C21 u q→(∀ f ∈ q,f < r.Figures.length)→q.length + d = ps.length→d < m →
   W7 (fun q s=>body (J5 r (q.zip ps)) s) (DF r.Figures.length d q) s = some X→A73 r ch (S:Int) body m (k:Int) u (J5 r (q.zip ps)) s = some X:= by
 have hP:=ok.persons
 have hF:=ok.figures
 intro d
 induction d with
 | zero =>
  intro k q u s X m hd hl hk hu hq hlen hm hf
  obtain ⟨m',rfl⟩:∃m',m = m' + 1:=⟨m - 1,by omega⟩
  obtain ⟨k',h1,h2,h3,h4,h5⟩:=C89 r hP hS (r.Persons.length - k) k (by omega)
  have e:k' = r.Persons.length:= by
   by_cases c:k' < r.Persons.length
   ·unfold A1g at hl
    rw [h4,B4c c,h5 c] at hl
    simp at hl
   ·omega
  subst e
  unfold A73
  rw [h1]
  simp only [Option.bind_some,BEq.rfl,if_true]
  unfold DF at hf
  unfold W7 at hf
  cases hb:body (J5 r (q.zip ps)) s with
  | none=>rw [hb] at hf; cases hf
  | some x=>rw [hb] at hf; cases x <;> cases hf <;> rfl
 | succ d ih =>
  intro k q u s X m hd hl hk hu hq hlen hm hf
  obtain ⟨m',rfl⟩:∃m',m = m' + 1:=⟨m - 1,by omega⟩
  obtain ⟨k',h1,h2,h3,h4,h5⟩:=C89 r hP hS (r.Persons.length - k) k (by omega)
  have c:k' < r.Persons.length:= by
   by_cases c:k' < r.Persons.length
   ·exact c
   ·unfold A1g at hl
    rw [h4,D3y (by omega)] at hl
    simp at hl
  have hsel:A1g r S k = r.Persons[k']! :: A1g r S (k' + 1):= by
   unfold A1g
   rw [h4,B4c c,h5 c]; rfl
  rw [hsel] at hd hl
  have hne:((k':Int) == (r.Persons.length:Int)) = false:= by simp; omega
  have hPk:LkOk r (-1) r.Persons[k']!:=ok.person _ (I8 c)
  have hz:B5l r (q.zip ps):=⟨by rw [List.length_zip]; omega,fun x hx=>by
   have:=List.of_mem_zip (a:=x.1) (b:=x.2) hx
   exact ⟨hq _ this.1,hps _ this.2⟩⟩
  unfold A73
  rw [h1]
  simp only [Option.bind_some,hne,Bool.false_eq_true,if_false]
  unfold DF A8n at hf
  rw [B65,A7d] at hf
  have hloop:loop (B9h r ch (A73 r ch (S:Int) body m') (k':Int) u (J5 r (q.zip ps))) (0,s) = some (C9b X):= by
   have key:∀(j i m2:Nat) (s:σ),i + j = r.Figures.length→j < m2→W7 (fun f s=>if (!q.contains f) = true then W7 (fun q s=>body (J5 r (q.zip ps)) s) (DF r.Figures.length d (q++[f])) s else some (.inl s)) ((List.range r.Figures.length).drop i) s = some X →
     A4c (B9h r ch (A73 r ch (S:Int) body m') (k':Int) u (J5 r (q.zip ps))) m2 ((i:Int),s) = some (C9b X):= by
    intro j
    induction j with
    | zero =>
     intro i m2 s hi hm2 h
     obtain ⟨m3,rfl⟩:∃m3,m2 = m3 + 1:=⟨m2 - 1,by omega⟩
     rw [List.drop_of_length_le (by simp; omega)] at h
     cases h
     rw [I0]
     unfold B9h
     simp only []
     rw [if_neg (by simp; omega)]; rfl
    | succ j ihj =>
     intro i m2 s hi hm2 h
     obtain ⟨m3,rfl⟩:∃m3,m2 = m3 + 1:=⟨m2 - 1,by omega⟩
     have hi2:i < (List.range r.Figures.length).length:= by simp; omega
     rw [List.drop_eq_getElem_cons hi2,List.getElem_range] at h
     obtain ⟨n,rfl,hn,hbit⟩:=hu
     have hb:(B0s ((n / 2 ^ i:Nat):Int) 1 == 1) = q.contains i:= by
      rw [and1 (Nat.lt_of_le_of_lt (Nat.div_le_self _ _) hn)]; exact hbit i (by omega)
     unfold W7 at h
     cases hc:q.contains i with
     | true =>
      have e:B9h r ch (A73 r ch (S:Int) body m') (k':Int) (n:Int) (J5 r (q.zip ps)) ((i:Int),s) = some (.inl (((i + 1:Nat):Int),s)):= by
       unfold B9h
       simp only []
       rw [if_pos (by simp; omega),C2w _ _ (by omega)]
       simp only [Option.bind_some]
       rw [hb,hc,if_pos rfl,E0 (by omega)]; rfl
      rw [hc] at h
      rw [I0,e]
      exact ihj (i + 1) m3 s (by omega) (by omega) h
     | false =>
      rw [hc] at h
      simp only [Bool.not_false,if_true] at h
      obtain ⟨z1,z2⟩:=D4b (f:=i) hd
      cases hX:W7 (fun q s=>body (J5 r (q.zip ps)) s) (DF r.Figures.length d (q++[i])) s with
      | none=>rw [hX] at h; cases h
      | some Y =>
       rw [hX] at h
       have hr:=ih (k' + 1) (q++[i]) (orI (n:Int) ((2 ^ i:Nat):Int)) s Y m' (by rw [z2]) (by simpa using hl) (by omega) (D06 ⟨n,rfl,hn,hbit⟩ (by omega)) (fun f hf=>by
        rcases List.mem_append.mp hf with hf | hf
        ·exact hq f hf
        ·have:f = i:= by simpa using hf
         omega) (by rw [List.length_append]; simp; omega) (by omega) hX
       rw [z1] at hr
       have e:B9h r ch (A73 r ch (S:Int) body m') (k':Int) (n:Int) (J5 r (q.zip ps)) ((i:Int),s) = some (E0b i Y):= by
        unfold B9h
        simp only []
        rw [if_pos (by simp; omega),C2w _ _ (by omega)]
        simp only [Option.bind_some]
        rw [hb,hc,if_neg (by decide)]
        have hg:=hch i k' (by omega) c
        unfold A37
        rw [hg,Option.getD_some,C9e ok hz ⟨by omega,hPk⟩]
        simp only [Option.bind_some]
        rw [A96 i (by omega),E0 (n:=(k':Int) + 1) (by omega)]
        simp only [Option.bind_some]
        rw [show (((k':Nat):Int) + 1) = ((k' + 1:Nat):Int) from rfl,hr]
        cases Y with
        | inl s'=>simp only [Option.bind_some]; rw [E0 (by omega)]; rfl
        | inr x=>rfl
       rw [I0,e]
       cases Y with
       | inl s'=>exact ihj (i + 1) m3 s' (by omega) (by omega) h
       | inr x=>cases h; rfl
   exact key r.Figures.length 0 _ s (by omega) (by omega) hf
  rw [hloop]
  cases X <;> rfl
end
theorem B6h {n:Nat}:∀{d:Nat} {q p:List Nat},p ∈ DF n d q↔∃ t,p = q++t∧t.length = d∧t.Nodup∧∀ x ∈ t,x < n∧x ∉ q
 | 0,q,p=>by
  unfold DF
  rw [List.mem_singleton]
  constructor
  ·rintro rfl; exact ⟨[],by simp⟩
  ·rintro ⟨t,rfl,h,-,-⟩
   rw [List.length_eq_zero_iff.mp h,List.append_nil]
 | d + 1,q,p=>by
  unfold DF A8n
  rw [List.mem_flatMap]
  constructor
  ·rintro ⟨f,hf,hp⟩
   obtain ⟨t,rfl,h1,h2,h3⟩:=B6h.mp hp
   have hf:=List.mem_filter.mp hf
   have hfn:f < n:= by simpa using hf.1
   have hfq:f ∉ q:= by simpa using hf.2
   refine ⟨f :: t,by simp,by simp [h1],?_,?_⟩
   ·rw [List.nodup_cons]
    exact ⟨fun c=>(h3 f c).2 (by simp),h2⟩
   ·intro x hx
    rcases List.mem_cons.mp hx with rfl | hx
    ·exact ⟨hfn,hfq⟩
    ·have:=h3 x hx
     exact ⟨this.1,fun c=>this.2 (List.mem_append_left _ c)⟩
  ·rintro ⟨t,rfl,h1,h2,h3⟩
   cases t with
   | nil=>cases h1
   | cons f t =>
    rw [List.nodup_cons] at h2
    have hf:=h3 f (List.mem_cons_self ..)
    refine ⟨f,List.mem_filter.mpr ⟨by simpa using hf.1,by simpa using hf.2⟩,B6h.mpr ⟨t,by simp,by simpa using h1,h2.2,fun x hx=>⟨(h3 x (List.mem_cons_of_mem _ hx)).1,fun c=>?_⟩⟩⟩
    rcases List.mem_append.mp c with c | c
    ·exact (h3 x (List.mem_cons_of_mem _ hx)).2 c
    ·have:x = f:= by simpa using c
     subst this; exact h2.1 hx
def perms (n d:Nat):List (List Nat):=DF n d []
theorem A90 {n d:Nat} {p:List Nat}:p ∈ perms n d↔p.length = d∧p.Nodup∧∀ x ∈ p,x < n:= by
 unfold perms
 rw [B6h]
 constructor
 ·rintro ⟨t,rfl,h1,h2,h3⟩
  exact ⟨h1,h2,fun x hx=>(h3 x hx).1⟩
 ·rintro ⟨h1,h2,h3⟩
  exact ⟨p,rfl,h1,h2,fun x hx=>⟨h3 x hx,by simp⟩⟩
theorem C13 {α β:Type} {f:α→List β} {b:Nat}:∀{l:List α},(∀ x ∈ l,(f x).length≤b)→(l.flatMap f).length≤l.length * b
 | [],_=>by simp
 | x :: l,h=>by
  have h1:=h x (List.mem_cons_self ..)
  have ih:=C13 (l:=l) fun y hy=>h y (List.mem_cons_of_mem _ hy)
  rw [List.flatMap_cons,List.length_append,List.length_cons,Nat.succ_mul]; omega
theorem B5s {n:Nat} (hn:n≤6):∀(d:Nat) (q:List Nat),(DF n d q).length≤6 ^ d
 | 0,q=>by simp [DF]
 | d + 1,q=>by
  unfold DF
  have h1:(A8n n q).length≤6:= by
   unfold A8n
   exact Nat.le_trans (List.length_filter_le _ _) (by simpa using hn)
  have:=C13 (l:=A8n n q) (f:=fun f=>DF n d (q++[f])) (b:=6 ^ d) fun f _=>B5s hn d _
  rw [Nat.pow_succ]
  calc _≤(A8n n q).length * 6 ^ d:=this
   _≤6 * 6 ^ d:=Nat.mul_le_mul_right _ h1
   _ = 6 ^ d * 6:=Nat.mul_comm _ _
theorem B1b {n d:Nat} (hn:n≤6) (hd:d≤5):(perms n d).length≤7776 :=
 Nat.le_trans (B5s hn d []) (Nat.le_trans (Nat.pow_le_pow_right (by decide) hd) (by decide))
def fm {α:Type} (k:α→Int):List α→Option α
 | []=>none
 | x :: l=>match fm k l with
  | none=>some x
  | some y=>if k y < k x then some y else some x
section
variable {α:Type} {k:α→Int}
theorem B5z:∀{l:List α},fm k l = none↔l = []
 | []=>⟨fun _=>rfl,fun _=>rfl⟩
 | x :: l=>by
  refine ⟨fun h=>?_,fun h=>by cases h⟩
  unfold fm at h
  split at h
  ·cases h
  ·split at h <;> cases h
theorem B12:∀{l:List α} {b:α},fm k l = some b→(∀ y ∈ l,k b≤k y)∧∃ A B,l = A++b :: B∧∀ a ∈ A,k b < k a
 | [],b,h=>by cases h
 | x :: l,b,h=>by
  unfold fm at h
  cases hf:fm k l with
  | none =>
   rw [hf] at h; cases h
   rw [B5z.mp hf]
   exact ⟨by simp,[],[],rfl,by simp⟩
  | some y =>
   rw [hf] at h
   obtain ⟨h1,A,B,rfl,h3⟩:=B12 hf
   simp only at h
   split at h
   ·next c =>
    cases h
    refine ⟨fun z hz=>?_,x :: A,B,rfl,fun a ha=>?_⟩
    ·rcases List.mem_cons.mp hz with rfl | hz
     ·omega
     ·exact h1 z hz
    ·rcases List.mem_cons.mp ha with rfl | ha
     ·exact c
     ·exact h3 a ha
   ·next c =>
    cases h
    refine ⟨fun z hz=>?_,[],A++y :: B,rfl,by simp⟩
    rcases List.mem_cons.mp hz with rfl | hz
    ·exact Int.le_refl _
    ·have:=h1 z hz; omega
theorem B0w {l:List α} {b:α} (h:fm k l = some b):b ∈ l:= by
 obtain ⟨_,A,B,rfl,_⟩:=B12 h
 simp
theorem D6f {l:List α} {b:α} (h:fm k l = some b) {y:α} (hy:y ∈ l):k b≤k y:=(B12 h).1 y hy
theorem D4r {l:List α} {x:α} (h:x ∈ l):∃b,fm k l = some b:= by
 cases hf:fm k l with
 | none=>rw [B5z.mp hf] at h; cases h
 | some b=>exact ⟨b,rfl⟩
theorem C14 (y:α):∀(l:List α),fm k (l++[y]) = match fm k l with
  | none=>some y
  | some b=>if k y < k b then some y else some b
 | []=>rfl
 | x :: l=>by
  show (match fm k (l++[y]) with | none=>some x | some z=>if k z < k x then some z else some x) = match (match fm k l with | none=>some x | some z=>if k z < k x then some z else some x) with | none=>some y | some b=>if k y < k b then some y else some b
  rw [C14 y l]
  cases fm k l with
  | none=>rfl
  | some b =>
   simp only
   by_cases c1:k b < k x <;> by_cases c2:k y < k b <;> by_cases c3:k y < k x <;> simp only [c1,c2,c3,if_true,if_false] <;> omega
theorem D15 {β:Type} (g:β→α):∀(l:List β),fm k (l.map g) = (fm (fun x=>k (g x)) l).map g
 | []=>rfl
 | x :: l=>by
  rw [List.map_cons]
  unfold fm
  rw [D15 g l]
  cases fm (fun x=>k (g x)) l with
  | none=>rfl
  | some y =>
   simp only [Option.map_some]
   split <;> rfl
end
theorem D7r {r:DrRoom} {z:Prs} (h:z.length≤5):A2d (J5 r z) = some (J5 r z):= by
 have hl:(ints (z.map (·.1))).length = z.length:= by rw [F4,List.length_map]
 unfold A2d
 show (C0y 8 ((ints (z.map (·.1))).length:Int) 0).bind _ = _
 rw [hl]
 unfold C0y
 rw [if_pos ⟨by omega,by omega,by omega⟩]
 simp only [Option.bind_some,Option.some.injEq]
 have:cpy (List.replicate (z.length:Int).toNat (0:Int)) (ints (z.map (·.1))) = ints (z.map (·.1)):= by
  unfold cpy
  rw [List.length_replicate,Int.toNat_natCast,hl,Nat.min_self,List.take_of_length_le (by omega),List.drop_of_length_le (by simp),List.append_nil]
 show (⟨cpy _ (ints (z.map (·.1))),_,_⟩:dress_plan) = _
 rw [this]; rfl
section
variable {α β ρ:Type}
theorem B0i {f:α→List β→Option (List β ⊕ ρ)} {p:α→Bool} {g:α→β}:∀{l:List α} {s:List β},s.length + l.length≤1000000000→(∀ a ∈ l,∀ s:List β,s.length < 1000000000→f a s = some (.inl (if p a then s++[g a] else s)))→W7 f l s = some (.inl (s++(l.filter p).map g))
 | [],s,_,_=>by simp [W7]
 | a :: l,s,hl,h=>by
  rw [List.length_cons] at hl
  unfold W7
  rw [h a (List.mem_cons_self ..) s (by omega)]
  simp only [Option.bind_some]
  have hq:(if p a then s++[g a] else s).length + l.length≤1000000000:= by
   split
   ·rw [List.length_append,List.length_singleton]; omega
   ·omega
  rw [B0i hq fun b hb=>h b (List.mem_cons_of_mem _ hb),List.filter_cons]
  cases p a <;> simp
end
structure PsOk (r:DrRoom) (ps:List DrLook):Prop where
 len:ps.length≤5
 look:∀p ∈ ps,LkOk r (-1) p
theorem PsOk.pr {r:DrRoom} {ps:List DrLook} (h:PsOk r ps) {q:List Nat} (hq:q ∈ perms r.Figures.length ps.length):B5l r (q.zip ps):= by
 have hq:=A90.mp hq
 refine ⟨by rw [List.length_zip]; have:=h.len; omega,fun x hx=>?_⟩
 have:=List.of_mem_zip (a:=x.1) (b:=x.2) hx
 exact ⟨hq.2.2 _ this.1,h.look _ this.2⟩
def AL (r:DrRoom) (ps:List DrLook):List (List Nat):=(perms r.Figures.length ps.length).filter fun q=>A5e r (q.zip ps)
theorem C1o {r:DrRoom} {ps:List DrLook} {q:List Nat}:q ∈ AL r ps↔(q.length = ps.length∧q.Nodup∧∀ x ∈ q,x < r.Figures.length)∧A5e r (q.zip ps) = true:= by
 unfold AL; rw [List.mem_filter,A90]
theorem B5q {r:DrRoom} (ok:RmOk r) {ps:List DrLook} (h:PsOk r ps):(AL r ps).length≤7776 :=
 Nat.le_trans (List.length_filter_le _ _) (B1b ok.figures h.len)
theorem C2v {r:DrRoom} (ok:RmOk r) (S k:Nat):PsOk r (A1g r S k):= by
 refine ⟨?_,fun p hp=>?_⟩
 ·unfold A1g B0d
  rw [List.length_map]
  have:=List.length_filter_le (fun i=>decide (k≤i) && bit S i) (List.range r.Persons.length)
  have:=ok.persons
  simp at *; omega
 ·unfold A1g B0d at hp
  obtain ⟨i,hi,rfl⟩:=List.mem_map.mp hp
  have:i < r.Persons.length:= by simpa using (List.mem_filter.mp hi).1
  exact ok.person _ (I8 this)
theorem C7a {σ ρ:Type} {r:DrRoom} (ok:RmOk r) {ch:Chg} (hch:C55 r ch) {S:Nat} (hS:S < 64) (body:dress_plan→σ→Option (σ ⊕ ρ)) {s:σ} {X:σ ⊕ ρ}
  (h:W7 (fun q s=>body (J5 r (q.zip (A1g r S 0))) s) (perms r.Figures.length (A1g r S 0).length) s = some X):A91 r ch (S:Int) σ ρ body s = some X:= by
 have hp:=C2v ok S 0
 unfold A91
 have:=D20 ok hch hS (A1g r S 0) hp.look hp.len body (A1g r S 0).length 0 [] 0 s X 64 rfl rfl (Nat.zero_le _) C7s (by simp) (by simp) (by have:=hp.len; omega) h
 rw [C3e ok]
 exact this
theorem C9a {r:DrRoom} (ok:RmOk r) {ch:Chg} (hch:C55 r ch) {S:Nat} (hS:S < 64):R8 r ch (S:Int) = some ((AL r (A1g r S 0)).map fun q=>J5 r (q.zip (A1g r S 0))):= by
 have hp:=C2v ok S 0
 have hF:=ok.figures
 have hsz:=B1b hF hp.len
 unfold R8
 rw [C7a ok hch hS A97 (s:=[]) (X:=.inl ((AL r (A1g r S 0)).map fun q=>J5 r (q.zip (A1g r S 0)))) (by
  have:=B0i (ρ:=Unit) (l:=perms r.Figures.length (A1g r S 0).length) (s:=([]:List dress_plan)) (f:=fun q s=>A97 (J5 r (q.zip (A1g r S 0))) s) (p:=fun q=>A5e r (q.zip (A1g r S 0))) (g:=fun q=>J5 r (q.zip (A1g r S 0))) (by simp; omega) (fun q hq s hs=>by
   have hz:=hp.pr hq
   unfold A97
   rw [B6n ok hz]
   simp only [Option.bind_some]
   cases A5e r (q.zip (A1g r S 0)) with
   | false=>rfl
   | true =>
    rw [if_pos rfl,D7r hz.1]
    simp only [Option.bind_some]
    rw [U1 (by omega) (by simp; omega)]; rfl)
  rw [this]; rfl)]
 rfl
theorem less1 (p q:dress_plan):B7i by1 p q = some (decide (p.cost_ < q.cost_)):= by
 unfold B7i
 have h1:∀i:Nat,i = 0→A5m by1 p q (i:Int) = some (if p.cost_ = q.cost_ then .inl 1 else .inr (.inl (decide (p.cost_ < q.cost_)))):= by
  rintro i rfl
  unfold A5m
  rw [if_pos (by decide)]
  rw [show idx by1 ((0:Nat):Int) = some (94,U9) from rfl]
  simp only [Option.bind_some,U9]
  by_cases c:p.cost_ = q.cost_
  ·rw [if_neg (by simp [c]),if_pos c]; rfl
  ·rw [if_pos (by simpa using c),if_neg c]
 have h2:A5m by1 p q 1 = some (.inr (.inr ())):= by unfold A5m; rw [if_neg (by decide)]
 by_cases c:p.cost_ = q.cost_
 ·have:=J4 (b:=A5m by1 p q) (fun i=>(i:Int)) 1 (r:=.inr ()) (by omega) (fun i hi=>by rw [h1 i (by omega),if_pos c]; congr 2; omega) h2
  rw [show (0:Int) = ((0:Nat):Int) from rfl,this,c]; simp
 ·have:=J4 (b:=A5m by1 p q) (fun i=>(i:Int)) 0 (r:=.inl (decide (p.cost_ < q.cost_))) (by omega) (fun i hi=>absurd hi (Nat.not_lt_zero i)) (by rw [h1 0 rfl,if_neg c])
  rw [show (0:Int) = ((0:Nat):Int) from rfl,this]; rfl
instance:Inhabited dress_plan:=⟨plan0⟩
theorem C9x (l:List dress_plan) (g:dress_plan × dress_plan→Option Bool) (k:dress_plan→Int) (hl:l.length < 1000000000) (hg:∀x ∈ l,∀ y ∈ l,g (x,y) = some (decide (k x < k y))) :
  M4 l g = some (match fm k l with | none=>(plan0,false) | some b=>(b,true)):= by
 unfold M4
 have:=J4 (b:=I5 l g) (fun i=>((match fm k (l.take i) with | none=>(false,(i:Int),plan0) | some b=>(true,(i:Int),b)):Bool × Int × dress_plan)) l.length (r:=match fm k l with | none=>(false,plan0) | some b=>(true,b)) (by omega) (fun i hi=>by
  have hsn:fm k (l.take (i + 1)) = match fm k (l.take i) with | none=>some l[i]! | some b=>if k l[i]! < k b then some l[i]! else some b:= by
   rw [List.take_succ_eq_append_getElem hi,C14,getElem!_pos l i hi]
   cases fm k (l.take i) <;> rfl
  rw [hsn]
  cases hf:fm k (l.take i) with
  | none =>
   have h0:i = 0:= by
    have:=congrArg List.length (B5z.mp hf)
    rw [List.length_take,List.length_nil] at this; omega
   subst h0
   unfold I5
   simp only []
   rw [if_pos (by simpa using hi),G2 hi]; rfl
  | some b =>
   have h0:i ≠ 0:= by rintro rfl; cases hf
   have hb:b ∈ l:=List.mem_of_mem_take (B0w hf)
   unfold I5
   simp only []
   rw [if_pos (by simpa using hi),G2 hi]
   simp only [Option.bind_some]
   rw [if_neg (by simp; omega),hg _ (I8 hi) b hb,E0 (by omega)]
   simp only [Option.bind_some]
   by_cases c:k l[i]! < k b
   ·rw [if_pos (by simpa using c),if_pos c]; rfl
   ·rw [if_neg (by simpa using c),if_neg c]; rfl) (by
  rw [List.take_length]
  cases fm k l with
  | none=>unfold I5; simp only []; rw [if_neg (by simp)]
  | some b=>unfold I5; simp only []; rw [if_neg (by simp)])
 rw [show ((false,0,(dress_plan.mk ([]:List Int) 0 (Ar4.mk 0 0 0 0))):Bool × Int × dress_plan) = (match fm k (l.take 0) with | none=>(false,((0:Nat):Int),plan0) | some b=>(true,((0:Nat):Int),b)) from rfl,this]
 simp only [Option.bind_some]
 cases fm k l <;> rfl
def W6 (r:DrRoom) (ps:List DrLook) (q:List Nat):Int:=A7x r (q.zip ps)
def W5 (r:DrRoom) (ps:List DrLook):Option (List Nat):=fm (W6 r ps) (AL r ps)
theorem B5v {r:DrRoom} (ok:RmOk r) {ch:Chg} (hch:C55 r ch) {S:Nat} (hS:S < 64) :
  P1 r ch (S:Int) = some (match W5 r (A1g r S 0) with | none=>(plan0,false) | some q=>(J5 r (q.zip (A1g r S 0)),true)):= by
 unfold P1
 rw [C9a ok hch hS]
 simp only [Option.bind_some]
 rw [C9x _ _ (fun p=>p.cost_) (by rw [List.length_map]; have:=B5q ok (C2v ok S 0); omega) (fun x _ y _=>less1 x y),D15]
 unfold W5
 rw [show (fun x=>(J5 r (x.zip (A1g r S 0))).cost_) = W6 r (A1g r S 0) from rfl]
 cases fm (W6 r (A1g r S 0)) (AL r (A1g r S 0)) <;> rfl
end Ds
end
section
set_option maxRecDepth 100000
set_option maxHeartbeats 0
namespace Ds
open Go Am Go.Proofs.Ytdkflofgolehkaa.Cd
end Ds
end
section
set_option maxRecDepth 100000
namespace Ds
open Go Am Go.Proofs.Ytdkflofgolehkaa.Cd
end Ds
end
section
set_option maxRecDepth 100000
set_option maxHeartbeats 0
namespace Ds
open Go Am Go.Proofs.Ytdkflofgolehkaa.Cd
end Ds
end
section
namespace Ds
open Go Am
theorem B7f (q:List Nat) (f:Nat):(ints q).any (· == (f:Int)) = q.contains f:= by
 unfold ints
 rw [List.any_map,Bool.eq_iff_iff,List.any_eq_true]
 simp only [Function.comp_def,beq_iff_eq,List.contains_iff_mem]
 constructor
 ·rintro ⟨x,hx,e⟩
  have:x = f:= by omega
  subst this; exact hx
 ·intro h; exact ⟨f,h,rfl⟩
def B0e (r:DrRoom):List Int × Int × Int :=
 if (chk r).2.2 ≠ 0 then ([],0,(chk r).2.2) else
 match W5 r r.Persons with
 | none=>([],0,9)
 | some q=>(ints q,W6 r r.Persons q,0)
theorem D3x {n S:Nat} (h:∀i,i < n→bit S i = true):B0d n S 0 = List.range n:= by
 unfold B0d
 rw [List.filter_eq_self]
 intro i hi
 rw [h i (by simpa using hi)]; simp
theorem C0x {α:Type} [Inhabited α] (l:List α):(List.range l.length).map (fun i=>l[i]!) = l:= by
 apply List.ext_getElem
 ·simp
 ·intro i h1 h2
  rw [List.getElem_map,List.getElem_range,getElem!_pos l i h2]
theorem D3z {r:DrRoom} {S:Nat} (h:∀i,i < r.Persons.length→bit S i = true):A1g r S 0 = r.Persons:= by
 unfold A1g
 rw [D3x h,C0x]
theorem C7u:∀n:Nat,n < 6→∀ i:Nat,i < n→bit (2 ^ n - 1) i = true:= by decide
theorem B3c {r:DrRoom} (ok:RmOk r):J3 ⟨r⟩ = some ((2 ^ r.Persons.length - 1:Nat):Int):= by
 have hP:=ok.persons
 unfold J3
 show (B9u .i64 1 (r.Persons.length:Int)).bind _ = _
 rw [A96 _ (by omega)]
 simp only [Option.bind_some,Option.some.injEq]
 have h1:0 < 2 ^ r.Persons.length:=Nat.two_pow_pos _
 have h2:2 ^ r.Persons.length≤32:=Nat.le_trans (Nat.pow_le_pow_right (by decide) hP) (by decide)
 rw [E0 (by omega)]; omega
theorem B3d {r:DrRoom} (ok:RmOk r):2 ^ r.Persons.length - 1 < 64:= by
 have:2 ^ r.Persons.length≤32:=Nat.le_trans (Nat.pow_le_pow_right (by decide) ok.persons) (by decide)
 omega
theorem A7t {r:DrRoom} (ok:RmOk r):A1g r (2 ^ r.Persons.length - 1) 0 = r.Persons :=
 D3z fun i hi=>C7u _ (by have:=ok.persons; omega) i hi
theorem C9g {q:List Nat} {ps:List DrLook} (h:q.length = ps.length):(q.zip ps).map (·.1) = q:=List.map_fst_zip (by omega)
theorem C54 {r:DrRoom} {ps:List DrLook} {q:List Nat} (h:q ∈ AL r ps):q.length = ps.length:=(C1o.mp h).1.1
theorem C7z (r:DrRoom) (hb:NB r):A0l r = some (B0e r):= by
 unfold A0l B0e
 rw [A6c r hb]
 simp only [Option.bind_some]
 by_cases h0:(chk r).2.2 = 0
 ·obtain ⟨ok,-⟩:=(P4 r).mp h0
  obtain ⟨ch,e1,hch⟩:=C3n ok
  have hr:∀(a b:List Int × Int × Int),(if (chk r).2.2 ≠ 0 then a else b) = b:=fun a b=>if_neg (fun c=>c h0)
  rw [hr,if_neg (by simp [h0]),show loop (A5x r) (0,[]) = some ch from e1,B3c ok]
  simp only [Option.bind_some]
  rw [B5v ok hch (B3d ok),A7t ok]
  simp only [Option.bind_some]
  cases hb:W5 r r.Persons with
  | none=>rfl
  | some q =>
   have hl:=C54 (B0w hb)
   show some (ints ((q.zip r.Persons).map (·.1)),_,_) = _
   rw [C9g hl]; rfl
 ·rw [if_pos h0,if_pos (by simpa using h0)]
end Ds
end
section
set_option maxRecDepth 100000
namespace Ds
open Go Am
end Ds
end
section
set_option maxRecDepth 100000
set_option maxHeartbeats 0
namespace Ds
open Go Am Go.Proofs.Ytdkflofgolehkaa.Cd
end Ds
end
section
namespace Ds
open Go Am
def CL (r:DrRoom) (ps:List DrLook) (b:List Nat):List (List Nat):=(AL r ps).filter fun q=>W6 r ps q == W6 r ps b
theorem B1u {r:DrRoom} (ok:RmOk r) {ps:List DrLook} (h:ps.length≤5) (q:List Nat):0≤W6 r ps q∧W6 r ps q≤2000:= by
 have:=C20 ok (q.zip ps)
 have hl:(q.zip ps).length≤5:= by rw [List.length_zip]; omega
 unfold W6; omega
end Ds
end
section
set_option maxRecDepth 100000
set_option maxHeartbeats 0
namespace Ds
open Go Am Go.Proofs.Ytdkflofgolehkaa.Cd
end Ds
end
section
set_option maxRecDepth 100000
namespace Ds
open Go Am Go.Proofs.Ytdkflofgolehkaa.Cd
def arP (p:Bool) (l:List Int):AO:=.arr 1 p (l.map cI)
theorem A32 {α:Type} {l:List α} {i:Nat} {x:α} (h:l[i]? = some x):l.set i x = l:= by
 apply List.ext_getElem?
 intro k
 by_cases e:i = k
 ·subst e; rw [List.getElem?_set_self (List.getElem?_eq_some_iff.1 h).1,h]
 ·rw [List.getElem?_set_ne e]
structure AnyG (room:List AV) where
 L:List AO
 j:Nat
 h0:L[0]? = some (.cells room)
 h2:2 < L.length
 hj:j < L.length
 j0:j ≠ 0
 j2:j ≠ 2
def AnyG.M {room:List AV} (g:AnyG room) (s:Int × List Int × List Int):List AO:=(g.L.set 2 (arP false s.2.1)).set g.j (arP false s.2.2)
end Ds
end
section
set_option maxRecDepth 100000
set_option maxHeartbeats 0
namespace Ds
open Go Am Go.Proofs.Ytdkflofgolehkaa.Cd
def A3v (a0:DrRoom):Option Bool :=
 (S9 a0).bind fun x1 =>
 some (x1.2.2 == 0)
theorem B7x {c:Sc} {H:A1} {a0:DrRoom} {r:Bool} (h:A3v a0 = some r) :
  E6 tab c H (.fn (.func 37) [] []) [(.agg (A4 a0))] [.b r]:= by
 unfold A3v at h
 refine cE rfl rfl<|sg 0 rfl<|A0 (F6 (cs:=A4 a0) rfl rfl rfl) rfl<|qm rfl<|es (ra1 rfl)<|s0<|oB h fun x1 hx1 h=>A0 (C2 rfl rfl rfl) rfl<|B4 (rs:=[.i x1.1,.i x1.2.1,.i x1.2.2]) rfl rfl (A2 (D1 rfl) B6) ((X0 hx1).frz)<|qm rfl<|A0 (A7 rfl rfl) rfl<|A0 (A7 rfl rfl) rfl<|A0 (A7 rfl rfl) rfl<|qm rfl<|qm rfl<|qm rfl<|es (ra1 rfl)<|s0<|qm rfl<|A0 (F3 rfl rfl) rfl<|qm rfl<|es (ra1 rfl)<|C4 ?_
 obtain rfl:=os h
 exact retq trivial (B1 rfl B8) (A6 rfl B9) (A3 A8 B2)
end Ds
end
section
namespace Ds
open Go Am
theorem B6d {a b:Int} (ha:0≤a) (hb:0 < b):∃r,C5e a b = some r∧0≤r∧r < b:= by
 unfold C5e
 rw [if_neg (by omega)]
 exact ⟨a.tmod b,rfl,Int.tmod_nonneg _ ha,Int.tmod_lt_of_pos _ hb⟩
theorem D33 (h:DrRoom):A3v h = some ((chk h).2.2 == 0):= by
 unfold A3v
 rw [A1f]; rfl
theorem D8v {x:Int} (h:0≤x∧x < 256):w64 x = x:=E0 (by omega)
end Ds
end
section
set_option maxRecDepth 100000
set_option maxHeartbeats 0
namespace Ds
open Go Am Go.Proofs.Ytdkflofgolehkaa.Cd
def T0 (a0:DrRoom) (x17:Int) (x19:Int) (x20:(Int × (List Int) × Int)) (s21:(Bool × Int)):Option ((Bool × Int) ⊕ (Bool ⊕ Bool)) :=
 if (decide (s21.2 < (List.length a0.Costs:Int))) = true then
  (idx a0.Persons x19).bind fun x24 =>
  (idx x24.Looks s21.2).bind fun x25 =>
  (if (x25 == (-1)) = true then
  some true
  else
  (idx a0.Persons x19).bind fun x27 =>
  (idx x27.Looks s21.2).bind fun x28 =>
  (idx a0.Figures x17).bind fun x29 =>
  (idx x29.Looks s21.2).bind fun x30 =>
  some (x28 == x30)).bind fun x31 =>
  (A1b x20.2.1 s21.2).bind fun x33 =>
  if (x31 == x33) = true then
  some (.inr (.inl false))
  else
  some (.inl ((s21.1 && x31),(w64 (s21.2 + 1))))
 else
  some (.inr (.inr s21.1))
def A3k (a0:DrRoom) (a1:(Ar2 Int)):Option Bool :=
 (A3v a0).bind fun x1 =>
 if ((!x1) || ((List.length a0.Figures:Int) == 0)) = true then
  (V7 a0 0 0).bind fun x4 =>
  (if (x4.2.2 != 0) = true then
  (S7).bind fun x6 =>
  some x6
  else
  some false).bind fun x7 =>
  some x7
 else
  (slc a0.Figures 0 (C6z (List.length a0.Figures:Int) 5)).bind fun x8 =>
  (app 48 ([]:List DrLook) x8).bind fun x9 =>
  (A0l (DrRoom.mk a0.Costs a0.Ounces a0.Figures x9)).bind fun x10 =>
  if (((x10.2.2 != 0) || (x10.2.1 != 0)) || ((List.length x10.1:Int) != (List.length x9:Int))) = true then
  some false
  else
  if ((List.length a0.Persons:Int) == 0) = true then
   (S7).bind fun x15 =>
   some x15
  else
   (idx (Ar2.l a1) 0).bind fun x16 =>
   (C5e (w64 x16) (List.length a0.Figures:Int)).bind fun x17 =>
   (idx (Ar2.l a1) 1).bind fun x18 =>
   (C5e (w64 x18) (List.length a0.Persons:Int)).bind fun x19 =>
   (V7 a0 x17 x19).bind fun x20 =>
   (loop (T0 a0 x17 x19 x20) (true,0)).bind fun (o35:(Bool ⊕ Bool)) =>
   match o35 with
   | (.inl vo35_0) =>
   some vo35_0
   | (.inr vo35_1) =>
   (if (((x20.2.2 == 0) && (decide (x20.1 ≥ 0))) && ((!vo35_1) || ((x20.1 == 0) && ((List.length x20.2.1:Int) == 0)))) = true then
    (S7).bind fun x41 =>
    some x41
   else
    some false).bind fun x42 =>
   some x42
theorem B32 {c:Sc} {H:A1} (hscv:R5 c H = true) {a0:DrRoom} {a1:(Ar2 Int)} {r:Bool} (h:A3k a0 a1 = some r) :
  E6 tab c H (.fn (.func 14) [] []) [(.agg (A4 a0)),(.agg ((B89 A79) a1))] [.b r]:= by
 unfold A3k at h
 refine cE rfl rfl<|sg 0 rfl<|A0 (F6 (cs:=A4 a0) rfl rfl rfl) rfl<|A0 (F6 (cs:=(B89 A79) a1) rfl rfl rfl) rfl<|qm rfl<|es (ra2 rfl rfl)<|B7<|s0<|oB h fun x1 hx1 h=>A0 (C2 rfl rfl rfl) rfl<|B4 (rs:=[.b x1]) rfl rfl (A2 (D1 rfl) B6) ((B7x hx1).frz)<|A0 (R4 rfl) rfl<|qm rfl<|gp 5 28 (.b ((!x1) || ((List.length a0.Figures:Int) == 0))) 23 rfl rfl (fun hg2=>?_) (fun hg2=>?_) ?_
 ·exact nF rfl hg2 rfl<|nF rfl hg2 rfl<|nF rfl hg2 rfl<|nF rfl hg2 rfl<|A0 (C7 rfl hg2 rfl) rfl<|ge 5 (by rw [hg2]; rfl) rfl rfl
 ·exact gF rfl hg2<|A0 (D0 rfl) rfl<|gF rfl hg2<|A0 (C5 rfl rfl rfl) rfl<|gF rfl hg2<|A0 (D4 (f:=A5) rfl) rfl<|gF rfl hg2<|A0 (F3 rfl rfl) rfl<|A0 (C6 rfl hg2 rfl) rfl<|ge 5 (by rw [hg2]; rfl) rfl rfl
 refine es (ra3 rfl rfl rfl)<|wi h rfl (fun hc3 h=>?_) fun hc3 h=>?_
 ·refine s0<|oB h fun x4 hx4 h=>A0 (C2 rfl rfl rfl) rfl<|B4 (rs:=[.i x4.1,(.seq 1 (List.map cI x4.2.1)),.i x4.2.2]) rfl rfl (A2 (D1 rfl) (A2 rfl (A2 rfl B6))) ((A0a hx4).frz)<|qm rfl<|A0 (A7 rfl rfl) rfl<|A0 (A7 rfl rfl) rfl<|A0 (A7 rfl rfl) rfl<|qm rfl<|qm rfl<|qm rfl<|es (ra1 rfl)<|s0<|oB h fun x7 hx7 h=>qm rfl<|A0 (J0 rfl rfl) rfl<|qm rfl<|gp 2 39 (.b x7) 37 rfl rfl (fun hg5=>?_) (fun hg5=>?_) ?_
  ·refine oB (bt hx7 hg5) fun x6 hx6 hx7=>?_
   obtain rfl:=os hx7
   exact gT rfl hg5<|B4 (rs:=[.b x6]) rfl rfl B6 ((T7 (A19 hscv) hx6).frz)<|A0 (C7 rfl hg5 rfl) rfl<|ge 2 rfl rfl rfl
  ·obtain rfl:=os (bf hx7 hg5)
   exact N2 (G1 rfl (by rw [hg5]; rfl)) rfl<|A0 (C6 rfl hg5 rfl) rfl<|ge 2 rfl rfl rfl
  refine qm rfl<|es (ra1 rfl)<|C4 ?_
  obtain rfl:=os h
  exact retq trivial (B1 rfl B8) (A6 rfl B9) (A3 A8 B2)
 ·refine C1<|sg 2 rfl<|A0 (C2 rfl rfl rfl) rfl<|A0 E5 rfl<|H8 (D2 (ds:=(A4 a0)) rfl rfl rfl rfl (C8 rfl) rfl) rfl<|es (ra3 rfl rfl rfl)<|sg 3 rfl<|oB h fun x8 hx8 h=>oB h fun x9 hx9 h=>A0 (B59 (rows:=List.map A5 []) rfl rfl (D8 (fun _=>rfl) _)) rfl<|A0 (D0 rfl) rfl<|A0 (C5 rfl rfl rfl) rfl<|A0 (D0 rfl) rfl<|A0 (C5 rfl rfl rfl) rfl<|A0 (D4 (f:=A5) rfl) rfl<|A0 (D3a rfl rfl) rfl<|A0 (A8z (f:=A5) rfl rfl rfl hx8) rfl<|Q5 (C2f (f:=A5) rfl rfl rfl rfl R9 (fun _=>rfl) hx9) rfl<|A0 (D0 rfl) rfl<|H8 (D2 (ds:=(A4 (DrRoom.mk a0.Costs a0.Ounces a0.Figures x9))) rfl rfl rfl rfl (C8 rfl) rfl) rfl<|es (ra3 rfl rfl rfl)<|s0<|oB h fun x10 hx10 h=>A0 (C2 rfl rfl rfl) rfl<|B4 (rs:=[(.seq 1 (List.map cI x10.1)),.i x10.2.1,.i x10.2.2]) rfl rfl (A2 (D1 rfl) B6) ((A3m (A19 hscv) hx10).frz)<|qm rfl<|A0 (A7 rfl rfl) rfl<|A0 (A7 rfl rfl) rfl<|A0 (A7 rfl rfl) rfl<|qm rfl<|qm rfl<|qm rfl<|es (ra6 rfl rfl rfl rfl rfl rfl)<|B7<|s0<|qm rfl<|A0 (J0 rfl rfl) rfl<|qm rfl<|gp 3 62 (.b ((x10.2.2 != 0) || (x10.2.1 != 0))) 59 rfl rfl (fun hg11=>?_) (fun hg11=>?_) ?_
  ·exact nF rfl hg11 rfl<|nF rfl hg11 rfl<|A0 (C7 rfl hg11 rfl) rfl<|ge 3 (by rw [hg11]; rfl) rfl rfl
  ·exact gF rfl hg11<|qm rfl<|gF rfl hg11<|A0 (J0 rfl rfl) rfl<|A0 (C6 rfl hg11 rfl) rfl<|ge 3 (by rw [hg11]; rfl) rfl rfl
  refine qm rfl<|gp 7 70 (.b (((x10.2.2 != 0) || (x10.2.1 != 0)) || ((List.length x10.1:Int) != (List.length x9:Int)))) 63 rfl rfl (fun hg12=>?_) (fun hg12=>?_) ?_
  ·exact nF rfl hg12 rfl<|nF rfl hg12 rfl<|nF rfl hg12 rfl<|nF rfl hg12 rfl<|nF rfl hg12 rfl<|nF rfl hg12 rfl<|A0 (C7 rfl hg12 rfl) rfl<|ge 7 (by rw [hg12]; rfl) rfl rfl
  ·exact gF rfl hg12<|qm rfl<|gF rfl hg12<|A0 (D4 (f:=cI) rfl) rfl<|gF rfl hg12<|A0 (D0 rfl) rfl<|gF rfl hg12<|A0 (C5 rfl rfl rfl) rfl<|gF rfl hg12<|A0 (D4 (f:=A5) rfl) rfl<|gF rfl hg12<|A0 (J0 rfl rfl) rfl<|A0 (C6 rfl hg12 rfl) rfl<|ge 7 (by rw [hg12]; rfl) rfl rfl
  refine es (ra3 rfl rfl rfl)<|wi h rfl (fun hc13 h=>?_) fun hc13 h=>?_
  ·refine s0<|qm rfl<|es (ra1 rfl)<|C4 ?_
   obtain rfl:=os h
   exact retq trivial (B1 rfl B8) (A6 rfl B9) (A3 A8 B2)
  ·refine C1<|B7<|s0<|A0 (D0 rfl) rfl<|A0 (C5 rfl rfl rfl) rfl<|A0 (D4 (f:=A5) rfl) rfl<|A0 (F3 rfl rfl) rfl<|es (ra3 rfl rfl rfl)<|wi h rfl (fun hc14 h=>?_) fun hc14 h=>?_
   ·refine s0<|oB h fun x15 hx15 h=>B4 (rs:=[.b x15]) rfl rfl B6 ((T7 (A19 hscv) hx15).frz)<|qm rfl<|es (ra1 rfl)<|C4 ?_
    obtain rfl:=os h
    exact retq trivial (B1 rfl B8) (A6 rfl B9) (A3 A8 B2)
   ·refine C1<|s0<|oB h fun x16 hx16 h=>oB h fun x17 hx17 h=>oB h fun x18 hx18 h=>oB h fun x19 hx19 h=>A0 (A1l (e:=Ar2.l a1) rfl rfl rfl hx16) rfl<|A0 (A0t (f:=A79) (g:=fun n=>(.lit (.int .u8 n))) (e:=Ar2.l a1) (fun _=>rfl) rfl (D5 rfl) rfl hx16) rfl<|A0 (A54 rfl) rfl<|A0 (D0 rfl) rfl<|A0 (C5 rfl rfl rfl) rfl<|A0 (D4 (f:=A5) rfl) rfl<|A0 (C8y rfl rfl hx17) rfl<|A0 (A1l (e:=Ar2.l a1) rfl rfl rfl hx18) rfl<|A0 (A0t (f:=A79) (g:=fun n=>(.lit (.int .u8 n))) (e:=Ar2.l a1) (fun _=>rfl) rfl (D5 rfl) rfl hx18) rfl<|A0 (A54 rfl) rfl<|A0 (D0 rfl) rfl<|A0 (C5 rfl rfl rfl) rfl<|A0 (D4 (f:=A5) rfl) rfl<|A0 (C8y rfl rfl hx19) rfl<|qm rfl<|qm rfl<|es (ra3 rfl rfl rfl)<|s0<|oB h fun x20 hx20 h=>A0 (C2 rfl rfl rfl) rfl<|qm rfl<|qm rfl<|B4 (rs:=[.i x20.1,(.seq 1 (List.map cI x20.2.1)),.i x20.2.2]) rfl rfl (A2 (D1 rfl) (A2 rfl (A2 rfl B6))) ((A0a hx20).frz)<|qm rfl<|A0 (A7 rfl rfl) rfl<|A0 (A7 rfl rfl) rfl<|A0 (A7 rfl rfl) rfl<|qm rfl<|qm rfl<|qm rfl<|es (ra6 rfl rfl rfl rfl rfl rfl)<|s0<|qm rfl<|es (ra7 rfl rfl rfl rfl rfl rfl rfl)<|B7<|s0<|qm rfl<|es (ra8 rfl rfl rfl rfl rfl rfl rfl rfl)<|C3<|oB h fun o35 ho35 h=>wl (fun s21=>[(2,(.ptr (H.length + 0) 0)),(12,.i x17),(13,.i x19),(14,.i x20.1),(15,(.seq 1 (List.map cI x20.2.1))),(16,.i x20.2.2),(17,.b s21.1),(18,.i s21.2)]) (fun (q22:Unit) s21=>[(.cells (A4 a0)),(.cells ((B89 A79) a1)),(.cells (A4 (DrRoom.mk a0.Costs a0.Ounces a0.Figures x9))),.dead]) 4 (fun r e s' H'=>(match r with | (.inl v)=>e = .ret∧RetQ H [.tmp 4] [.b v] e s' H' | (.inr v)=>PX 0 [(14,.i x20.1),(15,(.seq 1 (List.map cI x20.2.1))),(16,.i x20.2.2),(17,.b v)] (H++[(.cells (A4 a0)),(.cells ((B89 A79) a1)),(.cells (A4 (DrRoom.mk a0.Costs a0.Ounces a0.Figures x9))),.dead]) e s' H':Prop)) () ho35 rfl rfl (fun _ _=>rfl) (fun _=>rfl) rfl (fun s21=>(bdc (F1 rfl) (bdc A8 (bdc A8 (bdc A8 (bdc E9 (bdc A8 (bdc A8 (bdc A8 bdn))))))))) (fun q22 s21 ys21 hs21=>?_) ?_
    ·unfold T0 at hs21
     refine B7<|s0<|qm rfl<|A0 (D0 rfl) rfl<|A0 (C5 rfl rfl rfl) rfl<|A0 (D4 (f:=cI) rfl) rfl<|A0 (H6 rfl rfl) rfl<|es (ra9 rfl rfl rfl rfl rfl rfl rfl rfl rfl)<|wi hs21 rfl (fun hc23 hs21=>?_) fun hc23 hs21=>?_
     ·refine C1<|B7<|C3<|s0<|oB hs21 fun x24 hx24 hs21=>oB hs21 fun x25 hx25 hs21=>oB hs21 fun x31 hx31 hs21=>A0 (D0 rfl) rfl<|A0 (C5 rfl rfl rfl) rfl<|qm rfl<|A0 (E3 (f:=A5) rfl rfl hx24) rfl<|A0 (C4q (ds:=(List.drop 1 (A5 x24))) rfl rfl) rfl<|A0 (E7 rfl rfl) rfl<|qm rfl<|A0 (E3 (f:=cI) rfl rfl hx25) rfl<|A0 (E7 rfl rfl) rfl<|A0 (F3 rfl rfl) rfl<|qm rfl<|gp 20 135 (.b x31) 115 rfl rfl (fun hg26=>?_) (fun hg26=>?_) ?_
      ·obtain rfl:=os (bt hx31 hg26)
       exact nF rfl hg26 rfl<|nF rfl hg26 rfl<|nF rfl hg26 rfl<|nF rfl hg26 rfl<|nF rfl hg26 rfl<|nF rfl hg26 rfl<|nF rfl hg26 rfl<|nF rfl hg26 rfl<|nF rfl hg26 rfl<|nF rfl hg26 rfl<|nF rfl hg26 rfl<|nF rfl hg26 rfl<|nF rfl hg26 rfl<|nF rfl hg26 rfl<|nF rfl hg26 rfl<|nF rfl hg26 rfl<|nF rfl hg26 rfl<|nF rfl hg26 rfl<|nF rfl hg26 rfl<|A0 (C7 rfl hg26 rfl) rfl<|ge 20 rfl rfl rfl
      ·refine oB (bf hx31 hg26) fun x27 hx27 hx31=>oB hx31 fun x28 hx28 hx31=>oB hx31 fun x29 hx29 hx31=>oB hx31 fun x30 hx30 hx31=>?_
       obtain rfl:=os hx31
       exact gF rfl hg26<|A0 (D0 rfl) rfl<|gF rfl hg26<|A0 (C5 rfl rfl rfl) rfl<|gF rfl hg26<|qm rfl<|gF rfl hg26<|A0 (E3 (f:=A5) rfl rfl hx27) rfl<|gF rfl hg26<|A0 (C4q (ds:=(List.drop 1 (A5 x27))) rfl rfl) rfl<|gF rfl hg26<|A0 (E7 rfl rfl) rfl<|gF rfl hg26<|qm rfl<|gF rfl hg26<|A0 (E3 (f:=cI) rfl rfl hx28) rfl<|gF rfl hg26<|A0 (E7 rfl rfl) rfl<|gF rfl hg26<|A0 (D0 rfl) rfl<|gF rfl hg26<|A0 (C5 rfl rfl rfl) rfl<|gF rfl hg26<|qm rfl<|gF rfl hg26<|A0 (E3 (f:=A5) rfl rfl hx29) rfl<|gF rfl hg26<|A0 (C4q (ds:=(List.drop 1 (A5 x29))) rfl rfl) rfl<|gF rfl hg26<|A0 (E7 rfl rfl) rfl<|gF rfl hg26<|qm rfl<|gF rfl hg26<|A0 (E3 (f:=cI) rfl rfl hx30) rfl<|gF rfl hg26<|A0 (E7 rfl rfl) rfl<|gF rfl hg26<|A0 (F3 rfl rfl) rfl<|A0 (C6 rfl hg26 rfl) rfl<|ge 20 rfl rfl rfl
      refine qm rfl<|es (ra9 rfl rfl rfl rfl rfl rfl rfl rfl rfl)<|s0<|qm rfl<|qm rfl<|gp 2 139 (.b (s21.1 && x31)) 137 rfl rfl (fun hg32=>?_) (fun hg32=>?_) ?_
      ·exact gT rfl hg32<|qm rfl<|A0 (C7 rfl hg32 rfl) rfl<|ge 2 (by rw [hg32]; rfl) rfl rfl
      ·exact nT rfl hg32 rfl<|A0 (C6 rfl hg32 rfl) rfl<|ge 2 (by rw [hg32]; rfl) rfl rfl
      refine qm rfl<|es (ra9 rfl rfl rfl rfl rfl rfl rfl rfl rfl)<|s0<|oB hs21 fun x33 hx33 hs21=>qm rfl<|qm rfl<|qm rfl<|B4 (rs:=[.b x33]) rfl rfl (A2 rfl (A2 rfl B6)) ((A2w hx33).frz)<|A0 (D7e rfl rfl) rfl<|es (ra9 rfl rfl rfl rfl rfl rfl rfl rfl rfl)<|wi hs21 rfl (fun hc34 hs21=>?_) fun hc34 hs21=>?_
      ·refine s0<|qm rfl<|es (ra1 rfl)<|C4 ?_
       obtain rfl:=os hs21
       exact lx rfl (And.intro rfl (retq trivial (B1 rfl B8) (A6 rfl B9) (A3 A8 B2))) (Sub.refl _)
      ·refine C1<|r0<|qm rfl<|A0 (E8 rfl rfl) rfl<|qm rfl<|en (ra8 rfl rfl rfl rfl rfl rfl rfl rfl) ?_
       cases hs21
       exact lnT () rfl (su8 rfl rfl rfl rfl rfl rfl rfl rfl)
     ·refine F7 ?_
      obtain rfl:=os hs21
      exact lx rfl px (su4 rfl rfl rfl rfl)
    ·rcases o35 with vo35_0 | vo35_1
     ·rintro e s' H' - ⟨rfl,hret⟩
      cases h
      exact hret
     ·rintro e s' H' - ⟨rfl,rfl,rfl⟩
      refine s0<|oB h fun x42 hx42 h=>qm rfl<|A0 (F3 rfl rfl) rfl<|qm rfl<|gp 3 150 (.b ((x20.2.2 == 0) && (decide (x20.1 ≥ 0)))) 147 rfl rfl (fun hg36=>?_) (fun hg36=>?_) ?_
      ·exact gT rfl hg36<|qm rfl<|gT rfl hg36<|A0 (A6f rfl rfl) rfl<|A0 (C7 rfl hg36 rfl) rfl<|ge 3 (by rw [hg36]; rfl) rfl rfl
      ·exact nT rfl hg36 rfl<|nT rfl hg36 rfl<|A0 (C6 rfl hg36 rfl) rfl<|ge 3 (by rw [hg36]; rfl) rfl rfl
      refine qm rfl<|gp 12 163 (.b (((x20.2.2 == 0) && (decide (x20.1 ≥ 0))) && ((!vo35_1) || ((x20.1 == 0) && ((List.length x20.2.1:Int) == 0))))) 151 rfl rfl (fun hg37=>?_) (fun hg37=>?_) ?_
      ·refine gT rfl hg37<|qm rfl<|gT rfl hg37<|A0 (R4 rfl) rfl<|gT rfl hg37<|qm rfl<|gq 8 162 (.b ((!vo35_1) || ((x20.1 == 0) && ((List.length x20.2.1:Int) == 0)))) 154 rfl rfl (fun hg38=>?_) (fun hg38=>?_) ?_
       ·exact nF rfl hg38 rfl<|nF rfl hg38 rfl<|nF rfl hg38 rfl<|nX rfl rfl<|nX rfl rfl<|nX rfl rfl<|nF rfl hg38 rfl<|gT rfl hg37<|A0 (C7 rfl hg38 rfl) rfl<|ge 8 (by rw [hg38]; rfl) rfl rfl
       ·refine gF rfl hg38<|qm rfl<|gF rfl hg38<|A0 (F3 rfl rfl) rfl<|gF rfl hg38<|qm rfl<|gq 4 161 (.b ((x20.1 == 0) && ((List.length x20.2.1:Int) == 0))) 157 rfl rfl (fun hg39=>?_) (fun hg39=>?_) ?_
        ·exact gT rfl hg39<|qm rfl<|gT rfl hg39<|A0 (D4 (f:=cI) rfl) rfl<|gT rfl hg39<|A0 (F3 rfl rfl) rfl<|gF rfl hg38<|A0 (C7 rfl hg39 rfl) rfl<|ge 4 (by rw [hg39]; rfl) rfl rfl
        ·exact nT rfl hg39 rfl<|nT rfl hg39 rfl<|nT rfl hg39 rfl<|gF rfl hg38<|A0 (C6 rfl hg39 rfl) rfl<|ge 4 (by rw [hg39]; rfl) rfl rfl
        exact gT rfl hg37<|A0 (C6 rfl hg38 rfl) rfl<|ge 5 (by rw [hg38]; rfl) rfl rfl
       exact A0 (C7 rfl hg37 rfl) rfl<|ge 5 (by rw [hg37]; rfl) rfl rfl
      ·exact nT rfl hg37 rfl<|nT rfl hg37 rfl<|nT rfl hg37 rfl<|nX rfl rfl<|nX rfl rfl<|nX rfl rfl<|nX rfl rfl<|nX rfl rfl<|nX rfl rfl<|nX rfl rfl<|nT rfl hg37 rfl<|A0 (C6 rfl hg37 rfl) rfl<|ge 12 (by rw [hg37]; rfl) rfl rfl
      refine qm rfl<|gp 2 166 (.b x42) 164 rfl rfl (fun hg40=>?_) (fun hg40=>?_) ?_
      ·refine oB (bt hx42 hg40) fun x41 hx41 hx42=>?_
       obtain rfl:=os hx42
       exact gT rfl hg40<|B4 (rs:=[.b x41]) rfl rfl B6 ((T7 (A19 hscv) hx41).frz)<|A0 (C7 rfl hg40 rfl) rfl<|ge 2 rfl rfl rfl
      ·obtain rfl:=os (bf hx42 hg40)
       exact N2 (G1 rfl (by rw [hg40]; rfl)) rfl<|A0 (C6 rfl hg40 rfl) rfl<|ge 2 rfl rfl rfl
      refine qm rfl<|es (ra1 rfl)<|C4 ?_
      obtain rfl:=os h
      exact retq trivial (B1 rfl B8) (A6 rfl B9) (A3 A8 B2)
end Ds
end
section
namespace Ds
open Go Am
theorem D4k (f:DrLook) (k:Nat):ck f f k = false:= by
 unfold ck; simp
theorem C4x {r:DrRoom} {f p:DrLook} (h:∀k,k < r.Costs.length→ck f p k = false):K0 r.Costs.length f p = []∧one r f p = 0:= by
 have e:=C0t h
 refine ⟨e,?_⟩
 unfold one; rw [e]; rfl
theorem D52 {r:DrRoom} (h:(chk r).2.2 = 0) {ps:List DrLook} (hl:ps.length≤5) (hs:ps.Sublist r.Figures):(chk ⟨r.Costs,r.Ounces,r.Figures,ps⟩).2.2 = 0:= by
 obtain ⟨ok,n1,n2⟩:=(P4 r).mp h
 have hL:∀least x,LkOk r least x→LkOk ⟨r.Costs,r.Ounces,r.Figures,ps⟩ least x:=fun least x o=>⟨o.len,o.col,o.look,o.hair⟩
 have hM:∀x,LkOk r 0 x→LkOk ⟨r.Costs,r.Ounces,r.Figures,ps⟩ (-1) x:=fun x o=>⟨o.len,⟨by have:=o.col.1; omega,o.col.2⟩,fun y hy=>⟨by have:=(o.look y hy).1; omega,(o.look y hy).2⟩,o.hair⟩
 refine (P4 _).mpr ⟨⟨ok.costs,ok.cost,ok.ounces,ok.ounce,ok.figures,hl,fun x hx=>hL _ _ (ok.figure x hx),fun x hx=>hM _ (ok.figure x (hs.subset hx))⟩,n1,?_⟩
 exact ⟨fun s hs2=>n1.each s ((hs.map _).subset hs2),n1.two.sublist (hs.map _)⟩
theorem D3l {r:DrRoom} {ps:List DrLook} (ok:RmOk ⟨r.Costs,r.Ounces,r.Figures,ps⟩) (hp:ps = r.Figures.take ps.length) (hl:ps.length≤r.Figures.length) :
  ∃ b,W5 ⟨r.Costs,r.Ounces,r.Figures,ps⟩ ps = some b∧W6 ⟨r.Costs,r.Ounces,r.Figures,ps⟩ ps b = 0∧b.length = ps.length:= by
 have hz:∀x ∈ (List.range ps.length).zip ps,x.2 = r.Figures[x.1]!:=fun x hx=>by
  obtain ⟨i,hi,rfl⟩:=List.mem_iff_getElem.mp hx
  have h2:i < ps.length:= by rw [List.length_zip,List.length_range] at hi; omega
  rw [List.getElem_zip]
  simp only [List.getElem_range]
  rw [getElem!_pos r.Figures i (by omega)]
  have:ps[i] = (r.Figures.take ps.length)[i]'(by rw [← hp]; exact h2):= by congr 1
  rw [this,List.getElem_take]
 have hc:∀x ∈ (List.range ps.length).zip ps,∀ k,ck r.Figures[x.1]! x.2 k = false:=fun x hx k=>by rw [hz x hx]; exact D4k _ _
 have hm:List.range ps.length ∈ AL ⟨r.Costs,r.Ounces,r.Figures,ps⟩ ps:= by
  rw [C1o]
  refine ⟨⟨List.length_range,List.nodup_range,fun x hx=>?_⟩,?_⟩
  ·have:x < ps.length:= by simpa using hx
   show x < r.Figures.length
   omega
  ·unfold A5e
   rw [List.all_eq_true]
   intro c hc2
   have hc2:c < r.Ounces.length:= by simpa using hc2
   rw [decide_eq_true_eq]
   unfold E4
   rw [C2x (fun x hx=>by
    show A5j r.Figures[x.1]! x.2 (c:Int) = 0
    unfold A5j
    rw [hc x hx 0]; rfl)]
   have:=(C4z ok c).1
   omega
 have h0:W6 ⟨r.Costs,r.Ounces,r.Figures,ps⟩ ps (List.range ps.length) = 0:= by
  unfold W6 A7x
  exact C2x fun x hx=>(C4x (r:=⟨r.Costs,r.Ounces,r.Figures,ps⟩) fun k _=>hc x hx k).2
 obtain ⟨b,hb⟩:=D4r (k:=W6 ⟨r.Costs,r.Ounces,r.Figures,ps⟩ ps) hm
 have h1:=D6f hb hm
 have h2:=B1u ok ok.persons b
 exact ⟨b,hb,by have:=h2.1; show W6 _ ps b = 0; rw [h0] at h1; exact Int.le_antisymm h1 this,C54 (B0w hb)⟩
theorem C1z {r:DrRoom} {x:Ar2 Int} (hb:NB r) (hx:(0≤x.x0∧x.x0 < 256)∧(0≤x.x1∧x.x1 < 256)):A3k r x = some true:= by
 unfold A3k
 rw [D33]
 simp only [Option.bind_some]
 by_cases h0:(chk r).2.2 = 0
 ·obtain ⟨ok,-⟩:=(P4 r).mp h0
  have hP:=ok.persons
  have hF:=ok.figures
  have hC:=ok.costs
  by_cases hn:r.Figures.length = 0
  ·have hw:A7z r 0 0 = (0,[],4):= by
    unfold A7z
    rw [if_neg (fun c=>c h0),if_pos (by rw [hn]; rfl)]
   rw [if_pos (by simp [hn]),B5r r hb,hw]
   simp only [Option.bind_some]
   rw [if_pos (by decide),awake]; rfl
  ·have hmin:C6z (List.length r.Figures:Int) 5 = ((min r.Figures.length 5:Nat):Int):= by
    unfold C6z; split <;> omega
   rw [if_neg (by rw [h0]; simpa using hn),hmin,B29 (by omega)]
   simp only [Option.bind_some]
   rw [U1 (by omega) (by simp only [List.length_nil,List.length_take]; omega)]
   simp only [Option.bind_some,List.nil_append]
   generalize hps:r.Figures.take (min r.Figures.length 5) = ps
   have hpl:ps.length = min r.Figures.length 5:= by rw [← hps,List.length_take]; omega
   have hpt:ps = r.Figures.take ps.length:= by rw [hpl]; exact hps.symm
   have hsub:ps.Sublist r.Figures:= by rw [← hps]; exact List.take_sublist _ _
   have hv:=D52 h0 (ps:=ps) (by omega) hsub
   have hb2:NB ⟨r.Costs,r.Ounces,r.Figures,ps⟩:=⟨hb.1,fun v hv=>hb.1 v (hsub.subset hv)⟩
   obtain ⟨ok2,-⟩:=(P4 _).mp hv
   obtain ⟨b,q1,q2,q3⟩:=D3l ok2 hpt (by omega)
   have hbest:B0e ⟨r.Costs,r.Ounces,r.Figures,ps⟩ = (ints b,0,0):= by
    unfold B0e
    rw [if_neg (fun c=>c hv)]
    rw [show W5 ⟨r.Costs,r.Ounces,r.Figures,ps⟩ (DrRoom.mk r.Costs r.Ounces r.Figures ps).Persons = some b from q1]
    show (ints b,W6 ⟨r.Costs,r.Ounces,r.Figures,ps⟩ ps b,_) = _
    rw [q2]
   rw [C7z _ hb2,hbest]
   simp only [Option.bind_some]
   rw [if_neg (by rw [F4]; simp [q3])]
   by_cases hpn:r.Persons.length = 0
   ·rw [if_pos (by simp [hpn]),awake]; rfl
   ·rw [if_neg (by simpa using hpn)]
    rw [show idx (Ar2.l x) 0 = some x.x0 from rfl,show idx (Ar2.l x) 1 = some x.x1 from rfl]
    simp only [Option.bind_some]
    rw [D8v hx.1,D8v hx.2]
    obtain ⟨f,e1,f0,f1⟩:=B6d (a:=x.x0) (b:=(r.Figures.length:Int)) hx.1.1 (by omega)
    obtain ⟨i,e2,i0,i1⟩:=B6d (a:=x.x1) (b:=(r.Persons.length:Int)) hx.2.1 (by omega)
    obtain ⟨f,rfl⟩:∃n:Nat,f = (n:Int):=⟨f.toNat,by omega⟩
    obtain ⟨i,rfl⟩:∃n:Nat,i = (n:Int):=⟨i.toNat,by omega⟩
    have hf:f < r.Figures.length:= by omega
    have hi:i < r.Persons.length:= by omega
    rw [e1]
    simp only [Option.bind_some]
    rw [e2]
    simp only [Option.bind_some]
    rw [B5r r hb]
    simp only [Option.bind_some]
    have hof:out 0 ((r.Figures.length:Int) - 1) (f:Int) = false:=A59.mpr (by omega)
    have hoi:out 0 ((r.Persons.length:Int) - 1) (i:Int) = false:=A59.mpr (by omega)
    have hcp:A7z r (f:Int) (i:Int) = (one r r.Figures[f]! r.Persons[i]!,ints (K0 r.Costs.length r.Figures[f]! r.Persons[i]!),0):= by
     unfold A7z
     rw [if_neg (fun c=>c h0),hof,hoi]; rfl
    rw [hcp]
    have hlf:=(ok.figure _ (I8 hf)).len
    have hlp:=(ok.person _ (I8 hi)).len
    have hxf:idx r.Figures (f:Int) = some r.Figures[f]!:=G2 hf
    have hxi:idx r.Persons (i:Int) = some r.Persons[i]!:=G2 hi
    have hone:=C64 ok r.Figures[f]! r.Persons[i]!
    have hz:=@C4x r r.Figures[f]! r.Persons[i]!
    generalize r.Figures[f]! = F at *
    generalize r.Persons[i]! = P at *
    have hkl:=O5 r.Costs.length F P
    have L:loop (T0 r (f:Int) (i:Int) (one r F P,ints (K0 r.Costs.length F P),0)) (true,0) = some (.inr ((List.range r.Costs.length).all fun k=>!ck F P k)):= by
     have:=J4 (b:=T0 r (f:Int) (i:Int) (one r F P,ints (K0 r.Costs.length F P),0)) (fun j=>((List.range j).all fun k=>!ck F P k,(j:Int))) r.Costs.length (r:=.inr ((List.range r.Costs.length).all fun k=>!ck F P k)) (by omega) (fun j hj=>by
      have g1:idx P.Looks (j:Int) = some P.Looks[j]!:=G2 (by omega)
      have g2:idx F.Looks (j:Int) = some F.Looks[j]!:=G2 (by omega)
      have g3:(K0 r.Costs.length F P).contains j = ck F P j:= by
       rw [Bool.eq_iff_iff,List.contains_iff_mem]
       unfold K0
       rw [List.mem_filter,List.mem_range]
       exact ⟨fun h=>h.2,fun h=>⟨hj,h⟩⟩
      unfold T0
      simp only []
      rw [if_pos (by simpa using hj),hxi]
      simp only [Option.bind_some]
      rw [g1]
      simp only [Option.bind_some]
      rw [hxf]
      simp only [Option.bind_some]
      rw [g2]
      simp only [Option.bind_some]
      have hown:(if (P.Looks[j]! == -1) = true then some true else some (P.Looks[j]! == F.Looks[j]!)) = some (!ck F P j):= by
       unfold ck
       generalize P.Looks[j]! = u
       generalize F.Looks[j]! = v
       cases ha:(u == -1) with
       | true =>
        rw [if_pos rfl,bne,ha]; rfl
       | false =>
        rw [if_neg (by decide),bne,ha,bne]
        cases (u == v) <;> rfl
      rw [hown]
      simp only [Option.bind_some]
      rw [B6j _ _ (by rw [F4]; omega),B7f,g3,List.range_succ,List.all_append,E0 (by omega)]
      simp only [Option.bind_some]
      rw [if_neg (by cases ck F P j <;> decide)]
      simp) (by
      unfold T0
      simp only []
      rw [if_neg (by simp)])
     exact this
    rw [L]
    simp only [Option.bind_some]
    cases hal:(List.range r.Costs.length).all fun k=>!ck F P k with
    | false=>rw [if_pos (by simp; omega),awake]; rfl
    | true =>
     have:=hz fun k hk=>by
      have h1:=List.all_eq_true.mp hal k (by simpa using hk)
      simpa using h1
     rw [this.1,this.2,if_pos (by decide),awake]; rfl
 ·have e:((chk r).2.2 == 0) = false:=beq_eq_false_iff_ne.mpr h0
  have hw:A7z r 0 0 = (0,[],(chk r).2.2):= by
   unfold A7z
   rw [if_pos h0]
  rw [e,if_pos (by rfl),B5r r hb,hw]
  simp only [Option.bind_some]
  rw [if_pos (by simpa using h0),awake]; rfl
end Ds
end
