/- Texts that the claim stands on, one behind another. -/
import Derived.Test.YtdkflofgolehkaaA6
set_option linter.unusedVariables false
set_option linter.unusedSimpArgs false
set_option linter.unnecessarySimpa false
section
set_option maxRecDepth 100000
namespace Ds
open Go Am Go.Proofs.Ytdkflofgolehkaa.Cd
def B7g (t:DrRoom) (person:Int):Option ((Chg × dress_plan) × Int) :=
 (L9 t).bind fun x1 =>
 if (x1.2.2 != 0) = true then some (([],plan0),x1.2.2)
 else (loop (K9 t) (0,[])).bind fun ch =>
  (J6 0 (w64 ((List.length t.Persons:Int) - 1)) [person]).bind fun k =>
  if k = true then some (([],plan0),4)
  else (J9 ⟨t⟩).bind fun w=>(P7 t ch w).bind fun z =>
   if (!z.2) = true then some (([],plan0),9) else some ((ch,z.1),0)
def C6x (N:Nat) (t:DrRoom) (ch:Chg) (p:dress_plan):List AO:=[.cells (A4 t),.cells (A9 p),.cells (A4 t),.map (B0w ch),.cells (A4v t (N + 3)),.cells (A9 p)]
def EnQ (H:A1) (t:DrRoom) (r:(Chg × dress_plan) × Int) (e:Ex) (s:B3) (H1:A1):Prop :=
 (match e with | .exit _=>False | _=>True)∧∃ rs H2,results s H1 [.tmp 4,.cell 5 (some 6),.tmp 6] = some rs∧Q0 H.length H1 rs = some (rs,H2) ∧
  ((r.2 != 0) = true∧rs = [.lit (.pointer none),.agg (A9 plan0),.i r.2]∧trunc H.length rs H2 = H∨r.2 = 0∧rs = [.ptr (H.length + 4) 0,.agg (A9 r.1.2),.i 0]∧trunc H.length rs H2 = H++C6x H.length t r.1.1 r.1.2)
theorem C2f {H:A1} {l:List AO} {s:B3} {t:DrRoom} {e:Int} {x:Chg × dress_plan} (he:(e != 0) = true) (h4:sget s 4 = some (.lit (.pointer none))) (h5:sget s 5 = some (.ptr (H.length + 1) 0)) (h6:sget s 6 = some (.i e)) (hl:l[1]? = some (.cells (A9 plan0))):EnQ H t (x,e) .ret s (H++l) :=
 ⟨trivial,_,_,B1 h4 (P0 (I2 (ds:=A9 plan0) h5 hl rfl rfl) (B1 h6 B7)),A6 rfl (A6 (A1v rfl) (A6 rfl B9)),.inl ⟨he,rfl,by rw [C1x (by rfl),List.append_nil]⟩⟩
theorem D2f {c:Sc} {H:A1} (hscv:S3 c H = true) {t:DrRoom} {person:Int} {r:(Chg × dress_plan) × Int} (h:B7g t person = some r) :
  (r.2 != 0) = true∧G6 tab c H (.fn (.func 64) [] []) [.agg (A4 t),.i person] [.lit (.pointer none),.agg (A9 plan0),.i r.2] H ∨
  r.2 = 0∧G6 tab c H (.fn (.func 64) [] []) [.agg (A4 t),.i person] [.ptr (H.length + 4) 0,.agg (A9 r.1.2),.i 0] (H++C6x H.length t r.1.1 r.1.2):= by
 have key:WP tab c64 (J2 0 [.agg (A4 t),.i person]) (H++[]) ⟨H.length,c.cur :: c.outer⟩ (EnQ H t r):= by
  unfold B7g at h
  refine oB h fun x1 hx1 h=>?_
  refine sg 0 rfl<|A0 (F5 (cs:=A4 t) rfl rfl rfl) rfl<|qm rfl<|A0 E3 rfl<|qm rfl<|es (ra3 rfl rfl rfl) ?_
  by_cases hc1:(x1.2.2 != 0) = true
  ·rw [if_pos hc1] at h
   obtain rfl:=os h
   refine s0<|A0 (C2 rfl rfl rfl) rfl<|Q2 (X8 rfl rfl (A2 (C9 rfl) B5) (B70 hx1 hc1) rfl) rfl<|qm rfl<|A0 (A7 rfl rfl) rfl<|A0 (A7 rfl rfl) rfl<|qm rfl<|qm rfl<|es (ra5 rfl rfl rfl rfl rfl)<|B6<|C3<|s0<|qm rfl<|A0 (I7 rfl rfl) rfl<|qm rfl<|es (ra6 rfl rfl rfl rfl rfl rfl)<|S7 rfl hc1<|s0<|A0 (L6 (cs:=A9 plan0) rfl rfl) rfl<|qm rfl<|qm rfl<|H9 (D1 (ds:=A9 plan0) rfl rfl rfl rfl (C7 rfl) rfl) rfl<|qm rfl<|es (ra3 rfl rfl rfl)<|C4<|C2f hc1 rfl rfl rfl rfl
  ·rw [if_neg hc1] at h
   have hc1:(x1.2.2 != 0) = false:=Bool.eq_false_iff.2 hc1
   refine oB h fun ch hch h=>oB h fun k hk h=>?_
   have hlook:G6 tab ⟨H.length,c.cur :: c.outer⟩ (H++[.cells (A4 t),.cells (A9 plan0)]) (.fn (.func 52) [] []) [(.agg (A4 t))] [.ptr (H.length + 4) 0,.i 0] (H++[.cells (A4 t),.cells (A9 plan0),.cells (A4 t),.map (B0w ch),.cells (A4v t (H.length + 3))]):= by
    have:=B71 (c:=⟨H.length,c.cur :: c.outer⟩) (H:=H++[.cells (A4 t),.cells (A9 plan0)]) hx1 hc1 hch
    unfold C85 at this
    rw [List.length_append,List.append_assoc] at this
    exact this
   refine s0<|A0 (C2 rfl rfl rfl) rfl<|Q2 (X8 rfl rfl (A2 (C9 rfl) B5) hlook rfl) rfl<|qm rfl<|A0 (A7 rfl rfl) rfl<|A0 (A7 rfl rfl) rfl<|qm rfl<|qm rfl<|es (ra5 rfl rfl rfl rfl rfl)<|B6<|C3<|s0<|qm rfl<|A0 (N7 (v:=(.b false)) rfl rfl rfl) rfl<|qm rfl<|es (ra6 rfl rfl rfl rfl rfl rfl)<|A0d rfl rfl<|s0<|A0 (D2 rfl) rfl<|A0 (C8 rfl rfl rfl) rfl<|A0 (D4 (f:=A5) rfl) rfl<|A0 (A0u rfl rfl) rfl<|qm rfl<|A0 (G2 (rows:=List.map cI [person]) rfl rfl (D8 (fun _=>rfl) _)) rfl<|B4 (rs:=[.b k]) rfl rfl (A2 rfl (A2 rfl (A2 rfl B5))) ((M4 hk).frz)<|qm rfl<|es (ra3 rfl rfl rfl)<|wi h rfl (fun hc2 h=>?_) fun hc2 h=>?_
   ·obtain rfl:=os h
    exact s0<|A0 (L6 (cs:=A9 plan0) rfl rfl) rfl<|qm rfl<|H9 (D1 (ds:=A9 plan0) rfl rfl rfl rfl (C7 rfl) rfl) rfl<|qm rfl<|es (ra3 rfl rfl rfl)<|C4<|C2f rfl rfl rfl rfl rfl
   refine oB h fun w hw h=>oB h fun z hz h=>?_
   refine C0<|sg 5 rfl<|qm rfl<|qm rfl<|B4 (rs:=[.i w]) rfl rfl (A2 rfl B5) ((N2 (a0:=⟨t⟩) (D7 rfl) hw).frz)<|B4 (rs:=[(.agg (A9 z.1)),.b z.2]) rfl rfl (A2 rfl (A2 rfl B5)) (B6g (t:=t) (ch:=ch) ⟨_,D7 rfl,A1y rfl⟩ (A1a hscv) hz)<|qm rfl<|A0 (A7 rfl rfl) rfl<|A0 (A7 rfl rfl) rfl<|A0 E3 rfl<|H9 (D1 (ds:=(A9 z.1)) rfl rfl rfl rfl (C7 rfl) rfl) rfl<|qm rfl<|es (ra4 rfl rfl rfl rfl)<|B6<|s0<|qm rfl<|A0 (S6 rfl) rfl<|es (ra4 rfl rfl rfl rfl)<|wi h rfl (fun hc3 h=>?_) fun hc3 h=>?_
   ·obtain rfl:=os h
    exact s0<|A0 (L6 (cs:=A9 plan0) rfl rfl) rfl<|qm rfl<|H9 (D1 (ds:=A9 plan0) rfl rfl rfl rfl (C7 rfl) rfl) rfl<|qm rfl<|es (ra3 rfl rfl rfl)<|C4<|C2f rfl rfl rfl rfl rfl
   ·obtain rfl:=os h
    refine C0<|s0<|qm rfl<|A0 (C2 rfl rfl rfl) rfl<|qm rfl<|H9 (D1 (ds:=(A9 z.1)) rfl rfl rfl rfl (C7 rfl) rfl) rfl<|qm rfl<|es (ra3 rfl rfl rfl)<|C4 ?_
    exact ⟨trivial,_,_,B1 rfl (P0 (I2 (ds:=A9 z.1) rfl rfl rfl rfl) (B1 rfl B7)),A6 rfl (A6 (A1v rfl) (A6 rfl B9)),.inr ⟨rfl,rfl,B9e C8g⟩⟩
 rw [List.append_nil] at key
 obtain ⟨e,S',s',H2,h1,h2,h3,rs,H3,h4,h5,h6⟩:=key _ (Sub.refl _)
 have hrun:∀H',trunc H.length rs H3 = H'→G6 tab c H (.fn (.func 64) [] []) [.agg (A4 t),.i person] rs H':=fun H' hH =>
  G6.fn (af:=a64) (bd:=c64) (aq:=[.agg (A4 t),.i person]) (rs0:=rs) (rs1:=rs) (H1:=H3) (e:=e) (st':=⟨S',H2,⟨H.length,c.cur :: c.outer⟩⟩) rfl rfl rfl rfl rfl rfl h1 (by cases e <;> first | rfl | exact h3.elim) (P5 h2 h4) h5 rfl hH.symm
 rcases h6 with ⟨h6,rfl,h7⟩ | ⟨h6,rfl,h7⟩
 ·exact .inl ⟨h6,hrun _ h7⟩
 ·exact .inr ⟨h6,hrun _ h7⟩
theorem retq0 {H:A1} {s:B3} {rv:List ARes} {rs:List AV} {e:Ex} (h:RetQ H rv rs e s (H++[])):RetQ H rv rs e s H:= by rwa [List.append_nil] at h
theorem D2z {c:Sc} {A B:A1} {b:Nat} {l:List Int} {x r:Int} (hb:A.length = b) (h:M3 l x = some r):E9 tab c (A++(ar1 l :: B)) (.fn (.func 95) [] []) [.asl b l.length,.i x] [.i r]:= by
 subst hb
 unfold M3 at h
 have htk:∀x:AO,(x :: B).take (B.length + 1) = x :: B:=fun x=>List.take_of_length_le (Nat.le_refl _)
 refine B7b (aq:=[.asl A.length l.length,.i x]) rfl rfl rfl ?_
 refine s0<|qm rfl<|es (ra2 rfl rfl)<|B6<|s0<|qm rfl<|A0 (A9h (f:=cI) (j:=0) rfl rfl rfl) rfl<|qm rfl<|es (ra4 rfl rfl rfl rfl)<|C3<|oB h fun o6 ho6 h=>wl (fun s1=>[(0,(.asl (A.length + 0) l.length)),(1,.i x),(7,(.i (List.length l:Int))),(8,.i s1)]) (fun (q2:Unit) s1=>ar1 l :: B) (B.length + 1) (fun r e s' H'=>(match r with | (.inl v)=>e = .ret∧RetQ (A++(ar1 l :: B)) [.tmp 4] [.i v] e s' H' | (.inr v)=>PX 0 [] (A++(ar1 l :: B)) e s' H':Prop)) () ho6 rfl rfl (fun _ _=>rfl) (fun _=>rfl) rfl (fun s1=>(bdc (X4 (Nat.ble_eq_true_of_le (by omega))) (bdc A8 (bdc A8 (bdc A8 bdn))))) (fun q2 s1 ys1 hs1=>?_) ?_
 ·unfold G5 at hs1
  refine s0<|A0 (G3 rfl rfl) rfl<|es (ra5 rfl rfl rfl rfl rfl)<|B6<|wi hs1 rfl (fun hc3 hs1=>?_) fun hc3 hs1=>?_
  ·refine C0<|B6<|C3<|s0<|qm rfl<|qm rfl<|es (ra5 rfl rfl rfl rfl rfl)<|s0<|oB hs1 fun x4 hx4 hs1=>qm rfl<|qm rfl<|qm rfl<|A0 (A9f (f:=cI) rfl rfl rfl rfl hx4) rfl<|A0 (B0j (x:=.i x4) rfl rfl (List.length_map _) (A9s hx4) rfl) rfl<|A0 (F2 rfl rfl) rfl<|es (ra6 rfl rfl rfl rfl rfl rfl)<|wi hs1 rfl (fun hc5 hs1=>?_) fun hc5 hs1=>?_
   ·refine s0<|qm rfl<|qm rfl<|es (ra1 rfl)<|C4 ?_
    obtain rfl:=os hs1
    exact lx rfl (And.intro rfl (retq0 (retq trivial (B1 rfl B7) (A6 rfl B9) (A3 A8 B2)))) (Sub.refl _)
   ·refine C0<|r0<|A0 (E7 rfl rfl) rfl<|qm rfl<|en (ra4 rfl rfl rfl rfl) ?_
    cases hs1
    exact lnT () (htk _) (su4 rfl rfl rfl rfl)
  ·refine F4 ?_
   obtain rfl:=os hs1
   exact lx rfl px (.nil _)
 ·rcases o6 with vo6_0 | vo6_1
  ·rintro e s' H' - ⟨rfl,hret⟩
   cases h
   exact hret
  ·rintro e s' H' - ⟨rfl,rfl,rfl⟩
   refine s0<|qm rfl<|es (ra1 rfl)<|C4 ?_
   obtain rfl:=os h
   exact retq0 (retq trivial (B1 rfl B7) (A6 rfl B9) (A3 A8 B2))
theorem C4b {c:Sc} {A B:A1} {b:Nat} {l:List Int} {x:Int} {r:Bool} (hb:A.length = b) (h:F8 l x = some r):E9 tab c (A++(ar1 l :: B)) (.fn (.func 66) [] []) [.asl b l.length,.i x] [.b r]:= by
 unfold F8 at h
 refine oB h fun x1 hx1 h=>?_
 refine B7b (aq:=[.asl b l.length,.i x]) rfl rfl rfl ?_
 refine s0<|qm rfl<|es (ra2 rfl rfl)<|s0<|qm rfl<|qm rfl<|Q2 (A5q (rs:=[.i x1]) rfl rfl ((D2z hb hx1).frz)) rfl<|A0 (A8h rfl rfl) rfl<|qm rfl<|es (ra1 rfl)<|C4 ?_
 obtain rfl:=os h
 exact retq0 (retq trivial (B1 rfl B7) (A6 rfl B9) (A3 A8 B2))
def B45 (person:Int) (best:dress_plan) (l:List dress_plan) (s:Int × List Int):Option ((Int × List Int) ⊕ List Int) :=
 if (decide (s.1 < (List.length l:Int))) = true then
  (idx l s.1).bind fun p=>(idx p.figures_ person).bind fun f =>
  (if (p.cost_ == best.cost_) = true then (F8 s.2 f).bind fun k=>some (!k) else some false).bind fun g =>
  if g = true then (app 8 s.2 [f]).bind fun q=>some (.inl (w64 (s.1 + 1),q))
  else some (.inl (w64 (s.1 + 1),s.2))
 else some (.inr s.2)
def A43 (t:DrRoom) (person:Int):Option (List Int × Int) :=
 (B7g t person).bind fun r =>
 if (r.2 != 0) = true then some ([],r.2)
 else (J9 ⟨t⟩).bind fun w=>(S9 t r.1.1 w).bind fun l =>
  (loop (B45 person r.1.2 l) (0,[])).bind fun o=>(B88 o).bind fun q=>some (q,0)
def B44 (N:Nat) (t:DrRoom) (ch:Chg) (p:dress_plan) (s:List Int):List AO:=[.cells (A4 t),ar1 s,.cells (A9 p),.cells (A4 t),.cells (A9 p),.cells (A4 t),.map (B0w ch),.cells (A4v t (N + 6)),.cells (A9 p)]
theorem B3d {c:Sc} {H:A1} (hscv:S3 c H = true) {a0:DrRoom} {a1:Int} {r:List Int × Int} (h:A43 a0 a1 = some r) :
  T8 tab c H (.fn (.func 28) [] []) [(.agg (A4 a0)),.i a1] [(.seq 1 (List.map cI r.1)),.i r.2]:= by
 unfold A43 at h
 refine oB h fun x hx h=>?_
 refine cF rfl rfl<|sg 0 rfl<|A0 (F5 (cs:=A4 a0) rfl rfl rfl) rfl<|A0 A11 rfl<|qm rfl<|es (ra3 rfl rfl rfl)<|sg 2 rfl<|A0 (C2 rfl rfl rfl) rfl<|qm rfl ?_
 rcases D2f (c:=⟨H.length,c.cur :: c.outer⟩) (H:=H++[.cells (A4 a0),ar1 [],.dead]) (A1a hscv) hx with ⟨hc,hcall⟩ | ⟨hc,hcall⟩
 ·rw [if_pos hc] at h
  obtain rfl:=os h
  refine Q2 (X8 rfl rfl (A2 (C9 rfl) (A2 rfl B5)) hcall rfl) rfl<|qm rfl<|A0 (A7 rfl rfl) rfl<|A0 (A7 rfl rfl) rfl<|A0 (A7 rfl rfl) rfl<|A0 E3 rfl<|qm rfl<|H9 (D1 (ds:=A9 plan0) rfl rfl rfl rfl (C7 rfl) rfl) rfl<|qm rfl<|es (ra5 rfl rfl rfl rfl rfl)<|B6<|s0<|qm rfl<|A0 (I7 rfl rfl) rfl<|es (ra6 rfl rfl rfl rfl rfl rfl)<|S7 rfl hc<|sg 3 rfl<|qm rfl<|A0 A11 rfl<|qm rfl<|es (ra2 rfl rfl)<|C4 ?_
  exact ⟨[.fresh 1 (List.map cI []),.i x.2],retq trivial (B1 rfl (B1 rfl B7)) (A6 (A2e rfl (List.length_map _)) (A6 rfl B9)) (A3 V7 (A3 A8 B2)),rfl⟩
 ·obtain ⟨⟨ch,best⟩,e⟩:=x
  dsimp only at hc
  subst hc
  rw [if_neg (by simp)] at h
  refine oB h fun w hw h=>oB h fun l hl h=>oB h fun o ho h=>oB h fun q hq h=>?_
  obtain rfl:=os h
  have hcall:G6 tab ⟨H.length,c.cur :: c.outer⟩ (H++[.cells (A4 a0),ar1 [],.dead]) (.fn (.func 64) [] []) [.agg (A4 a0),.i a1] [.ptr (H.length + 7) 0,.agg (A9 best),.i 0] (H++[.cells (A4 a0),ar1 [],.dead,.cells (A4 a0),.cells (A9 best),.cells (A4 a0),.map (B0w ch),.cells (A4v a0 (H.length + 6)),.cells (A9 best)]):= by
   unfold C6x at hcall
   rw [List.length_append,List.append_assoc] at hcall
   exact hcall
  have hH:∀s:List Int,H++B44 H.length a0 ch best s = (H++[.cells (A4 a0)])++(ar1 s :: (B44 H.length a0 ch best s).drop 2):=fun s=>by simp [B44]
  have hA:(H++[AO.cells (A4 a0)]).length = H.length + 1:= by simp
  refine Q2 (X8 rfl rfl (A2 (C9 rfl) (A2 rfl B5)) hcall rfl) rfl<|qm rfl<|A0 (A7 rfl rfl) rfl<|A0 (A7 rfl rfl) rfl<|A0 (A7 rfl rfl) rfl<|A0 E3 rfl<|qm rfl<|H9 (D1 (ds:=A9 best) rfl rfl rfl rfl (C7 rfl) rfl) rfl<|qm rfl<|es (ra5 rfl rfl rfl rfl rfl)<|B6<|s0<|qm rfl<|A0 (N7 (v:=(.b false)) rfl rfl rfl) rfl<|es (ra6 rfl rfl rfl rfl rfl rfl)<|A0d rfl rfl<|C0<|B6<|s0<|qm rfl<|qm rfl<|B4 (rs:=[.i w]) rfl rfl (A2 rfl B5) ((N2 (a0:=⟨a0⟩) (D7 rfl) hw).frz)<|B4 (rs:=[.seq 6 (l.map A9)]) rfl rfl (A2 rfl (A2 rfl B5)) (C3d (t:=a0) (ch:=ch) ⟨_,D7 rfl,A1y rfl⟩ (A1a hscv) hl)<|A0 (D4 (f:=A9) rfl) rfl<|qm rfl<|es (ra6 rfl rfl rfl rfl rfl rfl)<|C3<|wl (fun s=>[(1,.i a1),(4,.asl (H.length + 1) s.2.length),(7,.ptr (H.length + 2) 0),(24,.seq 6 (l.map A9)),(25,.i (List.length l:Int)),(26,.i s.1)]) (fun (_:Unit) s=>B44 H.length a0 ch best s.2) 9 (fun r e s' H'=>PX 0 [(4,.asl (H.length + 1) r.length)] (H++B44 H.length a0 ch best r) e s' H') () ho rfl rfl (fun _ _=>rfl) (fun _=>rfl) rfl (fun s=>bdc A8 (bdc (X4 rfl) (bdc (F0 rfl) (bdc E6 (bdc A8 (bdc A8 bdn)))))) (fun _ s o hs=>?_) ?_
  ·unfold B45 at hs
   refine s0<|A0 (G3 rfl rfl) rfl<|es (ra7 rfl rfl rfl rfl rfl rfl rfl)<|B6<|wi hs rfl (fun hc hs=>?_) fun hc hs=>?_
   ·refine oB hs fun p hp hs=>oB hs fun f hf hs=>oB hs fun g hg hs=>?_
    refine C0<|B6<|C3<|sg 9 rfl<|A0 (E4 (f:=A9) rfl rfl hp) rfl<|A0 (M8 rfl rfl) rfl<|A0 E3 rfl<|H9 (D1 (ds:=A9 p) rfl rfl rfl rfl (C7 rfl) rfl) rfl<|es (ra7 rfl rfl rfl rfl rfl rfl rfl)<|s0<|A0 (D2 rfl) rfl<|A0 (C8 rfl rfl rfl) rfl<|qm rfl<|A0 (E4 (f:=cI) rfl rfl hf) rfl<|A0 (E8 rfl rfl) rfl<|qm rfl<|es (ra8 rfl rfl rfl rfl rfl rfl rfl rfl)<|s0<|A0 (D2 rfl) rfl<|A0 (C8 (x:=.i p.cost_) rfl rfl rfl) rfl<|A0 (D2 rfl) rfl<|A0 (C8 (x:=.i best.cost_) rfl rfl rfl) rfl<|A0 (F2 rfl rfl) rfl<|qm rfl<|gp 5 45 (.b g) 40 rfl rfl (fun hb=>?_) (fun hb=>?_) ?_
    ·refine oB (bt hg hb) fun k hk hg=>?_
     obtain rfl:=os hg
     have hcon:T8 tab ⟨H.length + 9,(⟨H.length,c.cur :: c.outer⟩:Sc).cur :: (⟨H.length,c.cur :: c.outer⟩:Sc).outer⟩ (H++(B44 H.length a0 ch best s.2++[.cells (A9 p)])) (.fn (.func 66) [] []) [.asl (H.length + 1) s.2.length,.i f] [.b k]:= by
      have:=(C4b (c:=⟨H.length + 9,(⟨H.length,c.cur :: c.outer⟩:Sc).cur :: (⟨H.length,c.cur :: c.outer⟩:Sc).outer⟩) (B:=(B44 H.length a0 ch best s.2).drop 2++[.cells (A9 p)]) hA hk).frz
      rw [show (H++[AO.cells (A4 a0)])++(ar1 s.2 :: ((B44 H.length a0 ch best s.2).drop 2++[.cells (A9 p)])) = H++(B44 H.length a0 ch best s.2++[.cells (A9 p)]) by simp [B44]] at this
      exact this
     exact gT rfl hb<|qm rfl<|gT rfl hb<|qm rfl<|gT rfl hb<|Q2 (A5q (rs:=[.b k]) rfl rfl hcon) rfl<|gT rfl hb<|A0 (S6 rfl) rfl<|A0 (C6 rfl hb rfl) rfl<|ge 5 rfl rfl rfl
    ·obtain rfl:=os (bf hg hb)
     exact nT rfl hb rfl<|nT rfl hb rfl<|M6 (G1 rfl (by rw [hb]; rfl)) rfl<|nT rfl hb rfl<|A0 (C5 rfl hb rfl) rfl<|ge 5 rfl rfl rfl
    refine es (ra8 rfl rfl rfl rfl rfl rfl rfl rfl)<|wi hs rfl (fun hc2 hs=>?_) fun hc2 hs=>?_
    ·refine oB hs fun q hq hs=>?_
     refine r0<|qm rfl<|qm rfl<|A0 (G2 (rows:=List.map cI [f]) rfl rfl (D8 (fun _=>rfl) _)) rfl<|Q2 (U4 (f:=cI) rfl rfl rfl rfl Q6 (fun _=>rfl) hq) rfl<|qm rfl<|en (ra6 rfl rfl rfl rfl rfl rfl)<|r0<|A0 (E7 rfl rfl) rfl<|qm rfl<|en (ra6 rfl rfl rfl rfl rfl rfl) ?_
     cases hs
     exact lnT () rfl (su6 rfl rfl rfl rfl rfl rfl)
    ·refine C0<|r0<|A0 (E7 rfl rfl) rfl<|qm rfl<|en (ra6 rfl rfl rfl rfl rfl rfl) ?_
     cases hs
     exact lnT () rfl (su6 rfl rfl rfl rfl rfl rfl)
   ·refine F4 ?_
    obtain rfl:=os hs
    exact lx rfl px (su1 rfl)
  ·rintro e s' H' - ⟨rfl,rfl,rfl⟩
   have hsort:G6 tab ⟨H.length,c.cur :: c.outer⟩ (H++B44 H.length a0 ch best o) (.fn (.func 67) [] []) [.asl (H.length + 1) o.length] [] (H++B44 H.length a0 ch best q):= by
    have:=D6o (c:=⟨H.length,c.cur :: c.outer⟩) (A:=H++[AO.cells (A4 a0)]) (B:=(B44 H.length a0 ch best o).drop 2) hq
    rw [hA] at this
    rw [hH o,hH q]
    exact this
   refine s0<|qm rfl<|Q2 (T7 rfl rfl hsort rfl) rfl<|es (ra1 rfl)<|s0<|qm rfl<|qm rfl<|qm rfl<|es (ra2 rfl rfl)<|C4 ?_
   exact ⟨[.fresh 1 (List.map cI q),.i 0],retq trivial (B1 rfl (B1 rfl B7)) (A6 (A2e rfl (by rw [List.length_map]; exact D1d hq)) (A6 rfl B9)) (A3 V7 (A3 A8 B2)),rfl⟩
end Ds
end
section
set_option maxRecDepth 100000
set_option maxHeartbeats 0
namespace Ds
open Go Am Go.Proofs.Ytdkflofgolehkaa.Cd
def R6 :Option Bool :=
 (A5i 2).bind fun x1 =>
 (A5i 1).bind fun x2 =>
 (A0v x1 0 0).bind fun x3 =>
 (A2b x1 [2,0,1]).bind fun x4 =>
 (A2c x1 [1,0,2]).bind fun x5 =>
 (U1 x1).bind fun x6 =>
 (U1 x2).bind fun x7 =>
 (A43 x1 2).bind fun x8 =>
 (Y9 x1 1).bind fun x9 =>
 (A94 x2).bind fun x10 =>
 (A3p x2).bind fun x11 =>
 (if ((((((((((x3.2.2 == 0) && (x4.2 == 0)) && (x5.2 == 0)) && (x6.2.2 == 0)) && (x7.2.2 == 9)) && (x8.2 == 0)) && (x9.2 == 0)) && (x10.2 == 0)) && (x11.2.2 == 0)) && (x3.1 == 14)) = true then
  (L4 x3.2.1 [0,2]).bind fun x22 =>
  some x22
 else
  some false).bind fun x23 =>
 (if x23 = true then
  (L4 x4.1 [4,(-1)]).bind fun x25 =>
  some x25
 else
  some false).bind fun x26 =>
 (if (x26 && (x5.1 == 14)) = true then
  (L4 x6.1 [1,0,2]).bind fun x29 =>
  some x29
 else
  some false).bind fun x30 =>
 (if (x30 && (x6.2.1 == 14)) = true then
  (L4 x8.1 [2]).bind fun x33 =>
  some x33
 else
  some false).bind fun x34 =>
 (if (x34 && (x9.1 == 10)) = true then
  (L4 x10.1 [0]).bind fun x37 =>
  some x37
 else
  some false).bind fun x38 =>
 (if x38 = true then
  (L4 x11.1 [0,1]).bind fun x40 =>
  some x40
 else
  some false).bind fun x41 =>
 some (x41 && (x11.2.1 == 14))
theorem R8 {c:Sc} {H:A1} (hscv:S3 c H = true)  {r:Bool} (h:R6  = some r) :
  E9 tab c H (.fn (.func 21) [] []) [] [.b r]:= by
 unfold R6 at h
 refine cE rfl rfl<|s0<|qm rfl<|es .n<|sg 0 rfl<|oB h fun x1 hx1 h=>oB h fun x2 hx2 h=>B4 (rs:=[(.agg (A4 x1))]) rfl rfl (A2 rfl B5) ((A6q hx1).frz)<|B4 (rs:=[(.agg (A4 x2))]) rfl rfl (A2 rfl B5) ((A6q hx2).frz)<|A0 E3 rfl<|A0 E3 rfl<|H9 (D1 (ds:=(A4 x1)) rfl rfl rfl rfl (C7 rfl) rfl) rfl<|H9 (D1 (ds:=(A4 x2)) rfl rfl rfl rfl (C7 rfl) rfl) rfl<|es (ra2 rfl rfl)<|s0<|oB h fun x3 hx3 h=>A0 (C2 rfl rfl rfl) rfl<|B4 (rs:=[.i x3.1,(.seq 1 (List.map cI x3.2.1)),.i x3.2.2]) rfl rfl (A2 (C9 rfl) (A2 rfl (A2 rfl B5))) ((A35 hx3).frz)<|qm rfl<|A0 (A7 rfl rfl) rfl<|A0 (A7 rfl rfl) rfl<|A0 (A7 rfl rfl) rfl<|qm rfl<|qm rfl<|qm rfl<|es (ra5 rfl rfl rfl rfl rfl)<|s0<|oB h fun x4 hx4 h=>A0 (C2 rfl rfl rfl) rfl<|A0 (G2 (rows:=List.map cI [2,0,1]) rfl rfl (D8 (fun _=>rfl) _)) rfl<|B4 (rs:=[(.seq 1 (List.map cI x4.1)),.i x4.2]) rfl rfl (A2 (C9 rfl) (A2 rfl B5)) ((A6o hx4).frz)<|qm rfl<|A0 (A7 rfl rfl) rfl<|A0 (A7 rfl rfl) rfl<|qm rfl<|qm rfl<|es (ra7 rfl rfl rfl rfl rfl rfl rfl)<|s0<|oB h fun x5 hx5 h=>A0 (C2 rfl rfl rfl) rfl<|A0 (G2 (rows:=List.map cI [1,0,2]) rfl rfl (D8 (fun _=>rfl) _)) rfl<|B4 (rs:=[.i x5.1,.i x5.2]) rfl rfl (A2 (C9 rfl) (A2 rfl B5)) ((A6p hx5).frz)<|qm rfl<|A0 (A7 rfl rfl) rfl<|A0 (A7 rfl rfl) rfl<|qm rfl<|qm rfl<|es (ra9 rfl rfl rfl rfl rfl rfl rfl rfl rfl)<|s0<|oB h fun x6 hx6 h=>A0 (C2 rfl rfl rfl) rfl<|B4 (rs:=[(.seq 1 (List.map cI x6.1)),.i x6.2.1,.i x6.2.2]) rfl rfl (A2 (C9 rfl) B5) ((A0k (A1a hscv) hx6).frz)<|qm rfl<|A0 (A7 rfl rfl) rfl<|A0 (A7 rfl rfl) rfl<|A0 (A7 rfl rfl) rfl<|qm rfl<|qm rfl<|qm rfl<|es (ra12 rfl rfl rfl rfl rfl rfl rfl rfl rfl rfl rfl rfl)<|s0 ?_
 refine oB h fun x7 hx7 h=>A0 (C2 rfl rfl rfl) rfl<|B4 (rs:=[(.seq 1 (List.map cI x7.1)),.i x7.2.1,.i x7.2.2]) rfl rfl (A2 (C9 rfl) B5) ((A0k (A1a hscv) hx7).frz)<|qm rfl<|A0 (A7 rfl rfl) rfl<|A0 (A7 rfl rfl) rfl<|A0 (A7 rfl rfl) rfl<|qm rfl<|qm rfl<|qm rfl<|es (ra13 rfl rfl rfl rfl rfl rfl rfl rfl rfl rfl rfl rfl rfl)<|s0<|oB h fun x8 hx8 h=>A0 (C2 rfl rfl rfl) rfl<|B4 (rs:=[(.seq 1 (List.map cI x8.1)),.i x8.2]) rfl rfl (A2 (C9 rfl) (A2 rfl B5)) (B3d (A1a hscv) hx8)<|qm rfl<|A0 (A7 rfl rfl) rfl<|A0 (A7 rfl rfl) rfl<|qm rfl<|qm rfl<|es (.k rfl (.k rfl (.k rfl (.k rfl (.k rfl (.k rfl (.k rfl (.k rfl (.k rfl (.k rfl (.k rfl (.k rfl (.k rfl (.k rfl (.k rfl .n)))))))))))))))<|s0<|oB h fun x9 hx9 h=>A0 (C2 rfl rfl rfl) rfl<|B4 (rs:=[.i x9.1,.i x9.2]) rfl rfl (A2 (C9 rfl) (A2 rfl B5)) ((A3a (A1a hscv) hx9).frz)<|qm rfl<|A0 (A7 rfl rfl) rfl<|A0 (A7 rfl rfl) rfl<|qm rfl<|qm rfl<|es (.k rfl (.k rfl (.k rfl (.k rfl (.k rfl (.k rfl (.k rfl (.k rfl (.k rfl (.k rfl (.k rfl (.k rfl (.k rfl (.k rfl (.k rfl (.k rfl .n))))))))))))))))<|s0<|oB h fun x10 hx10 h=>A0 (C2 rfl rfl rfl) rfl<|B4 (rs:=[(.seq 1 (List.map cI x10.1)),.i x10.2]) rfl rfl (A2 (C9 rfl) B5) ((B3c (A1a hscv) hx10).frz)<|qm rfl<|A0 (A7 rfl rfl) rfl<|A0 (A7 rfl rfl) rfl<|qm rfl<|qm rfl<|es (.k rfl (.k rfl (.k rfl (.k rfl (.k rfl (.k rfl (.k rfl (.k rfl (.k rfl (.k rfl (.k rfl (.k rfl (.k rfl (.k rfl (.k rfl (.k rfl (.k rfl (.k rfl .n))))))))))))))))))<|s0<|oB h fun x11 hx11 h=>A0 (C2 rfl rfl rfl) rfl<|B4 (rs:=[(.seq 1 (List.map cI x11.1)),.i x11.2.1,.i x11.2.2]) rfl rfl (A2 (C9 rfl) B5) ((A76 (A1a hscv) hx11).frz)<|qm rfl<|A0 (A7 rfl rfl) rfl<|A0 (A7 rfl rfl) rfl<|A0 (A7 rfl rfl) rfl<|qm rfl<|qm rfl<|qm rfl<|es (.k rfl (.k rfl (.k rfl (.k rfl (.k rfl (.k rfl (.k rfl (.k rfl (.k rfl (.k rfl (.k rfl (.k rfl (.k rfl (.k rfl (.k rfl (.k rfl (.k rfl (.k rfl (.k rfl (.k rfl .n))))))))))))))))))))<|s0<|oB h fun x23 hx23 h=>oB h fun x26 hx26 h=>oB h fun x30 hx30 h=>oB h fun x34 hx34 h=>oB h fun x38 hx38 h=>oB h fun x41 hx41 h=>qm rfl ?_
 refine A0 (F2 rfl rfl) rfl<|qm rfl<|gp 3 83 (.b ((x3.2.2 == 0) && (x4.2 == 0))) 80 rfl rfl (fun hg12=>?_) (fun hg12=>?_) ?_
 ·exact gT rfl hg12<|qm rfl<|gT rfl hg12<|A0 (F2 rfl rfl) rfl<|A0 (C6 rfl hg12 rfl) rfl<|ge 3 (by rw [hg12]; rfl) rfl rfl
 ·exact nT rfl hg12 rfl<|nT rfl hg12 rfl<|A0 (C5 rfl hg12 rfl) rfl<|ge 3 (by rw [hg12]; rfl) rfl rfl
 refine qm rfl<|gp 3 87 (.b (((x3.2.2 == 0) && (x4.2 == 0)) && (x5.2 == 0))) 84 rfl rfl (fun hg13=>?_) (fun hg13=>?_) ?_
 ·exact gT rfl hg13<|qm rfl<|gT rfl hg13<|A0 (F2 rfl rfl) rfl<|A0 (C6 rfl hg13 rfl) rfl<|ge 3 (by rw [hg13]; rfl) rfl rfl
 ·exact nT rfl hg13 rfl<|nT rfl hg13 rfl<|A0 (C5 rfl hg13 rfl) rfl<|ge 3 (by rw [hg13]; rfl) rfl rfl
 refine qm rfl<|gp 3 91 (.b ((((x3.2.2 == 0) && (x4.2 == 0)) && (x5.2 == 0)) && (x6.2.2 == 0))) 88 rfl rfl (fun hg14=>?_) (fun hg14=>?_) ?_
 ·exact gT rfl hg14<|qm rfl<|gT rfl hg14<|A0 (F2 rfl rfl) rfl<|A0 (C6 rfl hg14 rfl) rfl<|ge 3 (by rw [hg14]; rfl) rfl rfl
 ·exact nT rfl hg14 rfl<|nT rfl hg14 rfl<|A0 (C5 rfl hg14 rfl) rfl<|ge 3 (by rw [hg14]; rfl) rfl rfl
 refine qm rfl<|gp 3 95 (.b (((((x3.2.2 == 0) && (x4.2 == 0)) && (x5.2 == 0)) && (x6.2.2 == 0)) && (x7.2.2 == 9))) 92 rfl rfl (fun hg15=>?_) (fun hg15=>?_) ?_
 ·exact gT rfl hg15<|qm rfl<|gT rfl hg15<|A0 (F2 rfl rfl) rfl<|A0 (C6 rfl hg15 rfl) rfl<|ge 3 (by rw [hg15]; rfl) rfl rfl
 ·exact nT rfl hg15 rfl<|nT rfl hg15 rfl<|A0 (C5 rfl hg15 rfl) rfl<|ge 3 (by rw [hg15]; rfl) rfl rfl
 refine qm rfl<|gp 3 99 (.b ((((((x3.2.2 == 0) && (x4.2 == 0)) && (x5.2 == 0)) && (x6.2.2 == 0)) && (x7.2.2 == 9)) && (x8.2 == 0))) 96 rfl rfl (fun hg16=>?_) (fun hg16=>?_) ?_
 ·exact gT rfl hg16<|qm rfl<|gT rfl hg16<|A0 (F2 rfl rfl) rfl<|A0 (C6 rfl hg16 rfl) rfl<|ge 3 (by rw [hg16]; rfl) rfl rfl
 ·exact nT rfl hg16 rfl<|nT rfl hg16 rfl<|A0 (C5 rfl hg16 rfl) rfl<|ge 3 (by rw [hg16]; rfl) rfl rfl
 refine qm rfl<|gp 3 103 (.b (((((((x3.2.2 == 0) && (x4.2 == 0)) && (x5.2 == 0)) && (x6.2.2 == 0)) && (x7.2.2 == 9)) && (x8.2 == 0)) && (x9.2 == 0))) 100 rfl rfl (fun hg17=>?_) (fun hg17=>?_) ?_
 ·exact gT rfl hg17<|qm rfl<|gT rfl hg17<|A0 (F2 rfl rfl) rfl<|A0 (C6 rfl hg17 rfl) rfl<|ge 3 (by rw [hg17]; rfl) rfl rfl
 ·exact nT rfl hg17 rfl<|nT rfl hg17 rfl<|A0 (C5 rfl hg17 rfl) rfl<|ge 3 (by rw [hg17]; rfl) rfl rfl
 refine qm rfl<|gp 3 107 (.b ((((((((x3.2.2 == 0) && (x4.2 == 0)) && (x5.2 == 0)) && (x6.2.2 == 0)) && (x7.2.2 == 9)) && (x8.2 == 0)) && (x9.2 == 0)) && (x10.2 == 0))) 104 rfl rfl (fun hg18=>?_) (fun hg18=>?_) ?_
 ·exact gT rfl hg18<|qm rfl<|gT rfl hg18<|A0 (F2 rfl rfl) rfl<|A0 (C6 rfl hg18 rfl) rfl<|ge 3 (by rw [hg18]; rfl) rfl rfl
 ·exact nT rfl hg18 rfl<|nT rfl hg18 rfl<|A0 (C5 rfl hg18 rfl) rfl<|ge 3 (by rw [hg18]; rfl) rfl rfl
 refine qm rfl<|gp 3 111 (.b (((((((((x3.2.2 == 0) && (x4.2 == 0)) && (x5.2 == 0)) && (x6.2.2 == 0)) && (x7.2.2 == 9)) && (x8.2 == 0)) && (x9.2 == 0)) && (x10.2 == 0)) && (x11.2.2 == 0))) 108 rfl rfl (fun hg19=>?_) (fun hg19=>?_) ?_
 ·exact gT rfl hg19<|qm rfl<|gT rfl hg19<|A0 (F2 rfl rfl) rfl<|A0 (C6 rfl hg19 rfl) rfl<|ge 3 (by rw [hg19]; rfl) rfl rfl
 ·exact nT rfl hg19 rfl<|nT rfl hg19 rfl<|A0 (C5 rfl hg19 rfl) rfl<|ge 3 (by rw [hg19]; rfl) rfl rfl
 refine qm rfl<|gp 3 115 (.b ((((((((((x3.2.2 == 0) && (x4.2 == 0)) && (x5.2 == 0)) && (x6.2.2 == 0)) && (x7.2.2 == 9)) && (x8.2 == 0)) && (x9.2 == 0)) && (x10.2 == 0)) && (x11.2.2 == 0)) && (x3.1 == 14))) 112 rfl rfl (fun hg20=>?_) (fun hg20=>?_) ?_
 ·exact gT rfl hg20<|qm rfl<|gT rfl hg20<|A0 (F2 rfl rfl) rfl<|A0 (C6 rfl hg20 rfl) rfl<|ge 3 (by rw [hg20]; rfl) rfl rfl
 ·exact nT rfl hg20 rfl<|nT rfl hg20 rfl<|A0 (C5 rfl hg20 rfl) rfl<|ge 3 (by rw [hg20]; rfl) rfl rfl
 refine qm rfl<|gp 4 120 (.b x23) 116 rfl rfl (fun hg21=>?_) (fun hg21=>?_) ?_
 ·refine oB (bt hx23 hg21) fun x22 hx22 hx23=>?_
  obtain rfl:=os hx23
  exact gT rfl hg21<|qm rfl<|gT rfl hg21<|A0 (G2 (rows:=List.map cI [0,2]) rfl rfl (D8 (fun _=>rfl) _)) rfl<|gT rfl hg21<|B4 (rs:=[.b x22]) rfl rfl (A2 rfl (A2 rfl B5)) ((L1 hx22).frz)<|A0 (C6 rfl hg21 rfl) rfl<|ge 4 rfl rfl rfl
 ·obtain rfl:=os (bf hx23 hg21)
  exact nT rfl hg21 rfl<|nT rfl hg21 rfl<|M6 (G1 rfl (by rw [hg21]; rfl)) rfl<|A0 (C5 rfl hg21 rfl) rfl<|ge 4 rfl rfl rfl
 refine qm rfl<|gp 4 125 (.b x26) 121 rfl rfl (fun hg24=>?_) (fun hg24=>?_) ?_
 ·refine oB (bt hx26 hg24) fun x25 hx25 hx26=>?_
  obtain rfl:=os hx26
  exact gT rfl hg24<|qm rfl<|gT rfl hg24<|A0 (G2 (rows:=List.map cI [4,(-1)]) rfl rfl (D8 (fun _=>rfl) _)) rfl<|gT rfl hg24<|B4 (rs:=[.b x25]) rfl rfl (A2 rfl (A2 rfl B5)) ((L1 hx25).frz)<|A0 (C6 rfl hg24 rfl) rfl<|ge 4 rfl rfl rfl
 ·obtain rfl:=os (bf hx26 hg24)
  exact nT rfl hg24 rfl<|nT rfl hg24 rfl<|M6 (G1 rfl (by rw [hg24]; rfl)) rfl<|A0 (C5 rfl hg24 rfl) rfl<|ge 4 rfl rfl rfl
 refine qm rfl<|gp 3 129 (.b (x26 && (x5.1 == 14))) 126 rfl rfl (fun hg27=>?_) (fun hg27=>?_) ?_
 ·exact gT rfl hg27<|qm rfl<|gT rfl hg27<|A0 (F2 rfl rfl) rfl<|A0 (C6 rfl hg27 rfl) rfl<|ge 3 (by rw [hg27]; rfl) rfl rfl
 ·exact nT rfl hg27 rfl<|nT rfl hg27 rfl<|A0 (C5 rfl hg27 rfl) rfl<|ge 3 (by rw [hg27]; rfl) rfl rfl
 refine qm rfl<|gp 4 134 (.b x30) 130 rfl rfl (fun hg28=>?_) (fun hg28=>?_) ?_
 ·refine oB (bt hx30 hg28) fun x29 hx29 hx30=>?_
  obtain rfl:=os hx30
  exact gT rfl hg28<|qm rfl<|gT rfl hg28<|A0 (G2 (rows:=List.map cI [1,0,2]) rfl rfl (D8 (fun _=>rfl) _)) rfl<|gT rfl hg28<|B4 (rs:=[.b x29]) rfl rfl (A2 rfl (A2 rfl B5)) ((L1 hx29).frz)<|A0 (C6 rfl hg28 rfl) rfl<|ge 4 rfl rfl rfl
 ·obtain rfl:=os (bf hx30 hg28)
  exact nT rfl hg28 rfl<|nT rfl hg28 rfl<|M6 (G1 rfl (by rw [hg28]; rfl)) rfl<|A0 (C5 rfl hg28 rfl) rfl<|ge 4 rfl rfl rfl
 refine qm rfl<|gp 3 138 (.b (x30 && (x6.2.1 == 14))) 135 rfl rfl (fun hg31=>?_) (fun hg31=>?_) ?_
 ·exact gT rfl hg31<|qm rfl<|gT rfl hg31<|A0 (F2 rfl rfl) rfl<|A0 (C6 rfl hg31 rfl) rfl<|ge 3 (by rw [hg31]; rfl) rfl rfl
 ·exact nT rfl hg31 rfl<|nT rfl hg31 rfl<|A0 (C5 rfl hg31 rfl) rfl<|ge 3 (by rw [hg31]; rfl) rfl rfl
 refine qm rfl<|gp 4 143 (.b x34) 139 rfl rfl (fun hg32=>?_) (fun hg32=>?_) ?_
 ·refine oB (bt hx34 hg32) fun x33 hx33 hx34=>?_
  obtain rfl:=os hx34
  exact gT rfl hg32<|qm rfl<|gT rfl hg32<|A0 (G2 (rows:=List.map cI [2]) rfl rfl (D8 (fun _=>rfl) _)) rfl<|gT rfl hg32<|B4 (rs:=[.b x33]) rfl rfl (A2 rfl (A2 rfl B5)) ((L1 hx33).frz)<|A0 (C6 rfl hg32 rfl) rfl<|ge 4 rfl rfl rfl
 ·obtain rfl:=os (bf hx34 hg32)
  exact nT rfl hg32 rfl<|nT rfl hg32 rfl<|M6 (G1 rfl (by rw [hg32]; rfl)) rfl<|A0 (C5 rfl hg32 rfl) rfl<|ge 4 rfl rfl rfl
 refine qm rfl<|gp 3 147 (.b (x34 && (x9.1 == 10))) 144 rfl rfl (fun hg35=>?_) (fun hg35=>?_) ?_
 ·exact gT rfl hg35<|qm rfl<|gT rfl hg35<|A0 (F2 rfl rfl) rfl<|A0 (C6 rfl hg35 rfl) rfl<|ge 3 (by rw [hg35]; rfl) rfl rfl
 ·exact nT rfl hg35 rfl<|nT rfl hg35 rfl<|A0 (C5 rfl hg35 rfl) rfl<|ge 3 (by rw [hg35]; rfl) rfl rfl
 refine qm rfl<|gp 4 152 (.b x38) 148 rfl rfl (fun hg36=>?_) (fun hg36=>?_) ?_
 ·refine oB (bt hx38 hg36) fun x37 hx37 hx38=>?_
  obtain rfl:=os hx38
  exact gT rfl hg36<|qm rfl<|gT rfl hg36<|A0 (G2 (rows:=List.map cI [0]) rfl rfl (D8 (fun _=>rfl) _)) rfl<|gT rfl hg36<|B4 (rs:=[.b x37]) rfl rfl (A2 rfl (A2 rfl B5)) ((L1 hx37).frz)<|A0 (C6 rfl hg36 rfl) rfl<|ge 4 rfl rfl rfl
 ·obtain rfl:=os (bf hx38 hg36)
  exact nT rfl hg36 rfl<|nT rfl hg36 rfl<|M6 (G1 rfl (by rw [hg36]; rfl)) rfl<|A0 (C5 rfl hg36 rfl) rfl<|ge 4 rfl rfl rfl
 refine qm rfl<|gp 4 157 (.b x41) 153 rfl rfl (fun hg39=>?_) (fun hg39=>?_) ?_
 ·refine oB (bt hx41 hg39) fun x40 hx40 hx41=>?_
  obtain rfl:=os hx41
  exact gT rfl hg39<|qm rfl<|gT rfl hg39<|A0 (G2 (rows:=List.map cI [0,1]) rfl rfl (D8 (fun _=>rfl) _)) rfl<|gT rfl hg39<|B4 (rs:=[.b x40]) rfl rfl (A2 rfl (A2 rfl B5)) ((L1 hx40).frz)<|A0 (C6 rfl hg39 rfl) rfl<|ge 4 rfl rfl rfl
 ·obtain rfl:=os (bf hx41 hg39)
  exact nT rfl hg39 rfl<|nT rfl hg39 rfl<|M6 (G1 rfl (by rw [hg39]; rfl)) rfl<|A0 (C5 rfl hg39 rfl) rfl<|ge 4 rfl rfl rfl
 refine qm rfl<|gp 3 161 (.b (x41 && (x11.2.1 == 14))) 158 rfl rfl (fun hg42=>?_) (fun hg42=>?_) ?_
 ·exact gT rfl hg42<|qm rfl<|gT rfl hg42<|A0 (F2 rfl rfl) rfl<|A0 (C6 rfl hg42 rfl) rfl<|ge 3 (by rw [hg42]; rfl) rfl rfl
 ·exact nT rfl hg42 rfl<|nT rfl hg42 rfl<|A0 (C5 rfl hg42 rfl) rfl<|ge 3 (by rw [hg42]; rfl) rfl rfl
 refine qm rfl<|es (ra1 rfl)<|C4 ?_
 obtain rfl:=os h
 exact retq trivial (B1 rfl B7) (A6 rfl B9) (A3 A8 B2)
end Ds
end
section
set_option maxRecDepth 100000
namespace Ds
theorem awake:R6 = some true:= by decide +kernel
end Ds
end
section
set_option maxRecDepth 100000
set_option maxHeartbeats 0
namespace Ds
open Go Am Go.Proofs.Ytdkflofgolehkaa.Cd
end Ds
end
section
namespace Ds
open Go Am
abbrev Prs:=List (Nat × DrLook)
def cst (r:DrRoom) (x:Nat × DrLook):Int:=one r r.Figures[x.1]! x.2
def hr (r:DrRoom) (c:Nat) (x:Nat × DrLook):Int:=A8l r.Figures[x.1]! x.2 (c:Int)
def Y8 (r:DrRoom) (z:Prs):Int:=sm (z.map (cst r))
def E1 (r:DrRoom) (z:Prs) (c:Nat):Int:=r.Ounces.getD c 0 + sm (z.map (hr r c))
def J3 (r:DrRoom) (z:Prs):dress_plan:=⟨ints (z.map (·.1)),Y8 r z,⟨E1 r z 0,E1 r z 1,E1 r z 2,E1 r z 3⟩⟩
def B1d (r:DrRoom) (z:Prs):Prop:=z.length≤5∧∀ x ∈ z,x.1 < r.Figures.length∧LkOk r (-1) x.2
theorem D2d {r:DrRoom} (ok:RmOk r) (x:Nat × DrLook):0≤cst r x∧cst r x≤400:=D3q ok _ _
theorem A42 {r:DrRoom} (ok:RmOk r) (z:Prs):0≤Y8 r z∧Y8 r z≤400 * z.length:= by
 have:=B5z (a:=0) (b:=400) (l:=z.map (cst r)) fun x hx=>by
  obtain ⟨k,_,rfl⟩:=List.mem_map.mp hx
  exact D2d ok k
 rw [List.length_map] at this
 unfold Y8; omega
theorem D61 {r:DrRoom} (ok:RmOk r) (c:Nat) {x:Nat × DrLook} (h:x.1 < r.Figures.length∧LkOk r (-1) x.2):-50≤hr r c x∧hr r c x≤50:= by
 have h1:=(ok.figure _ (I1 h.1)).hair
 have h2:=h.2.hair
 unfold hr A8l
 split
 ·split <;> split <;> omega
 ·omega
theorem D3v {r:DrRoom} (ok:RmOk r) (c:Nat):0≤r.Ounces.getD c 0∧r.Ounces.getD c 0≤50:= by
 rw [List.getD_eq_getElem?_getD]
 by_cases h:c < r.Ounces.length
 ·rw [List.getElem?_eq_getElem h]; exact ok.ounce _ (List.getElem_mem h)
 ·rw [List.getElem?_eq_none (by omega)]; decide
theorem A62 {r:DrRoom} (ok:RmOk r) {z:Prs} (hz:B1d r z) (c:Nat):-250≤E1 r z c∧E1 r z c≤300:= by
 have:=B5z (a:=-50) (b:=50) (l:=z.map (hr r c)) fun x hx=>by
  obtain ⟨k,hk,rfl⟩:=List.mem_map.mp hx
  exact D61 ok c (hz.2 k hk)
 have h2:=D3v ok c
 have h3:=hz.1
 rw [List.length_map] at this
 unfold E1; omega
theorem B1d.take {r:DrRoom} {z:Prs} (h:B1d r z) (n:Nat):B1d r (z.take n) :=
 ⟨by have:=h.1; rw [List.length_take]; omega,fun x hx=>h.2 x (List.mem_of_mem_take hx)⟩
theorem D1i (r:DrRoom) (z:Prs) (x:Nat × DrLook):Y8 r (z++[x]) = Y8 r z + cst r x:= by
 unfold Y8; rw [List.map_append,A31]; simp [sm]
theorem C7a (r:DrRoom) (z:Prs) (x:Nat × DrLook) (c:Nat):E1 r (z++[x]) c = E1 r z c + hr r c x:= by
 unfold E1; rw [List.map_append,A31]; simp [sm]; omega
theorem C9p {r:DrRoom} (ok:RmOk r) {z:Prs} (hz:B1d r z) {f:Nat} {p:DrLook} (hx:f < r.Figures.length∧LkOk r (-1) p):V3 (J3 r z) (f:Int) (chg r r.Figures[f]! p) = some (J3 r (z++[(f,p)])):= by
 have hl:=hz.1
 have hs:=A42 ok z
 have hc:=D3q ok r.Figures[f]! p
 have hb:∀c:Nat,w64 (E1 r z c + A8l r.Figures[f]! p (c:Int)) = E1 r (z++[(f,p)]) c:=fun c=>by
  have h1:=A62 ok hz c
  have h2:=D61 ok c (x:=(f,p)) hx
  rw [C7a]
  have h2':-50≤A8l r.Figures[f]! p (c:Int)∧A8l r.Figures[f]! p (c:Int)≤50:=h2
  exact E0 (by omega)
 unfold V3
 rw [S8 (by omega) (by show (ints _).length + 1≤_; rw [F7,List.length_map]; omega)]
 simp only [Option.bind_some]
 have h0:=hb 0
 have h1:=hb 1
 have h2:=hb 2
 have h3:=hb 3
 have hloop:loop (U2 (chg r r.Figures[f]! p)) (0,(J3 r z).left_) = some (J3 r (z++[(f,p)])).left_:= by
  have:=H8 (b:=U2 (chg r r.Figures[f]! p)) (fun i=>((i:Int),(match i with
   | 0=>⟨E1 r z 0,E1 r z 1,E1 r z 2,E1 r z 3⟩
   | 1=>⟨E1 r (z++[(f,p)]) 0,E1 r z 1,E1 r z 2,E1 r z 3⟩
   | 2=>⟨E1 r (z++[(f,p)]) 0,E1 r (z++[(f,p)]) 1,E1 r z 2,E1 r z 3⟩
   | 3=>⟨E1 r (z++[(f,p)]) 0,E1 r (z++[(f,p)]) 1,E1 r (z++[(f,p)]) 2,E1 r z 3⟩
   | _=>(J3 r (z++[(f,p)])).left_:Ar4 Int))) 4 (r:=(J3 r (z++[(f,p)])).left_) (by omega) (fun i hi=>by
   unfold U2
   generalize r.Figures[f]! = F at h0 h1 h2 h3 ⊢
   rcases (by omega:i = 0∨i = 1∨i = 2∨i = 3) with rfl | rfl | rfl | rfl <;> simp [idx,Ar4.l,Ar4.set,chg,J3]
   ·exact ⟨E0 (by omega),h0⟩
   ·exact ⟨E0 (by omega),h1⟩
   ·exact ⟨E0 (by omega),h2⟩
   ·exact ⟨E0 (by omega),h3⟩) rfl
  exact this
 rw [hloop]
 simp only [Option.bind_some,Option.some.injEq]
 have e1:w64 (Y8 r z + one r r.Figures[f]! p) = Y8 r (z++[(f,p)]):= by
  rw [D1i]; exact E0 (by omega)
 show (⟨ints (z.map (·.1))++[(f:Int)],w64 (Y8 r z + one r r.Figures[f]! p),(J3 r (z++[(f,p)])).left_⟩:dress_plan) = J3 r (z++[(f,p)])
 rw [e1]
 unfold J3 ints
 simp
def below (x:Int):Int:=if x < 0 then -x else 0
def I5 (r:DrRoom) (z:Prs):List Int:=(List.range r.Ounces.length).map fun c=>below (E1 r z c)
def A3n (r:DrRoom) (z:Prs):Bool:=(List.range r.Ounces.length).all fun c=>decide (0≤E1 r z c)
theorem D2r {r:DrRoom} (ok:RmOk r) {x:Nat × DrLook} (h:x.1 < r.Figures.length∧LkOk r (-1) x.2) {c:Nat} (hc:r.Ounces.length≤c):hr r c x = 0:= by
 have h1:=(ok.figure _ (I1 h.1)).col
 have h2:=h.2.col
 unfold hr A8l
 have e1:r.Figures[x.1]!.Looks[0]! ≠ (c:Int):= by omega
 have e2:x.2.Looks[0]! ≠ (c:Int):= by omega
 rw [if_neg e1,if_neg e2]
 simp
theorem C40 {r:DrRoom} (ok:RmOk r) {z:Prs} (hz:B1d r z) {c:Nat} (hc:r.Ounces.length≤c):E1 r z c = 0:= by
 unfold E1
 rw [List.getD_eq_getElem?_getD,List.getElem?_eq_none hc,D6m fun x hx=>D2r ok (hz.2 x hx) hc]; rfl
theorem C0h {x:Int} (h:-1000≤x∧x≤1000):A9d 0 (w64 (0 - x)) = below x:= by
 rw [E0 (by omega)]
 unfold A9d below
 split <;> split <;> omega
theorem A8w {x:Int} (h:-1000≤x∧x≤1000):0≤below x∧below x≤1000:= by
 unfold below; split <;> omega
theorem A89 {r:DrRoom} (ok:RmOk r) {z:Prs} (hz:B1d r z):I0 (J3 r z) = some (⟨below (E1 r z 0),below (E1 r z 1),below (E1 r z 2),below (E1 r z 3)⟩,sm (I5 r z)):= by
 have hb:∀c,-1000≤E1 r z c∧E1 r z c≤1000:=fun c=>by have:=A62 ok hz c; omega
 have m:=fun c=>C0h (hb c)
 have q:=fun c=>A8w (hb c)
 have q0:=q 0
 have q1:=q 1
 have q2:=q 2
 have q3:=q 3
 have hs:sm (I5 r z) = below (E1 r z 0) + below (E1 r z 1) + below (E1 r z 2) + below (E1 r z 3):= by
  have ho:=ok.ounces
  have hf:∀c,r.Ounces.length≤c→below (E1 r z c) = 0:=fun c hc=>by rw [C40 ok hz hc]; rfl
  unfold I5
  rcases (by omega:r.Ounces.length = 1∨r.Ounces.length = 2∨r.Ounces.length = 3∨r.Ounces.length = 4) with e | e | e | e <;> rw [e] at hf ⊢
  ·rw [hf 1 (by omega),hf 2 (by omega),hf 3 (by omega)]; simp [List.range,List.range.loop,sm]
  ·rw [hf 2 (by omega),hf 3 (by omega)]; simp [List.range,List.range.loop,sm]
  ·rw [hf 3 (by omega)]; simp [List.range,List.range.loop,sm]; omega
  ·simp [List.range,List.range.loop,sm]; omega
 unfold I0
 have m0:=m 0
 rw [Int.zero_sub] at m0
 have m1:=m 1
 rw [Int.zero_sub] at m1
 have m2:=m 2
 rw [Int.zero_sub] at m2
 have m3:=m 3
 rw [Int.zero_sub] at m3
 have:=H8 (b:=T0 (J3 r z)) (fun i=>(match i with
   | 0=>(0,0,⟨0,0,0,0⟩)
   | 1=>(below (E1 r z 0),1,⟨below (E1 r z 0),0,0,0⟩)
   | 2=>(below (E1 r z 0) + below (E1 r z 1),2,⟨below (E1 r z 0),below (E1 r z 1),0,0⟩)
   | 3=>(below (E1 r z 0) + below (E1 r z 1) + below (E1 r z 2),3,⟨below (E1 r z 0),below (E1 r z 1),below (E1 r z 2),0⟩)
   | _=>(sm (I5 r z),4,⟨below (E1 r z 0),below (E1 r z 1),below (E1 r z 2),below (E1 r z 3)⟩):Int × Int × Ar4 Int)) 4 (r:=(sm (I5 r z),⟨below (E1 r z 0),below (E1 r z 1),below (E1 r z 2),below (E1 r z 3)⟩)) (by omega) (fun i hi=>by
  unfold T0
  rcases (by omega:i = 0∨i = 1∨i = 2∨i = 3) with rfl | rfl | rfl | rfl
  ·simp only [J3,idx,Ar4.l,Ar4.set]
   simp [m0]
   first | exact ⟨E0 (by omega),E0 (by omega)⟩ | exact E0 (by omega)
  ·simp only [J3,idx,Ar4.l,Ar4.set]
   simp [m1]
   first | exact ⟨E0 (by omega),E0 (by omega)⟩ | exact E0 (by omega)
  ·simp only [J3,idx,Ar4.l,Ar4.set]
   simp [m2]
   first | exact ⟨E0 (by omega),E0 (by omega)⟩ | exact E0 (by omega)
  ·simp only [J3,idx,Ar4.l,Ar4.set]
   simp [m3,hs]
   first | exact ⟨E0 (by omega),E0 (by omega)⟩ | exact E0 (by omega)) rfl
 rw [show ((0:Int),(0:Int),(Ar4.mk (0:Int) 0 0 0)) = (match (0:Nat) with
   | 0=>(0,0,⟨0,0,0,0⟩)
   | 1=>(below (E1 r z 0),1,⟨below (E1 r z 0),0,0,0⟩)
   | 2=>(below (E1 r z 0) + below (E1 r z 1),2,⟨below (E1 r z 0),below (E1 r z 1),0,0⟩)
   | 3=>(below (E1 r z 0) + below (E1 r z 1) + below (E1 r z 2),3,⟨below (E1 r z 0),below (E1 r z 1),below (E1 r z 2),0⟩)
   | _=>(sm (I5 r z),4,⟨below (E1 r z 0),below (E1 r z 1),below (E1 r z 2),below (E1 r z 3)⟩):Int × Int × Ar4 Int) from rfl,this]; rfl
theorem B69 {x:Int}:(below x == 0) = decide (0≤x):= by
 unfold below
 rw [Bool.eq_iff_iff,beq_iff_eq,decide_eq_true_eq]
 split <;> omega
theorem B67 {r:DrRoom} (ok:RmOk r) {z:Prs} (hz:B1d r z):M0 (J3 r z) = some (A3n r z):= by
 unfold M0
 rw [A89 ok hz]
 simp only [Option.bind_some,B69,Bool.and_true,Option.some.injEq]
 have ho:=ok.ounces
 have hf:∀c,r.Ounces.length≤c→decide (0≤E1 r z c) = true:=fun c hc=>by rw [C40 ok hz hc]; rfl
 unfold A3n
 rcases (by omega:r.Ounces.length = 1∨r.Ounces.length = 2∨r.Ounces.length = 3∨r.Ounces.length = 4) with e | e | e | e <;> rw [e] at hf ⊢
 ·rw [hf 1 (by omega),hf 2 (by omega),hf 3 (by omega)]; simp [List.range,List.range.loop]
 ·rw [hf 2 (by omega),hf 3 (by omega)]; simp [List.range,List.range.loop]
 ·rw [hf 3 (by omega)]; simp [List.range,List.range.loop]
 ·simp [List.range,List.range.loop]
theorem C1a {r:DrRoom} {z:Prs}:(sm (I5 r z) == 0) = A3n r z:= by
 unfold I5 A3n
 induction (List.range r.Ounces.length) with
 | nil=>rfl
 | cons c l ih =>
  have h0:∀l:List Nat,0≤sm (l.map fun c=>below (E1 r z c)):=fun l=>by
   have:∀x ∈ l.map fun c=>below (E1 r z c),0≤x:=fun x hx=>by
    obtain ⟨k,_,rfl⟩:=List.mem_map.mp hx
    unfold below; split <;> omega
   revert this
   generalize l.map (fun c=>below (E1 r z c)) = m
   intro this
   induction m with
   | nil=>exact Int.le_refl _
   | cons x l ih =>
    have h1:=this x (List.mem_cons_self ..)
    have h2:=ih fun y hy=>this y (List.mem_cons_of_mem _ hy)
    simp only [sm]; omega
  have h1:=h0 l
  have h2:0≤below (E1 r z c):= by unfold below; split <;> omega
  rw [List.all_cons,← ih,← B69,Bool.eq_iff_iff,Bool.and_eq_true,beq_iff_eq,beq_iff_eq,beq_iff_eq]
  simp only [List.map_cons,sm]
  omega
theorem B3y {q:List Nat} {ps:List DrLook} (h:q.length≤ps.length):(q.zip ps).length = q.length:= by
 rw [List.length_zip]; omega
structure QOk (r:DrRoom) (q:List Nat):Prop where
 len:q.length≤r.Persons.length
 fig:∀x ∈ q,x < r.Figures.length
def prs (r:DrRoom) (q:List Nat):Prs:=q.zip r.Persons
theorem QOk.pr {r:DrRoom} (ok:RmOk r) {q:List Nat} (h:QOk r q):B1d r (prs r q):= by
 refine ⟨by unfold prs; rw [B3y h.len]; have:=ok.persons; have:=h.len; omega,fun x hx=>?_⟩
 have:=List.of_mem_zip (a:=x.1) (b:=x.2) hx
 exact ⟨h.fig _ this.1,ok.person _ this.2⟩
end Ds
end
section
set_option maxRecDepth 100000
set_option maxHeartbeats 0
namespace Ds
open Go Am Go.Proofs.Ytdkflofgolehkaa.Cd
end Ds
end
section
namespace Ds
open Go Am
theorem C3v {r:DrRoom} (ok:RmOk r):begin0 r = J3 r []:= by
 have ho:=ok.ounces
 unfold begin0 J3 cpy4
 simp [ints,Y8,E1,sm,List.getD_eq_getElem?_getD]
section
variable {α β σ ρ:Type}
def X6 (f:α→σ→Option (σ ⊕ ρ)):List α→σ→Option (σ ⊕ ρ)
 | [],s=>some (.inl s)
 | a :: l,s=>(f a s).bind fun x=>match x with
  | .inl s'=>X6 f l s'
  | .inr r=>some (.inr r)
theorem B2p (f:α→σ→Option (σ ⊕ ρ)) (m:List α):∀(l:List α) (s:σ),X6 f (l++m) s = (X6 f l s).bind fun x=>match x with
  | .inl s'=>X6 f m s'
  | .inr r=>some (.inr r)
 | [],s=>rfl
 | a :: l,s=>by
  show (f a s).bind _ = ((f a s).bind _).bind _
  cases f a s with
  | none=>rfl
  | some x=>cases x with
   | inl s'=>exact B2p f m l s'
   | inr r=>rfl
theorem B7o (f:α→σ→Option (σ ⊕ ρ)) (h:β→List α):∀(l:List β) (s:σ),X6 f (l.flatMap h) s = X6 (fun b s=>X6 f (h b) s) l s
 | [],s=>rfl
 | b :: l,s=>by
  rw [List.flatMap_cons,B2p]
  show _ = (X6 f (h b) s).bind _
  cases X6 f (h b) s with
  | none=>rfl
  | some x=>cases x with
   | inl s'=>exact B7o f h l s'
   | inr r=>rfl
theorem A7v (f:α→σ→Option (σ ⊕ ρ)) (p:α→Bool):∀(l:List α) (s:σ),X6 f (l.filter p) s = X6 (fun a s=>if p a then f a s else some (.inl s)) l s
 | [],s=>rfl
 | a :: l,s=>by
  rw [List.filter_cons]
  cases h:p a with
  | false =>
   rw [if_neg (by decide),A7v f p l s]
   show _ = (if p a then f a s else some (.inl s)).bind _
   rw [h]; rfl
  | true =>
   rw [if_pos rfl]
   show (f a s).bind _ = (if p a then f a s else some (.inl s)).bind _
   rw [h,if_pos rfl]
   cases f a s with
   | none=>rfl
   | some x=>cases x with
    | inl s'=>exact A7v f p l s'
    | inr r=>rfl
def E0y (i:Nat):σ ⊕ ρ→(Int × σ) ⊕ (ρ ⊕ σ)
 | .inl s=>.inl (((i + 1:Nat):Int),s)
 | .inr r=>.inr (.inl r)
def C9m:σ ⊕ ρ→ρ ⊕ σ
 | .inl s=>.inr s
 | .inr r=>.inl r
end
def A84 (n:Nat) (q:List Nat):List Nat:=(List.range n).filter fun f=>!q.contains f
def DF (n:Nat):Nat→List Nat→List (List Nat)
 | 0,q=>[q]
 | d + 1,q=>(A84 n q).flatMap fun f=>DF n d (q++[f])
def bit (u i:Nat):Bool:=u / 2 ^ i % 2 == 1
def C3g (u:Int) (q:List Nat):Prop:=∃ n:Nat,u = (n:Int)∧n < 64∧∀ f,f < 6→bit n f = q.contains f
theorem C9d:∀u:Nat,u < 64→∀ p:Nat,p < 6→orI (u:Int) ((2 ^ p:Nat):Int) = ((u ||| 2 ^ p:Nat):Int)∧(u ||| 2 ^ p) < 64:= by decide +kernel
theorem D8e:∀u:Nat,u < 64→∀ p:Nat,p < 6→∀ t:Nat,t < 6→bit (u ||| 2 ^ p) t = (bit u t || t == p):= by decide +kernel
theorem C74:C3g 0 []:=⟨0,rfl,by decide,by decide⟩
theorem D1k {u:Int} {q:List Nat} (hu:C3g u q) {p:Nat} (hp:p < 6):C3g (orI u ((2 ^ p:Nat):Int)) (q++[p]):= by
 obtain ⟨n,rfl,h1,h2⟩:=hu
 refine ⟨n ||| 2 ^ p,(C9d n h1 p hp).1,(C9d n h1 p hp).2,fun f hf=>?_⟩
 rw [D8e n h1 p hp f hf,h2 f hf,Bool.eq_iff_iff]
 simp
def B00 (n:Nat) (S k:Nat):List Nat:=(List.range n).filter fun i=>decide (k≤i) && bit S i
def A1q (r:DrRoom) (S k:Nat):List DrLook:=(B00 r.Persons.length S k).map fun i=>r.Persons[i]!
theorem B1x (n S k:Nat):B00 n S k = (List.range' k (n - k)).filter (bit S):= by
 unfold B00
 by_cases h:k≤n
 ·have e:List.range n = List.range k++List.range' k (n - k):= by
   rw [List.range_eq_range',List.range_eq_range',show List.range' k (n - k) = List.range' (0 + 1 * k) (n - k) by simp,List.range'_append]; congr 1; omega
  rw [e,List.filter_append,List.filter_eq_nil_iff.mpr (by
   intro i hi
   have:i < k:= by simpa using hi
   simp; omega),List.nil_append]
  refine List.filter_congr fun i hi=>?_
  rw [List.mem_range'_1] at hi
  rw [decide_eq_true hi.1,Bool.true_and]
 ·rw [show n - k = 0 by omega,List.range'_zero,List.filter_nil,List.filter_eq_nil_iff]
  intro i hi
  have:i < n:= by simpa using hi
  simp; omega
theorem B4x {n S k:Nat} (h:k < n):B00 n S k = if bit S k then k :: B00 n S (k + 1) else B00 n S (k + 1):= by
 rw [B1x,B1x,show n - k = (n - (k + 1)) + 1 by omega,List.range'_succ,List.filter_cons]
theorem D4f {n S k:Nat} (h:n≤k):B00 n S k = []:= by rw [B1x,show n - k = 0 by omega]; rfl
theorem C9k (r:DrRoom) (hP:r.Persons.length≤5) {S:Nat} (hS:S < 64):∀(d k:Nat),k + d = r.Persons.length →
  ∃ k':Nat,loop (B87 r (S:Int)) (k:Int) = some (k':Int)∧k≤k'∧k'≤r.Persons.length∧B00 r.Persons.length S k = B00 r.Persons.length S k'∧(k' < r.Persons.length→bit S k' = true):= by
 intro d k hk
 have key:∀(d k m:Nat),k + d = r.Persons.length→d < m→∃ k':Nat,A3l (B87 r (S:Int)) m (k:Int) = some (k':Int)∧k≤k'∧k'≤r.Persons.length∧B00 r.Persons.length S k = B00 r.Persons.length S k'∧(k' < r.Persons.length→bit S k' = true):= by
  intro d
  induction d with
  | zero =>
   intro k m hk hm
   obtain ⟨m',rfl⟩:∃m',m = m' + 1:=⟨m - 1,by omega⟩
   refine ⟨k,?_,Nat.le_refl _,by omega,rfl,fun c=>by omega⟩
   rw [H7]
   unfold B87
   rw [if_neg (by simp; omega)]; rfl
  | succ d ih =>
   intro k m hk hm
   obtain ⟨m',rfl⟩:∃m',m = m' + 1:=⟨m - 1,by omega⟩
   have hb:(B1e ((S / 2 ^ k:Nat):Int) 1 == 0) = !bit S k:=and0 (Nat.lt_of_le_of_lt (Nat.div_le_self _ _) hS)
   have e:B87 r (S:Int) (k:Int) = if bit S k then some (.inr (k:Int)) else some (.inl ((k + 1:Nat):Int)):= by
    unfold B87
    rw [if_pos (by simp; omega),C3c _ _ (by omega)]
    simp only [Option.bind_some]
    rw [hb,E0 (by omega)]
    cases bit S k <;> rfl
   cases hq:bit S k with
   | true =>
    refine ⟨k,?_,Nat.le_refl _,by omega,rfl,fun _=>hq⟩
    rw [H7,e,hq]; rfl
   | false =>
    obtain ⟨k',h1,h2,h3,h4,h5⟩:=ih (k + 1) m' (by omega) (by omega)
    refine ⟨k',?_,by omega,h3,?_,h5⟩
    ·rw [H7,e,hq]; exact h1
    ·rw [B4x (by omega),hq,← h4]; rfl
 exact key d k _ hk (by omega)
section
variable {σ ρ:Type}
theorem D4s {q:List Nat} {ps:List DrLook} {f:Nat} {p:DrLook} {l:List DrLook} (h:ps.drop q.length = p :: l):(q++[f]).zip ps = q.zip ps++[(f,p)]∧ps.drop (q++[f]).length = l:= by
 have hps:ps = ps.take q.length++p :: l:= by rw [← h,List.take_append_drop]
 have hlen:(ps.take q.length).length = q.length:= by
  have:q.length < ps.length:= by
   have:=congrArg List.length h
   rw [List.length_drop] at this; simp at this; omega
  rw [List.length_take]; omega
 constructor
 ·generalize ps.take q.length = a at *
  subst hps
  rw [List.zip_append hlen.symm]
  have:q.zip (a++p :: l) = q.zip a++([]:List Nat).zip (p :: l):= by
   rw [← List.zip_append hlen.symm,List.append_nil]
  rw [this]; simp
 ·rw [List.length_append,← List.drop_drop,h]; rfl
theorem D3g {r:DrRoom} (ok:RmOk r) {ch:Chg} (hch:C3k r ch) {S:Nat} (hS:S < 64) (ps:List DrLook) (hps:∀p ∈ ps,LkOk r (-1) p) (hpl:ps.length≤5) (body:dress_plan→σ→Option (σ ⊕ ρ)) :
  ∀ (d k:Nat) (q:List Nat) (u:Int) (s:σ) (X:σ ⊕ ρ) (m:Nat),ps.drop q.length = A1q r S k→(A1q r S k).length = d→k≤r.Persons.length→C3g u q→(∀ f ∈ q,f < r.Figures.length)→q.length + d = ps.length→d < m →
   X6 (fun q s=>body (J3 r (q.zip ps)) s) (DF r.Figures.length d q) s = some X→A8m r ch (S:Int) body m (k:Int) u (J3 r (q.zip ps)) s = some X:= by
 have hP:=ok.persons
 have hF:=ok.figures
 intro d
 induction d with
 | zero =>
  intro k q u s X m hd hl hk hu hq hlen hm hf
  obtain ⟨m',rfl⟩:∃m',m = m' + 1:=⟨m - 1,by omega⟩
  obtain ⟨k',h1,h2,h3,h4,h5⟩:=C9k r hP hS (r.Persons.length - k) k (by omega)
  have e:k' = r.Persons.length:= by
   by_cases c:k' < r.Persons.length
   ·unfold A1q at hl
    rw [h4,B4x c,h5 c] at hl
    simp at hl
   ·omega
  subst e
  unfold A8m
  rw [h1]
  simp only [Option.bind_some,BEq.rfl,if_true]
  unfold DF at hf
  unfold X6 at hf
  cases hb:body (J3 r (q.zip ps)) s with
  | none=>rw [hb] at hf; cases hf
  | some x=>rw [hb] at hf; cases x <;> cases hf <;> rfl
 | succ d ih =>
  intro k q u s X m hd hl hk hu hq hlen hm hf
  obtain ⟨m',rfl⟩:∃m',m = m' + 1:=⟨m - 1,by omega⟩
  obtain ⟨k',h1,h2,h3,h4,h5⟩:=C9k r hP hS (r.Persons.length - k) k (by omega)
  have c:k' < r.Persons.length:= by
   by_cases c:k' < r.Persons.length
   ·exact c
   ·unfold A1q at hl
    rw [h4,D4f (by omega)] at hl
    simp at hl
  have hsel:A1q r S k = r.Persons[k']! :: A1q r S (k' + 1):= by
   unfold A1q
   rw [h4,B4x c,h5 c]; rfl
  rw [hsel] at hd hl
  have hne:((k':Int) == (r.Persons.length:Int)) = false:= by simp; omega
  have hPk:LkOk r (-1) r.Persons[k']!:=ok.person _ (I1 c)
  have hz:B1d r (q.zip ps):=⟨by rw [List.length_zip]; omega,fun x hx=>by
   have:=List.of_mem_zip (a:=x.1) (b:=x.2) hx
   exact ⟨hq _ this.1,hps _ this.2⟩⟩
  unfold A8m
  rw [h1]
  simp only [Option.bind_some,hne,Bool.false_eq_true,if_false]
  unfold DF A84 at hf
  rw [B7o,A7v] at hf
  have hloop:loop (B9w r ch (A8m r ch (S:Int) body m') (k':Int) u (J3 r (q.zip ps))) (0,s) = some (C9m X):= by
   have key:∀(j i m2:Nat) (s:σ),i + j = r.Figures.length→j < m2→X6 (fun f s=>if (!q.contains f) = true then X6 (fun q s=>body (J3 r (q.zip ps)) s) (DF r.Figures.length d (q++[f])) s else some (.inl s)) ((List.range r.Figures.length).drop i) s = some X →
     A3l (B9w r ch (A8m r ch (S:Int) body m') (k':Int) u (J3 r (q.zip ps))) m2 ((i:Int),s) = some (C9m X):= by
    intro j
    induction j with
    | zero =>
     intro i m2 s hi hm2 h
     obtain ⟨m3,rfl⟩:∃m3,m2 = m3 + 1:=⟨m2 - 1,by omega⟩
     rw [List.drop_of_length_le (by simp; omega)] at h
     cases h
     rw [H7]
     unfold B9w
     simp only []
     rw [if_neg (by simp; omega)]; rfl
    | succ j ihj =>
     intro i m2 s hi hm2 h
     obtain ⟨m3,rfl⟩:∃m3,m2 = m3 + 1:=⟨m2 - 1,by omega⟩
     have hi2:i < (List.range r.Figures.length).length:= by simp; omega
     rw [List.drop_eq_getElem_cons hi2,List.getElem_range] at h
     obtain ⟨n,rfl,hn,hbit⟩:=hu
     have hb:(B1e ((n / 2 ^ i:Nat):Int) 1 == 1) = q.contains i:= by
      rw [and1 (Nat.lt_of_le_of_lt (Nat.div_le_self _ _) hn)]; exact hbit i (by omega)
     unfold X6 at h
     cases hc:q.contains i with
     | true =>
      have e:B9w r ch (A8m r ch (S:Int) body m') (k':Int) (n:Int) (J3 r (q.zip ps)) ((i:Int),s) = some (.inl (((i + 1:Nat):Int),s)):= by
       unfold B9w
       simp only []
       rw [if_pos (by simp; omega),C3c _ _ (by omega)]
       simp only [Option.bind_some]
       rw [hb,hc,if_pos rfl,E0 (by omega)]; rfl
      rw [hc] at h
      rw [H7,e]
      exact ihj (i + 1) m3 s (by omega) (by omega) h
     | false =>
      rw [hc] at h
      simp only [Bool.not_false,if_true] at h
      obtain ⟨z1,z2⟩:=D4s (f:=i) hd
      cases hX:X6 (fun q s=>body (J3 r (q.zip ps)) s) (DF r.Figures.length d (q++[i])) s with
      | none=>rw [hX] at h; cases h
      | some Y =>
       rw [hX] at h
       have hr:=ih (k' + 1) (q++[i]) (orI (n:Int) ((2 ^ i:Nat):Int)) s Y m' (by rw [z2]) (by simpa using hl) (by omega) (D1k ⟨n,rfl,hn,hbit⟩ (by omega)) (fun f hf=>by
        rcases List.mem_append.mp hf with hf | hf
        ·exact hq f hf
        ·have:f = i:= by simpa using hf
         omega) (by rw [List.length_append]; simp; omega) (by omega) hX
       rw [z1] at hr
       have e:B9w r ch (A8m r ch (S:Int) body m') (k':Int) (n:Int) (J3 r (q.zip ps)) ((i:Int),s) = some (E0y i Y):= by
        unfold B9w
        simp only []
        rw [if_pos (by simp; omega),C3c _ _ (by omega)]
        simp only [Option.bind_some]
        rw [hb,hc,if_neg (by decide)]
        have hg:=hch i k' (by omega) c
        unfold A4p
        rw [hg,Option.getD_some,C9p ok hz ⟨by omega,hPk⟩]
        simp only [Option.bind_some]
        rw [B0t i (by omega),E0 (n:=(k':Int) + 1) (by omega)]
        simp only [Option.bind_some]
        rw [show (((k':Nat):Int) + 1) = ((k' + 1:Nat):Int) from rfl,hr]
        cases Y with
        | inl s'=>simp only [Option.bind_some]; rw [E0 (by omega)]; rfl
        | inr x=>rfl
       rw [H7,e]
       cases Y with
       | inl s'=>exact ihj (i + 1) m3 s' (by omega) (by omega) h
       | inr x=>cases h; rfl
   exact key r.Figures.length 0 _ s (by omega) (by omega) hf
  rw [hloop]
  cases X <;> rfl
end
theorem B62 {n:Nat}:∀{d:Nat} {q p:List Nat},p ∈ DF n d q↔∃ t,p = q++t∧t.length = d∧t.Nodup∧∀ x ∈ t,x < n∧x ∉ q
 | 0,q,p=>by
  unfold DF
  rw [List.mem_singleton]
  constructor
  ·rintro rfl; exact ⟨[],by simp⟩
  ·rintro ⟨t,rfl,h,-,-⟩
   rw [List.length_eq_zero_iff.mp h,List.append_nil]
 | d + 1,q,p=>by
  unfold DF A84
  rw [List.mem_flatMap]
  constructor
  ·rintro ⟨f,hf,hp⟩
   obtain ⟨t,rfl,h1,h2,h3⟩:=B62.mp hp
   have hf:=List.mem_filter.mp hf
   have hfn:f < n:= by simpa using hf.1
   have hfq:f ∉ q:= by simpa using hf.2
   refine ⟨f :: t,by simp,by simp [h1],?_,?_⟩
   ·rw [List.nodup_cons]
    exact ⟨fun c=>(h3 f c).2 (by simp),h2⟩
   ·intro x hx
    rcases List.mem_cons.mp hx with rfl | hx
    ·exact ⟨hfn,hfq⟩
    ·have:=h3 x hx
     exact ⟨this.1,fun c=>this.2 (List.mem_append_left _ c)⟩
  ·rintro ⟨t,rfl,h1,h2,h3⟩
   cases t with
   | nil=>cases h1
   | cons f t =>
    rw [List.nodup_cons] at h2
    have hf:=h3 f (List.mem_cons_self ..)
    refine ⟨f,List.mem_filter.mpr ⟨by simpa using hf.1,by simpa using hf.2⟩,B62.mpr ⟨t,by simp,by simpa using h1,h2.2,fun x hx=>⟨(h3 x (List.mem_cons_of_mem _ hx)).1,fun c=>?_⟩⟩⟩
    rcases List.mem_append.mp c with c | c
    ·exact (h3 x (List.mem_cons_of_mem _ hx)).2 c
    ·have:x = f:= by simpa using c
     subst this; exact h2.1 hx
def perms (n d:Nat):List (List Nat):=DF n d []
theorem A3u {n d:Nat} {p:List Nat}:p ∈ perms n d↔p.length = d∧p.Nodup∧∀ x ∈ p,x < n:= by
 unfold perms
 rw [B62]
 constructor
 ·rintro ⟨t,rfl,h1,h2,h3⟩
  exact ⟨h1,h2,fun x hx=>(h3 x hx).1⟩
 ·rintro ⟨h1,h2,h3⟩
  exact ⟨p,rfl,h1,h2,fun x hx=>⟨h3 x hx,by simp⟩⟩
theorem C2i {α β:Type} {f:α→List β} {b:Nat}:∀{l:List α},(∀ x ∈ l,(f x).length≤b)→(l.flatMap f).length≤l.length * b
 | [],_=>by simp
 | x :: l,h=>by
  have h1:=h x (List.mem_cons_self ..)
  have ih:=C2i (l:=l) fun y hy=>h y (List.mem_cons_of_mem _ hy)
  rw [List.flatMap_cons,List.length_append,List.length_cons,Nat.succ_mul]; omega
theorem B6c {n:Nat} (hn:n≤6):∀(d:Nat) (q:List Nat),(DF n d q).length≤6 ^ d
 | 0,q=>by simp [DF]
 | d + 1,q=>by
  unfold DF
  have h1:(A84 n q).length≤6:= by
   unfold A84
   exact Nat.le_trans (List.length_filter_le _ _) (by simpa using hn)
  have:=C2i (l:=A84 n q) (f:=fun f=>DF n d (q++[f])) (b:=6 ^ d) fun f _=>B6c hn d _
  rw [Nat.pow_succ]
  calc _≤(A84 n q).length * 6 ^ d:=this
   _≤6 * 6 ^ d:=Nat.mul_le_mul_right _ h1
   _ = 6 ^ d * 6:=Nat.mul_comm _ _
theorem A3v {n d:Nat} (hn:n≤6) (hd:d≤5):(perms n d).length≤7776 :=
 Nat.le_trans (B6c hn d []) (Nat.le_trans (Nat.pow_le_pow_right (by decide) hd) (by decide))
def fm {α:Type} (k:α→Int):List α→Option α
 | []=>none
 | x :: l=>match fm k l with
  | none=>some x
  | some y=>if k y < k x then some y else some x
section
variable {α:Type} {k:α→Int}
theorem A99:∀{l:List α},fm k l = none↔l = []
 | []=>⟨fun _=>rfl,fun _=>rfl⟩
 | x :: l=>by
  refine ⟨fun h=>?_,fun h=>by cases h⟩
  unfold fm at h
  split at h
  ·cases h
  ·split at h <;> cases h
theorem B2o:∀{l:List α} {b:α},fm k l = some b→(∀ y ∈ l,k b≤k y)∧∃ A B,l = A++b :: B∧∀ a ∈ A,k b < k a
 | [],b,h=>by cases h
 | x :: l,b,h=>by
  unfold fm at h
  cases hf:fm k l with
  | none =>
   rw [hf] at h; cases h
   rw [A99.mp hf]
   exact ⟨by simp,[],[],rfl,by simp⟩
  | some y =>
   rw [hf] at h
   obtain ⟨h1,A,B,rfl,h3⟩:=B2o hf
   simp only at h
   split at h
   ·next c =>
    cases h
    refine ⟨fun z hz=>?_,x :: A,B,rfl,fun a ha=>?_⟩
    ·rcases List.mem_cons.mp hz with rfl | hz
     ·omega
     ·exact h1 z hz
    ·rcases List.mem_cons.mp ha with rfl | ha
     ·exact c
     ·exact h3 a ha
   ·next c =>
    cases h
    refine ⟨fun z hz=>?_,[],A++y :: B,rfl,by simp⟩
    rcases List.mem_cons.mp hz with rfl | hz
    ·exact Int.le_refl _
    ·have:=h1 z hz; omega
theorem A5e {l:List α} {b:α} (h:fm k l = some b):b ∈ l:= by
 obtain ⟨_,A,B,rfl,_⟩:=B2o h
 simp
theorem C8m {l:List α} {b:α} (h:fm k l = some b) {y:α} (hy:y ∈ l):k b≤k y:=(B2o h).1 y hy
theorem C2j {l:List α} {x:α} (h:x ∈ l):∃b,fm k l = some b:= by
 cases hf:fm k l with
 | none=>rw [A99.mp hf] at h; cases h
 | some b=>exact ⟨b,rfl⟩
theorem B6k (y:α):∀(l:List α),fm k (l++[y]) = match fm k l with
  | none=>some y
  | some b=>if k y < k b then some y else some b
 | []=>rfl
 | x :: l=>by
  show (match fm k (l++[y]) with | none=>some x | some z=>if k z < k x then some z else some x) = match (match fm k l with | none=>some x | some z=>if k z < k x then some z else some x) with | none=>some y | some b=>if k y < k b then some y else some b
  rw [B6k y l]
  cases fm k l with
  | none=>rfl
  | some b =>
   simp only
   by_cases c1:k b < k x <;> by_cases c2:k y < k b <;> by_cases c3:k y < k x <;> simp only [c1,c2,c3,if_true,if_false] <;> omega
theorem C4h {k':α→Int}:∀{l:List α},(∀ x ∈ l,k x = k' x)→fm k l = fm k' l
 | [],_=>rfl
 | x :: l,h=>by
  unfold fm
  rw [C4h fun y hy=>h y (List.mem_cons_of_mem _ hy),h x (List.mem_cons_self ..)]
  cases hf:fm k' l with
  | none=>rfl
  | some y=>simp only; rw [h y (List.mem_cons_of_mem _ (A5e hf))]
theorem C60 {β:Type} (g:β→α):∀(l:List β),fm k (l.map g) = (fm (fun x=>k (g x)) l).map g
 | []=>rfl
 | x :: l=>by
  rw [List.map_cons]
  unfold fm
  rw [C60 g l]
  cases fm (fun x=>k (g x)) l with
  | none=>rfl
  | some y =>
   simp only [Option.map_some]
   split <;> rfl
end
theorem D30 {r:DrRoom} {z:Prs} (h:z.length≤5):A2o (J3 r z) = some (J3 r z):= by
 have hl:(ints (z.map (·.1))).length = z.length:= by rw [F7,List.length_map]
 unfold A2o
 show (C1e 8 ((ints (z.map (·.1))).length:Int) 0).bind _ = _
 rw [hl]
 unfold C1e
 rw [if_pos ⟨by omega,by omega,by omega⟩]
 simp only [Option.bind_some,Option.some.injEq]
 have:cpy (List.replicate (z.length:Int).toNat (0:Int)) (ints (z.map (·.1))) = ints (z.map (·.1)):= by
  unfold cpy
  rw [List.length_replicate,Int.toNat_natCast,hl,Nat.min_self,List.take_of_length_le (by omega),List.drop_of_length_le (by simp),List.append_nil]
 show (⟨cpy _ (ints (z.map (·.1))),_,_⟩:dress_plan) = _
 rw [this]; rfl
section
variable {α β ρ:Type}
theorem A6i {f:α→List β→Option (List β ⊕ ρ)} {p:α→Bool} {g:α→β}:∀{l:List α} {s:List β},s.length + l.length≤1000000000→(∀ a ∈ l,∀ s:List β,s.length < 1000000000→f a s = some (.inl (if p a then s++[g a] else s)))→X6 f l s = some (.inl (s++(l.filter p).map g))
 | [],s,_,_=>by simp [X6]
 | a :: l,s,hl,h=>by
  rw [List.length_cons] at hl
  unfold X6
  rw [h a (List.mem_cons_self ..) s (by omega)]
  simp only [Option.bind_some]
  have hq:(if p a then s++[g a] else s).length + l.length≤1000000000:= by
   split
   ·rw [List.length_append,List.length_singleton]; omega
   ·omega
  rw [A6i hq fun b hb=>h b (List.mem_cons_of_mem _ hb),List.filter_cons]
  cases p a <;> simp
end
structure PsOk (r:DrRoom) (ps:List DrLook):Prop where
 len:ps.length≤5
 look:∀p ∈ ps,LkOk r (-1) p
theorem PsOk.pr {r:DrRoom} {ps:List DrLook} (h:PsOk r ps) {q:List Nat} (hq:q ∈ perms r.Figures.length ps.length):B1d r (q.zip ps):= by
 have hq:=A3u.mp hq
 refine ⟨by rw [List.length_zip]; have:=h.len; omega,fun x hx=>?_⟩
 have:=List.of_mem_zip (a:=x.1) (b:=x.2) hx
 exact ⟨hq.2.2 _ this.1,h.look _ this.2⟩
def AL (r:DrRoom) (ps:List DrLook):List (List Nat):=(perms r.Figures.length ps.length).filter fun q=>A3n r (q.zip ps)
theorem C6k {r:DrRoom} {ps:List DrLook} {q:List Nat}:q ∈ AL r ps↔(q.length = ps.length∧q.Nodup∧∀ x ∈ q,x < r.Figures.length)∧A3n r (q.zip ps) = true:= by
 unfold AL; rw [List.mem_filter,A3u]
theorem B6a {r:DrRoom} (ok:RmOk r) {ps:List DrLook} (h:PsOk r ps):(AL r ps).length≤7776 :=
 Nat.le_trans (List.length_filter_le _ _) (A3v ok.figures h.len)
theorem C3b {r:DrRoom} (ok:RmOk r) (S k:Nat):PsOk r (A1q r S k):= by
 refine ⟨?_,fun p hp=>?_⟩
 ·unfold A1q B00
  rw [List.length_map]
  have:=List.length_filter_le (fun i=>decide (k≤i) && bit S i) (List.range r.Persons.length)
  have:=ok.persons
  simp at *; omega
 ·unfold A1q B00 at hp
  obtain ⟨i,hi,rfl⟩:=List.mem_map.mp hp
  have:i < r.Persons.length:= by simpa using (List.mem_filter.mp hi).1
  exact ok.person _ (I1 this)
theorem B8p {σ ρ:Type} {r:DrRoom} (ok:RmOk r) {ch:Chg} (hch:C3k r ch) {S:Nat} (hS:S < 64) (body:dress_plan→σ→Option (σ ⊕ ρ)) {s:σ} {X:σ ⊕ ρ}
  (h:X6 (fun q s=>body (J3 r (q.zip (A1q r S 0))) s) (perms r.Figures.length (A1q r S 0).length) s = some X):A78 r ch (S:Int) σ ρ body s = some X:= by
 have hp:=C3b ok S 0
 unfold A78
 have:=D3g ok hch hS (A1q r S 0) hp.look hp.len body (A1q r S 0).length 0 [] 0 s X 64 rfl rfl (Nat.zero_le _) C74 (by simp) (by simp) (by have:=hp.len; omega) h
 rw [C3v ok]
 exact this
theorem C9l {r:DrRoom} (ok:RmOk r) {ch:Chg} (hch:C3k r ch) {S:Nat} (hS:S < 64):S9 r ch (S:Int) = some ((AL r (A1q r S 0)).map fun q=>J3 r (q.zip (A1q r S 0))):= by
 have hp:=C3b ok S 0
 have hF:=ok.figures
 have hsz:=A3v hF hp.len
 unfold S9
 rw [B8p ok hch hS B0u (s:=[]) (X:=.inl ((AL r (A1q r S 0)).map fun q=>J3 r (q.zip (A1q r S 0)))) (by
  have:=A6i (ρ:=Unit) (l:=perms r.Figures.length (A1q r S 0).length) (s:=([]:List dress_plan)) (f:=fun q s=>B0u (J3 r (q.zip (A1q r S 0))) s) (p:=fun q=>A3n r (q.zip (A1q r S 0))) (g:=fun q=>J3 r (q.zip (A1q r S 0))) (by simp; omega) (fun q hq s hs=>by
   have hz:=hp.pr hq
   unfold B0u
   rw [B67 ok hz]
   simp only [Option.bind_some]
   cases A3n r (q.zip (A1q r S 0)) with
   | false=>rfl
   | true =>
    rw [if_pos rfl,D30 hz.1]
    simp only [Option.bind_some]
    rw [S8 (by omega) (by simp; omega)]; rfl)
  rw [this]; rfl)]
 rfl
theorem less1 (p q:dress_plan):B26 by1 p q = some (decide (p.cost_ < q.cost_)):= by
 unfold B26
 have h1:∀i:Nat,i = 0→P3 by1 p q (i:Int) = some (if p.cost_ = q.cost_ then .inl 1 else .inr (.inl (decide (p.cost_ < q.cost_)))):= by
  rintro i rfl
  unfold P3
  rw [if_pos (by decide)]
  rw [show idx by1 ((0:Nat):Int) = some (94,V8) from rfl]
  simp only [Option.bind_some,V8]
  by_cases c:p.cost_ = q.cost_
  ·rw [if_neg (by simp [c]),if_pos c]; rfl
  ·rw [if_pos (by simpa using c),if_neg c]
 have h2:P3 by1 p q 1 = some (.inr (.inr ())):= by unfold P3; rw [if_neg (by decide)]
 by_cases c:p.cost_ = q.cost_
 ·have:=H8 (b:=P3 by1 p q) (fun i=>(i:Int)) 1 (r:=.inr ()) (by omega) (fun i hi=>by rw [h1 i (by omega),if_pos c]; congr 2; omega) h2
  rw [show (0:Int) = ((0:Nat):Int) from rfl,this,c]; simp
 ·have:=H8 (b:=P3 by1 p q) (fun i=>(i:Int)) 0 (r:=.inl (decide (p.cost_ < q.cost_))) (by omega) (fun i hi=>absurd hi (Nat.not_lt_zero i)) (by rw [h1 0 rfl,if_neg c])
  rw [show (0:Int) = ((0:Nat):Int) from rfl,this]; rfl
instance:Inhabited dress_plan:=⟨plan0⟩
theorem C0s (l:List dress_plan) (g:dress_plan × dress_plan→Option Bool) (k:dress_plan→Int) (hl:l.length < 1000000000) (hg:∀x ∈ l,∀ y ∈ l,g (x,y) = some (decide (k x < k y))) :
  M5 l g = some (match fm k l with | none=>(plan0,false) | some b=>(b,true)):= by
 unfold M5
 have:=H8 (b:=J1 l g) (fun i=>((match fm k (l.take i) with | none=>(false,(i:Int),plan0) | some b=>(true,(i:Int),b)):Bool × Int × dress_plan)) l.length (r:=match fm k l with | none=>(false,plan0) | some b=>(true,b)) (by omega) (fun i hi=>by
  have hsn:fm k (l.take (i + 1)) = match fm k (l.take i) with | none=>some l[i]! | some b=>if k l[i]! < k b then some l[i]! else some b:= by
   rw [List.take_succ_eq_append_getElem hi,B6k,getElem!_pos l i hi]
   cases fm k (l.take i) <;> rfl
  rw [hsn]
  cases hf:fm k (l.take i) with
  | none =>
   have h0:i = 0:= by
    have:=congrArg List.length (A99.mp hf)
    rw [List.length_take,List.length_nil] at this; omega
   subst h0
   unfold J1
   simp only []
   rw [if_pos (by simpa using hi),G8 hi]; rfl
  | some b =>
   have h0:i ≠ 0:= by rintro rfl; cases hf
   have hb:b ∈ l:=List.mem_of_mem_take (A5e hf)
   unfold J1
   simp only []
   rw [if_pos (by simpa using hi),G8 hi]
   simp only [Option.bind_some]
   rw [if_neg (by simp; omega),hg _ (I1 hi) b hb,E0 (by omega)]
   simp only [Option.bind_some]
   by_cases c:k l[i]! < k b
   ·rw [if_pos (by simpa using c),if_pos c]; rfl
   ·rw [if_neg (by simpa using c),if_neg c]; rfl) (by
  rw [List.take_length]
  cases fm k l with
  | none=>unfold J1; simp only []; rw [if_neg (by simp)]
  | some b=>unfold J1; simp only []; rw [if_neg (by simp)])
 rw [show ((false,0,(dress_plan.mk ([]:List Int) 0 (Ar4.mk 0 0 0 0))):Bool × Int × dress_plan) = (match fm k (l.take 0) with | none=>(false,((0:Nat):Int),plan0) | some b=>(true,((0:Nat):Int),b)) from rfl,this]
 simp only [Option.bind_some]
 cases fm k l <;> rfl
def X5 (r:DrRoom) (ps:List DrLook) (q:List Nat):Int:=Y8 r (q.zip ps)
def T5 (r:DrRoom) (ps:List DrLook):Option (List Nat):=fm (X5 r ps) (AL r ps)
theorem B6f {r:DrRoom} (ok:RmOk r) {ch:Chg} (hch:C3k r ch) {S:Nat} (hS:S < 64) :
  P7 r ch (S:Int) = some (match T5 r (A1q r S 0) with | none=>(plan0,false) | some q=>(J3 r (q.zip (A1q r S 0)),true)):= by
 unfold P7
 rw [C9l ok hch hS]
 simp only [Option.bind_some]
 rw [C0s _ _ (fun p=>p.cost_) (by rw [List.length_map]; have:=B6a ok (C3b ok S 0); omega) (fun x _ y _=>less1 x y),C60]
 unfold T5
 rw [show (fun x=>(J3 r (x.zip (A1q r S 0))).cost_) = X5 r (A1q r S 0) from rfl]
 cases fm (X5 r (A1q r S 0)) (AL r (A1q r S 0)) <;> rfl
end Ds
end
section
set_option maxRecDepth 100000
set_option maxHeartbeats 0
namespace Ds
open Go Am Go.Proofs.Ytdkflofgolehkaa.Cd
end Ds
end
section
set_option maxRecDepth 100000
namespace Ds
open Go Am Go.Proofs.Ytdkflofgolehkaa.Cd
end Ds
end
section
set_option maxRecDepth 100000
set_option maxHeartbeats 0
namespace Ds
open Go Am Go.Proofs.Ytdkflofgolehkaa.Cd
end Ds
end
section
namespace Ds
open Go Am
theorem B3i {r:DrRoom} {q:List Nat} (h:q ∈ perms r.Figures.length r.Persons.length):QOk r q:= by
 have:=A3u.mp h
 exact ⟨by omega,this.2.2⟩
def A2x (r:DrRoom):List Int × Int × Int :=
 if (chk r).2.2 ≠ 0 then ([],0,(chk r).2.2) else
 match T5 r r.Persons with
 | none=>([],0,9)
 | some q=>(ints q,X5 r r.Persons q,0)
theorem D4e {n S:Nat} (h:∀i,i < n→bit S i = true):B00 n S 0 = List.range n:= by
 unfold B00
 rw [List.filter_eq_self]
 intro i hi
 rw [h i (by simpa using hi)]; simp
theorem B4n {α:Type} [Inhabited α] (l:List α):(List.range l.length).map (fun i=>l[i]!) = l:= by
 apply List.ext_getElem
 ·simp
 ·intro i h1 h2
  rw [List.getElem_map,List.getElem_range,getElem!_pos l i h2]
theorem D4g {r:DrRoom} {S:Nat} (h:∀i,i < r.Persons.length→bit S i = true):A1q r S 0 = r.Persons:= by
 unfold A1q
 rw [D4e h,B4n]
theorem C76:∀n:Nat,n < 6→∀ i:Nat,i < n→bit (2 ^ n - 1) i = true:= by decide
theorem A9x {r:DrRoom} (ok:RmOk r):J9 ⟨r⟩ = some ((2 ^ r.Persons.length - 1:Nat):Int):= by
 have hP:=ok.persons
 unfold J9
 show (B98 .i64 1 (r.Persons.length:Int)).bind _ = _
 rw [B0t _ (by omega)]
 simp only [Option.bind_some,Option.some.injEq]
 have h1:0 < 2 ^ r.Persons.length:=Nat.two_pow_pos _
 have h2:2 ^ r.Persons.length≤32:=Nat.le_trans (Nat.pow_le_pow_right (by decide) hP) (by decide)
 rw [E0 (by omega)]; omega
theorem A9y {r:DrRoom} (ok:RmOk r):2 ^ r.Persons.length - 1 < 64:= by
 have:2 ^ r.Persons.length≤32:=Nat.le_trans (Nat.pow_le_pow_right (by decide) ok.persons) (by decide)
 omega
theorem A5t {r:DrRoom} (ok:RmOk r):A1q r (2 ^ r.Persons.length - 1) 0 = r.Persons :=
 D4g fun i hi=>C76 _ (by have:=ok.persons; omega) i hi
theorem C9r {q:List Nat} {ps:List DrLook} (h:q.length = ps.length):(q.zip ps).map (·.1) = q:=List.map_fst_zip (by omega)
theorem D1p {r:DrRoom} {ps:List DrLook} {q:List Nat} (h:q ∈ AL r ps):q.length = ps.length:=(C6k.mp h).1.1
theorem B6b (r:DrRoom) (hb:NB r):U1 r = some (A2x r):= by
 unfold U1 A2x
 rw [A49 r hb]
 simp only [Option.bind_some]
 by_cases h0:(chk r).2.2 = 0
 ·obtain ⟨ok,-⟩:=(Q8 r).mp h0
  obtain ⟨ch,e1,hch⟩:=C0k ok
  have hr:∀(a b:List Int × Int × Int),(if (chk r).2.2 ≠ 0 then a else b) = b:=fun a b=>if_neg (fun c=>c h0)
  rw [hr,if_neg (by simp [h0]),show loop (A6g r) (0,[]) = some ch from e1,A9x ok]
  simp only [Option.bind_some]
  rw [B6f ok hch (A9y ok),A5t ok]
  simp only [Option.bind_some]
  cases hb:T5 r r.Persons with
  | none=>rfl
  | some q =>
   have hl:=D1p (A5e hb)
   show some (ints ((q.zip r.Persons).map (·.1)),_,_) = _
   rw [C9r hl]; rfl
 ·rw [if_pos h0,if_pos (by simpa using h0)]
end Ds
end
section
set_option maxRecDepth 100000
namespace Ds
open Go Am
end Ds
end
section
set_option maxRecDepth 100000
set_option maxHeartbeats 0
namespace Ds
open Go Am Go.Proofs.Ytdkflofgolehkaa.Cd
end Ds
end
section
namespace Ds
open Go Am
theorem B0i:∀(n:Nat) (l:List Nat),l.Nodup→(∀ x ∈ l,x < n)→l.length≤n
 | 0,l,_,h=>by
  cases l with
  | nil=>simp
  | cons x l=>exact absurd (h x (List.mem_cons_self ..)) (Nat.not_lt_zero x)
 | n + 1,l,hd,h=>by
  have h1:=B0i n (l.filter fun x=>x != n) (hd.filter _) fun x hx=>by
   have:=List.mem_filter.mp hx
   have h2:=h x this.1
   have h3:x ≠ n:= by simpa using this.2
   omega
  have h2:(l.filter fun x=>!(x != n)).length≤1:= by
   have hn:(l.filter fun x=>!(x != n)).Nodup:=hd.filter _
   cases hl:l.filter fun x=>!(x != n) with
   | nil=>simp
   | cons a t =>
    cases t with
    | nil=>simp
    | cons b t =>
     rw [hl] at hn
     have ha:a ∈ l.filter fun x=>!(x != n):= by rw [hl]; simp
     have hb:b ∈ l.filter fun x=>!(x != n):= by rw [hl]; simp
     have ea:a = n:= by simpa using (List.mem_filter.mp ha).2
     have eb:b = n:= by simpa using (List.mem_filter.mp hb).2
     subst ea; subst eb
     simp at hn
  have h3:l.length = (l.filter fun x=>x != n).length + (l.filter fun x=>!(x != n)).length:= by
   clear h1 h2 hd h
   induction l with
   | nil=>rfl
   | cons x l ih =>
    rw [List.filter_cons,List.filter_cons]
    cases x != n <;> simp [ih] <;> omega
  omega
def CL (r:DrRoom) (ps:List DrLook) (b:List Nat):List (List Nat):=(AL r ps).filter fun q=>X5 r ps q == X5 r ps b
end Ds
end
section
set_option maxRecDepth 100000
set_option maxHeartbeats 0
namespace Ds
open Go Am Go.Proofs.Ytdkflofgolehkaa.Cd
def W9 (a0:(List Int)) (a1:Int):Option Int :=
 if ((List.length a0:Int) == 0) = true then
  some 0
 else
  (D06 a1 (List.length a0:Int)).bind fun x2 =>
  (idx a0 x2).bind fun x3 =>
  some (w64 x3)
theorem B05 {c:Sc} {H:A1} {a0:(List Int)} {a1:Int} {r:Int} (h:W9 a0 a1 = some r) :
  E9 tab c H (.fn (.func 46) [] []) [(.seq 1 (List.map B2e a0)),.i a1] [.i r]:= by
 unfold W9 at h
 refine cE rfl rfl<|s0<|qm rfl<|es (ra2 rfl rfl)<|B6<|s0<|qm rfl<|A0 (D4 (f:=B2e) rfl) rfl<|A0 (F2 rfl rfl) rfl<|es (ra3 rfl rfl rfl)<|wi h rfl (fun hc1 h=>?_) fun hc1 h=>?_
 ·refine s0<|qm rfl<|es (ra1 rfl)<|C4 ?_
  obtain rfl:=os h
  exact retq trivial (B1 rfl B7) (A6 rfl B9) (A3 A8 B2)
 ·refine C0<|s0<|oB h fun x2 hx2 h=>oB h fun x3 hx3 h=>qm rfl<|qm rfl<|qm rfl<|A0 (D4 (f:=B2e) rfl) rfl<|A0 (D64 rfl rfl hx2) rfl<|A0 (E4 (f:=B2e) rfl rfl hx3) rfl<|A0 (E8 rfl rfl) rfl<|A0 (A9e rfl) rfl<|qm rfl<|es (ra1 rfl)<|C4 ?_
  obtain rfl:=os h
  exact retq trivial (B1 rfl B7) (A6 rfl B9) (A3 A8 B2)
end Ds
end
section
set_option maxRecDepth 100000
namespace Ds
open Go Am Go.Proofs.Ytdkflofgolehkaa.Cd
def arP (p:Bool) (l:List Int):AO:=.arr 1 p (l.map cI)
theorem A4k {α:Type} {l:List α} {i:Nat} {x:α} (h:l[i]? = some x):l.set i x = l:= by
 apply List.ext_getElem?
 intro k
 by_cases e:i = k
 ·subst e; rw [List.getElem?_set_self (List.getElem?_eq_some_iff.1 h).1,h]
 ·rw [List.getElem?_set_ne e]
structure AnyG (room:List AV) where
 L:List AO
 j:Nat
 h0:L[0]? = some (.cells room)
 h2:2 < L.length
 hj:j < L.length
 j0:j ≠ 0
 j2:j ≠ 2
def AnyG.M {room:List AV} (g:AnyG room) (s:Int × List Int × List Int):List AO:=(g.L.set 2 (arP false s.2.1)).set g.j (arP false s.2.2)
end Ds
end
section
set_option maxRecDepth 100000
set_option maxHeartbeats 0
namespace Ds
open Go Am Go.Proofs.Ytdkflofgolehkaa.Cd
def A03 (a0:DrRoom):Option Bool :=
 (S0 a0).bind fun x1 =>
 some (x1.2.2 == 0)
theorem A5m {c:Sc} {H:A1} {a0:DrRoom} {r:Bool} (h:A03 a0 = some r) :
  E9 tab c H (.fn (.func 37) [] []) [(.agg (A4 a0))] [.b r]:= by
 unfold A03 at h
 refine cE rfl rfl<|sg 0 rfl<|A0 (F5 (cs:=A4 a0) rfl rfl rfl) rfl<|qm rfl<|es (ra1 rfl)<|s0<|oB h fun x1 hx1 h=>A0 (C2 rfl rfl rfl) rfl<|B4 (rs:=[.i x1.1,.i x1.2.1,.i x1.2.2]) rfl rfl (A2 (C9 rfl) B5) ((U6 hx1).frz)<|qm rfl<|A0 (A7 rfl rfl) rfl<|A0 (A7 rfl rfl) rfl<|A0 (A7 rfl rfl) rfl<|qm rfl<|qm rfl<|qm rfl<|es (ra1 rfl)<|s0<|qm rfl<|A0 (F2 rfl rfl) rfl<|qm rfl<|es (ra1 rfl)<|C4 ?_
 obtain rfl:=os h
 exact retq trivial (B1 rfl B7) (A6 rfl B9) (A3 A8 B2)
end Ds
end
section
namespace Ds
open Go Am
theorem C9g {a b:Int} (ha:0≤a) (hb:0 < b):∃r,D06 a b = some r∧0≤r∧r < b:= by
 unfold D06
 rw [if_neg (by omega)]
 exact ⟨a.tmod b,rfl,Int.tmod_nonneg _ ha,Int.tmod_lt_of_pos _ hb⟩
theorem C3f {l:List Int} (h:N8 l) (n:Nat):∃r,W9 l (n:Int) = some r∧0≤r∧r < 256:= by
 have h1:=h.1
 unfold W9
 by_cases c:l.length = 0
 ·rw [if_pos (by rw [c]; rfl)]; exact ⟨0,rfl,by omega,by omega⟩
 ·rw [if_neg (by rw [beq_iff_eq]; omega)]
  obtain ⟨r,h1,h2,h3⟩:=C9g (a:=(n:Int)) (b:=(l.length:Int)) (by omega) (by omega)
  rw [h1]
  simp only [Option.bind_some]
  rw [show r = ((r.toNat:Nat):Int) by omega,G8 (show r.toNat < l.length by omega)]
  have hb:=h.2 _ (I1 (show r.toNat < l.length by omega))
  simp only [Option.bind_some]
  rw [E0 (by omega)]
  exact ⟨_,rfl,hb.1,hb.2⟩
theorem B9j (h:DrRoom):A03 h = some ((chk h).2.2 == 0):= by
 unfold A03
 rw [Z9]; rfl
end Ds
end
section
set_option maxRecDepth 100000
set_option maxHeartbeats 0
namespace Ds
open Go Am Go.Proofs.Ytdkflofgolehkaa.Cd
end Ds
end
section
namespace Ds
open Go Am
def kB (r:DrRoom) (q:List Nat):Int:=3000 * sm (I5 r (prs r q)) + Y8 r (prs r q)
def C90 (r:DrRoom):Option (List Nat):=fm (kB r) (perms r.Figures.length r.Persons.length)
def C9z (r:DrRoom):List Int × Int × Int :=
 if (chk r).2.2 ≠ 0 then ([],0,(chk r).2.2) else
 match C90 r with
 | none=>([],0,9)
 | some q=>(I5 r (prs r q),Y8 r (prs r q),0)
theorem B4k (r:DrRoom) (z:Prs):(I5 r z).length = r.Ounces.length:= by unfold I5; simp
theorem D5l {r:DrRoom} (ok:RmOk r) {z:Prs} (hz:B1d r z):0≤sm (I5 r z)∧sm (I5 r z)≤4000:= by
 have h1:=B5z (a:=0) (b:=1000) (l:=I5 r z) fun y hy=>by
  obtain ⟨c,-,rfl⟩:=List.mem_map.mp hy
  have:=A62 ok hz c
  exact A8w (by omega)
 have h2:=B4k r z
 have h3:=ok.ounces
 rw [h2] at h1
 omega
theorem D24 {a b c d:Int} (h1:0≤c∧c≤2000) (h2:0≤d∧d≤2000):(3000 * a + c < 3000 * b + d)↔(a < b∨a = b∧c < d):= by omega
def kP (p:dress_plan):Int:=3000 * ((I0 p).map (·.2)).getD 0 + p.cost_
theorem buy1 {p:dress_plan} {u:Ar4 Int × Int} (h:I0 p = some u):A2n p = some u.2:= by
 unfold A2n; rw [h]; rfl
theorem less2 {p q:dress_plan} {u v:Ar4 Int × Int} (hp:I0 p = some u) (hq:I0 q = some v):B26 by2 p q = some (decide (u.2 < v.2∨u.2 = v.2∧p.cost_ < q.cost_)):= by
 unfold B26
 have h0:P3 by2 p q 0 = some (if u.2 = v.2 then .inl 1 else .inr (.inl (decide (u.2 < v.2)))):= by
  unfold P3
  rw [if_pos (by decide),show idx by2 0 = some (74,A2n) from rfl]
  simp only [Option.bind_some]
  rw [buy1 hp,buy1 hq]
  simp only [Option.bind_some]
  by_cases c:u.2 = v.2
  ·rw [if_neg (by simp [c]),if_pos c]; rfl
  ·rw [if_pos (by simpa using c),if_neg c]
 have h1:P3 by2 p q 1 = some (if p.cost_ = q.cost_ then .inl 2 else .inr (.inl (decide (p.cost_ < q.cost_)))):= by
  unfold P3
  rw [if_pos (by decide),show idx by2 1 = some (76,A39) from rfl]
  simp only [Option.bind_some,A39]
  by_cases c:p.cost_ = q.cost_
  ·rw [if_neg (by simp [c]),if_pos c]; rfl
  ·rw [if_pos (by simpa using c),if_neg c]
 have h2:P3 by2 p q 2 = some (.inr (.inr ())):= by unfold P3; rw [if_neg (by decide)]
 have one:∀{m:Nat} {s:Int} {x:Int ⊕ (Bool ⊕ Unit)},P3 by2 p q s = some x→A3l (P3 by2 p q) (m + 1) s = match x with | .inl s'=>A3l (P3 by2 p q) m s' | .inr y=>some y:= by
  intro m s x h
  rw [H7,h]
  cases x <;> rfl
 by_cases c:u.2 = v.2
 ·by_cases d:p.cost_ = q.cost_
  ·have:loop (P3 by2 p q) 0 = some (.inr ()):=H8 (b:=P3 by2 p q) (fun i=>(i:Int)) 2 (r:=.inr ()) (by omega) (fun i hi=>by
    rcases (show i = 0∨i = 1 by omega) with rfl | rfl
    ·exact h0.trans (by rw [if_pos c]; rfl)
    ·exact h1.trans (by rw [if_pos d]; rfl)) h2
   rw [this]; simp [c,d]
  ·have:loop (P3 by2 p q) 0 = some (.inl (decide (p.cost_ < q.cost_))):=H8 (b:=P3 by2 p q) (fun i=>(i:Int)) 1 (r:=.inl (decide (p.cost_ < q.cost_))) (by omega) (fun i hi=>by
    rcases (show i = 0 by omega) with rfl
    exact h0.trans (by rw [if_pos c]; rfl)) (h1.trans (by rw [if_neg d]))
   rw [this,c]; simp
 ·have:loop (P3 by2 p q) 0 = some (.inl (decide (u.2 < v.2))):=H8 (b:=P3 by2 p q) (fun i=>(i:Int)) 0 (r:=.inl (decide (u.2 < v.2))) (by omega) (fun i hi=>absurd hi (Nat.not_lt_zero i)) (h0.trans (by rw [if_neg c]))
  rw [this]; simp [c]
theorem D22 {r:DrRoom} (ok:RmOk r) {z:Prs} (hz:B1d r z):kP (J3 r z) = 3000 * sm (I5 r z) + Y8 r z:= by
 unfold kP
 rw [A89 ok hz]; rfl
theorem D27 {r:DrRoom} (ok:RmOk r) (z:Prs):slc (Ar4.l (⟨below (E1 r z 0),below (E1 r z 1),below (E1 r z 2),below (E1 r z 3)⟩:Ar4 Int)) 0 (r.Ounces.length:Int) = some (I5 r z):= by
 have hO:=ok.ounces
 unfold I5
 rcases (show r.Ounces.length = 1∨r.Ounces.length = 2∨r.Ounces.length = 3∨r.Ounces.length = 4 by omega) with h | h | h | h <;> rw [h] <;> rfl
theorem D7e {r:DrRoom} (ok:RmOk r) {ch:Chg} (hch:C3k r ch):A78 r ch ((2 ^ r.Persons.length - 1:Nat):Int) (List dress_plan) Unit B1f [] = some (.inl ((perms r.Figures.length r.Persons.length).map fun q=>J3 r (prs r q))):= by
 have hsz:=A3v ok.figures ok.persons
 have hps:PsOk r r.Persons:=⟨ok.persons,ok.person⟩
 refine B8p ok hch (A9y ok) B1f (s:=[]) ?_
 rw [A5t ok]
 have:=A6i (ρ:=Unit) (l:=perms r.Figures.length r.Persons.length) (s:=([]:List dress_plan)) (f:=fun q s=>B1f (J3 r (q.zip r.Persons)) s) (p:=fun _=>true) (g:=fun q=>J3 r (q.zip r.Persons)) (by simp; omega) (fun q hq s hs=>by
  have hz:=hps.pr hq
  unfold B1f
  rw [D30 hz.1]
  simp only [Option.bind_some]
  rw [S8 (by omega) (by simp; omega)]; rfl)
 rw [this,List.nil_append,List.filter_eq_self.mpr (fun _ _=>rfl)]; rfl
theorem D69 (r:DrRoom) (hb:NB r):A3p r = some (C9z r):= by
 unfold A3p C9z
 rw [A49 r hb]
 simp only [Option.bind_some]
 by_cases h0:(chk r).2.2 = 0
 ·obtain ⟨ok,-⟩:=(Q8 r).mp h0
  have hO:=ok.ounces
  obtain ⟨ch,e1,hch⟩:=C0k ok
  have hr:∀{α:Type} (a b:α),(if (chk r).2.2 ≠ 0 then a else b) = b:=fun a b=>if_neg (fun c=>c h0)
  rw [hr,if_neg (by simp [h0]),show loop (K9 r) (0,[]) = some ch from e1,A9x ok]
  simp only [Option.bind_some]
  rw [D7e ok hch]
  simp only [Option.bind_some]
  have hsz:=A3v ok.figures ok.persons
  have hps:PsOk r r.Persons:=⟨ok.persons,ok.person⟩
  have hz:∀q ∈ perms r.Figures.length r.Persons.length,B1d r (prs r q):=fun q hq=>hps.pr hq
  rw [C0s _ _ kP (by rw [List.length_map]; omega) (fun x hx y hy=>by
   obtain ⟨p,hp,rfl⟩:=List.mem_map.mp hx
   obtain ⟨q,hq,rfl⟩:=List.mem_map.mp hy
   have zp:=hz p hp
   have zq:=hz q hq
   rw [less2 (A89 ok zp) (A89 ok zq),D22 ok zp,D22 ok zq]
   congr 1
   rw [decide_eq_decide]
   have b1:=A42 ok (prs r p)
   have b2:=A42 ok (prs r q)
   have l1:=zp.1
   have l2:=zq.1
   exact (D24 (c:=Y8 r (prs r p)) (d:=Y8 r (prs r q)) (by omega) (by omega)).symm),C60]
  unfold C90
  rw [C4h (k':=kB r) (fun q hq=>D22 ok (hz q hq))]
  cases hf:fm (kB r) (perms r.Figures.length r.Persons.length) with
  | none=>rfl
  | some q =>
   have zq:=hz q (A5e hf)
   have hll:=B4k r (prs r q)
   simp only [Option.map_some,Bool.not_true,Bool.false_eq_true,if_false]
   simp only [Option.bind_some,Bool.not_true,Bool.false_eq_true,if_false]
   rw [A89 ok zq]
   simp only [Option.bind_some]
   rw [D27 ok]
   simp only [Option.bind_some]
   rw [S8 (by omega) (by simp; omega)]; rfl
 ·rw [if_pos h0,if_pos (by simpa using h0)]
end Ds
end
section
set_option maxRecDepth 100000
set_option maxHeartbeats 0
namespace Ds
open Go Am Go.Proofs.Ytdkflofgolehkaa.Cd
def V4 (a0:DrRoom) (a1:(List Int)) (s1:(Int × (List Int))):Option ((Int × (List Int)) ⊕ (List Int)) :=
 if (decide (s1.1 < (List.length a0.Ounces:Int))) = true then
  (idx a0.Ounces s1.1).bind fun x4 =>
  if (decide (s1.1 < (List.length a1:Int))) = true then
  (idx a1 s1.1).bind fun x6 =>
  (app 8 s1.2 [(w64 (x4 + x6))]).bind fun x7 =>
  some (.inl ((w64 (s1.1 + 1)),x7))
  else
  (app 8 s1.2 [x4]).bind fun x8 =>
  some (.inl ((w64 (s1.1 + 1)),x8))
 else
  some (.inr s1.2)
def A1k (a0:DrRoom) (a1:(List Int)):Option DrRoom :=
 (loop (V4 a0 a1) (0,([]:List Int))).bind fun (o9:(List Int)) =>
 some (DrRoom.mk a0.Costs o9 a0.Figures a0.Persons)
theorem A8o {c:Sc} {H:A1} {a0:DrRoom} {a1:(List Int)} {r:DrRoom} (h:A1k a0 a1 = some r) :
  E9 tab c H (.fn (.func 47) [] []) [(.agg (A4 a0)),(.seq 1 (List.map cI a1))] [(.agg [(.seq 1 (List.map cI r.Costs)),(.fresh 1 (List.map cI r.Ounces)),(.seq 3 (List.map A5 r.Figures)),(.seq 3 (List.map A5 r.Persons))])]:= by
 unfold A1k at h
 refine cE rfl rfl<|sg 0 rfl<|A0 (F5 (cs:=A4 a0) rfl rfl rfl) rfl<|A0 E3 rfl<|es (ra3 rfl rfl rfl)<|sg 2 rfl<|A0 A11 rfl<|es (ra4 rfl rfl rfl rfl)<|B6<|s0<|qm rfl<|es (ra5 rfl rfl rfl rfl rfl)<|C3<|oB h fun o9 ho9 h=>wl (fun s1=>[(1,(.seq 1 (List.map cI a1))),(2,(.ptr (H.length + 0) 0)),(4,(.ptr (H.length + 1) 0)),(5,(.asl (H.length + 2) (List.length s1.2))),(6,.i s1.1)]) (fun (q2:Unit) s1=>[(.cells (A4 a0)),(.cells (A4 (DrRoom.mk ([]:List Int) ([]:List Int) ([]:List DrLook) ([]:List DrLook)))),(.arr 1 false (List.map cI s1.2))]) 3 (fun r e s' H'=>PX 0 [(2,(.ptr (H.length + 0) 0)),(4,(.ptr (H.length + 1) 0)),(5,(.asl (H.length + 2) (List.length r)))] (H++[(.cells (A4 a0)),(.cells (A4 (DrRoom.mk ([]:List Int) ([]:List Int) ([]:List DrLook) ([]:List DrLook)))),(.arr 1 false (List.map cI r))]) e s' H') () ho9 rfl rfl (fun _ _=>rfl) (fun _=>rfl) rfl (fun s1=>(bdc E6 (bdc (F0 rfl) (bdc (F0 rfl) (bdc (X4 rfl) (bdc A8 bdn)))))) (fun q2 s1 ys1 hs1=>?_) ?_
 ·unfold V4 at hs1
  refine B6<|s0<|qm rfl<|A0 (D2 rfl) rfl<|A0 (C8 rfl rfl rfl) rfl<|A0 (D4 (f:=cI) rfl) rfl<|A0 (G3 rfl rfl) rfl<|es (ra6 rfl rfl rfl rfl rfl rfl)<|wi hs1 rfl (fun hc3 hs1=>?_) fun hc3 hs1=>?_
  ·refine C0<|B6<|C3<|s0<|oB hs1 fun x4 hx4 hs1=>A0 (D2 rfl) rfl<|A0 (C8 rfl rfl rfl) rfl<|qm rfl<|A0 (E4 (f:=cI) rfl rfl hx4) rfl<|A0 (E8 rfl rfl) rfl<|qm rfl<|es (ra6 rfl rfl rfl rfl rfl rfl)<|B6<|s0<|qm rfl<|qm rfl<|A0 (D4 (f:=cI) rfl) rfl<|A0 (G3 rfl rfl) rfl<|es (ra7 rfl rfl rfl rfl rfl rfl rfl)<|wi hs1 rfl (fun hc5 hs1=>?_) fun hc5 hs1=>?_
   ·refine r0<|oB hs1 fun x6 hx6 hs1=>qm rfl<|qm rfl<|qm rfl<|A0 (E4 (f:=cI) rfl rfl hx6) rfl<|A0 (E8 rfl rfl) rfl<|A0 (E7 rfl rfl) rfl<|qm rfl<|en (ra6 rfl rfl rfl rfl rfl rfl)<|r0<|oB hs1 fun x7 hx7 hs1=>qm rfl<|qm rfl<|A0 (G2 (rows:=List.map cI [(w64 (x4 + x6))]) rfl rfl (D8 (fun _=>rfl) _)) rfl<|Q2 (U4 (f:=cI) rfl rfl rfl rfl Q6 (fun _=>rfl) hx7) rfl<|qm rfl<|en (ra5 rfl rfl rfl rfl rfl)<|r0<|qm rfl<|A0 (E7 rfl rfl) rfl<|qm rfl<|en (ra5 rfl rfl rfl rfl rfl) ?_
    cases hs1
    exact lnT () rfl (su5 rfl rfl rfl rfl rfl)
   ·refine C0<|r0<|oB hs1 fun x8 hx8 hs1=>qm rfl<|qm rfl<|A0 (G2 (rows:=List.map cI [x4]) rfl rfl (D8 (fun _=>rfl) _)) rfl<|Q2 (U4 (f:=cI) rfl rfl rfl rfl Q6 (fun _=>rfl) hx8) rfl<|qm rfl<|en (ra5 rfl rfl rfl rfl rfl)<|r0<|qm rfl<|A0 (E7 rfl rfl) rfl<|qm rfl<|en (ra5 rfl rfl rfl rfl rfl) ?_
    cases hs1
    exact lnT () rfl (su5 rfl rfl rfl rfl rfl)
  ·refine F4 ?_
   obtain rfl:=os hs1
   exact lx rfl px (su3 rfl rfl rfl)
 ·rintro e s' H' - ⟨rfl,rfl,rfl⟩
  refine s0<|qm rfl<|A0 (D2 rfl) rfl<|H9 (D1 (ds:=[(.seq 1 (List.map cI a0.Costs)),(.asl (H.length + 2) (List.length o9)),(.seq 3 (List.map A5 a0.Figures)),(.seq 3 (List.map A5 a0.Persons))]) rfl rfl rfl rfl (O9 (Nat.le_add_right _ _)) rfl) rfl<|es (ra2 rfl rfl)<|s0<|A0 (I2 (ds:=[(.seq 1 (List.map cI a0.Costs)),(.asl (H.length + 2) (List.length o9)),(.seq 3 (List.map A5 a0.Figures)),(.seq 3 (List.map A5 a0.Persons))]) rfl rfl rfl rfl) rfl<|H9 (D1 (ds:=[(.seq 1 (List.map cI a0.Costs)),(.asl (H.length + 2) (List.length o9)),(.seq 3 (List.map A5 a0.Figures)),(.seq 3 (List.map A5 a0.Persons))]) rfl rfl rfl rfl (O9 (Nat.le_add_right _ _)) rfl) rfl<|es (ra1 rfl)<|C4 ?_
  obtain rfl:=os h
  exact retq trivial (P0 (I2 (ds:=[(.seq 1 (List.map cI a0.Costs)),(.asl (H.length + 2) (List.length o9)),(.seq 3 (List.map A5 a0.Figures)),(.seq 3 (List.map A5 a0.Persons))]) rfl rfl rfl rfl) B7) (A6 (B6u (S5 rfl (S5 (C2x rfl (List.length_map _)) (S5 rfl (S5 rfl C2w))))) B9) (A3 (X3 rfl) B2)
def O7 (a1:(List Int)) (x1:((List Int) × Int × Int)) (s19:(Int × Int × Int × (List Int))):Option ((Int × Int × Int × (List Int)) ⊕ (Bool ⊕ (Int × Int × (List Int)))) :=
 if (decide (s19.2.2.1 < (List.length x1.1:Int))) = true then
  (idx x1.1 s19.2.2.1).bind fun x22 =>
  if (decide (x22 < 0)) = true then
  some (.inr (.inl false))
  else
  (W9 a1 s19.2.2.1).bind fun x24 =>
  (idx x1.1 s19.2.2.1).bind fun x25 =>
  (app 8 s19.2.2.2 [(Int.tmod x24 8)]).bind fun x26 =>
  some (.inl ((w64 (s19.1 + x25)),(w64 (s19.2.1 + (Int.tmod x24 8))),(w64 (s19.2.2.1 + 1)),x26))
 else
  some (.inr (.inr (s19.1,s19.2.1,s19.2.2.2)))
def A0r (a0:DrRoom) (a1:(List Int)):Option Bool :=
 (A3p a0).bind fun x1 =>
 (A03 a0).bind fun x2 =>
 if (!x2) = true then
  (if (((x1.2.2 != 0) && ((List.length x1.1:Int) == 0)) && (x1.2.1 == 0)) = true then
  (R6).bind fun x7 =>
  some x7
  else
  some false).bind fun x8 =>
  some x8
 else
  (U1 a0).bind fun x9 =>
  if (decide ((List.length a0.Persons:Int) > (List.length a0.Figures:Int))) = true then
  (if ((((x1.2.2 == 9) && (x9.2.2 == x1.2.2)) && ((List.length x1.1:Int) == 0)) && (x1.2.1 == 0)) = true then
   (R6).bind fun x15 =>
   some x15
  else
   some false).bind fun x16 =>
  some x16
  else
  if ((x1.2.2 != 0) || ((List.length x1.1:Int) != (List.length a0.Ounces:Int))) = true then
   some false
  else
   (loop (O7 a1 x1) (0,0,0,([]:List Int))).bind fun (o27:(Bool ⊕ (Int × Int × (List Int)))) =>
   match o27 with
   | (.inl vo27_0) =>
   some vo27_0
   | (.inr vo27_1) =>
   if (((x9.2.2 == 0) && ((vo27_1.1 != 0) || (x1.2.1 != x9.2.1))) || ((x9.2.2 != 0) && ((x9.2.2 != 9) || (vo27_1.1 == 0)))) = true then
    some false
   else
    (A1k a0 x1.1).bind fun x34 =>
    (A1k a0 vo27_1.2.2).bind fun x35 =>
    (A03 x34).bind fun x36 =>
    (if x36 = true then
     (U1 x34).bind fun x39 =>
     if ((x39.2.2 != 0) || (x39.2.1 != x1.2.1)) = true then
     some (.inl false)
     else
     some (.inr ())
    else
     some (.inr ())).bind fun (p37:(Bool ⊕ Unit)) =>
    match p37 with
    | (.inl vp37_0) =>
    some vp37_0
    | (.inr vp37_1) =>
    (A03 x35).bind fun x42 =>
    if (x42 && (decide (vo27_1.2.1 < vo27_1.1))) = true then
     (U1 x35).bind fun x45 =>
     (if (x45.2.2 == 9) = true then
     (R6).bind fun x47 =>
     some x47
     else
     some false).bind fun x48 =>
     some x48
    else
     (R6).bind fun x49 =>
     some x49
theorem A9k {c:Sc} {H:A1} (hscv:S3 c H = true) {a0:DrRoom} {a1:(List Int)} {r:Bool} (h:A0r a0 a1 = some r) :
  E9 tab c H (.fn (.func 11) [] []) [(.agg (A4 a0)),(.seq 1 (List.map B2e a1))] [.b r]:= by
 unfold A0r at h
 refine cE rfl rfl<|sg 0 rfl<|A0 (F5 (cs:=A4 a0) rfl rfl rfl) rfl<|qm rfl<|es (ra2 rfl rfl)<|s0<|oB h fun x1 hx1 h=>A0 (C2 rfl rfl rfl) rfl<|B4 (rs:=[(.seq 1 (List.map cI x1.1)),.i x1.2.1,.i x1.2.2]) rfl rfl (A2 (C9 rfl) B5) ((A76 (A1a hscv) hx1).frz)<|qm rfl<|A0 (A7 rfl rfl) rfl<|A0 (A7 rfl rfl) rfl<|A0 (A7 rfl rfl) rfl<|qm rfl<|qm rfl<|qm rfl<|es (ra5 rfl rfl rfl rfl rfl)<|B6<|s0<|oB h fun x2 hx2 h=>A0 (C2 rfl rfl rfl) rfl<|B4 (rs:=[.b x2]) rfl rfl (A2 (C9 rfl) B5) ((A5m hx2).frz)<|A0 (S6 rfl) rfl<|es (ra6 rfl rfl rfl rfl rfl rfl)<|wi h rfl (fun hc3 h=>?_) fun hc3 h=>?_
 ·refine s0<|oB h fun x8 hx8 h=>qm rfl<|A0 (I7 rfl rfl) rfl<|qm rfl<|gp 4 39 (.b ((x1.2.2 != 0) && ((List.length x1.1:Int) == 0))) 35 rfl rfl (fun hg4=>?_) (fun hg4=>?_) ?_
  ·exact gT rfl hg4<|qm rfl<|gT rfl hg4<|A0 (D4 (f:=cI) rfl) rfl<|gT rfl hg4<|A0 (F2 rfl rfl) rfl<|A0 (C6 rfl hg4 rfl) rfl<|ge 4 (by rw [hg4]; rfl) rfl rfl
  ·exact nT rfl hg4 rfl<|nT rfl hg4 rfl<|nT rfl hg4 rfl<|A0 (C5 rfl hg4 rfl) rfl<|ge 4 (by rw [hg4]; rfl) rfl rfl
  refine qm rfl<|gp 3 43 (.b (((x1.2.2 != 0) && ((List.length x1.1:Int) == 0)) && (x1.2.1 == 0))) 40 rfl rfl (fun hg5=>?_) (fun hg5=>?_) ?_
  ·exact gT rfl hg5<|qm rfl<|gT rfl hg5<|A0 (F2 rfl rfl) rfl<|A0 (C6 rfl hg5 rfl) rfl<|ge 3 (by rw [hg5]; rfl) rfl rfl
  ·exact nT rfl hg5 rfl<|nT rfl hg5 rfl<|A0 (C5 rfl hg5 rfl) rfl<|ge 3 (by rw [hg5]; rfl) rfl rfl
  refine qm rfl<|gp 2 46 (.b x8) 44 rfl rfl (fun hg6=>?_) (fun hg6=>?_) ?_
  ·refine oB (bt hx8 hg6) fun x7 hx7 hx8=>?_
   obtain rfl:=os hx8
   exact gT rfl hg6<|B4 (rs:=[.b x7]) rfl rfl B5 ((R8 (A1a hscv) hx7).frz)<|A0 (C6 rfl hg6 rfl) rfl<|ge 2 rfl rfl rfl
  ·obtain rfl:=os (bf hx8 hg6)
   exact M6 (G1 rfl (by rw [hg6]; rfl)) rfl<|A0 (C5 rfl hg6 rfl) rfl<|ge 2 rfl rfl rfl
  refine qm rfl<|es (ra1 rfl)<|C4 ?_
  obtain rfl:=os h
  exact retq trivial (B1 rfl B7) (A6 rfl B9) (A3 A8 B2)
 ·refine C0<|s0<|oB h fun x9 hx9 h=>A0 (C2 rfl rfl rfl) rfl<|B4 (rs:=[(.seq 1 (List.map cI x9.1)),.i x9.2.1,.i x9.2.2]) rfl rfl (A2 (C9 rfl) B5) ((A0k (A1a hscv) hx9).frz)<|qm rfl<|A0 (A7 rfl rfl) rfl<|A0 (A7 rfl rfl) rfl<|A0 (A7 rfl rfl) rfl<|qm rfl<|qm rfl<|qm rfl<|es (ra7 rfl rfl rfl rfl rfl rfl rfl)<|B6<|s0<|A0 (D2 rfl) rfl<|A0 (C8 rfl rfl rfl) rfl<|A0 (D4 (f:=A5) rfl) rfl<|A0 (D2 rfl) rfl<|A0 (C8 rfl rfl rfl) rfl<|A0 (D4 (f:=A5) rfl) rfl<|A0 (A8i rfl rfl) rfl<|es (ra8 rfl rfl rfl rfl rfl rfl rfl rfl)<|wi h rfl (fun hc10 h=>?_) fun hc10 h=>?_
  ·refine s0<|oB h fun x16 hx16 h=>qm rfl<|A0 (F2 rfl rfl) rfl<|qm rfl<|gp 4 66 (.b ((x1.2.2 == 9) && (x9.2.2 == x1.2.2))) 62 rfl rfl (fun hg11=>?_) (fun hg11=>?_) ?_
   ·exact gT rfl hg11<|qm rfl<|gT rfl hg11<|qm rfl<|gT rfl hg11<|A0 (F2 rfl rfl) rfl<|A0 (C6 rfl hg11 rfl) rfl<|ge 4 (by rw [hg11]; rfl) rfl rfl
   ·exact nT rfl hg11 rfl<|nT rfl hg11 rfl<|nT rfl hg11 rfl<|A0 (C5 rfl hg11 rfl) rfl<|ge 4 (by rw [hg11]; rfl) rfl rfl
   refine qm rfl<|gp 4 71 (.b (((x1.2.2 == 9) && (x9.2.2 == x1.2.2)) && ((List.length x1.1:Int) == 0))) 67 rfl rfl (fun hg12=>?_) (fun hg12=>?_) ?_
   ·exact gT rfl hg12<|qm rfl<|gT rfl hg12<|A0 (D4 (f:=cI) rfl) rfl<|gT rfl hg12<|A0 (F2 rfl rfl) rfl<|A0 (C6 rfl hg12 rfl) rfl<|ge 4 (by rw [hg12]; rfl) rfl rfl
   ·exact nT rfl hg12 rfl<|nT rfl hg12 rfl<|nT rfl hg12 rfl<|A0 (C5 rfl hg12 rfl) rfl<|ge 4 (by rw [hg12]; rfl) rfl rfl
   refine qm rfl<|gp 3 75 (.b ((((x1.2.2 == 9) && (x9.2.2 == x1.2.2)) && ((List.length x1.1:Int) == 0)) && (x1.2.1 == 0))) 72 rfl rfl (fun hg13=>?_) (fun hg13=>?_) ?_
   ·exact gT rfl hg13<|qm rfl<|gT rfl hg13<|A0 (F2 rfl rfl) rfl<|A0 (C6 rfl hg13 rfl) rfl<|ge 3 (by rw [hg13]; rfl) rfl rfl
   ·exact nT rfl hg13 rfl<|nT rfl hg13 rfl<|A0 (C5 rfl hg13 rfl) rfl<|ge 3 (by rw [hg13]; rfl) rfl rfl
   refine qm rfl<|gp 2 78 (.b x16) 76 rfl rfl (fun hg14=>?_) (fun hg14=>?_) ?_
   ·refine oB (bt hx16 hg14) fun x15 hx15 hx16=>?_
    obtain rfl:=os hx16
    exact gT rfl hg14<|B4 (rs:=[.b x15]) rfl rfl B5 ((R8 (A1a hscv) hx15).frz)<|A0 (C6 rfl hg14 rfl) rfl<|ge 2 rfl rfl rfl
   ·obtain rfl:=os (bf hx16 hg14)
    exact M6 (G1 rfl (by rw [hg14]; rfl)) rfl<|A0 (C5 rfl hg14 rfl) rfl<|ge 2 rfl rfl rfl
   refine qm rfl<|es (ra1 rfl)<|C4 ?_
   obtain rfl:=os h
   exact retq trivial (B1 rfl B7) (A6 rfl B9) (A3 A8 B2)
  ·refine C0<|B6<|s0<|qm rfl<|A0 (I7 rfl rfl) rfl<|qm rfl<|gp 7 88 (.b ((x1.2.2 != 0) || ((List.length x1.1:Int) != (List.length a0.Ounces:Int)))) 81 rfl rfl (fun hg17=>?_) (fun hg17=>?_) ?_
   ·exact nF rfl hg17 rfl<|nF rfl hg17 rfl<|nF rfl hg17 rfl<|nF rfl hg17 rfl<|nF rfl hg17 rfl<|nF rfl hg17 rfl<|A0 (C6 rfl hg17 rfl) rfl<|ge 7 (by rw [hg17]; rfl) rfl rfl
   ·exact gF rfl hg17<|qm rfl<|gF rfl hg17<|A0 (D4 (f:=cI) rfl) rfl<|gF rfl hg17<|A0 (D2 rfl) rfl<|gF rfl hg17<|A0 (C8 rfl rfl rfl) rfl<|gF rfl hg17<|A0 (D4 (f:=cI) rfl) rfl<|gF rfl hg17<|A0 (I7 rfl rfl) rfl<|A0 (C5 rfl hg17 rfl) rfl<|ge 7 (by rw [hg17]; rfl) rfl rfl
   refine es (ra7 rfl rfl rfl rfl rfl rfl rfl)<|wi h rfl (fun hc18 h=>?_) fun hc18 h=>?_
   ·refine s0<|qm rfl<|es (ra1 rfl)<|C4 ?_
    obtain rfl:=os h
    exact retq trivial (B1 rfl B7) (A6 rfl B9) (A3 A8 B2)
   ·refine C0<|s0<|qm rfl<|qm rfl<|es (ra8 rfl rfl rfl rfl rfl rfl rfl rfl)<|sg 1 rfl<|A0 A11 rfl<|es (ra9 rfl rfl rfl rfl rfl rfl rfl rfl rfl)<|B6<|s0<|qm rfl<|es (ra10 rfl rfl rfl rfl rfl rfl rfl rfl rfl rfl)<|C3<|oB h fun o27 ho27 h=>wl (fun s19=>[(1,(.seq 1 (List.map B2e a1))),(2,(.ptr (H.length + 0) 0)),(5,(.seq 1 (List.map cI x1.1))),(6,.i x1.2.1),(9,.i x9.2.1),(10,.i x9.2.2),(11,.i s19.1),(12,.i s19.2.1),(13,(.asl (H.length + 1) (List.length s19.2.2.2))),(14,.i s19.2.2.1)]) (fun (q20:Unit) s19=>[(.cells (A4 a0)),(.arr 1 false (List.map cI s19.2.2.2))]) 2 (fun r e s' H'=>(match r with | (.inl v)=>e = .ret∧RetQ H [.tmp 4] [.b v] e s' H' | (.inr v)=>PX 0 [(2,(.ptr (H.length + 0) 0)),(5,(.seq 1 (List.map cI x1.1))),(6,.i x1.2.1),(9,.i x9.2.1),(10,.i x9.2.2),(11,.i v.1),(12,.i v.2.1),(13,(.asl (H.length + 1) (List.length v.2.2)))] (H++[(.cells (A4 a0)),(.arr 1 false (List.map cI v.2.2))]) e s' H':Prop)) () ho27 rfl rfl (fun _ _=>rfl) (fun _=>rfl) rfl (fun s19=>(bdc E6 (bdc (F0 rfl) (bdc E6 (bdc A8 (bdc A8 (bdc A8 (bdc A8 (bdc A8 (bdc (X4 rfl) (bdc A8 bdn))))))))))) (fun q20 s19 ys19 hs19=>?_) ?_
    ·unfold O7 at hs19
     refine B6<|s0<|qm rfl<|qm rfl<|A0 (D4 (f:=cI) rfl) rfl<|A0 (G3 rfl rfl) rfl<|es (ra11 rfl rfl rfl rfl rfl rfl rfl rfl rfl rfl rfl)<|wi hs19 rfl (fun hc21 hs19=>?_) fun hc21 hs19=>?_
     ·refine C0<|B6<|C3<|B6<|s0<|oB hs19 fun x22 hx22 hs19=>qm rfl<|qm rfl<|A0 (E4 (f:=cI) rfl rfl hx22) rfl<|A0 (E8 rfl rfl) rfl<|A0 (G3 rfl rfl) rfl<|es (ra11 rfl rfl rfl rfl rfl rfl rfl rfl rfl rfl rfl)<|wi hs19 rfl (fun hc23 hs19=>?_) fun hc23 hs19=>?_
      ·refine s0<|qm rfl<|es (ra1 rfl)<|C4 ?_
       obtain rfl:=os hs19
       exact lx rfl (And.intro rfl (retq trivial (B1 rfl B7) (A6 rfl B9) (A3 A8 B2))) (Sub.refl _)
      ·refine C0<|s0<|oB hs19 fun x24 hx24 hs19=>qm rfl<|qm rfl<|B4 (rs:=[.i x24]) rfl rfl (A2 rfl (A2 rfl B5)) ((B05 hx24).frz)<|A0 (N7 (v:=(.i (Int.tmod x24 8))) rfl rfl rfl) rfl<|qm rfl<|es (ra11 rfl rfl rfl rfl rfl rfl rfl rfl rfl rfl rfl)<|s0<|oB hs19 fun x25 hx25 hs19=>qm rfl<|qm rfl<|qm rfl<|A0 (E4 (f:=cI) rfl rfl hx25) rfl<|A0 (E8 rfl rfl) rfl<|A0 (E7 rfl rfl) rfl<|qm rfl<|qm rfl<|A0 (E7 rfl rfl) rfl<|qm rfl<|qm rfl<|es (ra11 rfl rfl rfl rfl rfl rfl rfl rfl rfl rfl rfl)<|r0<|oB hs19 fun x26 hx26 hs19=>qm rfl<|qm rfl<|A0 (G2 (rows:=List.map cI [(Int.tmod x24 8)]) rfl rfl (D8 (fun _=>rfl) _)) rfl<|Q2 (U4 (f:=cI) rfl rfl rfl rfl Q6 (fun _=>rfl) hx26) rfl<|qm rfl<|en (ra10 rfl rfl rfl rfl rfl rfl rfl rfl rfl rfl)<|r0<|qm rfl<|A0 (E7 rfl rfl) rfl<|qm rfl<|en (ra10 rfl rfl rfl rfl rfl rfl rfl rfl rfl rfl) ?_
       cases hs19
       exact lnT () rfl (su10 rfl rfl rfl rfl rfl rfl rfl rfl rfl rfl)
     ·refine F4 ?_
      obtain rfl:=os hs19
      exact lx rfl px (su8 rfl rfl rfl rfl rfl rfl rfl rfl)
    ·rcases o27 with vo27_0 | vo27_1
     ·rintro e s' H' - ⟨rfl,hret⟩
      cases h
      exact hret
     ·rintro e s' H' - ⟨rfl,rfl,rfl⟩
      refine B6<|s0<|qm rfl<|A0 (F2 rfl rfl) rfl<|qm rfl<|gp 8 127 (.b ((x9.2.2 == 0) && ((vo27_1.1 != 0) || (x1.2.1 != x9.2.1)))) 119 rfl rfl (fun hg28=>?_) (fun hg28=>?_) ?_
      ·refine gT rfl hg28<|qm rfl<|gT rfl hg28<|A0 (I7 rfl rfl) rfl<|gT rfl hg28<|qm rfl<|gq 4 126 (.b ((vo27_1.1 != 0) || (x1.2.1 != x9.2.1))) 122 rfl rfl (fun hg29=>?_) (fun hg29=>?_) ?_
       ·exact nF rfl hg29 rfl<|nF rfl hg29 rfl<|nF rfl hg29 rfl<|gT rfl hg28<|A0 (C6 rfl hg29 rfl) rfl<|ge 4 (by rw [hg29]; rfl) rfl rfl
       ·exact gF rfl hg29<|qm rfl<|gF rfl hg29<|qm rfl<|gF rfl hg29<|A0 (I7 rfl rfl) rfl<|gT rfl hg28<|A0 (C5 rfl hg29 rfl) rfl<|ge 4 (by rw [hg29]; rfl) rfl rfl
       exact A0 (C6 rfl hg28 rfl) rfl<|ge 5 (by rw [hg28]; rfl) rfl rfl
      ·exact nT rfl hg28 rfl<|nT rfl hg28 rfl<|nT rfl hg28 rfl<|nX rfl rfl<|nX rfl rfl<|nX rfl rfl<|nT rfl hg28 rfl<|A0 (C5 rfl hg28 rfl) rfl<|ge 8 (by rw [hg28]; rfl) rfl rfl
      refine qm rfl<|gp 11 139 (.b (((x9.2.2 == 0) && ((vo27_1.1 != 0) || (x1.2.1 != x9.2.1))) || ((x9.2.2 != 0) && ((x9.2.2 != 9) || (vo27_1.1 == 0))))) 128 rfl rfl (fun hg30=>?_) (fun hg30=>?_) ?_
      ·exact nF rfl hg30 rfl<|nF rfl hg30 rfl<|nF rfl hg30 rfl<|nX rfl rfl<|nX rfl rfl<|nX rfl rfl<|nX rfl rfl<|nX rfl rfl<|nX rfl rfl<|nF rfl hg30 rfl<|A0 (C6 rfl hg30 rfl) rfl<|ge 11 (by rw [hg30]; rfl) rfl rfl
      ·refine gF rfl hg30<|qm rfl<|gF rfl hg30<|A0 (I7 rfl rfl) rfl<|gF rfl hg30<|qm rfl<|gq 7 138 (.b ((x9.2.2 != 0) && ((x9.2.2 != 9) || (vo27_1.1 == 0)))) 131 rfl rfl (fun hg31=>?_) (fun hg31=>?_) ?_
       ·refine gT rfl hg31<|qm rfl<|gT rfl hg31<|A0 (I7 rfl rfl) rfl<|gT rfl hg31<|qm rfl<|gq 3 137 (.b ((x9.2.2 != 9) || (vo27_1.1 == 0))) 134 rfl rfl (fun hg32=>?_) (fun hg32=>?_) ?_
        ·exact nF rfl hg32 rfl<|nF rfl hg32 rfl<|gT rfl hg31<|A0 (C6 rfl hg32 rfl) rfl<|ge 3 (by rw [hg32]; rfl) rfl rfl
        ·exact gF rfl hg32<|qm rfl<|gF rfl hg32<|A0 (F2 rfl rfl) rfl<|gT rfl hg31<|A0 (C5 rfl hg32 rfl) rfl<|ge 3 (by rw [hg32]; rfl) rfl rfl
        exact gF rfl hg30<|A0 (C6 rfl hg31 rfl) rfl<|ge 5 (by rw [hg31]; rfl) rfl rfl
       ·exact nT rfl hg31 rfl<|nT rfl hg31 rfl<|nT rfl hg31 rfl<|nX rfl rfl<|nX rfl rfl<|nT rfl hg31 rfl<|gF rfl hg30<|A0 (C5 rfl hg31 rfl) rfl<|ge 7 (by rw [hg31]; rfl) rfl rfl
       exact A0 (C5 rfl hg30 rfl) rfl<|ge 5 (by rw [hg30]; rfl) rfl rfl
      refine es (ra7 rfl rfl rfl rfl rfl rfl rfl)<|wi h rfl (fun hc33 h=>?_) fun hc33 h=>?_
      ·refine s0<|qm rfl<|es (ra1 rfl)<|C4 ?_
       obtain rfl:=os h
       exact retq trivial (B1 rfl B7) (A6 rfl B9) (A3 A8 B2)
      ·refine C0<|B6<|D4k (C26 rfl (A7s rfl (List.length_map _)))<|rg 2 rfl<|oB h fun x34 hx34 h=>oB h fun x35 hx35 h=>O1 [2,3] (U3 [2,3] rfl J0 rfl rfl) (seen0 rfl) (C2 rfl rfl rfl) rfl<|qm rfl<|O1 [2,3] (U3 [2,3] rfl J0 rfl rfl) (seen0 rfl) (B0l (rs:=[(.agg (A4 x34))]) rfl rfl (J7 rfl (J7 rfl A2f)) (A2 (C9 rfl) (A2 rfl B5)) ((A8o hx34).frz)) rfl<|O1 [2,3] (U3 [2,3] rfl J0 rfl rfl) (seen0 rfl) (C2 rfl rfl rfl) rfl<|qm rfl<|O1 [2,3] (U3 [2,3] rfl J0 rfl rfl) (seen0 rfl) (B0l (rs:=[(.agg (A4 x35))]) rfl rfl (J7 rfl (J7 (D8p rfl) A2f)) (A2 (C9 rfl) (A2 (A7s rfl (List.length_map _)) B5)) ((A8o hx35).frz)) rfl<|A0 E3 rfl<|A0 E3 rfl<|H9 (D1 (ds:=(A4 x34)) rfl rfl rfl rfl (C7 rfl) rfl) rfl<|H9 (D1 (ds:=(A4 x35)) rfl rfl rfl rfl (C7 rfl) rfl) rfl<|es (ra5 rfl rfl rfl rfl rfl)<|B6<|s0<|oB h fun x36 hx36 h=>A0 (C2 rfl rfl rfl) rfl<|B4 (rs:=[.b x36]) rfl rfl (A2 (C9 rfl) B5) ((A5m hx36).frz)<|es (ra6 rfl rfl rfl rfl rfl rfl)<|oB h fun p37 hp37 h=>B12 (Q1:=fun e s' H'=>(match p37 with | (.inl v)=>e = .ret∧RetQ H [.tmp 4] [.b v] e s' H' | (.inr v)=>e = .normal∧s' = [(11,.i vo27_1.1),(12,.i vo27_1.2.1),(17,(.ptr (H.length + 3) 0))]∧H' = (H++[(.cells (A4 a0)),(.arr 1 true (List.map cI vo27_1.2.2)),(.cells (A4 x34)),(.cells (A4 x35))]):Prop)) ?_ ?_
       ·refine wi hp37 rfl (fun hc38 hp37=>?_) fun hc38 hp37=>?_
        ·refine s0<|oB hp37 fun x39 hx39 hp37=>A0 (C2 rfl rfl rfl) rfl<|B4 (rs:=[(.seq 1 (List.map cI x39.1)),.i x39.2.1,.i x39.2.2]) rfl rfl (A2 (C9 rfl) B5) ((A0k (A1a hscv) hx39).frz)<|qm rfl<|A0 (A7 rfl rfl) rfl<|A0 (A7 rfl rfl) rfl<|A0 (A7 rfl rfl) rfl<|qm rfl<|qm rfl<|qm rfl<|es (ra6 rfl rfl rfl rfl rfl rfl)<|s0<|qm rfl<|A0 (I7 rfl rfl) rfl<|qm rfl<|gp 4 160 (.b ((x39.2.2 != 0) || (x39.2.1 != x1.2.1))) 156 rfl rfl (fun hg40=>?_) (fun hg40=>?_) ?_
         ·exact nF rfl hg40 rfl<|nF rfl hg40 rfl<|nF rfl hg40 rfl<|A0 (C6 rfl hg40 rfl) rfl<|ge 4 (by rw [hg40]; rfl) rfl rfl
         ·exact gF rfl hg40<|qm rfl<|gF rfl hg40<|qm rfl<|gF rfl hg40<|A0 (I7 rfl rfl) rfl<|A0 (C5 rfl hg40 rfl) rfl<|ge 4 (by rw [hg40]; rfl) rfl rfl
         refine es (ra4 rfl rfl rfl rfl)<|wi hp37 rfl (fun hc41 hp37=>?_) fun hc41 hp37=>?_
         ·refine s0<|qm rfl<|es (ra1 rfl)<|C4 ?_
          obtain rfl:=os hp37
          exact me (And.intro rfl (retq trivial (B1 rfl B7) (A6 rfl B9) (A3 A8 B2))) (Sub.refl _)
         ·refine C0 ?_
          obtain rfl:=os hp37
          exact me (And.intro rfl (And.intro rfl rfl)) (su3 rfl rfl rfl)
        ·refine C0 ?_
         obtain rfl:=os hp37
         exact me (And.intro rfl (And.intro rfl rfl)) (su3 rfl rfl rfl)
       ·rcases p37 with vp37_0 | vp37_1
        ·rintro e s' H' ⟨rfl,hret⟩
         cases h
         exact hret
        ·rintro e s' H' ⟨rfl,rfl,rfl⟩
         refine B6<|s0<|oB h fun x42 hx42 h=>A0 (C2 rfl rfl rfl) rfl<|B4 (rs:=[.b x42]) rfl rfl (A2 (C9 rfl) B5) ((A5m hx42).frz)<|qm rfl<|gp 4 167 (.b (x42 && (decide (vo27_1.2.1 < vo27_1.1)))) 163 rfl rfl (fun hg43=>?_) (fun hg43=>?_) ?_
         ·exact gT rfl hg43<|qm rfl<|gT rfl hg43<|qm rfl<|gT rfl hg43<|A0 (G3 rfl rfl) rfl<|A0 (C6 rfl hg43 rfl) rfl<|ge 4 (by rw [hg43]; rfl) rfl rfl
         ·exact nT rfl hg43 rfl<|nT rfl hg43 rfl<|nT rfl hg43 rfl<|A0 (C5 rfl hg43 rfl) rfl<|ge 4 (by rw [hg43]; rfl) rfl rfl
         refine es (ra2 rfl rfl)<|wi h rfl (fun hc44 h=>?_) fun hc44 h=>?_
         ·refine s0<|oB h fun x45 hx45 h=>A0 (C2 rfl rfl rfl) rfl<|B4 (rs:=[(.seq 1 (List.map cI x45.1)),.i x45.2.1,.i x45.2.2]) rfl rfl (A2 (C9 rfl) B5) ((A0k (A1a hscv) hx45).frz)<|qm rfl<|A0 (A7 rfl rfl) rfl<|A0 (A7 rfl rfl) rfl<|A0 (A7 rfl rfl) rfl<|qm rfl<|qm rfl<|qm rfl<|es (ra1 rfl)<|s0<|oB h fun x48 hx48 h=>qm rfl<|A0 (F2 rfl rfl) rfl<|qm rfl<|gp 2 178 (.b x48) 176 rfl rfl (fun hg46=>?_) (fun hg46=>?_) ?_
          ·refine oB (bt hx48 hg46) fun x47 hx47 hx48=>?_
           obtain rfl:=os hx48
           exact gT rfl hg46<|B4 (rs:=[.b x47]) rfl rfl B5 ((R8 (A1a hscv) hx47).frz)<|A0 (C6 rfl hg46 rfl) rfl<|ge 2 rfl rfl rfl
          ·obtain rfl:=os (bf hx48 hg46)
           exact M6 (G1 rfl (by rw [hg46]; rfl)) rfl<|A0 (C5 rfl hg46 rfl) rfl<|ge 2 rfl rfl rfl
          refine qm rfl<|es (ra1 rfl)<|C4 ?_
          obtain rfl:=os h
          exact retq trivial (B1 rfl B7) (A6 rfl B9) (A3 A8 B2)
         ·refine C0<|s0<|oB h fun x49 hx49 h=>B4 (rs:=[.b x49]) rfl rfl B5 ((R8 (A1a hscv) hx49).frz)<|qm rfl<|es (ra1 rfl)<|C4 ?_
          obtain rfl:=os h
          exact retq trivial (B1 rfl B7) (A6 rfl B9) (A3 A8 B2)
end Ds
end
section
namespace Ds
open Go Am
theorem B8n {n d:Nat} (h:n < d):perms n d = []:= by
 rw [List.eq_nil_iff_forall_not_mem]
 intro q hq
 obtain ⟨h1,h2,h3⟩:=A3u.mp hq
 have:=B0i n q h2 h3
 omega
theorem C7m {n d:Nat} (h:d≤n):List.range d ∈ perms n d :=
 A3u.mpr ⟨List.length_range,List.nodup_range,fun x hx=>by
  have:x < d:= by simpa using hx
  omega⟩
def A6d (r:DrRoom) (m:List Int):DrRoom:=⟨r.Costs,(List.range r.Ounces.length).map fun c=>r.Ounces[c]! + m[c]!,r.Figures,r.Persons⟩
theorem C0i {r:DrRoom} (ok:RmOk r) {m:List Int} (hl:m.length = r.Ounces.length) (hm:∀x ∈ m,0≤x∧x≤4000):A1k r m = some (A6d r m):= by
 have hO:=ok.ounces
 unfold A1k
 have:=H8 (b:=V4 r m) (fun (i:Nat)=>((i:Int),(List.range i).map fun c:Nat=>r.Ounces[c]! + m[c]!)) r.Ounces.length (r:=(List.range r.Ounces.length).map fun c=>r.Ounces[c]! + m[c]!) (by omega) (fun i hi=>by
  have h1:=ok.ounce _ (I1 hi)
  have h2:=hm _ (I1 (show i < m.length by omega))
  unfold V4
  simp only []
  rw [if_pos (by simpa using hi),G8 hi]
  simp only [Option.bind_some]
  rw [if_pos (by rw [decide_eq_true_eq]; omega),G8 (show i < m.length by omega)]
  simp only [Option.bind_some]
  rw [S8 (by omega) (by simp only [List.length_map,List.length_range,List.length_singleton]; omega),E0 (by omega),E0 (by omega),List.range_succ,List.map_append]
  rfl) (by
  unfold V4
  simp only []
  rw [if_neg (by simp)])
 refine Eq.trans (congrArg (fun o=>Option.bind o _) (show loop (V4 r m) (0,[]) = _ from this)) ?_
 rfl
theorem C4z {r:DrRoom} {m:List Int} {z:Prs} {c:Nat} (hc:c < r.Ounces.length):E1 (A6d r m) z c = E1 r z c + m[c]!:= by
 unfold E1
 show (((List.range r.Ounces.length).map fun c=>r.Ounces[c]! + m[c]!).getD c 0) + sm (z.map (hr r c)) = _
 have e:((List.range r.Ounces.length).map fun c=>r.Ounces[c]! + m[c]!).getD c 0 = r.Ounces[c]! + m[c]!:= by
  rw [List.getD_eq_getElem?_getD,List.getElem?_map,List.getElem?_range hc]; rfl
 have e2:r.Ounces.getD c 0 = r.Ounces[c]!:= by
  rw [List.getD_eq_getElem?_getD,List.getElem?_eq_getElem hc,getElem!_pos r.Ounces c hc]; rfl
 rw [e,e2]; omega
theorem D4z {r:DrRoom} {m:List Int} {z:Prs} (h:A3n (A6d r m) z = true) {c:Nat} (hc:c < r.Ounces.length):0≤E1 r z c + m[c]!:= by
 unfold A3n at h
 have:=List.all_eq_true.mp h c (by
  show c ∈ List.range ((List.range r.Ounces.length).map fun c=>r.Ounces[c]! + m[c]!).length
  simpa using hc)
 rw [C4z hc] at this
 simpa using this
theorem D1x {r:DrRoom} {m:List Int} {z:Prs} (h:∀c,c < r.Ounces.length→0≤E1 r z c + m[c]!):A3n (A6d r m) z = true:= by
 unfold A3n
 rw [List.all_eq_true]
 intro c hc
 have hc:c < r.Ounces.length:= by
  have:c ∈ List.range ((List.range r.Ounces.length).map fun c=>r.Ounces[c]! + m[c]!).length:=hc
  simpa using this
 rw [C4z hc]
 simpa using h c hc
theorem C82 {r:DrRoom} {m:List Int} {z:Prs} (hl:m.length = r.Ounces.length) (hm:∀x ∈ m,0≤x) (h:A3n (A6d r m) z = true):sm (I5 r z)≤sm m:= by
 have e:m = (List.range r.Ounces.length).map fun c=>m[c]!:= by
  rw [← hl]; exact (B4n m).symm
 rw [e]
 unfold I5
 refine D68 fun c hc=>?_
 have hc:c < r.Ounces.length:= by simpa using hc
 have h1:=D4z h hc
 have h2:=hm _ (I1 (show c < m.length by omega))
 unfold below
 split <;> omega
theorem D26 {r:DrRoom} {z:Prs} {c:Nat} (hc:c < r.Ounces.length):(I5 r z)[c]! = below (E1 r z c):= by
 unfold I5
 have h:c < ((List.range r.Ounces.length).map fun c=>below (E1 r z c)).length:= by simpa using hc
 rw [getElem!_pos _ c h,List.getElem_map,List.getElem_range]
theorem D5m {r:DrRoom} {z:Prs}:∀x ∈ I5 r z,0≤x:=fun x hx=>by
 obtain ⟨c,-,rfl⟩:=List.mem_map.mp hx
 unfold below; split <;> omega
theorem tmod8 {q:Int} (h:0≤q):0≤Int.tmod q 8∧Int.tmod q 8≤7:= by
 have h1:=Int.tmod_nonneg (a:=q) 8 h
 have h2:=Int.tmod_lt_of_pos q (b:=8) (by decide)
 omega
theorem C3x {x l:List Int} {n e:Int} (hx:N8 x) (hl:l.length≤4) (hn:∀y ∈ l,0≤y∧y≤1000) :
  ∃ o:List Int,o.length = l.length∧(∀ y ∈ o,0≤y∧y≤7)∧loop (O7 x (l,n,e)) (0,0,0,[]) = some (.inr (sm l,sm o,o)):= by
 let t:Nat→Int:=fun c=>Int.tmod ((W9 x (c:Int)).getD 0) 8
 have ht:∀c,0≤t c∧t c≤7:=fun c=>by
  obtain ⟨q,e,h1,h2⟩:=C3f hx c
  show 0≤Int.tmod ((W9 x (c:Int)).getD 0) 8∧Int.tmod ((W9 x (c:Int)).getD 0) 8≤7
  rw [e]; exact tmod8 h1
 have hb:∀i,i≤l.length→(0≤sm (l.take i)∧sm (l.take i)≤4000)∧(0≤sm ((List.range i).map t)∧sm ((List.range i).map t)≤28):=fun i hi=>by
  have h1:=B5z (a:=0) (b:=1000) (l:=l.take i) fun y hy=>hn y (List.mem_of_mem_take hy)
  have h2:=B5z (a:=0) (b:=7) (l:=(List.range i).map t) fun y hy=>by
   obtain ⟨c,-,rfl⟩:=List.mem_map.mp hy
   exact ht c
  rw [List.length_take] at h1
  rw [List.length_map,List.length_range] at h2
  omega
 refine ⟨(List.range l.length).map t,by simp,fun y hy=>by
  obtain ⟨c,-,rfl⟩:=List.mem_map.mp hy
  exact ht c,?_⟩
 have:=H8 (b:=O7 x (l,n,e)) (fun i=>(sm (l.take i),sm ((List.range i).map t),(i:Int),(List.range i).map t)) l.length (r:=.inr (sm l,sm ((List.range l.length).map t),(List.range l.length).map t)) (by omega) (fun i hi=>by
  have h1:=hb i (by omega)
  have h2:=hn _ (I1 hi)
  have h3:=hb (i + 1) (by omega)
  have h4:=ht i
  obtain ⟨q,e1,-⟩:=C3f hx i
  have e2:t i = Int.tmod q 8:= by
   show Int.tmod ((W9 x (i:Int)).getD 0) 8 = _
   rw [e1]; rfl
  unfold O7
  simp only []
  rw [if_pos (by simpa using hi),G8 hi]
  simp only [Option.bind_some]
  rw [if_neg (by rw [decide_eq_true_eq]; omega),e1]
  simp only [Option.bind_some]
  rw [← e2,S8 (by omega) (by simp only [List.length_map,List.length_range,List.length_singleton]; omega)]
  simp only [Option.bind_some]
  rw [E0 (by omega),E0 (by omega),E0 (by omega),List.range_succ,List.map_append,A31,List.take_succ_eq_append_getElem hi,D6l,← getElem!_pos l i hi]
  simp [sm]) (by
  unfold O7
  simp only []
  rw [if_neg (by simp),List.take_length])
 exact this
theorem B35 {r:DrRoom} {x:List Int} (hb:NB r) (hx:N8 x):A0r r x = some true:= by
 unfold A0r
 rw [D69 r hb]
 simp only [Option.bind_some]
 rw [B9j]
 simp only [Option.bind_some]
 by_cases h0:(chk r).2.2 = 0
 ·obtain ⟨ok,-⟩:=(Q8 r).mp h0
  have hP:=ok.persons
  have hF:=ok.figures
  have hO:=ok.ounces
  have hr:∀{α:Type} (a b:α),(if (chk r).2.2 ≠ 0 then a else b) = b:=fun a b=>if_neg (fun c=>c h0)
  rw [if_neg (by simp [h0]),B6b r hb]
  simp only [Option.bind_some]
  unfold C9z
  rw [hr]
  by_cases hpf:r.Figures.length < r.Persons.length
  ·have e1:C90 r = none:= by unfold C90; rw [B8n hpf]; rfl
   have e2:T5 r r.Persons = none:= by unfold T5 AL; rw [B8n hpf]; rfl
   have e3:A2x r = ([],0,9):= by unfold A2x; rw [hr,e2]
   rw [if_pos (by rw [decide_eq_true_eq]; omega),e1,e3]
   simp only
   rw [if_pos (by decide),awake]; rfl
  ·obtain ⟨q,hq⟩:=C2j (k:=kB r) (C7m (n:=r.Figures.length) (d:=r.Persons.length) (by omega))
   have hqm:=A5e hq
   obtain ⟨q1,q2,q3⟩:=A3u.mp hqm
   have hqz:=(B3i hqm).pr ok
   have hlen:=B4k r (prs r q)
   have hlow:∀z ∈ perms r.Figures.length r.Persons.length,sm (I5 r (prs r q))≤sm (I5 r (prs r z))∧(sm (I5 r (prs r z)) = sm (I5 r (prs r q))→Y8 r (prs r q)≤Y8 r (prs r z)):=fun z hz=>by
    have h1:=C8m hq hz
    have h2:=A42 ok (prs r q)
    have h3:=A42 ok (prs r z)
    have h4:=hqz.1
    have h5:=((B3i hz).pr ok).1
    unfold kB at h1
    omega
   have hl1000:∀y ∈ I5 r (prs r q),0≤y∧y≤1000:=fun y hy=>by
    obtain ⟨c,-,rfl⟩:=List.mem_map.mp hy
    have:=A62 ok hqz c
    exact A8w (by omega)
   have hmem:∀z,z ∈ AL r r.Persons↔z ∈ perms r.Figures.length r.Persons.length∧sm (I5 r (prs r z)) = 0:=fun z=>by
    unfold AL
    rw [List.mem_filter]
    have:A3n r (z.zip r.Persons) = (sm (I5 r (prs r z)) == 0):=C1a.symm
    rw [this,beq_iff_eq]
   rw [if_neg (by rw [decide_eq_true_eq]; omega),show C90 r = some q from hq]
   simp only
   rw [if_neg (by rw [hlen]; simp)]
   obtain ⟨o,o1,o2,o3⟩:=C3x (n:=Y8 r (prs r q)) (e:=0) hx (show (I5 r (prs r q)).length≤4 by omega) hl1000
   rw [o3]
   simp only [Option.bind_some]
   have hcond:(((A2x r).2.2 == 0 && (sm (I5 r (prs r q)) != 0 || Y8 r (prs r q) != (A2x r).2.1)) || ((A2x r).2.2 != 0 && ((A2x r).2.2 != 9 || sm (I5 r (prs r q)) == 0))) = false:= by
    unfold A2x
    rw [hr]
    cases hbq:T5 r r.Persons with
    | none =>
     have hn:AL r r.Persons = []:=A99.mp hbq
     have hne:sm (I5 r (prs r q)) ≠ 0:=fun c=>by
      have:=(hmem q).mpr ⟨hqm,c⟩
      rw [hn] at this; cases this
     have:(sm (I5 r (prs r q)) == 0) = false:=beq_eq_false_iff_ne.mpr hne
     simp only
     rw [this]; rfl
    | some b =>
     have hbm:=A5e hbq
     obtain ⟨b1,b2⟩:=(hmem b).mp hbm
     have h1:=hlow b b1
     have h2:=(D5l ok hqz).1
     have hz:sm (I5 r (prs r q)) = 0:= by omega
     have h3:=C8m hbq ((hmem q).mpr ⟨hqm,hz⟩)
     have h4:=h1.2 (by omega)
     have h5:X5 r r.Persons b = Y8 r (prs r b):=rfl
     have h6:X5 r r.Persons q = Y8 r (prs r q):=rfl
     have h7:Y8 r (prs r q) = X5 r r.Persons b:= by omega
     simp only
     rw [hz,h7]; simp
   rw [hcond,if_neg (by decide),C0i ok hlen (fun y hy=>by have:=hl1000 y hy; omega),C0i ok (by omega) (fun y hy=>by have:=o2 y hy; omega)]
   simp only [Option.bind_some]
   rw [B9j,B9j]
   simp only [Option.bind_some]
   have hbm:∀m,NB (A6d r m):=fun m=>hb
   have hmore:(if ((chk (A6d r (I5 r (prs r q)))).2.2 == 0) = true then (U1 (A6d r (I5 r (prs r q)))).bind fun x39=>if ((x39.2.2 != 0) || (x39.2.1 != Y8 r (prs r q))) = true then some (Sum.inl false) else some (.inr ()) else some (.inr ())) = some (.inr ():Bool ⊕ Unit):= by
    by_cases hv:(chk (A6d r (I5 r (prs r q)))).2.2 = 0
    ·rw [if_pos (by simpa using hv),B6b _ (hbm _)]
     simp only [Option.bind_some]
     have hqa:q ∈ AL (A6d r (I5 r (prs r q))) r.Persons:= by
      unfold AL
      refine List.mem_filter.mpr ⟨hqm,D1x fun c hc=>?_⟩
      rw [D26 hc]
      unfold prs below; split <;> omega
     obtain ⟨b,hbq⟩:=C2j (k:=X5 (A6d r (I5 r (prs r q))) r.Persons) hqa
     have hbl:=A5e hbq
     have hle:=C8m hbq hqa
     obtain ⟨b1,b2⟩:=List.mem_filter.mp hbl
     have h1:=C82 hlen D5m b2
     have h2:=hlow b b1
     have h3:X5 (A6d r (I5 r (prs r q))) r.Persons b = Y8 r (prs r b):=rfl
     have h4:X5 (A6d r (I5 r (prs r q))) r.Persons q = Y8 r (prs r q):=rfl
     have h5:sm (I5 r (prs r b)) = sm (I5 r (prs r q)):=Int.le_antisymm h1 h2.1
     have h6:=h2.2 h5
     have h7:Y8 r (prs r b) = Y8 r (prs r q):= by omega
     have hbp:A2x (A6d r (I5 r (prs r q))) = (ints b,Y8 r (prs r b),0):= by
      unfold A2x
      rw [if_neg (fun c=>c hv),show T5 (A6d r (I5 r (prs r q))) (A6d r (I5 r (prs r q))).Persons = some b from hbq]
      rfl
     rw [hbp,h7]
     simp
    ·rw [if_neg (by simpa using hv)]
   rw [hmore]
   simp only [Option.bind_some]
   by_cases hfe:(((chk (A6d r o)).2.2 == 0) && decide (sm o < sm (I5 r (prs r q)))) = true
   ·rw [if_pos hfe,B6b _ (hbm _)]
    simp only [Option.bind_some]
    rw [Bool.and_eq_true,beq_iff_eq,decide_eq_true_iff] at hfe
    have hnone:T5 (A6d r o) r.Persons = none:= by
     unfold T5
     rw [A99,List.eq_nil_iff_forall_not_mem]
     intro z hz
     obtain ⟨z1,z2⟩:=List.mem_filter.mp hz
     have h1:=C82 (by omega) (fun y hy=>(o2 y hy).1) z2
     have h2:=(hlow z z1).1
     have h3:sm (I5 r (prs r z))≤sm o:=h1
     omega
    have hbp:A2x (A6d r o) = ([],0,9):= by
     unfold A2x
     rw [if_neg (fun c=>c hfe.1),show T5 (A6d r o) (A6d r o).Persons = none from hnone]
    rw [hbp]
    simp only
    rw [if_pos (by decide),awake]; rfl
   ·rw [if_neg hfe,awake]; rfl
 ·have e:((chk r).2.2 == 0) = false:=beq_eq_false_iff_ne.mpr h0
  unfold C9z
  rw [e,if_pos (by rfl),if_pos h0]
  simp only
  rw [if_pos (by simp [h0]),awake]; rfl
end Ds
end
